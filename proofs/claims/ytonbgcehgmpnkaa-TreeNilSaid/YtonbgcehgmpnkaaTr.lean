import Derived.Test.YtonbgcehgmpnkaaTp
set_option linter.unusedVariables false
set_option linter.unusedSimpArgs false
namespace Go.Proofs.Ytonbgcehgmpnkaa
open Go Go.RowKit HL BigFrame
/-! ### no tree, and one that nobody made -/
def zeroT : List Value := [.map none, .map none, hval hz, .int .i64 0]
def NotMade (w : World) (p : Option Addr) : Prop := p = none ∨ ∃ g, p = some ⟨g, 0, none⟩ ∧ (Res.var g 54 zeroT).holds w
theorem NotMade.old {w0 w : World} {L : List Res} {p : Option Addr} (h : NotMade w0 p) (hst : St w0 w No L) : NotMade w p := by
  rcases h with h | ⟨g, h, hv⟩
  · exact .inl h
  · exact .inr ⟨g, h, hst.old_holds hv⟩
theorem made_no (p : Option Addr) (w : World) (h : NotMade w p) : Calls Try.prog 21 #[.pointer p] w fun e w' => e = .returned (.bool false) ∧ St w w' No [] := by
  rcases h with rfl | ⟨g, rfl, hv⟩
  · exact made_nil w
  · unfold zeroT at hv
    have hst := St.start w No
    have hm := fun w => run_neMap (P := Try.prog) Try.underlying49 none w
    simp only [Option.isSome_none] at hm
    go_enter Try.func21, Try.ntmps21
    go_wp2_with (first
      | (refine at_nil ?_ rfl; refine o_nilCheck rfl rfl (.list rfl) ?_; simp only [Act.put, List.setIfInBounds_toArray, List.set_cons_succ, List.set_cons_zero])
      | (refine o_field rfl rfl (.list rfl) fa54_0 ?_; simp only [Act.put, List.setIfInBounds_toArray, List.set_cons_succ, List.set_cons_zero])
      | (refine o_field rfl rfl (.list rfl) fa52_0 ?_; simp only [Act.put, List.setIfInBounds_toArray, List.set_cons_succ, List.set_cons_zero])
      | (refine o_load (v := .map none) rfl rfl (.list rfl) (fits_of ty49 rfl rfl) (var_field hv (k := 0) rfl rfl) ?_; simp only [Act.put, List.setIfInBounds_toArray, List.set_cons_succ, List.set_cons_zero]))
    exact bodyPost_ret (v := .bool false) (by simp [results, Try.results21]) rfl ⟨rfl, hst⟩
theorem best_no (p : Option Addr) (w : World) (hp : NotMade w p) : Calls Try.prog 8 #[.pointer p] w fun e w' => e = .returned (.tuple #[hval hz, .int .i64 0]) ∧ St w w' No [] := by
  have hst := St.start w No
  go_enter Try.func8, Try.ntmps8
  go_wp2_with (first
    | (refine o_alloc (L := []) ty23 rfl (.list rfl) hst ?_; clear hst; intro w1 g2 hst; simp only [Act.put, List.setIfInBounds_toArray, List.set_cons_succ, List.set_cons_zero])
    | (refine o_call (vs := [.pointer p]) Try.func21 rfl rfl rfl rfl rfl (.list rfl) (made_no p _ (hp.old hst)) (by simp) ?_; rintro e w2 ⟨rfl, h3⟩; replace hst := hst.call h3; clear h3; simp only [List.nil_append] at hst; simp only [Act.put, List.setIfInBounds_toArray, List.set_cons_succ, List.set_cons_zero])
    | (refine o_load (v := hval hz) rfl rfl (.list rfl) (fits_hash _) (hst.field_cells (i := 0) (k := 0) rfl rfl ?_) ?_; (focus (simp [szs]; done)); simp only [Act.put, List.setIfInBounds_toArray, List.set_cons_succ, List.set_cons_zero])
    | (refine o_store (i := 0) (k := 0) rfl rfl rfl rfl rfl (.list rfl) hst (fits_hash _) (ok1_hval _) ?_ ?_ ?_; (focus (simp [szs]; done)); (focus (simp [szs]; done)); clear hst; intro w1 hst; simp only [List.set_cons_succ, List.set_cons_zero] at hst; simp only [Act.put, List.setIfInBounds_toArray, List.set_cons_succ, List.set_cons_zero]))
  exact post_cell2 (i := 0) rfl rfl rfl rfl hst rfl (fits_hash _) (flat_single _) ⟨rfl, hst.sub (by simp)⟩
set_option maxRecDepth 100000 in
theorem way_no (p : Option Addr) (dest : Hash) (w : World) (hp : NotMade w p) : Calls Try.prog 27 #[.pointer p, hval dest] w fun e w' => e = .panicked fell ∧ St w w' No [] := by
  have hst := St.start w No
  go_enter Try.func27, Try.ntmps27
  go_wp2_with (first
    | (refine o_box (v := hval dest) rfl rfl (.list rfl) hst ?_; clear hst; intro w1 g3 hst; simp only [Act.put, List.setIfInBounds_toArray, List.set_cons_succ, List.set_cons_zero])
    | (refine o_call (vs := [.pointer p]) Try.func21 rfl rfl rfl rfl rfl (.list rfl) (made_no p _ (hp.old hst)) (by simp) ?_; rintro e w2 ⟨rfl, h3⟩; replace hst := hst.call h3; clear h3; simp only [List.nil_append] at hst; simp only [Act.put, List.setIfInBounds_toArray, List.set_cons_succ, List.set_cons_zero])
    | (refine o_call (vs := [.bool false]) Try.func36 rfl rfl rfl rfl rfl (.list rfl) (must_calls false _) (by simp) ?_; rintro e w2 ⟨h2, h3⟩; replace hst := hst.call h3; clear h3; simp only [List.nil_append] at hst; rcases h2 with ⟨h2, _⟩ | ⟨_, rfl⟩; (focus (cases h2; done)); simp only [Act.put, List.setIfInBounds_toArray, List.set_cons_succ, List.set_cons_zero]))
  exact ⟨rfl, rfl, hst.sub (by simp)⟩
theorem stands1_no (p : Option Addr) (dest : Hash) (gt gi : Nat) (w : World) (hp : NotMade w p) (h2 : (Res.var gt 29 [.pointer p]).holds w) (h3 : (Res.var gi 23 [hval dest]).holds w) :
    Calls Try.prog 26 #[.pointer (some ⟨gt, 0, none⟩), .pointer (some ⟨gi, 0, none⟩)] w fun e w2 => ∃ b L, (b = true ∧ e = .returned (.tuple #[]) ∨ b = false ∧ e = .panicked fell) ∧ (b = false ∧ L = []) ∧ St w w2 No L := by
  have hst := St.start w No
  go_enter Try.func26, Try.ntmps26
  go_wp2_with (first
    | (refine o_load (v := .pointer p) rfl rfl (.list rfl) (fits_of ty29 rfl rfl) (var_field h2 (k := 0) rfl rfl) ?_; simp only [Act.put, List.setIfInBounds_toArray, List.set_cons_succ, List.set_cons_zero])
    | (refine o_load (v := hval dest) rfl rfl (.list rfl) (fits_hash _) (var_field h3 (k := 0) rfl rfl) ?_; simp only [Act.put, List.setIfInBounds_toArray, List.set_cons_succ, List.set_cons_zero])
    | (refine o_call (vs := [.pointer p, hval dest]) Try.func27 rfl rfl rfl rfl rfl (.list rfl) (way_no p dest _ hp) (by simp) ?_; rintro e w2 ⟨rfl, h3⟩; replace hst := hst.call h3; clear h3))
  exact ⟨rfl, false, [], .inr ⟨rfl, rfl⟩, ⟨rfl, rfl⟩, hst⟩
theorem stands_no (p : Option Addr) (dest : Hash) (w : World) (hp : NotMade w p) : Calls Try.prog 9 #[.pointer p, hval dest] w fun e w' => e = .returned (.bool false) ∧ St w w' No [] := by
  have hst := St.start w No
  have hmf : ∀ (fn : Fn) (first cap : Array Value) (w : World), (Instr.makeFunc fn first cap).run Try.prog w = .ok (.func fn first cap) w := fun _ _ _ _ => rfl
  go_enter Try.func9, Try.ntmps9
  go_wp2_with (first
    | (refine o_box (v := .pointer p) rfl rfl (.list rfl) hst ?_; clear hst; intro w1 gt hst; simp only [Act.put, List.setIfInBounds_toArray, List.set_cons_succ, List.set_cons_zero])
    | (refine o_box (v := hval dest) rfl rfl (.list rfl) hst ?_; clear hst; intro w1 gi hst; simp only [Act.put, List.setIfInBounds_toArray, List.set_cons_succ, List.set_cons_zero])
    | (refine o_call (vs := [.func (.func 26) #[] #[.pointer (some ⟨gt, 0, none⟩), .pointer (some ⟨gi, 0, none⟩)]]) Try.func25 rfl rfl rfl rfl rfl (.list rfl) (stood_calls 26 _ Try.func26 rfl rfl #[.pointer (some ⟨gt, 0, none⟩), .pointer (some ⟨gi, 0, none⟩)] [] No No _ (St.start _ _) (fun b hb => hb.elim) (fun b L => b = false ∧ L = []) (fun w1 g2 h9 => stands1_no p dest gt gi w1 ((hp.old hst).old h9) (h9.old_holds (hst.get (i := 1) rfl)) (h9.old_holds (hst.get (i := 0) rfl)))) (by simp) ?_; rintro e w2 ⟨b, L, rfl, ⟨rfl, rfl⟩, h3⟩; replace hst := hst.call h3; clear h3; simp only [List.nil_append] at hst; simp only [Act.put, List.setIfInBounds_toArray, List.set_cons_succ, List.set_cons_zero]))
  go_ret
  exact ⟨rfl, hst.sub (by simp)⟩
theorem way1_no (p : Option Addr) (dest : Hash) (gt gi go : Nat) (w : World) (hp : NotMade w p) (h2 : (Res.var gt 29 [.pointer p]).holds w) (h3 : (Res.var gi 23 [hval dest]).holds w) :
    Calls Try.prog 28 #[.pointer (some ⟨gt, 0, none⟩), .pointer (some ⟨gi, 0, none⟩), .pointer (some ⟨go, 0, none⟩)] w fun e w2 => ∃ b L, (b = true ∧ e = .returned (.tuple #[]) ∨ b = false ∧ e = .panicked fell) ∧ (b = false ∧ L = []) ∧ St w w2 No L := by
  have hst := St.start w No
  go_enter Try.func28, Try.ntmps28
  go_wp2_with (first
    | (refine o_load (v := .pointer p) rfl rfl (.list rfl) (fits_of ty29 rfl rfl) (var_field h2 (k := 0) rfl rfl) ?_; simp only [Act.put, List.setIfInBounds_toArray, List.set_cons_succ, List.set_cons_zero])
    | (refine o_load (v := hval dest) rfl rfl (.list rfl) (fits_hash _) (var_field h3 (k := 0) rfl rfl) ?_; simp only [Act.put, List.setIfInBounds_toArray, List.set_cons_succ, List.set_cons_zero])
    | (refine o_call (vs := [.pointer p, hval dest]) Try.func27 rfl rfl rfl rfl rfl (.list rfl) (way_no p dest _ hp) (by simp) ?_; rintro e w2 ⟨rfl, h3⟩; replace hst := hst.call h3; clear h3))
  exact ⟨rfl, false, [], .inr ⟨rfl, rfl⟩, ⟨rfl, rfl⟩, hst⟩
theorem way_fn_no (p : Option Addr) (dest : Hash) (w : World) (hp : NotMade w p) : Calls Try.prog 11 #[.pointer p, hval dest] w fun e w' => e = .returned (.tuple #[nilS, .bool false]) ∧ St w w' No [] := by
  have hst := St.start w No
  have hmf : ∀ (fn : Fn) (first cap : Array Value) (w : World), (Instr.makeFunc fn first cap).run Try.prog w = .ok (.func fn first cap) w := fun _ _ _ _ => rfl
  go_enter Try.func11, Try.ntmps11
  go_wp2_with (first
    | (refine o_box (v := .pointer p) rfl rfl (.list rfl) hst ?_; clear hst; intro w1 gt hst; simp only [Act.put, List.setIfInBounds_toArray, List.set_cons_succ, List.set_cons_zero])
    | (refine o_box (v := hval dest) rfl rfl (.list rfl) hst ?_; clear hst; intro w1 gi hst; simp only [Act.put, List.setIfInBounds_toArray, List.set_cons_succ, List.set_cons_zero])
    | (refine o_alloc ty39 rfl (.list rfl) hst ?_; clear hst; intro w1 go hst; simp only [Act.put, List.setIfInBounds_toArray, List.set_cons_succ, List.set_cons_zero])
    | (refine o_call (vs := [.func (.func 28) #[] #[.pointer (some ⟨gt, 0, none⟩), .pointer (some ⟨gi, 0, none⟩), .pointer (some ⟨go, 0, none⟩)]]) Try.func25 rfl rfl rfl rfl rfl (.list rfl) (stood_calls 28 _ Try.func28 rfl rfl #[.pointer (some ⟨gt, 0, none⟩), .pointer (some ⟨gi, 0, none⟩), .pointer (some ⟨go, 0, none⟩)] [] No No _ (St.start _ _) (fun b hb => hb.elim) (fun b L => b = false ∧ L = []) (fun w1 g2 h9 => way1_no p dest gt gi go w1 ((hp.old hst).old h9) (h9.old_holds (hst.get (i := 2) rfl)) (h9.old_holds (hst.get (i := 1) rfl)))) (by simp) ?_; rintro e w2 ⟨b, L, rfl, ⟨rfl, rfl⟩, h3⟩; replace hst := hst.call h3; clear h3; simp only [List.nil_append] at hst; simp only [Act.put, List.setIfInBounds_toArray, List.set_cons_succ, List.set_cons_zero])
    | (refine o_load (v := nilS) rfl rfl (.list rfl) (fits_sl _ rfl rfl) (hst.field_cells (i := 0) (k := 0) rfl rfl ?_) ?_; (focus (simp [szs]; done)); simp only [Act.put, List.setIfInBounds_toArray, List.set_cons_succ, List.set_cons_zero])
    | (refine o_store (i := 0) (k := 0) rfl rfl rfl rfl rfl (.list rfl) hst (fits_sl nilS rfl rfl) (ok1_slice _ _ _) ?_ ?_ ?_; (focus (simp [szs]; done)); (focus (simp [szs]; done)); clear hst; intro w1 hst; simp only [List.set_cons_succ, List.set_cons_zero] at hst; simp only [Act.put, List.setIfInBounds_toArray, List.set_cons_succ, List.set_cons_zero]))
  exact post_cell2 (i := 0) (v := nilS) rfl rfl rfl rfl hst rfl (fits_sl _ rfl rfl) (flat_single _) ⟨rfl, hst.sub (by simp)⟩
theorem behind_no (p : Option Addr) (dest : Hash) (w : World) (hp : NotMade w p) : Calls Try.prog 16 #[.pointer p, hval dest] w fun e w' => e = .returned nilS ∧ St w w' No [] := by
  have hst := St.start w No
  go_enter Try.func16, Try.ntmps16
  go_wp2_with (first
    | (refine o_box (v := hval dest) rfl rfl (.list rfl) hst ?_; clear hst; intro w1 gi hst; simp only [Act.put, List.setIfInBounds_toArray, List.set_cons_succ, List.set_cons_zero])
    | (refine o_call (vs := [.pointer p]) Try.func21 rfl rfl rfl rfl rfl (.list rfl) (made_no p _ (hp.old hst)) (by simp) ?_; rintro e w2 ⟨rfl, h3⟩; replace hst := hst.call h3; clear h3; simp only [List.nil_append] at hst; simp only [Act.put, List.setIfInBounds_toArray, List.set_cons_succ, List.set_cons_zero]))
  go_ret
  exact ⟨rfl, hst.sub (by simp)⟩
set_option maxRecDepth 100000 in
theorem gone_no (p : Option Addr) (dest : Hash) (w : World) (hp : NotMade w p) : Calls Try.prog 14 #[.pointer p, hval dest] w fun e w' => e = .returned nilS ∧ St w w' No [] := by
  have hst := St.start w No
  go_enter Try.func14, Try.ntmps14
  go_wp2_with (first
    | (refine o_box (v := hval dest) rfl rfl (.list rfl) hst ?_; clear hst; intro w1 gi hst; simp only [Act.put, List.setIfInBounds_toArray, List.set_cons_succ, List.set_cons_zero])
    | (refine o_load (v := hval dest) rfl rfl (.list rfl) (fits_hash _) (hst.field_cells (i := 0) (k := 0) rfl rfl ?_) ?_; (focus (simp [szs]; done)); simp only [Act.put, List.setIfInBounds_toArray, List.set_cons_succ, List.set_cons_zero])
    | (refine o_call (vs := [.pointer p, hval dest]) Try.func9 rfl rfl rfl rfl rfl (.list rfl) (stands_no p dest _ (hp.old hst)) (by simp) ?_; rintro e w2 ⟨rfl, h3⟩; replace hst := hst.call h3; clear h3; simp only [List.nil_append] at hst; simp only [Act.put, List.setIfInBounds_toArray, List.set_cons_succ, List.set_cons_zero]))
  go_ret
  exact ⟨rfl, hst.sub (by simp)⟩
end Go.Proofs.Ytonbgcehgmpnkaa
