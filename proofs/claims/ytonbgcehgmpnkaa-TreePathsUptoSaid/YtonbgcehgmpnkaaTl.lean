import Derived.Test.YtonbgcehgmpnkaaTk
import Derived.Test.YtonbgcehgmpnkaaR
set_option linter.unusedVariables false
set_option linter.unusedSimpArgs false
namespace Go.Proofs.Ytonbgcehgmpnkaa
open Go Go.RowKit HL BigFrame
/-! ### Way and Path -/
abbrev nilS : Value := .slice none 0 0
abbrev sl (A : Option Addr) (l : List Hash) (c : Nat) : Value := .slice A l.length c
def rowH (A : Option Addr) (l : List Hash) (c : Nat) : Res := Res.row A l.length c 23 32 (flat (l.map hval))
theorem rowH_nil : rowH none [] 0 = Res.row none 0 0 23 32 [] := by
  unfold rowH
  simp [flat_nil]
/-- What Way's closure leaves. -/
def WayL (l : List LeafP) (root : Hash) (h : Int) (dest : Hash) (go : Nat) (b : Bool) (L : List Res) : Prop :=
  (∃ ids A c, wayOf l root h dest = some ids ∧ b = true ∧ ids.length ≤ l.length ∧ L = [rowH A ids c, Res.var go 39 [sl A ids c]]) ∨ (wayOf l root h dest = none ∧ b = false ∧ L = [Res.var go 39 [nilS]])
set_option maxRecDepth 100000 in
theorem way1_calls (g gl gK : Nat) (xs : List (Hash × KV × Nat)) (root : Hash) (h : Int) (l : List LeafP) (dest : Hash) (gt gi go : Nat) (w : World) (ht : ∀ r ∈ treeL g gl gK xs root h l, r.holds w) (hh : ∀ x ∈ l, x.height ≤ 9223372036854775807) (h0 : 0 ≤ h) (h1 : h ≤ 2147483647) (hl : l.length ≤ 3000)
    (h2 : (Res.var gt 29 [.pointer (some ⟨g, 0, none⟩)]).holds w) (h3 : (Res.var gi 23 [hval dest]).holds w) (h4 : (Res.var go 39 [nilS]).holds w) :
    Calls Try.prog 28 #[.pointer (some ⟨gt, 0, none⟩), .pointer (some ⟨gi, 0, none⟩), .pointer (some ⟨go, 0, none⟩)] w fun e w2 => ∃ b L, (b = true ∧ e = .returned (.tuple #[]) ∨ b = false ∧ e = .panicked fell) ∧ WayL l root h dest go b L ∧ St w w2 (fun b => b = go) L := by
  have hst : St w w (fun b => b = go) [Res.var go 39 [nilS]] := (St.start1 h4).more fun b hb => fp_var.1 hb
  go_enter Try.func28, Try.ntmps28
  go_wp2_with (first
    | (refine o_load (v := .pointer (some ⟨g, 0, none⟩)) rfl rfl (.list rfl) (fits_of ty29 rfl rfl) (var_field h2 (k := 0) rfl rfl) ?_; simp only [Act.put, List.setIfInBounds_toArray, List.set_cons_succ, List.set_cons_zero])
    | (refine o_load (v := hval dest) rfl rfl (.list rfl) (fits_hash _) (var_field h3 (k := 0) rfl rfl) ?_; simp only [Act.put, List.setIfInBounds_toArray, List.set_cons_succ, List.set_cons_zero])
    | (refine o_call (vs := [.pointer (some ⟨g, 0, none⟩), hval dest]) Try.func27 rfl rfl rfl rfl rfl (.list rfl) (way_calls g gl gK xs root h l dest _ ht hh h0 h1 hl) (by simp) ?_; rintro e w2 (⟨hw, rfl, h3⟩ | ⟨ids, A, c, hw, hil, rfl, h3⟩) <;> replace hst := hst.call h3 <;> clear h3 <;> simp only [List.cons_append, List.nil_append] at hst; simp only [Act.put, List.setIfInBounds_toArray, List.set_cons_succ, List.set_cons_zero])
    | (refine o_store (i := 1) (k := 0) rfl rfl rfl rfl rfl (.list rfl) hst (fits_of (v := .slice A ids.length c) ty39 rfl rfl) (ok1_slice _ _ _) ?_ ?_ ?_; (focus (simp [szs]; done)); (focus (simp [szs]; done)); clear hst; intro w1 hst; simp only [List.set_cons_succ, List.set_cons_zero] at hst; simp only [Act.put, List.setIfInBounds_toArray, List.set_cons_succ, List.set_cons_zero]))
  · exact ⟨rfl, false, [Res.var go 39 [nilS]], .inr ⟨rfl, rfl⟩, .inr ⟨hw, rfl, rfl⟩, hst⟩
  · exact ⟨rfl, .tuple #[], by simp [results, Try.results28, Sem.run_pure], true, _, .inl ⟨rfl, rfl⟩, .inl ⟨ids, A, c, hw, rfl, hil, rfl⟩, hst⟩
theorem fits_sl (v : Value) (hv : isAggV v = false) (h1 : v.cells.size = 1) : Fits Try.prog 39 v := fits_of ty39 hv h1
set_option maxRecDepth 100000 in
theorem way_fn_calls (g gl gK : Nat) (xs : List (Hash × KV × Nat)) (root : Hash) (h : Int) (l : List LeafP) (dest : Hash) (w : World) (ht : ∀ r ∈ treeL g gl gK xs root h l, r.holds w) (hh : ∀ x ∈ l, x.height ≤ 9223372036854775807) (h0 : 0 ≤ h) (h1 : h ≤ 2147483647) (hl : l.length ≤ 3000) :
    Calls Try.prog 11 #[.pointer (some ⟨g, 0, none⟩), hval dest] w fun e w' => ∃ A c, ((wayOf l root h dest).getD []).length ≤ l.length ∧ e = .returned (.tuple #[sl A ((wayOf l root h dest).getD []) c, .bool (wayOf l root h dest).isSome]) ∧ St w w' No [rowH A ((wayOf l root h dest).getD []) c] := by
  have hst := St.start w No
  have hmf : ∀ (fn : Fn) (first cap : Array Value) (w : World), (Instr.makeFunc fn first cap).run Try.prog w = .ok (.func fn first cap) w := fun _ _ _ _ => rfl
  go_enter Try.func11, Try.ntmps11
  go_wp2_with (first
    | (refine o_box (v := .pointer (some ⟨g, 0, none⟩)) rfl rfl (.list rfl) hst ?_; clear hst; intro w1 gt hst; simp only [Act.put, List.setIfInBounds_toArray, List.set_cons_succ, List.set_cons_zero])
    | (refine o_box (v := hval dest) rfl rfl (.list rfl) hst ?_; clear hst; intro w1 gi hst; simp only [Act.put, List.setIfInBounds_toArray, List.set_cons_succ, List.set_cons_zero])
    | (refine o_alloc ty39 rfl (.list rfl) hst ?_; clear hst; intro w1 go hst; simp only [Act.put, List.setIfInBounds_toArray, List.set_cons_succ, List.set_cons_zero])
    | (refine o_call (vs := [.func (.func 28) #[] #[.pointer (some ⟨gt, 0, none⟩), .pointer (some ⟨gi, 0, none⟩), .pointer (some ⟨go, 0, none⟩)]]) Try.func25 rfl rfl rfl rfl rfl (.list rfl) (stood_calls 28 _ Try.func28 rfl rfl #[.pointer (some ⟨gt, 0, none⟩), .pointer (some ⟨gi, 0, none⟩), .pointer (some ⟨go, 0, none⟩)] [Res.var go 39 [nilS]] (fun b => b = go) (fun b => b = go) _ ((St.start1 (hst.get (i := 0) rfl)).more fun b hb => fp_var.1 hb) (fun b hb => ⟨_, List.mem_of_getElem? (i := 0) rfl, fp_var.2 hb⟩) (WayL l root h dest go) (fun w1 g2 h9 => way1_calls g gl gK xs root h l dest gt gi go w1 (fun r hr => h9.old_holdsM (hst.old_holds (ht r hr)) (fun b hb hbe => by
        have hb1 := r.bound w (ht r hr) b hb
        have hb2 := (hst.own _ (List.mem_of_getElem? (i := 0) rfl) go (fp_var.2 rfl)).resolve_left id
        omega)) hh h0 h1 hl (h9.old_holdsM (hst.get (i := 2) rfl) (fun b hb hbe => hst.ne_ (i := 2) (j := 0) rfl rfl (by decide) hb (fp_var.2 hbe))) (h9.old_holdsM (hst.get (i := 1) rfl) (fun b hb hbe => hst.ne_ (i := 1) (j := 0) rfl rfl (by decide) hb (fp_var.2 hbe))) (h9.get (i := 1) rfl))) (by simp) ?_; rintro e w2 ⟨b, L, rfl, hP, h3⟩; replace hst := hst.call0 h3 (fun b hb => fp_var.2 hb); clear h3; rcases hP with ⟨ids, A, c, hw, rfl, hil, rfl⟩ | ⟨hw, rfl, rfl⟩ <;> simp only [List.cons_append, List.nil_append] at hst; simp only [Act.put, List.setIfInBounds_toArray, List.set_cons_succ, List.set_cons_zero])
    | (refine o_load (v := sl A ids c) rfl rfl (.list rfl) (fits_sl _ rfl rfl) (hst.field_cells (i := 1) (k := 0) rfl rfl ?_) ?_; (focus (simp [szs]; done)); simp only [Act.put, List.setIfInBounds_toArray, List.set_cons_succ, List.set_cons_zero])
    | (refine o_store (i := 1) (k := 0) rfl rfl rfl rfl rfl (.list rfl) hst (fits_sl (sl A ids c) rfl rfl) (ok1_slice _ _ _) ?_ ?_ ?_; (focus (simp [szs]; done)); (focus (simp [szs]; done)); clear hst; intro w1 hst; simp only [List.set_cons_succ, List.set_cons_zero] at hst; simp only [Act.put, List.setIfInBounds_toArray, List.set_cons_succ, List.set_cons_zero])
    | (refine o_load (v := nilS) rfl rfl (.list rfl) (fits_sl _ rfl rfl) (hst.field_cells (i := 0) (k := 0) rfl rfl ?_) ?_; (focus (simp [szs]; done)); simp only [Act.put, List.setIfInBounds_toArray, List.set_cons_succ, List.set_cons_zero])
    | (refine o_store (i := 0) (k := 0) rfl rfl rfl rfl rfl (.list rfl) hst (fits_sl nilS rfl rfl) (ok1_slice _ _ _) ?_ ?_ ?_; (focus (simp [szs]; done)); (focus (simp [szs]; done)); clear hst; intro w1 hst; simp only [List.set_cons_succ, List.set_cons_zero] at hst; simp only [Act.put, List.setIfInBounds_toArray, List.set_cons_succ, List.set_cons_zero]))
  · refine post_cell2 (i := 1) (v := sl A ids c) rfl rfl rfl rfl hst rfl (fits_sl _ rfl rfl) (flat_single _) ⟨A, c, ?_⟩
    rw [hw]
    exact ⟨hil, rfl, hst.pick [0] (by decide)⟩
  · refine post_cell2 (i := 0) (v := nilS) rfl rfl rfl rfl hst rfl (fits_sl _ rfl rfl) (flat_single _) ⟨none, 0, ?_⟩
    rw [hw]
    refine ⟨by simp, rfl, ?_⟩
    rw [Option.getD_none, rowH_nil]
    exact (hst.nilrow 23 32).pick [0] (by decide)
end Go.Proofs.Ytonbgcehgmpnkaa
