/- TreePaths: for every root, height, leaves and two ids: true. Upto form. -/
import Derived.Test.YtonbgcehgmpnkaaRows
import Derived.Test.YtonbgcehgmpnkaaH1
import Derived.Test.YtonbgcehgmpnkaaO1
set_option linter.unusedVariables false
set_option linter.unusedSimpArgs false
namespace Go.Proofs.Ytonbgcehgmpnkaa
open Go Go.RowKit HL Go.ChangeShapes Go.WideShapes Go.ChangeAt
/-- A leaf's opening. -/
theorem opn_leaf : Opn Try.prog 27 (fun x => (leafEn.f x).ats) (fun _ x => Rng .i64 x.height) (fun _ => 1) :=
  (opn_struct [⟨23, Hash, _, _, _, 32, opn_hash, by kernel_rfl⟩, ⟨23, Hash, _, _, _, 32, opn_hash, by kernel_rfl⟩, ⟨3, Int, _, _, _, 1, opn_int .i64, by kernel_rfl⟩, ⟨25, Int, _, _, _, 1, opn_int .i64, by kernel_rfl⟩]
    Try.underlying27 (by kernel_rfl) (by kernel_rfl)).map (fun a => (⟨a.1, a.2.1, a.2.2.1, a.2.2.2.1⟩ : LeafP)) (fun a => rfl) (fun W a h => h.2.2.1) (fun a => Nat.le_add_left ..)
theorem sum_ones {α : Type} (l : List α) : (l.map fun _ => 1).sum = l.length := by
  induction l with
  | nil => rfl
  | cons x l ih => rw [List.map_cons, List.sum_cons, ih, List.length_cons]; omega
theorem rng_high {l : List LeafP} (h : ∀ x ∈ l, Rng .i64 x.height) : High l := fun x hx => (h x hx).2
namespace TreePaths
theorem own : ownKnob Try.prog.godebug = none := by kernel_rfl
set_option maxRecDepth 100000 in
theorem contract (H : Type) (enc : TypeId × Value → H) (W : World) (base : Nat) (args : Array Value) (ds gs : List (DataW H)) (before : List MemPlace)
    (hval : ∀ (j : Nat) t v, Try.f4.params[j]? = some t → args[j]? = some v → Value.okWide Try.prog W .any base t v)
    (hW : DataW.Whole enc Try.prog Try.f4.params.toList Rows.treePathsSpec.vars false W args.toList ds gs before) (hk : Rows.uptoSmall H (ds ++ gs) = true) :
    Calls Try.prog 4 args W fun e W' => ∃ v, e = .returned v ∧ Rows.treePathsSpec.post enc Try.prog Try.f4 false true false false W args v W' := by
  have hW' := hW
  obtain ⟨p, q, hA0, hV, rfl, hfz, hnd⟩ := hW
  have hA : DataW.TrodAll enc Try.prog W 0 (fun _ => true) true Try.f4.params.toList args.toList ds p := hA0
  rw [Try.params4] at hA hval
  obtain ⟨v0, vs0, d0, ds0, p0, q0, hargs, rfl, rfl, h0, r0⟩ := trodAll_cons hA
  obtain ⟨v1, vs1, d1, ds1, p1, q1, rfl, rfl, rfl, h1, r1⟩ := trodAll_cons r0
  obtain ⟨v2, vs2, d2, ds2, p2, q2, rfl, rfl, rfl, h2, r2⟩ := trodAll_cons r1
  obtain ⟨v3, vs3, d3, ds3, p3, q3, rfl, rfl, rfl, h3, r3⟩ := trodAll_cons r2
  obtain ⟨v4, vs4, d4, ds4, p4, q4, rfl, rfl, rfl, h4, r4⟩ := trodAll_cons r3
  obtain ⟨rfl, rfl, rfl⟩ := trodAll_nil r4
  obtain rfl : args = #[v0, v1, v2, v3, v4] := by cases args; simp_all
  obtain ⟨rfl, rfl⟩ := trodVars_none hV
  obtain ⟨a0, rfl, y0, z0⟩ := opn_top opn_hash (fun h => .agg [.hash h]) (fun _ => rfl) (fun _ => rfl) (okw_agg Try.underlying23 (hval 0 _ v0 rfl rfl)) h0
  obtain ⟨a1, rfl, y1, z1⟩ := opn_top (opn_int .i64) (fun n => .one (.i .i64 n)) (fun _ => rfl) (fun _ => rfl) (okw_agg Try.underlying3 (hval 1 _ v1 rfl rfl)) h1
  obtain ⟨a2, rfl, y2, z2⟩ := opn_top (opn_slice leafEn opn_leaf 2) (fun s => .one (.sl 2 s.A s.l.length s.c)) (fun _ => rfl) (fun _ => rfl) (okw_agg Try.underlying24 (hval 2 _ v2 rfl rfl)) h2
  obtain ⟨a3, rfl, y3, z3⟩ := opn_top opn_hash (fun h => .agg [.hash h]) (fun _ => rfl) (fun _ => rfl) (okw_agg Try.underlying23 (hval 3 _ v3 rfl rfl)) h3
  obtain ⟨a4, rfl, y4, z4⟩ := opn_top opn_hash (fun h => .agg [.hash h]) (fun _ => rfl) (fun _ => rfl) (okw_agg Try.underlying23 (hval 4 _ v4 rfl rfl)) h4
  simp only [Rows.uptoSmall, decide_eq_true_eq, List.append_nil, Rows.uptoBulkAll] at hk
  rw [sum_ones] at z2
  obtain ⟨A, c, l⟩ := a2
  simp only at y2 z2
  refine (paths_spec_law a0 a1 A l c a3 a4 (by omega) y2.1 (rng_high y2.2.2) W (lk_all (by rintro p hp; obtain rfl := List.mem_singleton.1 hp; exact y2.2.1)) (by simp [live]) (by simp [live]) (by simp [live])).mono fun e W' ⟨o, L, he, ho, hst⟩ => ?_
  obtain ⟨rfl, rfl⟩ := ho
  subst he
  exact ⟨_, rfl, row_post (by kernel_rfl) rfl rfl Try.underlying4 (by kernel_rfl) hW' (hst.noM fun _ h => by obtain ⟨_, h, _⟩ := h; simp [live] at h) fun _ => ⟨rfl, rfl, rfl⟩⟩
set_option maxRecDepth 100000 in
theorem lifted (os : Os) (started : os.Started) (H : Type) (enc : TypeId × Value → H) (F : Stop.Interp) :
    ReturnsInHanded {} Try.checked os 4 .any ((Rows.OpenSpec.upto Rows.treePathsSpec).pre6 enc Try.prog Try.f4 Rows.treePathsUptoRow.domain false) (((Rows.OpenSpec.upto Rows.treePathsSpec).at F).post enc Try.prog Try.f4 false true false false) := by
  refine returnsInHanded_of_cond (C := Try.checked) (s := Rows.OpenSpec.upto Rows.treePathsSpec) (k := Rows.uptoSmall) rfl own started (by kernel_rfl) Try.func4
    (OpenSpec.witness (enc := enc) (C := Try.checked) (s := Rows.OpenSpec.upto Rows.treePathsSpec) (k := Rows.uptoSmall) rfl false ⟨#[], #[.agg (Array.replicate 32 (.int .u8 0)), .int .i64 0, .slice none 0 0, .agg (Array.replicate 32 (.int .u8 0)), .agg (Array.replicate 32 (.int .u8 0))], []⟩ 8 (by kernel_rfl) (by kernel_rfl) (by kernel_rfl)
      (x := ([.agg (List.replicate 32 (.lit (.int .u8 0))), .lit (.int .i64 0), .nil, .agg (List.replicate 32 (.lit (.int .u8 0))), .agg (List.replicate 32 (.lit (.int .u8 0)))], [], [])) (by kernel_rfl) rfl (by kernel_rfl)) ?_
  intro W base args ds gs before hval hW _ hk _
  exact contract H enc W base args ds gs before hval hW hk
theorem proved : Rows.TreePathsUptoSaid :=
  OpenClaim.holds_of_cond 4 Try.f4 rfl rfl rfl rfl rfl rfl rfl ⟨rfl, rfl, rfl, rfl, rfl⟩ rfl rfl rfl rfl rfl (by kernel_rfl) Try.func4 (by kernel_rfl)
    (of_decide_eq_true (by kernel_rfl)) (by unfold Func.isWrapper; first | (rw [if_pos (by decide +kernel)]; kernel_rfl) | (rw [if_neg (by decide +kernel)]; exact ⟨rfl, rfl⟩))
    (fun os started H enc _ F => lifted os started H enc F)
end TreePaths
end Go.Proofs.Ytonbgcehgmpnkaa
