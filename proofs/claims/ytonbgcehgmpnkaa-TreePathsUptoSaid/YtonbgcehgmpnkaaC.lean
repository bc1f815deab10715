/- HEAP LIBRARY, third part: arguments that are hashes, read as data. My own text; it names no program. -/
import Derived.Test.YtonbgcehgmpnkaaR
import Derived.WideKeyArr2
import Derived.OpenShut
import Derived.ChangeSame
import Derived.WalkKit
import Derived.ProofKit
set_option linter.unusedVariables false
set_option linter.unusedSimpArgs false
set_option linter.unusedSectionVars false
namespace Go.Proofs.Ytonbgcehgmpnkaa
namespace HL
open Go Go.RowKit Go.ChangeShapes Go.WideShapes Go.ChangeAt
section
variable {H : Type} {enc : TypeId × Value → H} {P : Program} {W : World} {base : Nat} {sp : Nat → Bool} {held : Bool} {T e : TypeId}
def hdat {H : Type} (h : Hash) : DataW H := .agg (h.toList.map fun b => .lit (.int .u8 b.toNat))
theorem wf_u8 {a : Int} (h : (Lit.int .u8 a).wf = true) : ∃ u : UInt8, a = u.toNat := by
  have h2 : 0 ≤ a ∧ a < 256 := by
    simp [Lit.wf, IntKind.min, IntKind.max, IntKind.signed, IntKind.bits] at h
    omega
  refine ⟨UInt8.ofNat a.toNat, ?_⟩
  rw [UInt8.toNat_ofNat_of_lt' (by simp; omega)]
  omega
theorem bytes_mapM (he : P.underlying e = some (.int .u8)) {m : Nat} : ∀ (cs : List Value) (xs : List (DataW H × List MemPlace)), cs.mapM (fun c => DataW.trod enc P W base sp held m e [c]) = some xs →
    ∃ bs : List UInt8, cs = bcells bs ∧ xs = bs.map fun b => (.lit (.int .u8 b.toNat), [])
  | [], xs, h => by
    simp at h
    subst h
    exact ⟨[], rfl, rfl⟩
  | c :: cs, xs, h => by
    rw [List.mapM_cons] at h
    simp only [bind, Option.bind_eq_some_iff, pure, Option.some.injEq] at h
    obtain ⟨y, hy, ys, hys, rfl⟩ := h
    obtain ⟨bs, rfl, rfl⟩ := bytes_mapM he cs ys hys
    obtain ⟨a, ea, rfl, wa⟩ := DataW.trod_int he hy
    obtain ⟨u, rfl⟩ := wf_u8 wa
    injection ea with ea
    subst ea
    exact ⟨u :: bs, rfl, rfl⟩
theorem mapM_range {α β : Type} (f : List α → Option β) (cs : List α) : (List.range cs.length).mapM (fun i => f ((cs.drop i).take 1)) = cs.mapM fun c => f [c] := by
  have gen : ∀ (cs : List α) (pre : List α), (List.range' pre.length cs.length).mapM (fun i => f (((pre ++ cs).drop i).take 1)) = cs.mapM fun c => f [c] := by
    intro cs
    induction cs with
    | nil => intro pre; rfl
    | cons c cs ih =>
      intro pre
      have h1 := ih (pre ++ [c])
      simp only [List.length_append, List.length_cons, List.length_nil, List.append_assoc, List.cons_append, List.nil_append] at h1
      simp only [List.length_cons, List.range'_succ, List.mapM_cons]
      rw [show List.range' (pre.length + 1) cs.length = List.range' (pre.length + (0 + 1)) cs.length from rfl, h1]
      simp
  have := gen cs []
  simpa [List.range_eq_range'] using this
theorem open_hash (hu : P.underlying T = some (.array 32 e)) (he : P.underlying e = some (.int .u8)) (hC : P.cellsOf T = 32) (hc : P.cellsOf e = 1) {v : Value} {d : DataW H} {ps : List MemPlace} (hv : isAggV v = true) (hd : DataW.Trod enc P W base sp held T v d ps) : ∃ h : Hash, v = hval h ∧ d = hdat h ∧ ps = [] := by
  obtain ⟨fuel, hf⟩ := hd
  cases fuel with
  | zero => simp [DataW.trod] at hf
  | succ m =>
    rw [DataW.trod_step] at hf
    unfold DataW.trodStep at hf
    simp only [hu] at hf
    split at hf
    · rename_i hl
      rw [hC] at hl
      simp only [Option.map_eq_some_iff, hc, Nat.mul_one] at hf
      obtain ⟨xs, hx, e1⟩ := hf
      have hr := mapM_range (fun c => DataW.trod enc P W base sp held m e c) v.cells.toList
      rw [hl] at hr
      rw [hr] at hx
      obtain ⟨bs, hb, rfl⟩ := bytes_mapM he _ _ hx
      have hbl : bs.length = 32 := by rw [hb, length_bcells] at hl; exact hl
      simp only [Prod.mk.injEq] at e1
      refine ⟨⟨bs.toArray, by simpa using hbl⟩, ?_, ?_, ?_⟩
      · cases v with
        | agg a =>
          simp only [Value.cells] at hb
          unfold hval
          rw [hcells_eq]
          congr 1
          apply Array.toList_inj.1
          simpa [Vector.toList] using hb
        | _ => cases hv
      · rw [← e1.1]
        unfold hdat
        simp [Vector.toList, Function.comp_def]
      · rw [← e1.2]
        simp [List.flatMap_eq_nil_iff]
    · cases hf
theorem shut_hash (hu : P.underlying T = some (.array 32 e)) (he : P.underlying e = some (.int .u8)) (hC : P.cellsOf T = 32) (hc : P.cellsOf e = 1) (h : Hash) : DataW.Trod enc P W base sp held T (hval h) (hdat h) [] := by
  refine ⟨2, ?_⟩
  rw [DataW.trod_step]
  unfold DataW.trodStep
  simp only [hu, hc, hC, Nat.mul_one, cells_hval]
  rw [if_pos (length_hcells h)]
  have hr := mapM_range (fun c => DataW.trod enc P W base sp held 1 e c) (hcells h)
  rw [length_hcells] at hr
  rw [hr]
  have hm : ∀ bs : List UInt8, (bcells bs).mapM (fun c => DataW.trod enc P W base sp held 1 e [c]) = some (bs.map fun b => (.lit (.int .u8 b.toNat), [])) := by
    intro bs
    induction bs with
    | nil => rfl
    | cons b bs ih =>
      have hw : (Lit.int .u8 (b.toNat : Int)).wf = true := by
        have := b.toNat_lt
        simp [Lit.wf, IntKind.min, IntKind.max, IntKind.signed, IntKind.bits]
        omega
      have h1 : DataW.trod enc P W base sp held 1 e [.int .u8 (b.toNat : Int)] = some (.lit (.int .u8 (b.toNat : Int)), []) := by
        unfold DataW.trod
        simp [he, hw]
      simp only [bcells, List.map_cons, List.mapM_cons, h1]
      have ih' := ih
      simp only [bcells] at ih'
      rw [ih']
      rfl
  rw [hcells_eq, hm]
  unfold hdat
  simp [Function.comp_def]
/-- Nothing that was there has turned. -/
theorem St.kept {w w' : World} {L : List Res} (h : St w w' No L) (may : MemPlace → Prop) : w.keptBut w' may := by
  refine ⟨h.os, h.output, fun i hi => ?_⟩
  rw [h.keep i hi id]
  cases w.heap[i]? with
  | none => trivial
  | some o =>
    cases o <;> simp
theorem St.frozen {w w' : World} {L : List Res} (h : St w w' No L) {a : Addr} (ha : a.block < w.heap.size) : w'.frozen? a = w.frozen? a := by
  unfold World.frozen?
  rw [h.keep a.block ha id]
/-- The end of a law: it told true, what was there is as it was, and reads as it did. -/
theorem law_post {P : Program} {f : Func} {s : ChangeSpec} {apart fresh handsOn again : Bool} {W W' : World} {args : Array Value} {v : Value} {ds gs : List (DataW H)} {before pa pv : List MemPlace} {L : List Res}
    (hW : DataW.Whole enc P f.params.toList s.vars apart W args.toList ds gs before) (hst : St W W' No L)
    (hres : ∀ (b : Nat) (sp : Nat → Bool) (hd : Bool), DataW.TrodAll enc P W' b sp hd f.resultTypes.toList (v.resultList f.resultTypes.size) (s.fn H (ds ++ gs)).results [])
    (hargs : ∀ sp : Nat → Bool, (∀ p ∈ before, sp p.block = true) → DataW.TrodAll enc P W' 0 sp true f.params.toList args.toList (s.fn H (ds ++ gs)).args pa)
    (hvars : ∀ sp : Nat → Bool, (∀ p ∈ before, sp p.block = true) → DataW.TrodVars enc P W' sp s.vars (s.fn H (ds ++ gs)).vars pv)
    (hps : before = pa ++ pv)
    (hok : ∀ (j : Nat) (t : TypeId) (r : Value), f.resultTypes[j]? = some t → (v.resultList f.resultTypes.size)[j]? = some r → Value.okWide P W' .any 0 t r) : s.post enc P f apart fresh handsOn again W args v W' := by
  have hlt := hW.lt
  have small : ∀ q ∈ before, (fun b => decide (b < W.heap.size)) q.block = true := fun q hq => decide_eq_true (hlt q hq)
  have eqs : ([] ++ pa) ++ pv = before := by rw [hps]; rfl
  refine ⟨ds, gs, before, [], pa, pv, hW, hres _ _ _, hargs _ small, hvars _ small, World.keptBut_mono (fun q hq => ⟨hq, ?_⟩) (hst.kept (· ∈ before)), fun _ => ?_⟩
  · subst hps
    exact .inr (List.mem_append.1 hq)
  obtain ⟨_, _, _, _, _, hz, hn⟩ := hW
  refine ⟨hok, _, _, ([] ++ pa) ++ pv, ⟨[] ++ pa, pv, trodAll_append (hargs _ (fun _ _ => rfl)) (hres _ _ _), hvars _ (fun _ _ => rfl), rfl, fun b off hq => ?_, fun ha => ?_⟩, fun q hq _ => ?_⟩
  · rw [eqs] at hq
    rw [hst.frozen (hlt _ hq)]
    exact hz b off hq
  · rw [eqs]
    exact hn ha
  · rwa [eqs] at hq
end
end HL
end Go.Proofs.Ytonbgcehgmpnkaa
