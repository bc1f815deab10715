/- PackOrder: for any three refs and any entries: true. Upto form. -/
import Derived.Test.YtfopgaijfeeioaaGreatZ1
import Derived.WideKeyArr2
import Derived.OpenShut
import Derived.ChangeSame
import Derived.WalkKit
import Derived.ProofKit
import Derived.Test.YtfopgaijfeeioaaGreatZ2
import Derived.Test.YtfopgaijfeeioaaGreatRows
import Derived.ChangeArms
import Derived.Carry
import Derived.JoinedCond
import Derived.Test.YtfopgaijfeeioaaGreatZ6
/- HEAP LIBRARY, third part: arguments that are hashes, read as data. My own text; it names no program. -/






set_option linter.unusedVariables false
set_option linter.unusedSimpArgs false
set_option linter.unusedSectionVars false
namespace Go.Proofs.YtfopgaijfeeioaaGreat
namespace HL
open Go Go.RowKit Go.ChangeShapes Go.WideShapes Go.ChangeAt
section
variable {H : Type} {enc : TypeId × Value → H} {P : Program} {W : World} {base : Nat} {sp : Nat → Bool} {held : Bool} {T e : TypeId}
theorem wf_u8 {a : Int} (h : (Lit.int .u8 a).wf = true) : ∃ u : UInt8, a = u.toNat := by
  have h2 : 0 ≤ a ∧ a < 256 := by
    simp [Lit.wf, IntKind.min, IntKind.max, IntKind.signed, IntKind.bits] at h
    omega
  refine ⟨UInt8.ofNat a.toNat, ?_⟩
  rw [UInt8.toNat_ofNat_of_lt' (by simp; omega)]
  omega
theorem bytes_mapM (he : P.underlying e = some (.int .u8)) {m : Nat} : ∀ (cs : List Value) (xs : List (DataW H × List MemPlace)), cs.mapM (fun c => DataW.trod enc P W base sp held m e [c]) = some xs →
    ∃ bs : List UInt8, cs = bcells bs ∧ xs = bs.map fun b => (.lit (.int .u8 b.toNat), [])
  | [], xs, h => by
    simp at h
    subst h
    exact ⟨[], rfl, rfl⟩
  | c :: cs, xs, h => by
    rw [List.mapM_cons] at h
    simp only [bind, Option.bind_eq_some_iff, pure, Option.some.injEq] at h
    obtain ⟨y, hy, ys, hys, rfl⟩ := h
    obtain ⟨bs, rfl, rfl⟩ := bytes_mapM he cs ys hys
    obtain ⟨a, ea, rfl, wa⟩ := DataW.trod_int he hy
    obtain ⟨u, rfl⟩ := wf_u8 wa
    injection ea with ea
    subst ea
    exact ⟨u :: bs, rfl, rfl⟩
theorem mapM_range {α β : Type} (f : List α → Option β) (cs : List α) : (List.range cs.length).mapM (fun i => f ((cs.drop i).take 1)) = cs.mapM fun c => f [c] := by
  have gen : ∀ (cs : List α) (pre : List α), (List.range' pre.length cs.length).mapM (fun i => f (((pre ++ cs).drop i).take 1)) = cs.mapM fun c => f [c] := by
    intro cs
    induction cs with
    | nil => intro pre; rfl
    | cons c cs ih =>
      intro pre
      have h1 := ih (pre ++ [c])
      simp only [List.length_append, List.length_cons, List.length_nil, List.append_assoc, List.cons_append, List.nil_append] at h1
      simp only [List.length_cons, List.range'_succ, List.mapM_cons]
      rw [show List.range' (pre.length + 1) cs.length = List.range' (pre.length + (0 + 1)) cs.length from rfl, h1]
      simp
  have := gen cs []
  simpa [List.range_eq_range'] using this
theorem St.kept {w w' : World} {L : List Res} (h : St w w' No L) (may : MemPlace → Prop) : w.keptBut w' may := by
  refine ⟨h.os, h.output, fun i hi => ?_⟩
  rw [h.keep i hi id]
  cases w.heap[i]? with
  | none => trivial
  | some o =>
    cases o <;> simp
end
end HL
end Go.Proofs.YtfopgaijfeeioaaGreat
/- ARGUMENTS READ AS DATA, and the end of a law's row. My own text; it names no program. -/






set_option linter.unusedVariables false
set_option linter.unusedSimpArgs false
set_option linter.unusedSectionVars false
namespace Go.Proofs.YtfopgaijfeeioaaGreat
namespace HL
open Go Go.RowKit Go.ChangeShapes Go.WideShapes Go.ChangeAt
structure Opn (P : Program) (T : TypeId) {α : Type} (f : α → List At) (Q : World → α → Prop) (z : α → Nat) : Prop where
  op : ∀ {H : Type} (enc : TypeId × Value → H) (W : World) (fuel : Nat) (cs : List Value) (x : DataW H × List MemPlace), DataW.trod enc P W 0 (fun _ => true) true fuel T cs = some x → ∃ a, cs = flat (vals (f a)) ∧ Q W a ∧ z a ≤ Rows.uptoBulk x.1
theorem bulk_one {H : Type} (d : DataW H) : 1 ≤ Rows.uptoBulk d := by
  cases d with
  | lit l => cases l <;> simp [Rows.uptoBulk]
  | nil => simp [Rows.uptoBulk]
  | ptr d => simp [Rows.uptoBulk]
  | slice elems spare => simp [Rows.uptoBulk]
  | agg parts => simp [Rows.uptoBulk]
  | iface t d => simp [Rows.uptoBulk]
  | map entries => simp [Rows.uptoBulk]
  | held h => simp [Rows.uptoBulk]
theorem flat_one (p : PV) : flat (vals [.one p]) = [p.den] := by
  show flat [p.den] = _
  rw [flat_single, p.cells_den]
def Rng (k : IntKind) (n : Int) : Prop := k.min ≤ n ∧ n ≤ k.max
section
variable {P : Program} {T e : TypeId}
theorem opn_int (k : IntKind) [hu : UD P T (.int k)] : Opn P T (fun n : Int => [.one (.i k n)]) (fun _ n => Rng k n) (fun _ => 1) := ⟨fun enc W fuel cs x h => by
  obtain ⟨n, rfl, rfl, hw⟩ := DataW.trod_int hu.is h
  refine ⟨n, (flat_one (.i k n)).symm, ?_, bulk_one _⟩
  simp [Lit.wf] at hw
  exact hw⟩
theorem opn_bool [hu : UD P T .bool] : Opn P T (fun n : Bool => [.one (.b n)]) (fun _ _ => True) (fun _ => 1) := ⟨fun enc W fuel cs x h => by
  obtain ⟨n, rfl, rfl⟩ := DataW.trod_bool hu.is h
  exact ⟨n, (flat_one (.b n)).symm, trivial, bulk_one _⟩⟩
theorem opn_string [hu : UD P T .string] : Opn P T (fun n : ByteArray => [.one (.s n)]) (fun _ n => n.size ≤ maxLen) (fun n => n.size + 1) := ⟨fun enc W fuel cs x h => by
  obtain ⟨n, rfl, rfl, hw⟩ := DataW.trod_string hu.is h
  refine ⟨n, (flat_one (.s n)).symm, hw, ?_⟩
  simp [Rows.uptoBulk]⟩
theorem opn_hash [hu : UD P T (.array 32 e)] [he : UD P e (.int .u8)] (hC : P.cellsOf T = 32 := by kernel_rfl) (hc : P.cellsOf e = 1 := by kernel_rfl) : Opn P T (fun h : Hash => [.hash h]) (fun _ _ => True) (fun _ => 1) := ⟨fun enc W fuel cs x h => by
  cases fuel with
  | zero => simp [DataW.trod] at h
  | succ m =>
    rw [DataW.trod_step] at h
    unfold DataW.trodStep at h
    simp only [hu.is] at h
    split at h
    · rename_i hl
      rw [hC] at hl
      simp only [Option.map_eq_some_iff, hc, Nat.mul_one] at h
      obtain ⟨xs, hx, e1⟩ := h
      have hr := mapM_range (fun c => DataW.trod enc P W 0 (fun _ => true) true m e c) cs
      rw [hl] at hr
      rw [hr] at hx
      obtain ⟨bs, hb, rfl⟩ := bytes_mapM he.is _ _ hx
      have hbl : bs.length = 32 := by rw [hb, length_bcells] at hl; exact hl
      refine ⟨⟨bs.toArray, by simpa using hbl⟩, ?_, trivial, bulk_one _⟩
      show cs = flat [hval _]
      rw [flat_single, cells_hval, hcells_eq, hb]
      simp [Vector.toList]
    · cases h⟩
theorem Opn.map {α β : Type} {f : α → List At} {Q : World → α → Prop} {z : α → Nat} (h : Opn P T f Q z) (g : α → β) {f' : β → List At} {Q' : World → β → Prop} {z' : β → Nat} (hf : ∀ a, f' (g a) = f a) (hQ : ∀ W a, Q W a → Q' W (g a)) (hz : ∀ a, z' (g a) ≤ z a) : Opn P T f' Q' z' := ⟨fun enc W fuel cs x hx => by
  obtain ⟨a, h1, h2, h3⟩ := h.op enc W fuel cs x hx
  exact ⟨g a, by rw [hf]; exact h1, hQ W a h2, Nat.le_trans (hz a) h3⟩⟩
structure PO (P : Program) where
  T : TypeId
  α : Type
  f : α → List At
  Q : World → α → Prop
  z : α → Nat
  sz : Nat
  h : Opn P T f Q z
  hc : P.cellsOf T = sz
def Tup : List (PO P) → Type
  | [] => Unit
  | p :: ps => p.α × Tup ps
def Tup.f : (ps : List (PO P)) → Tup ps → List At
  | [], _ => []
  | p :: ps, (a, t) => p.f a ++ Tup.f ps t
def Tup.Q : (ps : List (PO P)) → World → Tup ps → Prop
  | [], _, _ => True
  | p :: ps, W, (a, t) => p.Q W a ∧ Tup.Q ps W t
def Tup.z : (ps : List (PO P)) → Tup ps → Nat
  | [], _ => 0
  | p :: ps, (a, t) => p.z a + Tup.z ps t
def offs : Nat → List (PO P) → List (TypeId × Nat)
  | _, [] => []
  | o, p :: ps => (p.T, o) :: offs (o + p.sz) ps
def total : List (PO P) → Nat
  | [] => 0
  | p :: ps => p.sz + total ps
theorem open_fields {H : Type} (enc : TypeId × Value → H) (W : World) (n : Nat) (cs : List Value) : ∀ (ps : List (PO P)) (o : Nat) (xs : List (DataW H × List MemPlace)), cs.length = o + total ps → xs.length = ps.length →
    (∀ (i : Nat) (t : TypeId) (o' : Nat), (offs o ps)[i]? = some (t, o') → DataW.trod enc P W 0 (fun _ => true) true n t ((cs.drop o').take (P.cellsOf t)) = xs[i]?) → ∃ a : Tup ps, cs.drop o = flat (vals (Tup.f ps a)) ∧ Tup.Q ps W a ∧ Tup.z ps a ≤ Rows.uptoBulkAll (xs.map (·.1))
  | [], o, xs, hl, hx, h => ⟨(), by
      have : cs.drop o = [] := List.drop_eq_nil_of_le (by simp [total] at hl; omega)
      rw [this]
      exact flat_nil.symm, trivial, Nat.zero_le _⟩
  | p :: ps, o, xs, hl, hx, h => by
    cases xs with
    | nil => simp at hx
    | cons x xs =>
      have h0 := h 0 p.T o rfl
      simp only [List.getElem?_cons_zero] at h0
      obtain ⟨a, h1, h2, h3⟩ := p.h.op enc W n _ x h0
      obtain ⟨t, q1, q2, q3⟩ := open_fields enc W n cs ps (o + p.sz) xs (by simp [total] at hl; omega) (by simpa using hx) (fun i t o' hi => by
        have := h (i + 1) t o' (by simpa [offs] using hi)
        simpa using this)
      refine ⟨(a, t), ?_, ⟨h2, q2⟩, ?_⟩
      · show cs.drop o = flat (vals (p.f a ++ Tup.f ps t))
        rw [vals_append, flat_append, ← h1, ← q1, p.hc, ← List.drop_drop]
        exact (List.take_append_drop _ _).symm
      · show p.z a + Tup.z ps t ≤ Rows.uptoBulkAll ((x :: xs).map (·.1))
        simp only [List.map_cons, Rows.uptoBulkAll]
        omega
theorem opn_struct {fs : Array Field} (ps : List (PO P)) (hu : P.underlying T = some (.struct fs)) (ho : fs.toList.map (fun f => (f.type, f.offset)) = offs 0 ps) (hc : P.cellsOf T = total ps) : Opn P T (Tup.f ps) (Tup.Q ps) (fun a => Tup.z ps a + 1) := ⟨fun enc W fuel cs x h => by
  obtain ⟨xs, n, rfl, rfl, hl, hxl, hf⟩ := DataW.trod_struct hu h
  have hlen : fs.size = ps.length := by
    have gen : ∀ (o : Nat) (ps : List (PO P)), (offs o ps).length = ps.length := by
      intro o ps
      induction ps generalizing o with
      | nil => rfl
      | cons p ps ih => simp [offs, ih]
    have := congrArg List.length ho
    rw [gen, List.length_map, Array.length_toList] at this
    exact this
  obtain ⟨a, h1, h2, h3⟩ := open_fields enc W n cs ps 0 xs (by rw [hl, hc]; omega) (by rw [hxl, hlen]) (fun i t o' hi => by
    rw [← ho, List.getElem?_map] at hi
    obtain ⟨f, hfi, he⟩ := Option.map_eq_some_iff.1 hi
    simp only [Prod.mk.injEq] at he
    obtain ⟨rfl, rfl⟩ := he
    exact hf i f (by simpa using hfi))
  refine ⟨a, by simpa using h1, h2, ?_⟩
  simp only [Rows.uptoBulk]
  omega⟩
structure Sl (α : Type) where
  A : Option Addr
  c : Nat
  l : List α
theorem cells_of {W : World} {a : Addr} {n : Nat} {cs : List Value} (h : W.cells? 0 a n = some cs) : CellsAt W a cs ∧ cs.length = n := by
  unfold World.cells? at h
  rw [if_pos (Nat.zero_le _)] at h
  have hl' : cs.length = n := by
    have := mapM_some_length h
    rw [List.length_range] at this
    exact this
  refine ⟨fun j u hj => ?_, hl'⟩
  have hlt := (List.getElem?_eq_some_iff.1 hj).1
  have := mapM_some_get h j j (by rw [List.getElem?_range (by omega)])
  rw [this, hj]
theorem cells_join {W : World} {a : Addr} : ∀ {vs : List (List Value)} {sz : Nat} {o : Nat}, (∀ v ∈ vs, v.length = sz) → (∀ i v, vs[i]? = some v → CellsAt W (a.add (o + i * sz)) v) → CellsAt W (a.add o) vs.flatten
  | [], _, _, _, _ => fun j u hu => by simp at hu
  | v :: vs, sz, o, hl, h => by
    have h0 := h 0 v rfl
    simp only [Nat.zero_mul, Nat.add_zero] at h0
    have ih := cells_join (W := W) (a := a) (vs := vs) (sz := sz) (o := o + sz) (fun u hu => hl u (List.mem_cons_of_mem _ hu)) (fun i u hi => by
      have := h (i + 1) u (by simpa using hi)
      rw [show o + sz + i * sz = o + (i + 1) * sz by rw [Nat.add_mul, Nat.one_mul]; omega]
      exact this)
    have hv := hl v (List.mem_cons_self ..)
    intro j u hj
    rw [List.flatten_cons] at hj
    rw [add_of_add]
    by_cases hlt : j < v.length
    · rw [List.getElem?_append_left hlt] at hj
      have := h0 j u hj
      rwa [add_of_add] at this
    · rw [List.getElem?_append_right (by omega), hv] at hj
      have := ih _ u hj
      rw [add_of_add] at this
      rwa [show o + sz + (j - sz) = o + j by omega] at this
theorem bulkAll_append {H : Type} (xs ys : List (DataW H)) : Rows.uptoBulkAll (xs ++ ys) = Rows.uptoBulkAll xs + Rows.uptoBulkAll ys := by
  induction xs with
  | nil => simp [Rows.uptoBulkAll]
  | cons x xs ih => simp only [List.cons_append, Rows.uptoBulkAll, ih]; omega
theorem opn_slice {α : Type} (E : En α) {Q : World → α → Prop} {z : α → Nat} [hu : UD P T (.slice e)] (h : Opn P e (fun x => (E.f x).ats) Q z) (id : Nat) (hc : P.cellsOf e = E.sz := by kernel_rfl) :
    Opn P T (fun s : Sl α => [.one (.sl id s.A s.l.length s.c)]) (fun W s => s.l.length ≤ s.c ∧ (Res.rd s.A E s.l).holds W ∧ ∀ x ∈ s.l, Q W x) (fun s => (s.l.map z).sum + 1) := ⟨fun enc W fuel cs x hx => by
  rcases DataW.trod_slice hu.is hx with ⟨rfl, rfl⟩ | ⟨a, len, cap, elems, rest, n, rfl, rfl, rfl, _, hlc, _, hel, hget, _, _⟩
  · refine ⟨⟨none, 0, []⟩, (flat_one (.sl id none 0 0)).symm, ⟨Nat.le_refl _, ?_, by simp⟩, by simp [Rows.uptoBulk]⟩
    unfold Res.rd Res.fact
    left
    unfold En.dens flat
    rfl
  · rw [hc] at hget
    -- element by element
    have gen : ∀ (k : Nat), k ≤ len → ∃ l : List α, l.length = k ∧ (∀ i y, l[i]? = some y → CellsAt W (a.add (i * E.sz)) (flat (vals (E.f y).ats))) ∧ (∀ y ∈ l, Q W y) ∧ (l.map z).sum ≤ Rows.uptoBulkAll ((elems.take k).map (·.1)) := by
      intro k
      induction k with
      | zero => exact fun _ => ⟨[], rfl, by simp, by simp, by simp⟩
      | succ k ih =>
        intro hk
        obtain ⟨l, h1, h2, h3, h4⟩ := ih (by omega)
        have hlt : k < elems.length := by omega
        have hg := hget k (by omega)
        rw [List.getElem?_eq_getElem hlt] at hg
        obtain ⟨cs, hcs, hy⟩ := Option.bind_eq_some_iff.1 hg
        obtain ⟨y, e1, q1, q2⟩ := h.op enc W n cs _ hy
        subst e1
        refine ⟨l ++ [y], by simp [h1], fun i u hi => ?_, fun u hu => ?_, ?_⟩
        · by_cases hil : i < l.length
          · rw [List.getElem?_append_left hil] at hi
            exact h2 i u hi
          · rw [List.getElem?_append_right (by omega)] at hi
            have : i - l.length = 0 := by
              have := (List.getElem?_eq_some_iff.1 hi).1
              simp at this
              omega
            rw [this] at hi
            simp at hi
            subst hi
            have : i = k := by omega
            subst this
            exact (cells_of hcs).1
        · rcases List.mem_append.1 hu with hu | hu
          · exact h3 u hu
          · rw [List.mem_singleton.1 hu]; exact q1
        · rw [List.take_succ_eq_append_getElem hlt, List.map_append, List.map_append, List.sum_append]
          rw [bulkAll_append]
          simp only [List.map_cons, List.map_nil, Rows.uptoBulkAll, List.sum_cons, List.sum_nil]
          omega
    obtain ⟨l, h1, h2, h3, h4⟩ := gen len (Nat.le_refl _)
    refine ⟨⟨some a, cap, l⟩, ?_, ⟨by rw [h1]; exact hlc, ?_, h3⟩, ?_⟩
    · rw [flat_one]
      show _ = [Value.slice (some a) l.length cap]
      rw [h1]
    · unfold Res.rd Res.fact
      refine .inr ⟨a, rfl, ?_⟩
      have := cells_join (W := W) (a := a) (vs := l.map fun y => flat (vals (E.f y).ats)) (sz := E.sz) (o := 0) (fun v hv => by
        obtain ⟨y, _, rfl⟩ := List.mem_map.1 hv
        rw [length_flat, szs_vals]
        exact (E.ok y).2) (fun i v hi => by
        rw [List.getElem?_map] at hi
        obtain ⟨y, hy, rfl⟩ := Option.map_eq_some_iff.1 hi
        rw [Nat.zero_add]
        exact h2 i y hy)
      rw [add_zero] at this
      have e1 : flat (E.dens l) = (l.map fun y => flat (vals (E.f y).ats)).flatten := by
        unfold En.dens
        clear h1 h2 h3 h4 this
        induction l with
        | nil => show flat [] = _; rw [flat_nil]; rfl
        | cons y l ih => rw [List.map_cons, flat_cons, ih, SV.cells_den]; rfl
      rw [e1]
      exact this
    · simp only [Rows.uptoBulk]
      rw [show elems.take len = elems by rw [← hel]; exact List.take_length] at h4
      show (l.map z).sum + 1 ≤ _
      omega⟩
theorem opn_top {α : Type} {f : α → List At} {Q : World → α → Prop} {z : α → Nat} (h : Opn P T f Q z) (sv : α → SV) (hs : ∀ a, (sv a).ats = f a) {agg : Bool} (ha : ∀ a, (sv a).isAgg = agg) {H : Type} {enc : TypeId × Value → H} {W : World} {v : Value} {d : DataW H} {ps : List MemPlace} (hv : isAggV v = agg) (ht : DataW.Trod enc P W 0 (fun _ => true) true T v d ps) :
    ∃ a, v = (sv a).den ∧ Q W a ∧ z a ≤ Rows.uptoBulk d := by
  obtain ⟨fuel, hf⟩ := ht
  obtain ⟨a, h1, h2, h3⟩ := h.op enc W fuel _ _ hf
  refine ⟨a, ?_, h2, h3⟩
  rw [← hs, ← SV.cells_den] at h1
  have h4 := ha a
  rw [← (sv a).isAgg_den, ← hv] at h4
  generalize (sv a).den = u at h1 h4
  cases v <;> cases u <;> simp_all [Value.cells, isAggV]
theorem okw_agg {W : World} {b : Nat} {v : Value} {d : TypeDesc} (hu : P.underlying T = some d) (h : Value.okWide P W .any b T v) : isAggV v = (match d with | .struct _ | .array _ _ => true | _ => false) := by
  unfold Value.okWide at h
  rw [hu] at h
  cases d <;> simp only at h ⊢ <;> first
    | (obtain ⟨cs, rfl, _⟩ := h; rfl)
    | (unfold Cell.okWide Cell.ok at h; rw [hu] at h; cases v <;> simp_all [isAggV])
theorem St.below {w w' : World} {L : List Res} (h : St w w' No L) : Below w.heap.size w w' := ⟨h.os, h.tape, h.output, h.size, fun k hk => h.keep k hk id⟩
theorem St.noM {w w' : World} {M : Nat → Prop} {L : List Res} (h : St w w' M L) (hM : ∀ b, ¬ M b) : St w w' No L := by
  obtain rfl : M = No := funext fun b => propext ⟨fun h => (hM b h).elim, fun h => h.elim⟩
  exact h
theorem lk_all {B : Hp} {W : World} (h : ∀ p ∈ B, p.2.holds W) : ∀ i r, lk B i = some r → r.holds W := fun i r hi => by
  induction B with
  | nil => cases hi
  | cons p B ih =>
    obtain ⟨j, s⟩ := p
    rw [lk_cons] at hi
    split at hi
    · cases hi
      exact h _ (List.mem_cons_self ..)
    · exact ih (fun q hq => h q (List.mem_cons_of_mem _ hq)) hi
theorem args_below {H : Type} {enc : TypeId × Value → H} (hl : laidOutB P = true) {W W' : World} (hb : Below W.heap.size W W') : ∀ {ts : List TypeId} {vs : List Value} {ds : List (DataW H)} {ps : List MemPlace}, (ts.all fun t => P.readableRec t && decide (t < P.types.size)) = true → DataW.TrodAll enc P W 0 (fun _ => true) true ts vs ds ps → (∀ x ∈ ps, x.block < W.heap.size) →
    DataW.TrodAll enc P W' 0 (fun b => decide (b < W.heap.size)) true ts vs ds ps
  | [], vs, ds, ps, _, h, _ => by
    obtain ⟨rfl, rfl, rfl⟩ := trodAll_nil h
    exact rfl
  | t :: ts, vs, ds, ps, ht, h, hp => by
    obtain ⟨v, vs', d, ds', p, q, rfl, rfl, rfl, h1, h2⟩ := trodAll_cons h
    simp only [List.all_cons, Bool.and_eq_true, decide_eq_true_eq] at ht
    exact ⟨p, q, Below.trod hl ht.1.1 ht.1.2 h1 hb (fun x hx => hp x (List.mem_append_left _ hx)), args_below hl hb ht.2 h2 (fun x hx => hp x (List.mem_append_right _ hx)), rfl⟩
theorem row_post {f : Func} {s : ChangeSpec} {H : Type} {enc : TypeId × Value → H} {W W' : World} {args : Array Value} {ds gs : List (DataW H)} {before : List MemPlace} {L : List Res} {tb : TypeId} (hl : laidOutB P = true) (hv : s.vars = []) (hr : f.resultTypes = #[tb]) (hb : P.underlying tb = some .bool) (hrec : (f.params.toList.all fun t => P.readableRec t && decide (t < P.types.size)) = true)
    (hW : DataW.Whole enc P f.params.toList s.vars false W args.toList ds gs before) (hst : St W W' No L) (hs : gs = [] → (s.fn H (ds ++ gs)).results = [.lit (.bool true)] ∧ (s.fn H (ds ++ gs)).args = ds ∧ (s.fn H (ds ++ gs)).vars = []) : s.post enc P f false true false false W args (.bool true) W' := by
  have hlt := hW.lt
  obtain ⟨p, q, hA, hV, rfl, hfz, hnd⟩ := hW
  have hV' := hV
  rw [hv] at hV'
  obtain ⟨rfl, rfl⟩ := trodVars_none hV'
  obtain ⟨e1, e2, e3⟩ := hs rfl
  refine ⟨ds, [], p ++ [], [], p, [], ⟨p, [], hA, hV, rfl, hfz, hnd⟩, ?_, ?_, ?_, World.keptBut_mono (fun x hx => ⟨hx, .inr (.inl ?_)⟩) (hst.kept (· ∈ p ++ [])), fun h => by cases h⟩
  · rw [e1, hr]
    exact trodAll_mk1 (shut_bool hb true)
  · rw [e2]
    exact args_below hl hst.below hrec hA (fun x hx => hlt x (List.mem_append_left _ hx))
  · rw [e3, hv]
    exact rfl
  · simpa using hx
end
end HL
end Go.Proofs.YtfopgaijfeeioaaGreat
/- Openings of entries. -/



set_option linter.unusedVariables false
set_option linter.unusedSimpArgs false
namespace Go.Proofs.YtfopgaijfeeioaaGreat
open Go Go.RowKit HL Go.ChangeShapes Go.WideShapes Go.ChangeAt
set_option maxRecDepth 100000
theorem opn_asset : Opn Tryz.prog 148 (fun x => (assetEn.f x).ats) (fun _ x => Rng .i64 x.amount) (fun x => x.name.size + 1) :=
  (opn_struct [⟨23, Hash, _, _, _, 32, opn_hash, by kernel_rfl⟩, ⟨9, ByteArray, _, _, _, 1, opn_string, by kernel_rfl⟩, ⟨2, Int, _, _, _, 1, opn_int .i64, by kernel_rfl⟩]
    Tryz.underlying148 (by kernel_rfl) (by kernel_rfl)).map (fun a => (⟨a.1, a.2.1, a.2.2.1⟩ : AssetP)) (fun a => rfl) (fun W a h => h.2.2.1) (fun a => by
      obtain ⟨h, s, i, u⟩ := a
      show s.size + 1 ≤ 1 + ((s.size + 1) + (1 + 0)) + 1
      omega)
theorem opn_value (id : Nat) : Opn Tryz.prog 35 (fun v : ValueM => [.one (.i .i64 v.coin), .one (.sl id v.A v.assets.length v.c)]) (fun W v => Rng .i64 v.coin ∧ v.assets.length ≤ v.c ∧ (Res.rd v.A assetEn v.assets).holds W ∧ ∀ x ∈ v.assets, Rng .i64 x.amount) (fun v => (v.assets.map fun x => x.name.size + 1).sum + 1) :=
  (opn_struct [⟨2, Int, _, _, _, 1, opn_int .i64, by kernel_rfl⟩, ⟨33, Sl AssetP, _, _, _, 1, opn_slice assetEn opn_asset id, by kernel_rfl⟩]
    Tryz.underlying35 (by kernel_rfl) (by kernel_rfl)).map (fun a => (⟨a.1, a.2.1.A, a.2.1.c, a.2.1.l⟩ : ValueM)) (fun a => rfl) (fun W a h => ⟨h.1, h.2.1.1, h.2.1.2.1, h.2.1.2.2⟩) (fun a => by
      obtain ⟨i, s, u⟩ := a
      show (s.l.map fun x => x.name.size + 1).sum + 1 ≤ 1 + (((s.l.map fun x => x.name.size + 1).sum + 1) + 0) + 1
      omega)
theorem opn_node : Opn Tryz.prog 76 (fun x => (nodeEn.f x).ats) (fun _ x => Rng .i64 x.int ∧ Rng .u64 x.bits) (fun x => x.bytes.size + 1) :=
  (opn_struct [⟨71, Int, _, _, _, 1, opn_int .i64, by kernel_rfl⟩, ⟨2, Int, _, _, _, 1, opn_int .i64, by kernel_rfl⟩, ⟨73, Int, _, _, _, 1, opn_int .u64, by kernel_rfl⟩, ⟨9, ByteArray, _, _, _, 1, opn_string, by kernel_rfl⟩, ⟨3, Int, _, _, _, 1, opn_int .i64, by kernel_rfl⟩]
    Tryz.underlying76 (by kernel_rfl) (by kernel_rfl)).map (fun a => (⟨a.1, a.2.1, a.2.2.1, a.2.2.2.1, a.2.2.2.2.1⟩ : NodeP)) (fun a => rfl) (fun W a h => ⟨h.2.1, h.2.2.1⟩) (fun a => by
      obtain ⟨k, i, b, s, n, u⟩ := a
      show s.size + 1 ≤ 1 + (1 + (1 + ((s.size + 1) + (1 + 0)))) + 1
      omega)
theorem opn_term (id : Nat) : Opn Tryz.prog 39 (fun s : Sl NodeP => [.one (.sl id s.A s.l.length s.c)]) (fun W s => s.l.length ≤ s.c ∧ (Res.rd s.A nodeEn s.l).holds W ∧ ∀ x ∈ s.l, Rng .i64 x.int ∧ Rng .u64 x.bits) (fun s => (s.l.map fun x => x.bytes.size + 1).sum + 1) :=
  (opn_struct [⟨37, Sl NodeP, _, _, _, 1, opn_slice nodeEn opn_node id, by kernel_rfl⟩]
    Tryz.underlying39 (by kernel_rfl) (by kernel_rfl)).map (fun a => a.1) (fun a => rfl) (fun W a h => h.1) (fun a => by
      obtain ⟨s, u⟩ := a
      show (s.l.map fun x => x.bytes.size + 1).sum + 1 ≤ ((s.l.map fun x => x.bytes.size + 1).sum + 1) + 0 + 1
      omega)
theorem opn_addr : Opn Tryz.prog 32 (fun x : Bool × Hash => [.one (.b x.1), .hash x.2]) (fun _ _ => True) (fun _ => 1) :=
  (opn_struct [⟨4, Bool, _, _, _, 1, opn_bool, by kernel_rfl⟩, ⟨23, Hash, _, _, _, 32, opn_hash, by kernel_rfl⟩]
    Tryz.underlying32 (by kernel_rfl) (by kernel_rfl)).map (fun a => (a.1, a.2.1)) (fun a => rfl) (fun W a h => trivial) (fun a => by
      obtain ⟨k, i, u⟩ := a
      show 1 ≤ 1 + (1 + 0) + 1
      omega)
def QO (W : World) (o : OutM) : Prop := (o.c.val.assets.length ≤ o.cA ∧ (Res.rd o.A assetEn o.c.val.assets).holds W) ∧ o.c.nodes.length ≤ o.cB ∧ (Res.rd o.B nodeEn o.c.nodes).holds W ∧ ∀ x ∈ o.c.nodes, Rng .i64 x.int ∧ Rng .u64 x.bits
def zO (o : OutM) : Nat := (o.c.val.assets.map fun x => x.name.size + 1).sum + (o.c.nodes.map fun x => x.bytes.size + 1).sum + 1
theorem opn_out (i j : Nat) : Opn Tryz.prog 41 (fun o : OutM => (oval o i j).ats) QO zO :=
  (opn_struct [⟨32, Bool × Hash, _, _, _, 33, opn_addr, by kernel_rfl⟩, ⟨35, ValueM, _, _, _, 2, opn_value i, by kernel_rfl⟩, ⟨36, Int, _, _, _, 1, opn_int .i64, by kernel_rfl⟩, ⟨23, Hash, _, _, _, 32, opn_hash, by kernel_rfl⟩, ⟨39, Sl NodeP, _, _, _, 1, opn_term j, by kernel_rfl⟩]
    Tryz.underlying41 (by kernel_rfl) (by kernel_rfl)).map (fun a => (⟨⟨a.1.1, a.1.2, ⟨a.2.1.coin, a.2.1.assets⟩, a.2.2.1, a.2.2.2.1, a.2.2.2.2.1.l⟩, a.2.1.A, a.2.1.c, a.2.2.2.2.1.A, a.2.2.2.2.1.c⟩ : OutM)) (fun a => rfl) (fun W a h => ⟨⟨h.2.1.2.1, h.2.1.2.2.1⟩, h.2.2.2.2.1⟩) (fun a => by
      obtain ⟨x, v, d, hh, t, u⟩ := a
      show (v.assets.map fun x => x.name.size + 1).sum + (t.l.map fun x => x.bytes.size + 1).sum + 1 ≤ 1 + (((v.assets.map fun x => x.name.size + 1).sum + 1) + (1 + (1 + (((t.l.map fun x => x.bytes.size + 1).sum + 1) + 0)))) + 1
      omega)
theorem opn_ref : Opn Tryz.prog 25 (fun x => (refEn.f x).ats) (fun _ _ => True) (fun _ => 1) :=
  (opn_struct [⟨23, Hash, _, _, _, 32, opn_hash, by kernel_rfl⟩, ⟨3, Int, _, _, _, 1, opn_int .i64, by kernel_rfl⟩]
    Tryz.underlying25 (by kernel_rfl) (by kernel_rfl)).map (fun a => (⟨a.1, a.2.1⟩ : RefP)) (fun a => rfl) (fun W a h => trivial) (fun a => by
      obtain ⟨k, i, u⟩ := a
      show 1 ≤ 1 + (1 + 0) + 1
      omega)
def zE (x : EntM) : Nat := zO x.o
theorem opn_ent : Opn Tryz.prog 43 (fun x => (entEn.f x).ats) (fun W x => QO W x.o) zE :=
  (opn_struct [⟨25, RefP, _, _, _, 33, opn_ref, by kernel_rfl⟩, ⟨41, OutM, _, _, _, 69, opn_out 941 940, by kernel_rfl⟩]
    Tryz.underlying43 (by kernel_rfl) (by kernel_rfl)).map (fun a => (⟨a.1, a.2.1⟩ : EntM)) (fun a => rfl) (fun W a h => h.2.1) (fun a => by
      obtain ⟨k, o, u⟩ := a
      show zO o ≤ 1 + (zO o + 0) + 1
      omega)
theorem opn_ents (id : Nat) : Opn Tryz.prog 26 (fun s : Sl EntM => [.one (.sl id s.A s.l.length s.c)]) (fun W s => s.l.length ≤ s.c ∧ (Res.rd s.A entEn s.l).holds W ∧ ∀ x ∈ s.l, QO W x.o) (fun s => (s.l.map zE).sum + 1) := opn_slice entEn opn_ent id
end Go.Proofs.YtfopgaijfeeioaaGreat
/- PackOrder: for any three refs and any entries: true. Upto form. -/

set_option linter.unusedVariables false
set_option linter.unusedSimpArgs false
namespace Go.Proofs.YtfopgaijfeeioaaGreat
open Go Go.RowKit HL Go.ChangeShapes Go.WideShapes Go.ChangeAt
theorem sum_atP {α : Type} {f : α → Nat} {x : α} : ∀ {l : List α}, x ∈ l → f x ≤ (l.map f).sum
  | [], h => by cases h
  | y :: l, h => by
    rw [List.map_cons, List.sum_cons]
    rcases List.mem_cons.1 h with rfl | h
    · omega
    · have := sum_atP (f := f) h; omega
theorem sum_lenP {α : Type} {f : α → Nat} : ∀ {l : List α}, (∀ x ∈ l, 1 ≤ f x) → l.length ≤ (l.map f).sum
  | [], _ => by simp
  | x :: l, h => by
    have h1 := h x (List.mem_cons_self ..)
    have := sum_lenP (f := f) (l := l) fun y hy => h y (List.mem_cons_of_mem _ hy)
    rw [List.map_cons, List.sum_cons, List.length_cons]
    omega
theorem okO_of {W : World} {o : OutM} (h : QO W o) (hz : zO o ≤ 1048576) : OkO o ∧ SmO o := by
  obtain ⟨h1, h2, h3, h4⟩ := h
  unfold zO at hz
  have a1 := sum_lenP (f := fun x : AssetP => x.name.size + 1) (l := o.c.val.assets) fun x _ => by omega
  have a2 := sum_lenP (f := fun x : NodeP => x.bytes.size + 1) (l := o.c.nodes) fun x _ => by omega
  refine ⟨⟨by omega, by omega, h2, fun n hn => ?_⟩, ⟨fun x hx => ?_, fun x hx => ?_⟩⟩
  · obtain ⟨⟨r1, r2⟩, r3, r4⟩ := h4 n hn
    exact ⟨⟨r1, r2⟩, r3, by have : n.bits ≤ 18446744073709551615 := r4; omega⟩
  · have := sum_atP (f := fun x : AssetP => x.name.size + 1) hx
    omega
  · have := sum_atP (f := fun x : NodeP => x.bytes.size + 1) hx
    omega
theorem sub_holds {W : World} {l : List EntM} (h : ∀ x ∈ l, QO W x.o) : (Res.alr (subEs l)).holds W := fun r hr => by
  obtain ⟨x, hx, hr⟩ := List.mem_flatMap.1 hr
  unfold subE at hr
  rcases List.mem_cons.1 hr with rfl | hr
  · exact (h x hx).1.2
  · rw [List.mem_singleton.1 hr]
    exact (h x hx).2.2.1
namespace PackOrder
theorem own : ownKnob Tryz.prog.godebug = none := by kernel_rfl
set_option maxRecDepth 100000 in
theorem contract (H : Type) (enc : TypeId × Value → H) (W : World) (base : Nat) (args : Array Value) (ds gs : List (DataW H)) (before : List MemPlace)
    (hval : ∀ (j : Nat) t v, Tryz.f3.params[j]? = some t → args[j]? = some v → Value.okWide Tryz.prog W .any base t v)
    (hW : DataW.Whole enc Tryz.prog Tryz.f3.params.toList Rows.packOrderSpec.vars false W args.toList ds gs before) (hk : Rows.uptoSmall H (ds ++ gs) = true) :
    Calls Tryz.prog 3 args W fun e W' => ∃ v, e = .returned v ∧ Rows.packOrderSpec.post enc Tryz.prog Tryz.f3 false true false false W args v W' := by
  have hW' := hW
  obtain ⟨p, q, hA0, hV, rfl, hfz, hnd⟩ := hW
  have hA : DataW.TrodAll enc Tryz.prog W 0 (fun _ => true) true Tryz.f3.params.toList args.toList ds p := hA0
  rw [Tryz.params3] at hA hval
  obtain ⟨v0, vs0, d0, ds0, p0, q0, hargs, rfl, rfl, h0, r0⟩ := trodAll_cons hA
  obtain ⟨v1, vs1, d1, ds1, p1, q1, rfl, rfl, rfl, h1, r1⟩ := trodAll_cons r0
  obtain ⟨v2, vs2, d2, ds2, p2, q2, rfl, rfl, rfl, h2, r2⟩ := trodAll_cons r1
  obtain ⟨v3, vs3, d3, ds3, p3, q3, rfl, rfl, rfl, h3, r3⟩ := trodAll_cons r2
  obtain ⟨rfl, rfl, rfl⟩ := trodAll_nil r3
  obtain rfl : args = #[v0, v1, v2, v3] := by cases args; simp_all
  obtain ⟨rfl, rfl⟩ := trodVars_none hV
  obtain ⟨a0, rfl, y0, z0⟩ := opn_top opn_ref (fun x => refEn.f x) (fun _ => rfl) (fun _ => rfl) (okw_agg Tryz.underlying25 (hval 0 _ v0 rfl rfl)) h0
  obtain ⟨a1, rfl, y1, z1⟩ := opn_top opn_ref (fun x => refEn.f x) (fun _ => rfl) (fun _ => rfl) (okw_agg Tryz.underlying25 (hval 1 _ v1 rfl rfl)) h1
  obtain ⟨a2, rfl, y2, z2⟩ := opn_top opn_ref (fun x => refEn.f x) (fun _ => rfl) (fun _ => rfl) (okw_agg Tryz.underlying25 (hval 2 _ v2 rfl rfl)) h2
  obtain ⟨a3, rfl, y3, z3⟩ := opn_top (opn_ents 942) (fun s => .one (.sl 942 s.A s.l.length s.c)) (fun _ => rfl) (fun _ => rfl) (okw_agg Tryz.underlying26 (hval 3 _ v3 rfl rfl)) h3
  simp only [Rows.uptoSmall, decide_eq_true_eq, List.append_nil, Rows.uptoBulkAll] at hk
  have hs : (a3.l.map zE).sum ≤ 1048576 := by omega
  have hz : ∀ x ∈ a3.l, zO x.o ≤ 1048576 := fun x hx => Nat.le_trans (sum_atP (f := zE) hx) hs
  have hl : a3.l.length ≤ 1048576 := Nat.le_trans (sum_lenP fun x _ => by unfold zE zO; omega) hs
  refine (packOrder_spec a0 a1 a2 a3.A a3.l a3.c hl (fun x hx => (okO_of (y3.2.2 x hx) (hz x hx)).1) (fun x hx => (okO_of (y3.2.2 x hx) (hz x hx)).2) W (lk_all (by rintro p hp; simp only [List.mem_cons, List.not_mem_nil, or_false] at hp; rcases hp with rfl | rfl; exact y3.2.1; exact sub_holds y3.2.2)) (by simp [live]) (by simp [live]) (by simp [live])).mono fun e W' ⟨o, L, he, ho, hst⟩ => ?_
  obtain ⟨rfl, rfl⟩ := ho
  subst he
  exact ⟨_, rfl, row_post (by kernel_rfl) rfl rfl Tryz.underlying4 (by kernel_rfl) hW' (hst.noM fun _ h => by obtain ⟨_, h, _⟩ := h; simp [live] at h) fun _ => ⟨rfl, rfl, rfl⟩⟩
set_option maxRecDepth 100000 in
theorem lifted (os : Os) (started : os.Started) (H : Type) (enc : TypeId × Value → H) (F : Stop.Interp) :
    ReturnsInHanded {} Tryz.checked os 3 .any ((Rows.OpenSpec.upto Rows.packOrderSpec).pre6 enc Tryz.prog Tryz.f3 Rows.packOrderUptoRow.domain false) (((Rows.OpenSpec.upto Rows.packOrderSpec).at F).post enc Tryz.prog Tryz.f3 false true false false) := by
  refine returnsInHanded_of_cond (C := Tryz.checked) (s := Rows.OpenSpec.upto Rows.packOrderSpec) (k := Rows.uptoSmall) rfl own started (by kernel_rfl) Tryz.func3
    (OpenSpec.witness (enc := enc) (C := Tryz.checked) (s := Rows.OpenSpec.upto Rows.packOrderSpec) (k := Rows.uptoSmall) rfl false ⟨#[], #[.agg (Array.replicate 32 (.int .u8 0) ++ #[.int .i64 0]), .agg (Array.replicate 32 (.int .u8 0) ++ #[.int .i64 0]), .agg (Array.replicate 32 (.int .u8 0) ++ #[.int .i64 0]), .slice none 0 0], []⟩ 8 (by kernel_rfl) (by kernel_rfl) (by kernel_rfl)
      (x := ([.agg [.agg (List.replicate 32 (.lit (.int .u8 0))), .lit (.int .i64 0)], .agg [.agg (List.replicate 32 (.lit (.int .u8 0))), .lit (.int .i64 0)], .agg [.agg (List.replicate 32 (.lit (.int .u8 0))), .lit (.int .i64 0)], .nil], [], [])) (by kernel_rfl) rfl (by kernel_rfl)) ?_
  intro W base args ds gs before hval hW _ hk _
  exact contract H enc W base args ds gs before hval hW hk
theorem proved : Rows.PackOrderUptoSaid :=
  OpenClaim.holds_of_cond 3 Tryz.f3 rfl rfl rfl rfl rfl rfl rfl ⟨rfl, rfl, rfl, rfl, rfl⟩ rfl rfl rfl rfl rfl (by kernel_rfl) Tryz.func3 (by kernel_rfl)
    (of_decide_eq_true (by kernel_rfl)) (by unfold Func.isWrapper; first | (rw [if_pos (by decide +kernel)]; kernel_rfl) | (rw [if_neg (by decide +kernel)]; exact ⟨rfl, rfl⟩))
    (fun os started H enc _ F => lifted os started H enc F)
end PackOrder
end Go.Proofs.YtfopgaijfeeioaaGreat
