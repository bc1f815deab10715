/- ARGUMENTS READ AS DATA, and the end of a law's row. My own text; it names no program. -/
import Derived.Test.YtonbgcehgmpnkaaK7
import Derived.Test.YtonbgcehgmpnkaaC
import Derived.Test.YtonbgcehgmpnkaaRows
import Derived.ChangeArms
import Derived.Carry
import Derived.JoinedCond
set_option linter.unusedVariables false
set_option linter.unusedSimpArgs false
set_option linter.unusedSectionVars false
namespace Go.Proofs.Ytonbgcehgmpnkaa
namespace HL
open Go Go.RowKit Go.ChangeShapes Go.WideShapes Go.ChangeAt
/-- What reads as data of type T is a value of α: its cells, what is known of it, how much it is. -/
structure Opn (P : Program) (T : TypeId) {α : Type} (f : α → List At) (Q : World → α → Prop) (z : α → Nat) : Prop where
  op : ∀ {H : Type} (enc : TypeId × Value → H) (W : World) (fuel : Nat) (cs : List Value) (x : DataW H × List MemPlace), DataW.trod enc P W 0 (fun _ => true) true fuel T cs = some x → ∃ a, cs = flat (vals (f a)) ∧ Q W a ∧ z a ≤ Rows.uptoBulk x.1
theorem bulk_one {H : Type} (d : DataW H) : 1 ≤ Rows.uptoBulk d := by
  cases d with
  | lit l => cases l <;> simp [Rows.uptoBulk]
  | nil => simp [Rows.uptoBulk]
  | ptr d => simp [Rows.uptoBulk]
  | slice elems spare => simp [Rows.uptoBulk]
  | agg parts => simp [Rows.uptoBulk]
  | iface t d => simp [Rows.uptoBulk]
  | map entries => simp [Rows.uptoBulk]
  | held h => simp [Rows.uptoBulk]
theorem flat_one (p : PV) : flat (vals [.one p]) = [p.den] := by
  show flat [p.den] = _
  rw [flat_single, p.cells_den]
def Rng (k : IntKind) (n : Int) : Prop := k.min ≤ n ∧ n ≤ k.max
section
variable {P : Program} {T e : TypeId}
theorem opn_int (k : IntKind) [hu : UD P T (.int k)] : Opn P T (fun n : Int => [.one (.i k n)]) (fun _ n => Rng k n) (fun _ => 1) := ⟨fun enc W fuel cs x h => by
  obtain ⟨n, rfl, rfl, hw⟩ := DataW.trod_int hu.is h
  refine ⟨n, (flat_one (.i k n)).symm, ?_, bulk_one _⟩
  simp [Lit.wf] at hw
  exact hw⟩
theorem opn_bool [hu : UD P T .bool] : Opn P T (fun n : Bool => [.one (.b n)]) (fun _ _ => True) (fun _ => 1) := ⟨fun enc W fuel cs x h => by
  obtain ⟨n, rfl, rfl⟩ := DataW.trod_bool hu.is h
  exact ⟨n, (flat_one (.b n)).symm, trivial, bulk_one _⟩⟩
theorem opn_string [hu : UD P T .string] : Opn P T (fun n : ByteArray => [.one (.s n)]) (fun _ n => n.size ≤ maxLen) (fun n => n.size + 1) := ⟨fun enc W fuel cs x h => by
  obtain ⟨n, rfl, rfl, hw⟩ := DataW.trod_string hu.is h
  refine ⟨n, (flat_one (.s n)).symm, hw, ?_⟩
  simp [Rows.uptoBulk]⟩
theorem opn_byte [hu : UD P T (.int .u8)] : Opn P T (fun n : UInt8 => [.one (.i .u8 n.toNat)]) (fun _ _ => True) (fun _ => 1) := ⟨fun enc W fuel cs x h => by
  obtain ⟨n, rfl, rfl, hw⟩ := DataW.trod_int hu.is h
  obtain ⟨u, rfl⟩ := wf_u8 hw
  exact ⟨u, (flat_one (.i .u8 u.toNat)).symm, trivial, bulk_one _⟩⟩
theorem opn_hash [hu : UD P T (.array 32 e)] [he : UD P e (.int .u8)] (hC : P.cellsOf T = 32 := by kernel_rfl) (hc : P.cellsOf e = 1 := by kernel_rfl) : Opn P T (fun h : Hash => [.hash h]) (fun _ _ => True) (fun _ => 1) := ⟨fun enc W fuel cs x h => by
  cases fuel with
  | zero => simp [DataW.trod] at h
  | succ m =>
    rw [DataW.trod_step] at h
    unfold DataW.trodStep at h
    simp only [hu.is] at h
    split at h
    · rename_i hl
      rw [hC] at hl
      simp only [Option.map_eq_some_iff, hc, Nat.mul_one] at h
      obtain ⟨xs, hx, e1⟩ := h
      have hr := mapM_range (fun c => DataW.trod enc P W 0 (fun _ => true) true m e c) cs
      rw [hl] at hr
      rw [hr] at hx
      obtain ⟨bs, hb, rfl⟩ := bytes_mapM he.is _ _ hx
      have hbl : bs.length = 32 := by rw [hb, length_bcells] at hl; exact hl
      refine ⟨⟨bs.toArray, by simpa using hbl⟩, ?_, trivial, bulk_one _⟩
      show cs = flat [hval _]
      rw [flat_single, cells_hval, hcells_eq, hb]
      simp [Vector.toList]
    · cases h⟩
theorem Opn.map {α β : Type} {f : α → List At} {Q : World → α → Prop} {z : α → Nat} (h : Opn P T f Q z) (g : α → β) {f' : β → List At} {Q' : World → β → Prop} {z' : β → Nat} (hf : ∀ a, f' (g a) = f a) (hQ : ∀ W a, Q W a → Q' W (g a)) (hz : ∀ a, z' (g a) ≤ z a) : Opn P T f' Q' z' := ⟨fun enc W fuel cs x hx => by
  obtain ⟨a, h1, h2, h3⟩ := h.op enc W fuel cs x hx
  exact ⟨g a, by rw [hf]; exact h1, hQ W a h2, Nat.le_trans (hz a) h3⟩⟩
/-! ### structs: field by field -/
/-- A field's opening, packed. -/
structure PO (P : Program) where
  T : TypeId
  α : Type
  f : α → List At
  Q : World → α → Prop
  z : α → Nat
  sz : Nat
  h : Opn P T f Q z
  hc : P.cellsOf T = sz
def Tup : List (PO P) → Type
  | [] => Unit
  | p :: ps => p.α × Tup ps
def Tup.f : (ps : List (PO P)) → Tup ps → List At
  | [], _ => []
  | p :: ps, (a, t) => p.f a ++ Tup.f ps t
def Tup.Q : (ps : List (PO P)) → World → Tup ps → Prop
  | [], _, _ => True
  | p :: ps, W, (a, t) => p.Q W a ∧ Tup.Q ps W t
def Tup.z : (ps : List (PO P)) → Tup ps → Nat
  | [], _ => 0
  | p :: ps, (a, t) => p.z a + Tup.z ps t
def offs : Nat → List (PO P) → List (TypeId × Nat)
  | _, [] => []
  | o, p :: ps => (p.T, o) :: offs (o + p.sz) ps
def total : List (PO P) → Nat
  | [] => 0
  | p :: ps => p.sz + total ps
theorem open_fields {H : Type} (enc : TypeId × Value → H) (W : World) (n : Nat) (cs : List Value) : ∀ (ps : List (PO P)) (o : Nat) (xs : List (DataW H × List MemPlace)), cs.length = o + total ps → xs.length = ps.length →
    (∀ (i : Nat) (t : TypeId) (o' : Nat), (offs o ps)[i]? = some (t, o') → DataW.trod enc P W 0 (fun _ => true) true n t ((cs.drop o').take (P.cellsOf t)) = xs[i]?) → ∃ a : Tup ps, cs.drop o = flat (vals (Tup.f ps a)) ∧ Tup.Q ps W a ∧ Tup.z ps a ≤ Rows.uptoBulkAll (xs.map (·.1))
  | [], o, xs, hl, hx, h => ⟨(), by
      have : cs.drop o = [] := List.drop_eq_nil_of_le (by simp [total] at hl; omega)
      rw [this]
      exact flat_nil.symm, trivial, Nat.zero_le _⟩
  | p :: ps, o, xs, hl, hx, h => by
    cases xs with
    | nil => simp at hx
    | cons x xs =>
      have h0 := h 0 p.T o rfl
      simp only [List.getElem?_cons_zero] at h0
      obtain ⟨a, h1, h2, h3⟩ := p.h.op enc W n _ x h0
      obtain ⟨t, q1, q2, q3⟩ := open_fields enc W n cs ps (o + p.sz) xs (by simp [total] at hl; omega) (by simpa using hx) (fun i t o' hi => by
        have := h (i + 1) t o' (by simpa [offs] using hi)
        simpa using this)
      refine ⟨(a, t), ?_, ⟨h2, q2⟩, ?_⟩
      · show cs.drop o = flat (vals (p.f a ++ Tup.f ps t))
        rw [vals_append, flat_append, ← h1, ← q1, p.hc, ← List.drop_drop]
        exact (List.take_append_drop _ _).symm
      · show p.z a + Tup.z ps t ≤ Rows.uptoBulkAll ((x :: xs).map (·.1))
        simp only [List.map_cons, Rows.uptoBulkAll]
        omega
theorem opn_struct {fs : Array Field} (ps : List (PO P)) (hu : P.underlying T = some (.struct fs)) (ho : fs.toList.map (fun f => (f.type, f.offset)) = offs 0 ps) (hc : P.cellsOf T = total ps) : Opn P T (Tup.f ps) (Tup.Q ps) (fun a => Tup.z ps a + 1) := ⟨fun enc W fuel cs x h => by
  obtain ⟨xs, n, rfl, rfl, hl, hxl, hf⟩ := DataW.trod_struct hu h
  have hlen : fs.size = ps.length := by
    have gen : ∀ (o : Nat) (ps : List (PO P)), (offs o ps).length = ps.length := by
      intro o ps
      induction ps generalizing o with
      | nil => rfl
      | cons p ps ih => simp [offs, ih]
    have := congrArg List.length ho
    rw [gen, List.length_map, Array.length_toList] at this
    exact this
  obtain ⟨a, h1, h2, h3⟩ := open_fields enc W n cs ps 0 xs (by rw [hl, hc]; omega) (by rw [hxl, hlen]) (fun i t o' hi => by
    rw [← ho, List.getElem?_map] at hi
    obtain ⟨f, hfi, he⟩ := Option.map_eq_some_iff.1 hi
    simp only [Prod.mk.injEq] at he
    obtain ⟨rfl, rfl⟩ := he
    exact hf i f (by simpa using hfi))
  refine ⟨a, by simpa using h1, h2, ?_⟩
  simp only [Rows.uptoBulk]
  omega⟩
/-! ### slices -/
structure Sl (α : Type) where
  A : Option Addr
  c : Nat
  l : List α
theorem cells_of {W : World} {a : Addr} {n : Nat} {cs : List Value} (h : W.cells? 0 a n = some cs) : CellsAt W a cs ∧ cs.length = n := by
  unfold World.cells? at h
  rw [if_pos (Nat.zero_le _)] at h
  have hl' : cs.length = n := by
    have := mapM_some_length h
    rw [List.length_range] at this
    exact this
  refine ⟨fun j u hj => ?_, hl'⟩
  have hlt := (List.getElem?_eq_some_iff.1 hj).1
  have := mapM_some_get h j j (by rw [List.getElem?_range (by omega)])
  rw [this, hj]
theorem cells_join {W : World} {a : Addr} : ∀ {vs : List (List Value)} {sz : Nat} {o : Nat}, (∀ v ∈ vs, v.length = sz) → (∀ i v, vs[i]? = some v → CellsAt W (a.add (o + i * sz)) v) → CellsAt W (a.add o) vs.flatten
  | [], _, _, _, _ => fun j u hu => by simp at hu
  | v :: vs, sz, o, hl, h => by
    have h0 := h 0 v rfl
    simp only [Nat.zero_mul, Nat.add_zero] at h0
    have ih := cells_join (W := W) (a := a) (vs := vs) (sz := sz) (o := o + sz) (fun u hu => hl u (List.mem_cons_of_mem _ hu)) (fun i u hi => by
      have := h (i + 1) u (by simpa using hi)
      rw [show o + sz + i * sz = o + (i + 1) * sz by rw [Nat.add_mul, Nat.one_mul]; omega]
      exact this)
    have hv := hl v (List.mem_cons_self ..)
    intro j u hj
    rw [List.flatten_cons] at hj
    rw [add_of_add]
    by_cases hlt : j < v.length
    · rw [List.getElem?_append_left hlt] at hj
      have := h0 j u hj
      rwa [add_of_add] at this
    · rw [List.getElem?_append_right (by omega), hv] at hj
      have := ih _ u hj
      rw [add_of_add] at this
      rwa [show o + sz + (j - sz) = o + j by omega] at this
theorem bulkAll_append {H : Type} (xs ys : List (DataW H)) : Rows.uptoBulkAll (xs ++ ys) = Rows.uptoBulkAll xs + Rows.uptoBulkAll ys := by
  induction xs with
  | nil => simp [Rows.uptoBulkAll]
  | cons x xs ih => simp only [List.cons_append, Rows.uptoBulkAll, ih]; omega
theorem opn_slice {α : Type} (E : En α) {Q : World → α → Prop} {z : α → Nat} [hu : UD P T (.slice e)] (h : Opn P e (fun x => (E.f x).ats) Q z) (id : Nat) (hc : P.cellsOf e = E.sz := by kernel_rfl) :
    Opn P T (fun s : Sl α => [.one (.sl id s.A s.l.length s.c)]) (fun W s => s.l.length ≤ s.c ∧ (Res.rd s.A E s.l).holds W ∧ ∀ x ∈ s.l, Q W x) (fun s => (s.l.map z).sum + 1) := ⟨fun enc W fuel cs x hx => by
  rcases DataW.trod_slice hu.is hx with ⟨rfl, rfl⟩ | ⟨a, len, cap, elems, rest, n, rfl, rfl, rfl, _, hlc, _, hel, hget, _, _⟩
  · refine ⟨⟨none, 0, []⟩, (flat_one (.sl id none 0 0)).symm, ⟨Nat.le_refl _, ?_, by simp⟩, by simp [Rows.uptoBulk]⟩
    unfold Res.rd Res.fact
    left
    unfold En.dens flat
    rfl
  · rw [hc] at hget
    -- element by element
    have gen : ∀ (k : Nat), k ≤ len → ∃ l : List α, l.length = k ∧ (∀ i y, l[i]? = some y → CellsAt W (a.add (i * E.sz)) (flat (vals (E.f y).ats))) ∧ (∀ y ∈ l, Q W y) ∧ (l.map z).sum ≤ Rows.uptoBulkAll ((elems.take k).map (·.1)) := by
      intro k
      induction k with
      | zero => exact fun _ => ⟨[], rfl, by simp, by simp, by simp⟩
      | succ k ih =>
        intro hk
        obtain ⟨l, h1, h2, h3, h4⟩ := ih (by omega)
        have hlt : k < elems.length := by omega
        have hg := hget k (by omega)
        rw [List.getElem?_eq_getElem hlt] at hg
        obtain ⟨cs, hcs, hy⟩ := Option.bind_eq_some_iff.1 hg
        obtain ⟨y, e1, q1, q2⟩ := h.op enc W n cs _ hy
        subst e1
        refine ⟨l ++ [y], by simp [h1], fun i u hi => ?_, fun u hu => ?_, ?_⟩
        · by_cases hil : i < l.length
          · rw [List.getElem?_append_left hil] at hi
            exact h2 i u hi
          · rw [List.getElem?_append_right (by omega)] at hi
            have : i - l.length = 0 := by
              have := (List.getElem?_eq_some_iff.1 hi).1
              simp at this
              omega
            rw [this] at hi
            simp at hi
            subst hi
            have : i = k := by omega
            subst this
            exact (cells_of hcs).1
        · rcases List.mem_append.1 hu with hu | hu
          · exact h3 u hu
          · rw [List.mem_singleton.1 hu]; exact q1
        · rw [List.take_succ_eq_append_getElem hlt, List.map_append, List.map_append, List.sum_append]
          rw [bulkAll_append]
          simp only [List.map_cons, List.map_nil, Rows.uptoBulkAll, List.sum_cons, List.sum_nil]
          omega
    obtain ⟨l, h1, h2, h3, h4⟩ := gen len (Nat.le_refl _)
    refine ⟨⟨some a, cap, l⟩, ?_, ⟨by rw [h1]; exact hlc, ?_, h3⟩, ?_⟩
    · rw [flat_one]
      show _ = [Value.slice (some a) l.length cap]
      rw [h1]
    · unfold Res.rd Res.fact
      refine .inr ⟨a, rfl, ?_⟩
      have := cells_join (W := W) (a := a) (vs := l.map fun y => flat (vals (E.f y).ats)) (sz := E.sz) (o := 0) (fun v hv => by
        obtain ⟨y, _, rfl⟩ := List.mem_map.1 hv
        rw [length_flat, szs_vals]
        exact (E.ok y).2) (fun i v hi => by
        rw [List.getElem?_map] at hi
        obtain ⟨y, hy, rfl⟩ := Option.map_eq_some_iff.1 hi
        rw [Nat.zero_add]
        exact h2 i y hy)
      rw [add_zero] at this
      have e1 : flat (E.dens l) = (l.map fun y => flat (vals (E.f y).ats)).flatten := by
        unfold En.dens
        clear h1 h2 h3 h4 this
        induction l with
        | nil => show flat [] = _; rw [flat_nil]; rfl
        | cons y l ih => rw [List.map_cons, flat_cons, ih, SV.cells_den]; rfl
      rw [e1]
      exact this
    · simp only [Rows.uptoBulk]
      rw [show elems.take len = elems by rw [← hel]; exact List.take_length] at h4
      show (l.map z).sum + 1 ≤ _
      omega⟩
/-! ### whole arguments -/
theorem opn_top {α : Type} {f : α → List At} {Q : World → α → Prop} {z : α → Nat} (h : Opn P T f Q z) (sv : α → SV) (hs : ∀ a, (sv a).ats = f a) {agg : Bool} (ha : ∀ a, (sv a).isAgg = agg) {H : Type} {enc : TypeId × Value → H} {W : World} {v : Value} {d : DataW H} {ps : List MemPlace} (hv : isAggV v = agg) (ht : DataW.Trod enc P W 0 (fun _ => true) true T v d ps) :
    ∃ a, v = (sv a).den ∧ Q W a ∧ z a ≤ Rows.uptoBulk d := by
  obtain ⟨fuel, hf⟩ := ht
  obtain ⟨a, h1, h2, h3⟩ := h.op enc W fuel _ _ hf
  refine ⟨a, ?_, h2, h3⟩
  rw [← hs, ← SV.cells_den] at h1
  have h4 := ha a
  rw [← (sv a).isAgg_den, ← hv] at h4
  generalize (sv a).den = u at h1 h4
  cases v <;> cases u <;> simp_all [Value.cells, isAggV]
theorem okw_agg {W : World} {b : Nat} {v : Value} {d : TypeDesc} (hu : P.underlying T = some d) (h : Value.okWide P W .any b T v) : isAggV v = (match d with | .struct _ | .array _ _ => true | _ => false) := by
  unfold Value.okWide at h
  rw [hu] at h
  cases d <;> simp only at h ⊢ <;> first
    | (obtain ⟨cs, rfl, _⟩ := h; rfl)
    | (unfold Cell.okWide Cell.ok at h; rw [hu] at h; cases v <;> simp_all [isAggV])
theorem St.below {w w' : World} {L : List Res} (h : St w w' No L) : Below w.heap.size w w' := ⟨h.os, h.tape, h.output, h.size, fun k hk => h.keep k hk id⟩
theorem St.noM {w w' : World} {M : Nat → Prop} {L : List Res} (h : St w w' M L) (hM : ∀ b, ¬ M b) : St w w' No L := by
  obtain rfl : M = No := funext fun b => propext ⟨fun h => (hM b h).elim, fun h => h.elim⟩
  exact h
theorem lk_all {B : Hp} {W : World} (h : ∀ p ∈ B, p.2.holds W) : ∀ i r, lk B i = some r → r.holds W := fun i r hi => by
  induction B with
  | nil => cases hi
  | cons p B ih =>
    obtain ⟨j, s⟩ := p
    rw [lk_cons] at hi
    split at hi
    · cases hi
      exact h _ (List.mem_cons_self ..)
    · exact ih (fun q hq => h q (List.mem_cons_of_mem _ hq)) hi
theorem args_below {H : Type} {enc : TypeId × Value → H} (hl : laidOutB P = true) {W W' : World} (hb : Below W.heap.size W W') : ∀ {ts : List TypeId} {vs : List Value} {ds : List (DataW H)} {ps : List MemPlace}, (ts.all fun t => P.readableRec t && decide (t < P.types.size)) = true → DataW.TrodAll enc P W 0 (fun _ => true) true ts vs ds ps → (∀ x ∈ ps, x.block < W.heap.size) →
    DataW.TrodAll enc P W' 0 (fun b => decide (b < W.heap.size)) true ts vs ds ps
  | [], vs, ds, ps, _, h, _ => by
    obtain ⟨rfl, rfl, rfl⟩ := trodAll_nil h
    exact rfl
  | t :: ts, vs, ds, ps, ht, h, hp => by
    obtain ⟨v, vs', d, ds', p, q, rfl, rfl, rfl, h1, h2⟩ := trodAll_cons h
    simp only [List.all_cons, Bool.and_eq_true, decide_eq_true_eq] at ht
    exact ⟨p, q, Below.trod hl ht.1.1 ht.1.2 h1 hb (fun x hx => hp x (List.mem_append_left _ hx)), args_below hl hb ht.2 h2 (fun x hx => hp x (List.mem_append_right _ hx)), rfl⟩
/-- The end of a law's row: it told true, what was there is as it was. -/
theorem row_post {f : Func} {s : ChangeSpec} {H : Type} {enc : TypeId × Value → H} {W W' : World} {args : Array Value} {ds gs : List (DataW H)} {before : List MemPlace} {L : List Res} {tb : TypeId} (hl : laidOutB P = true) (hv : s.vars = []) (hr : f.resultTypes = #[tb]) (hb : P.underlying tb = some .bool) (hrec : (f.params.toList.all fun t => P.readableRec t && decide (t < P.types.size)) = true)
    (hW : DataW.Whole enc P f.params.toList s.vars false W args.toList ds gs before) (hst : St W W' No L) (hs : gs = [] → (s.fn H (ds ++ gs)).results = [.lit (.bool true)] ∧ (s.fn H (ds ++ gs)).args = ds ∧ (s.fn H (ds ++ gs)).vars = []) : s.post enc P f false true false false W args (.bool true) W' := by
  have hlt := hW.lt
  obtain ⟨p, q, hA, hV, rfl, hfz, hnd⟩ := hW
  have hV' := hV
  rw [hv] at hV'
  obtain ⟨rfl, rfl⟩ := trodVars_none hV'
  obtain ⟨e1, e2, e3⟩ := hs rfl
  refine ⟨ds, [], p ++ [], [], p, [], ⟨p, [], hA, hV, rfl, hfz, hnd⟩, ?_, ?_, ?_, World.keptBut_mono (fun x hx => ⟨hx, .inr (.inl ?_)⟩) (hst.kept (· ∈ p ++ [])), fun h => by cases h⟩
  · rw [e1, hr]
    exact trodAll_mk1 (shut_bool hb true)
  · rw [e2]
    exact args_below hl hst.below hrec hA (fun x hx => hlt x (List.mem_append_left _ hx))
  · rw [e3, hv]
    exact rfl
  · simpa using hx
end
end HL
end Go.Proofs.Ytonbgcehgmpnkaa
