/- Lemmas and walks: H, R. -/
import Derived.WalkKit
import Derived.KernelRfl
import Derived.Lib.Hide
import Derived.Maps.AppendAt
import Derived.Deep.Draws
import Derived.Deep.CutBlock
import Derived.Deep.DeepCutAuto
import Derived.Deep.LoopGhost
import Derived.Deep.DeepFit
import Derived.Deep.DeepMust
import Derived.WalkSpells
import Derived.WalkLawsBesides
import Derived.DeepKeys3
import Derived.Laws.BytesString
import Derived.Orders
import Derived.OrdersHeld
import Derived.Deep.QuietTactic
import Derived.BigQuiet
/- MY OWN HEAP LIBRARY: resources (what the call owns), one rule for each operation that touches memory, maps, rows, structs, hashes, regions that draw their order. It names no program; it proves no statement by itself. -/


















set_option linter.unusedVariables false
set_option linter.unusedSimpArgs false
namespace Go.Proofs.YtfopgaijfeeioaaGreat
namespace HL
open Go Go.RowKit
def CellsAt (w : World) (ad : Addr) (cs : List Value) : Prop := ∀ j u, cs[j]? = some u → w.cell? (ad.add j) = some u
theorem add_of_add (a : Addr) (i j : Nat) : (a.add i).add j = a.add (i + j) := by
  unfold Addr.add
  by_cases hi : i = 0 <;> by_cases hj : j = 0 <;> simp [hi, hj, Nat.add_assoc]
theorem block_of_add (a : Addr) (n : Nat) : (a.add n).block = a.block := by unfold Addr.add; split <;> rfl
theorem add_lit0 (g o n : Nat) : (⟨g, o, none⟩ : Addr).add n = ⟨g, o + n, none⟩ := by unfold Addr.add; split <;> simp_all
theorem CellsAt.left {w : World} {ad : Addr} {cs ds : List Value} (h : CellsAt w ad (cs ++ ds)) : CellsAt w ad cs := fun j u hu => h j u (by
  have := (List.getElem?_eq_some_iff.1 hu).1
  rw [List.getElem?_append_left this]; exact hu)
theorem CellsAt.right {w : World} {ad : Addr} {cs ds : List Value} {n : Nat} (h : CellsAt w ad (cs ++ ds)) (hn : cs.length = n) : CellsAt w (ad.add n) ds := fun j u hu => by
  rw [add_of_add]
  exact h _ u (by rw [← hn, List.getElem?_append_right (Nat.le_add_right _ _), Nat.add_sub_cancel_left]; exact hu)
theorem CellsAt.of_heap {w w' : World} {ad : Addr} {cs : List Value} (h : CellsAt w ad cs) (hb : w'.heap[ad.block]? = w.heap[ad.block]?) : CellsAt w' ad cs := fun j u hu => by
  rw [World.cell?_of_block (w := w) (by rw [block_of_add]; exact hb)]
  exact h j u hu
theorem CellsAt.lt {w : World} {ad : Addr} {cs : List Value} (h : CellsAt w ad cs) (hn : cs ≠ []) : ad.block < w.heap.size := by
  cases cs with
  | nil => exact absurd rfl hn
  | cons c cs =>
    have := World.block_lt_of_cell? w _ (h 0 c rfl)
    rwa [block_of_add] at this
def flat (vs : List Value) : List Value := vs.flatMap fun v => v.cells.toList
theorem flat_nil : flat [] = [] := rfl
theorem flat_cons (v : Value) (vs : List Value) : flat (v :: vs) = v.cells.toList ++ flat vs := by simp [flat]
theorem flat_append (vs us : List Value) : flat (vs ++ us) = flat vs ++ flat us := by simp [flat]
theorem flat_single (v : Value) : flat [v] = v.cells.toList := by simp [flat]
def mkS (vs : List Value) : Value := .agg (flat vs).toArray
theorem cells_mkS (vs : List Value) : (mkS vs).cells.toList = flat vs := by simp [mkS, Value.cells]
@[simp] theorem sz_int (k : IntKind) (n : Int) : (Value.int k n).cells.size = 1 := rfl
@[simp] theorem sz_bool (b : Bool) : (Value.bool b).cells.size = 1 := rfl
@[simp] theorem sz_string (b : ByteArray) : (Value.string b).cells.size = 1 := rfl
@[simp] theorem sz_pointer (p : Option Addr) : (Value.pointer p).cells.size = 1 := rfl
@[simp] theorem sz_slice (p : Option Addr) (n c : Nat) : (Value.slice p n c).cells.size = 1 := rfl
@[simp] theorem sz_map (p : Option Nat) : (Value.map p).cells.size = 1 := rfl
@[simp] theorem sz_func (f : Fn) (x y : Array Value) : (Value.func f x y).cells.size = 1 := rfl
@[simp] theorem sz_nilFunc : Value.nilFunc.cells.size = 1 := rfl
@[simp] theorem sz_nilIface : Value.nilIface.cells.size = 1 := rfl
@[simp] theorem sz_iface (t : TypeId) (v : Value) : (Value.iface t v).cells.size = 1 := rfl
def szs : List Value → Nat
  | [] => 0
  | v :: vs => v.cells.size + szs vs
theorem length_flat (vs : List Value) : (flat vs).length = szs vs := by
  induction vs with
  | nil => rfl
  | cons v vs ih => rw [flat_cons, List.length_append, ih, Array.length_toList]; rfl
theorem szs_append (vs us : List Value) : szs (vs ++ us) = szs vs + szs us := by rw [← length_flat, flat_append, List.length_append, length_flat, length_flat]
theorem szs_const {vs : List Value} {n : Nat} (h : ∀ v ∈ vs, v.cells.size = n) : szs vs = vs.length * n := by
  induction vs with
  | nil => simp [szs]
  | cons v vs ih => rw [szs, h v (by simp), ih (fun u hu => h u (by simp [hu])), List.length_cons, Nat.add_mul, Nat.one_mul, Nat.add_comm]
theorem CellsAt.field {w : World} {ad : Addr} {vs : List Value} (h : CellsAt w ad (flat vs)) {i off : Nat} {v : Value} (hi : vs[i]? = some v) (ho : szs (vs.take i) = off) : CellsAt w (ad.add off) v.cells.toList := by
  obtain ⟨hlt, hv⟩ := List.getElem?_eq_some_iff.1 hi
  have e : vs = vs.take i ++ (v :: vs.drop (i + 1)) := by rw [← hv, ← List.drop_eq_getElem_cons hlt, List.take_append_drop]
  rw [e, flat_append, flat_cons] at h
  exact (h.right (by rw [length_flat]; exact ho)).left
@[simp] theorem sz_mkS (vs : List Value) : (mkS vs).cells.size = szs vs := by rw [← Array.length_toList, cells_mkS, length_flat]
theorem CellsAt.pre {w : World} {ad : Addr} {us vs : List Value} (h : CellsAt w ad (flat (us ++ vs))) : CellsAt w ad (mkS us).cells.toList := by
  rw [flat_append] at h
  rw [cells_mkS]
  exact h.left
def Ok1 (v : Value) : Prop := ∀ u ∈ v.cells.toList, u.oneCell' = true
theorem Ok1.mkS {vs : List Value} (h : ∀ v ∈ vs, Ok1 v) : Ok1 (mkS vs) := fun u hu => by
  rw [cells_mkS] at hu
  obtain ⟨v, hv, hu⟩ := List.mem_flatMap.1 hu
  exact h v hv u hu
theorem Ok1.one {v : Value} (h : v.oneCell' = true) (hc : v.cells = #[v]) : Ok1 v := fun u hu => by
  rw [hc] at hu
  simp at hu
  subst hu
  exact h
def isAggV : Value → Bool
  | .agg _ => true
  | _ => false
structure TyIs (P : Program) (T : TypeId) (agg : Bool) (sz : Nat) (z : Value) (bytes : Nat) : Prop where
  und : (P.underlying T).map (fun d => (match d with | .struct _ | .array _ _ => true | _ => false)) = some agg
  info : (P.info? T).map (fun i => (i.zero, i.size, i.bytes)) = some (some z, sz, bytes)
section
variable {P : Program} {T : TypeId} {agg : Bool} {sz bytes : Nat} {z : Value}
theorem TyIs.isAgg (h : TyIs P T agg sz z bytes) (w : World) : (isAgg T).run P w = .ok agg w := by
  obtain ⟨d, hd, he⟩ := Option.map_eq_some_iff.1 h.und
  unfold Go.isAgg
  rw [Sem.run_bind, run_underlying hd w]
  subst he
  cases d <;> rfl
theorem TyIs.size (h : TyIs P T agg sz z bytes) (w : World) : (sizeOf T).run P w = .ok sz w := by
  obtain ⟨i, hi, he⟩ := Option.map_eq_some_iff.1 h.info
  simp only [Prod.mk.injEq] at he
  simp [sizeOf, typeInfo, hi, he.2.1]
theorem TyIs.zero (h : TyIs P T agg sz z bytes) (w : World) : (zeroValue T).run P w = .ok z w := by
  obtain ⟨i, hi, he⟩ := Option.map_eq_some_iff.1 h.info
  simp only [Prod.mk.injEq] at he
  simp [zeroValue, typeInfo, hi, he.1]
structure Fits (P : Program) (T : TypeId) (v : Value) : Prop where
  ex : ∃ agg sz z bytes, TyIs P T agg sz z bytes ∧ isAggV v = agg ∧ v.cells.size = sz
theorem fits_of (h : TyIs P T agg sz z bytes) {v : Value} (ha : isAggV v = agg) (hs : v.cells.size = sz) : Fits P T v := ⟨⟨agg, sz, z, bytes, h, ha, hs⟩⟩
theorem run_loadVar {v : Value} (h : Fits P T v) {w : World} {ad : Addr} (hc : CellsAt w ad v.cells.toList) : (loadVar T ad).run P w = .ok v w := by
  obtain ⟨agg, sz, z, bytes, ht, ha, hs⟩ := h.ex
  unfold loadVar
  rw [Sem.run_bind, ht.isAgg w]
  simp only [Result.andThen_ok]
  cases agg with
  | true =>
    obtain ⟨cs, rfl⟩ : ∃ cs, v = .agg cs := by cases v <;> simp_all [isAggV]
    have hl := run_loadCells_list (P := P) w ad cs.toList hc
    have hs' : cs.toList.length = sz := by simpa [Value.cells] using hs
    rw [hs'] at hl
    simp [Sem.run_bind, ht.size w, hl]
  | false =>
    have hv : v.cells = #[v] := by cases v <;> first | rfl | simp_all [isAggV]
    rw [hv] at hc
    have h0 := hc 0 v rfl
    have e : ad.add 0 = ad := rfl
    rw [e] at h0
    simp [load, Sem.run, h0]
end
structure Res where
  fp : Nat → Prop
  holds : World → Prop
  bound : ∀ w, holds w → ∀ b, fp b → b < w.heap.size
  stable : ∀ w w', (∀ b, fp b → w'.heap[b]? = w.heap[b]?) → holds w → holds w'
theorem lt_of_heap {w : World} {g : Nat} {o : Obj} (h : w.heap[g]? = some o) : g < w.heap.size := (Array.getElem?_eq_some_iff.1 h).1
def Res.blk (g : Nat) (o : Obj) : Res := ⟨(· = g), fun w => w.heap[g]? = some o, fun w h b hb => by subst hb; exact lt_of_heap h, fun w w' h hh => (h g rfl).trans hh⟩
def Res.var (g : Nat) (e : TypeId) (vs : List Value) : Res := Res.blk g (.cells (flat vs).toArray e (0, 0))
def Res.fact (p : World → Prop) (F : Nat → Prop) (hb : ∀ w, p w → ∀ b, F b → b < w.heap.size) (hs : ∀ w w', (∀ b, F b → w'.heap[b]? = w.heap[b]?) → p w → p w') : Res := ⟨F, p, hb, hs⟩
structure St (w0 w : World) (M : Nat → Prop) (L : List Res) : Prop where
  os : w.os = w0.os
  tape : w.tape = w0.tape
  output : w.output = w0.output
  drawn : w0.drawn ≤ w.drawn
  size : w0.heap.size ≤ w.heap.size
  keep : ∀ b, b < w0.heap.size → ¬ M b → w.heap[b]? = w0.heap[b]?
  res : ∀ r ∈ L, r.holds w
  dis : L.Pairwise fun r s => ∀ b, r.fp b → ¬ s.fp b
  own : ∀ r ∈ L, ∀ b, r.fp b → M b ∨ w0.heap.size ≤ b
abbrev No : Nat → Prop := fun _ => False
section
variable {w0 w : World} {M : Nat → Prop} {L : List Res}
theorem St.same (h : St w0 w M L) {w' : World} (he : w'.heap = w.heap) (ho : w'.os = w.os) (ht : w'.tape = w.tape) (hu : w'.output = w.output) (hdr : w.drawn ≤ w'.drawn := by exact Nat.le_refl _) : St w0 w' M L :=
  ⟨ho.trans h.os, ht.trans h.tape, hu.trans h.output, Nat.le_trans h.drawn hdr, by rw [he]; exact h.size, fun b hb hm => by rw [he]; exact h.keep b hb hm,
    fun r hr => r.stable w w' (fun b _ => by rw [he]) (h.res r hr), h.dis, h.own⟩
theorem St.drew (h : St w0 w M L) : St w0 w.drew M L := h.same rfl rfl rfl rfl (Nat.le_succ _)
theorem St.get (h : St w0 w M L) {i : Nat} {r : Res} (hi : L[i]? = some r) : r.holds w := h.res r (List.mem_of_getElem? hi)
theorem St.new (h : St w0 w M L) {w' : World} (ho : w'.os = w.os) (ht : w'.tape = w.tape) (hu : w'.output = w.output) (hs : w.heap.size ≤ w'.heap.size) (hk : ∀ b, b < w.heap.size → w'.heap[b]? = w.heap[b]?)
    {r : Res} (hr : r.holds w') (hf : ∀ b, r.fp b → w.heap.size ≤ b) (hdr : w.drawn ≤ w'.drawn := by exact Nat.le_refl _) : St w0 w' M (r :: L) :=
  ⟨ho.trans h.os, ht.trans h.tape, hu.trans h.output, Nat.le_trans h.drawn hdr, Nat.le_trans h.size hs, fun b hb hm => (hk b (Nat.lt_of_lt_of_le hb h.size)).trans (h.keep b hb hm),
    fun s hs' => by
      rcases List.mem_cons.1 hs' with rfl | hs'
      · exact hr
      · exact s.stable w w' (fun b hb => hk b (s.bound w (h.res s hs') b hb)) (h.res s hs'),
    List.pairwise_cons.2 ⟨fun s hs' b hb hb' => Nat.lt_irrefl _ (Nat.lt_of_lt_of_le (s.bound w (h.res s hs') b hb') (hf b hb)), h.dis⟩,
    fun s hs' b hb => by
      rcases List.mem_cons.1 hs' with rfl | hs'
      · exact .inr (Nat.le_trans h.size (hf b hb))
      · exact h.own s hs' b hb⟩
theorem St.alloc (h : St w0 w M L) (o : Obj) : St w0 (w.alloc o) M (Res.blk w.heap.size o :: L) :=
  h.new (w' := w.alloc o) (r := Res.blk w.heap.size o) rfl rfl rfl (by simp) (fun b hb => Below.heap_alloc w o b hb) (heap_alloc_new w o) (fun b hb => Nat.le_of_eq (show b = w.heap.size from hb).symm)
theorem St.turn (h : St w0 w M L) {i : Nat} {r r' : Res} (hi : L[i]? = some r) {w' : World} (ho : w'.os = w.os) (ht : w'.tape = w.tape) (hu : w'.output = w.output) (hs : w.heap.size ≤ w'.heap.size)
    (hk : ∀ b, b < w.heap.size → ¬ r.fp b → w'.heap[b]? = w.heap[b]?) (hr : r'.holds w') (hf : ∀ b, r'.fp b → r.fp b ∨ w.heap.size ≤ b) (hdr : w.drawn ≤ w'.drawn := by exact Nat.le_refl _) : St w0 w' M (L.set i r') := by
  obtain ⟨hlt, hri⟩ := List.getElem?_eq_some_iff.1 hi
  have other : ∀ j s, L[j]? = some s → j ≠ i → ∀ b, s.fp b → ¬ r.fp b := by
    intro j s hj hne b hb hb'
    obtain ⟨hjl, hjs⟩ := List.getElem?_eq_some_iff.1 hj
    have hp := List.pairwise_iff_getElem.1 h.dis
    rcases Nat.lt_or_gt_of_ne hne with hlt' | hgt
    · exact hp j i hjl hlt hlt' b (by rw [hjs]; exact hb) (by rw [hri]; exact hb')
    · exact hp i j hlt hjl hgt b (by rw [hri]; exact hb') (by rw [hjs]; exact hb)
  refine ⟨ho.trans h.os, ht.trans h.tape, hu.trans h.output, Nat.le_trans h.drawn hdr, Nat.le_trans h.size hs, fun b hb hm => ?_, fun s hs' => ?_, ?_, fun s hs' b hb => ?_⟩
  · refine (hk b (Nat.lt_of_lt_of_le hb h.size) (fun hb' => ?_)).trans (h.keep b hb hm)
    rcases h.own r (List.mem_of_getElem? hi) b hb' with hm' | hge
    · exact hm hm'
    · omega
  · obtain ⟨j, hj⟩ := List.mem_iff_getElem?.1 hs'
    by_cases hji : j = i
    · subst hji
      rw [List.getElem?_set_self hlt] at hj
      injection hj with hj
      subst hj
      exact hr
    · rw [List.getElem?_set_ne (Ne.symm hji)] at hj
      have hsm := List.mem_of_getElem? hj
      exact s.stable w w' (fun b hb => hk b (s.bound w (h.res s hsm) b hb) (other j s hj hji b hb)) (h.res s hsm)
  · rw [List.pairwise_iff_getElem]
    intro a b ha0 hb0 hab c hc hc'
    have ha : a < L.length := by simpa using ha0
    have hb : b < L.length := by simpa using hb0
    have hp := List.pairwise_iff_getElem.1 h.dis a b ha hb hab c
    by_cases hai : a = i
    · subst hai
      rw [List.getElem_set_self] at hc
      rw [List.getElem_set_ne (by omega)] at hc'
      rcases hf c hc with h1 | h1
      · exact other b _ (List.getElem?_eq_getElem hb) (by omega) c hc' h1
      · have := (L[b]).bound w (h.res _ (List.getElem_mem hb)) c hc'
        omega
    · rw [List.getElem_set_ne (Ne.symm hai)] at hc
      by_cases hbi : b = i
      · subst hbi
        rw [List.getElem_set_self] at hc'
        rcases hf c hc' with h1 | h1
        · exact other a _ (List.getElem?_eq_getElem ha) hai c hc h1
        · have := (L[a]).bound w (h.res _ (List.getElem_mem ha)) c hc
          omega
      · rw [List.getElem_set_ne (Ne.symm hbi)] at hc'
        exact hp hc hc'
  · obtain ⟨j, hj⟩ := List.mem_iff_getElem?.1 hs'
    by_cases hji : j = i
    · subst hji
      rw [List.getElem?_set_self hlt] at hj
      injection hj with hj
      subst hj
      rcases hf b hb with h1 | h1
      · exact h.own r (List.mem_of_getElem? hi) b h1
      · exact .inr (Nat.le_trans h.size h1)
    · rw [List.getElem?_set_ne (Ne.symm hji)] at hj
      exact h.own s (List.mem_of_getElem? hj) b hb
theorem St.sub {L' : List Res} (h : St w0 w M L) (hs : L'.Sublist L) : St w0 w M L' :=
  ⟨h.os, h.tape, h.output, h.drawn, h.size, h.keep, fun r hr => h.res r (hs.subset hr), h.dis.sublist hs, fun r hr => h.own r (hs.subset hr)⟩
theorem St.drop (h : St w0 w M L) (i : Nat) : St w0 w M (L.eraseIdx i) := h.sub (List.eraseIdx_sublist L i)
theorem St.perm {L' : List Res} (h : St w0 w M L) (hp : L.Perm L') : St w0 w M L' :=
  ⟨h.os, h.tape, h.output, h.drawn, h.size, h.keep, fun r hr => h.res r (hp.mem_iff.2 hr), (hp.pairwise_iff (fun {a b} hab c hc hc' => hab c hc' hc)).1 h.dis, fun r hr => h.own r (hp.mem_iff.2 hr)⟩
theorem St.call {w' : World} {L2 : List Res} (h : St w0 w M L) (h2 : St w w' No L2) : St w0 w' M (L2 ++ L) :=
  ⟨h2.os.trans h.os, h2.tape.trans h.tape, h2.output.trans h.output, Nat.le_trans h.drawn h2.drawn, Nat.le_trans h.size h2.size,
    fun b hb hm => (h2.keep b (Nat.lt_of_lt_of_le hb h.size) id).trans (h.keep b hb hm),
    fun r hr => by
      rcases List.mem_append.1 hr with hr | hr
      · exact h2.res r hr
      · exact r.stable w w' (fun b hb => h2.keep b (r.bound w (h.res r hr) b hb) id) (h.res r hr),
    List.pairwise_append.2 ⟨h2.dis, h.dis, fun r hr s hs b hb hb' => by
      have h1 := (h2.own r hr b hb).resolve_left id
      have h3 := s.bound w (h.res s hs) b hb'
      omega⟩,
    fun r hr b hb => by
      rcases List.mem_append.1 hr with hr | hr
      · exact .inr (Nat.le_trans h.size ((h2.own r hr b hb).resolve_left id))
      · exact h.own r hr b hb⟩
theorem St.startL {w : World} {L : List Res} (h : ∀ r ∈ L, r.holds w) (hd : L.Pairwise fun r s => ∀ b, r.fp b → ¬ s.fp b) : St w w (fun b => ∃ r ∈ L, r.fp b) L :=
  ⟨rfl, rfl, rfl, Nat.le_refl _, Nat.le_refl _, fun _ _ _ => rfl, h, hd, fun r hr b hb => .inl ⟨r, hr, hb⟩⟩
theorem St.callN {w' : World} {Lc : List Res} {M2 : Nat → Prop} {L2 : List Res} (h : St w0 w M (Lc ++ L)) (h2 : St w w' M2 L2) (hM : ∀ b, M2 b → ∃ r ∈ Lc, r.fp b) : St w0 w' M (L2 ++ L) := by
  obtain ⟨hd1, hd2, hd3⟩ := List.pairwise_append.1 h.dis
  have no : ∀ s ∈ L, ∀ b, s.fp b → ¬ M2 b := fun s hs b hb hm => by
    obtain ⟨r, hr, hrb⟩ := hM b hm
    exact hd3 r hr s hs b hrb hb
  refine ⟨h2.os.trans h.os, h2.tape.trans h.tape, h2.output.trans h.output, Nat.le_trans h.drawn h2.drawn, Nat.le_trans h.size h2.size, fun b hb hm => ?_, fun s hs => ?_, List.pairwise_append.2 ⟨h2.dis, hd2, fun r' hr s hs b hb hb' => ?_⟩, fun s hs b hb => ?_⟩
  · refine (h2.keep b (Nat.lt_of_lt_of_le hb h.size) (fun hb' => ?_)).trans (h.keep b hb hm)
    obtain ⟨r, hr, hrb⟩ := hM b hb'
    rcases h.own r (List.mem_append_left _ hr) b hrb with h1 | h1
    · exact hm h1
    · omega
  · rcases List.mem_append.1 hs with hs | hs
    · exact h2.res s hs
    · have hss : s ∈ Lc ++ L := List.mem_append_right _ hs
      exact s.stable w w' (fun b hb => h2.keep b (s.bound w (h.res s hss) b hb) (no s hs b hb)) (h.res s hss)
  · rcases h2.own r' hr b hb with h1 | h1
    · exact no s hs b hb' h1
    · have h3 := s.bound w (h.res s (List.mem_append_right _ hs)) b hb'
      omega
  · rcases List.mem_append.1 hs with hs | hs
    · rcases h2.own s hs b hb with h1 | h1
      · obtain ⟨r, hr, hrb⟩ := hM b h1
        exact h.own r (List.mem_append_left _ hr) b hrb
      · exact .inr (Nat.le_trans h.size h1)
    · exact h.own s (List.mem_append_right _ hs) b hb
theorem St.cells (h : St w0 w M L) {ad : Addr} {cs : List Value} (hc : CellsAt w0 ad cs) (hm : ¬ M ad.block) : CellsAt w ad cs := by
  by_cases hn : cs = []
  · subst hn
    intro j u hu
    simp at hu
  · exact hc.of_heap (h.keep _ (hc.lt hn) hm)
theorem blk_cells {g : Nat} {cs : Array Value} {e : TypeId} {fr : Nat × Nat} (h : w.heap[g]? = some (.cells cs e fr)) : CellsAt w ⟨g, 0, none⟩ cs.toList := fun j u hu => by
  rw [add_lit0, Nat.zero_add, cell_of_row w g j cs e fr h]
  simpa using hu
theorem St.var_cells (h : St w0 w M L) {i g : Nat} {e : TypeId} {vs : List Value} (hi : L[i]? = some (Res.var g e vs)) : CellsAt w ⟨g, 0, none⟩ (flat vs) := by
  have := blk_cells (h.get hi)
  simpa using this
end
end HL
end Go.Proofs.YtfopgaijfeeioaaGreat
set_option linter.unusedVariables false
set_option linter.unusedSimpArgs false
namespace Go.Proofs.YtfopgaijfeeioaaGreat
namespace HL
open Go Go.RowKit
section
variable {P : Program} {ops : Array Oper} {Q : Exit → Act → World → Prop} {a : Act} {w : World} {rest : List Oper} {o : Oper} {G : Prop} {K : Act → World → Prop}
structure Ctx (P : Program) (o : Oper) (a : Act) (w : World) (Q : Exit → Act → World → Prop) (G : Prop) (K : Act → World → Prop) : Prop where
  go : o.wp P a w K Q → G
theorem Ctx.self : Ctx P o a w Q (o.wp P a w K Q) K := ⟨id⟩
theorem run_ctx {v : Value} {w' : World} (cx : Ctx P o a w Q G K) (hr : (execOp a.eval o).run P w = .ok (.value v) w') (h : K (a.put o.dst v) w') : G := by
  refine cx.go ?_
  unfold Oper.wp
  rw [hr]
  exact h
variable {w0 : World} {M : Nat → Prop} {L : List Res}
theorem o_alloc {T : TypeId} {agg : Bool} {sz bytes : Nat} {z : Value} (hT : TyIs P T agg sz z bytes) (ho : o.op = .alloc T) (cx : Ctx P o a w Q G K) (hst : St w0 w M L)
    (h : ∀ w' g, St w0 w' M (Res.var g T [z] :: L) → K (a.put o.dst (.pointer (some ⟨g, 0, none⟩))) w') : G := by
  refine run_ctx (v := .pointer (some ⟨w.heap.size, 0, none⟩)) (w' := w.alloc (.cells z.cells T)) cx ?_ (h _ _ ?_)
  · unfold execOp
    simp [ho, Instr.alloc, Sem.run_bind, hT.zero w, newVar, newRow, newObj, Sem.run]
  · have := hst.alloc (.cells z.cells T)
    unfold Res.var
    rw [flat_single]
    simpa using this
theorem take_drop_set {α : Type} (A B B' C : List α) (hb : B'.length = B.length) : (A ++ B ++ C).take A.length ++ B' ++ (A ++ B ++ C).drop (A.length + B'.length) = A ++ B' ++ C := by
  rw [List.append_assoc A B C, List.take_left, hb, ← List.drop_drop, List.drop_left, List.drop_left]
theorem flat_set {vs : List Value} {k : Nat} {u v : Value} (hk : vs[k]? = some u) : flat vs = flat (vs.take k) ++ u.cells.toList ++ flat (vs.drop (k + 1)) ∧ flat (vs.set k v) = flat (vs.take k) ++ v.cells.toList ++ flat (vs.drop (k + 1)) := by
  obtain ⟨hlt, hu⟩ := List.getElem?_eq_some_iff.1 hk
  constructor
  · have e : vs = vs.take k ++ (u :: vs.drop (k + 1)) := by rw [← hu, ← List.drop_eq_getElem_cons hlt, List.take_append_drop]
    conv => lhs; rw [e]
    rw [flat_append, flat_cons, List.append_assoc]
  · rw [List.set_eq_take_append_cons_drop, if_pos hlt, flat_append, flat_cons, List.append_assoc]
theorem run_storeVar {T : TypeId} {v : Value} (hf : Fits P T v) (h1 : Ok1 v) {g off k : Nat} {e : TypeId} {vs : List Value} {u : Value} (hb : w.heap[g]? = some (.cells (flat vs).toArray e (0, 0))) (hk : vs[k]? = some u) (ho : szs (vs.take k) = off) (hs : v.cells.size = u.cells.size) :
    (storeVar T ⟨g, off, none⟩ v).run P w = .ok () (w.setRow g (flat (vs.set k v)).toArray) := by
  obtain ⟨agg, sz, z, bytes, ht, ha, hsz⟩ := hf.ex
  obtain ⟨e1, e2⟩ := flat_set (v := v) hk
  have hlen : (flat (vs.take k)).length = off := by rw [length_flat]; exact ho
  have hst := run_storeCells_at P g off e v.cells.toList 0 (flat vs).toArray w hb (by
    rw [List.size_toArray, e1, List.length_append, List.length_append, hlen, Array.length_toList, Array.length_toList, hs]; omega) h1
  simp only [Nat.add_zero] at hst
  have hcond : ¬ v.cells.size ≠ sz := by simpa using hsz
  simp only [storeVar, Sem.run_bind, ht.size w, Result.andThen_ok, hcond, if_false]
  rw [hst]
  congr 2
  rw [e1, e2, ← hlen]
  exact congrArg _ (take_drop_set _ _ _ _ (by simpa using hs))
def fieldFact (P : Program) (T : TypeId) (k : Nat) : Option Nat :=
  match P.underlying T with
  | some (.struct fs) =>
    match fs[k]? with
    | some f => match P.info? f.type with
      | some i => if i.size = 0 then none else some f.offset
      | none => none
    | none => none
  | _ => none
theorem run_fieldAt {T : TypeId} {k off : Nat} (hf : fieldFact P T k = some off) (g o : Nat) (w : World) : (Instr.fieldAt T (.pointer (some ⟨g, o, none⟩)) k).run P w = .ok (.pointer (some ⟨g, o + off, none⟩)) w := by
  unfold fieldFact at hf
  split at hf
  · rename_i fs hu
    split at hf
    · rename_i f hk
      split at hf
      · rename_i i hi
        split at hf
        · cases hf
        · rename_i hne
          injection hf with hf
          subst hf
          simp [Instr.fieldAt, run_underlying hu, hk, Instr.sureAddr, fieldPlace, sizeOf, typeInfo, hi, hne, add_lit0]
      · cases hf
    · cases hf
  · cases hf
theorem run_fieldAt' {T : TypeId} {k off : Nat} (hf : fieldFact P T k = some off) (ad : Addr) (w : World) : (Instr.fieldAt T (.pointer (some ad)) k).run P w = .ok (.pointer (some (ad.add off))) w := by
  unfold fieldFact at hf
  split at hf
  · rename_i fs hu
    split at hf
    · rename_i f hk
      split at hf
      · rename_i i hi
        split at hf
        · cases hf
        · rename_i hne
          injection hf with hf
          subst hf
          simp [Instr.fieldAt, run_underlying hu, hk, Instr.sureAddr, fieldPlace, sizeOf, typeInfo, hi, hne]
      · cases hf
    · cases hf
  · cases hf
theorem CellsAt.elem {w : World} {ad : Addr} {vs : List Value} {sz i : Nat} {v : Value} (h : CellsAt w ad (flat vs)) (hs : ∀ v ∈ vs, v.cells.size = sz) (hi : vs[i]? = some v) : CellsAt w (ad.add (i * sz)) v.cells.toList := by
  refine h.field hi ?_
  rw [szs_const (n := sz) (fun u hu => hs u (List.mem_of_mem_take hu)), List.length_take]
  have := (List.getElem?_eq_some_iff.1 hi).1
  rw [Nat.min_eq_left (by omega)]
end
end HL
end Go.Proofs.YtfopgaijfeeioaaGreat
set_option linter.unusedVariables false
set_option linter.unusedSimpArgs false
set_option linter.unusedSectionVars false
namespace Go.Proofs.YtfopgaijfeeioaaGreat
namespace HL
open Go Go.RowKit
structure EqTy (P : Program) (T : TypeId) {α : Type} [DecidableEq α] (enc : α → Value) (n : Nat) : Prop where
  eq : ∀ d, n ≤ d → ∀ (x y : α) (w : World), (Op.equalIn d T (enc x) (enc y)).run P w = .ok (decide (x = y)) w
  chk : ∀ d, n ≤ d → ∀ (em : Bool) (x : α) (w : World), (Instr.checkKey em d T (enc x)).run P w = .ok () w
section
variable {P : Program} {T : TypeId}
theorem eqTy_int {k : IntKind} (hu : P.underlying T = some (.int k)) : EqTy P T (Value.int k) 1 where
  eq d hd x y w := by
    obtain ⟨d, rfl⟩ : ∃ m, d = m + 1 := ⟨d - 1, by omega⟩
    rw [run_equalIn_int w d T k k x y hu]
    rfl
  chk d hd em x w := by
    obtain ⟨d, rfl⟩ : ∃ m, d = m + 1 := ⟨d - 1, by omega⟩
    simp [Instr.checkKey, run_underlying hu]
instance : DecidableEq ByteArray := fun a b => decidable_of_iff (a.data = b.data) ⟨fun h => by cases a; cases b; simp_all, fun h => by rw [h]⟩
end
abbrev Hash := Vector UInt8 32
def hcells (h : Hash) : List Value := h.toList.map fun b => .int .u8 b.toNat
def hval (h : Hash) : Value := .agg (hcells h).toArray
def hz : Hash := Vector.replicate 32 0
theorem length_hcells (h : Hash) : (hcells h).length = 32 := by simp [hcells]
@[simp] theorem cells_hval (h : Hash) : (hval h).cells.toList = hcells h := by simp [hval, Value.cells]
@[simp] theorem size_hval (h : Hash) : (hval h).cells.size = 32 := by rw [← Array.length_toList, cells_hval, length_hcells]
theorem ok1_hval (h : Hash) : Ok1 (hval h) := fun u hu => by
  rw [cells_hval] at hu
  obtain ⟨b, _, rfl⟩ := List.mem_map.1 hu
  rfl
theorem hcells_get (h : Hash) (i : Nat) (hi : i < 32) : (hcells h)[i]? = some (.int .u8 (h[i]'hi).toNat) := by
  unfold hcells
  rw [List.getElem?_map, List.getElem?_eq_getElem (by simpa using hi)]
  simp
section
variable {P : Program} {T e : TypeId} {z : Value}
theorem part_int (he : TyIs P e false 1 z 1) (cs : List Value) (i : Nat) (v : Value) (hv : cs[i]? = some v) (w : World) : (part e cs.toArray i).run P w = .ok v w := by
  unfold part
  rw [Sem.run_bind, he.isAgg w]
  simp [hv]
theorem run_eqItems_hash (hu : P.underlying e = some (.int .u8)) (he : TyIs P e false 1 z 1) (a b : Hash) (d : Nat) (w : World) : ∀ (is : List Nat), (∀ i ∈ is, i < 32) →
    (Op.eqItems (d + 1) e 1 (hcells a).toArray (hcells b).toArray is).run P w = .ok (is.all fun i => (a.toList.getD i 0 == b.toList.getD i 0)) w
  | [], _ => by simp [Op.eqItems]
  | i :: is, h => by
    have hi := h i (by simp)
    have ih := run_eqItems_hash hu he a b d w is (fun j hj => h j (by simp [hj]))
    simp only [Op.eqItems, Sem.run_bind, Nat.mul_one, part_int he _ i _ (hcells_get a i hi) w, part_int he _ i _ (hcells_get b i hi) w, Result.andThen_ok, run_equalIn_int w d e .u8 .u8 _ _ hu]
    have e1 : ((((a[i]'hi).toNat : Int) == ((b[i]'hi).toNat : Int))) = (a.toList.getD i 0 == b.toList.getD i 0) := by
      have ea : a.toList.getD i 0 = a[i]'hi := by simp [List.getD_eq_getElem?_getD, hi]
      have eb : b.toList.getD i 0 = b[i]'hi := by simp [List.getD_eq_getElem?_getD, hi]
      rw [ea, eb, Bool.eq_iff_iff, beq_iff_eq, beq_iff_eq]
      exact ⟨fun h => UInt8.toNat_inj.1 (by omega), fun h => by rw [h]⟩
    rw [e1]
    cases h0 : (a.toList.getD i 0 == b.toList.getD i 0)
    · simp only [List.all_cons, h0, Bool.false_and, Bool.not_false, if_true, Sem.run_pure]
    · simp only [List.all_cons, h0, Bool.true_and, Bool.not_true, Bool.false_eq_true, if_false]
      exact ih
theorem hash_all_eq (a b : Hash) : ((List.range 32).all fun i => (a.toList.getD i 0 == b.toList.getD i 0)) = decide (a = b) := by
  rw [Bool.eq_iff_iff, List.all_eq_true, decide_eq_true_eq]
  constructor
  · intro h
    apply Vector.toList_inj.1
    apply List.ext_getElem
    · simp
    · intro i h1 h2
      have := h i (by simpa using h1)
      simpa [List.getD_eq_getElem?_getD, List.getElem?_eq_getElem h1, List.getElem?_eq_getElem h2] using this
  · intro h
    subst h
    simp
theorem eqTy_hash (hT : P.underlying T = some (.array 32 e)) (hu : P.underlying e = some (.int .u8)) (he : TyIs P e false 1 z 1) : EqTy P T hval 2 where
  eq d hd x y w := by
    obtain ⟨d, rfl⟩ : ∃ m, d = m + 2 := ⟨d - 2, by omega⟩
    obtain ⟨i, hi, hi2⟩ := Option.map_eq_some_iff.1 he.info
    simp only [Prod.mk.injEq] at hi2
    have hc : P.cellsOf e = 1 := by simp [Program.cellsOf, hi, hi2.2.1]
    have := run_equalIn_array (P := P) w (d + 1) (hcells x).toArray (hcells y).toArray hT hi
    rw [hc, run_eqItems_hash hu he x y d w (List.range 32) (by simp)] at this
    rw [hash_all_eq] at this
    exact this
  chk d hd em x w := by
    obtain ⟨d, rfl⟩ : ∃ m, d = m + 2 := ⟨d - 2, by omega⟩
    unfold hval
    rw [show d + 2 = (d + 1) + 1 from rfl, Instr.checkKey]
    simp only [Sem.run_bind, run_underlying hT, Result.andThen_ok]
    simp only [Std.Legacy.Range.forIn_eq_forIn_range', Std.Legacy.Range.size, Nat.sub_zero, Nat.add_one_sub_one, Nat.div_one]
    have hall : ∀ i ∈ List.range' 0 32, i < 32 := by simp
    generalize List.range' 0 32 = is at hall
    induction is with
    | nil => simp
    | cons j is ih =>
      have p1 := part_int he _ j _ (hcells_get x j (hall j (by simp))) w
      have p2 := (eqTy_int (P := P) hu).chk (d + 1) (by omega) em (((x[j]'(hall j (by simp))).toNat : Nat) : Int) w
      simp only [List.forIn_cons, Sem.run_bind, he.size w, Result.andThen_ok, Nat.mul_one, p1, p2, Sem.run_pure]
      exact ih (fun y hy => hall y (by simp [hy]))
end
section
variable {κ ν : Type}
def ment (kenc : κ → Value) (venc : ν → Value) (x : κ × ν × Nat) : MapEntry := { key := kenc x.1, val := venc x.2.1, born := x.2.2 }
def mobj (kenc : κ → Value) (venc : ν → Value) (l : List (κ × ν × Nat)) (c : Nat) : Obj := .map (l.map (ment kenc venc)).toArray c
def Res.map (g : Nat) (kenc : κ → Value) (venc : ν → Value) (l : List (κ × ν × Nat)) (c : Nat) : Res := Res.blk g (mobj kenc venc l c)
variable [DecidableEq κ]
def mlook (l : List (κ × ν × Nat)) (k : κ) : Option ν := (l.find? fun x => x.1 = k).map (·.2.1)
def mhas (l : List (κ × ν × Nat)) (k : κ) : Bool := (mlook l k).isSome
def mset : List (κ × ν × Nat) → κ → ν → List (κ × ν × Nat)
  | [], _, _ => []
  | x :: l, k, v => if x.1 = k then (x.1, v, x.2.2) :: l else x :: mset l k v
def mput (l : List (κ × ν × Nat)) (c : Nat) (k : κ) (v : ν) : List (κ × ν × Nat) := if mhas l k then mset l k v else l ++ [(k, v, c)]
def mclk (l : List (κ × ν × Nat)) (c : Nat) (k : κ) : Nat := if mhas l k then c else c + 1
variable {P : Program} {kt : TypeId} {kenc : κ → Value} {venc : ν → Value} {n : Nat}
structure KeyTy (P : Program) (kt : TypeId) (kenc : κ → Value) (n : Nat) : Prop where
  eq : EqTy P kt kenc n
  le : n ≤ 10000
  wide : ∃ d, P.underlying kt = some d ∧ (match d with | .struct _ | .array _ _ => true | _ => false) = true
  same : ∀ x, Instr.sameBits 10000 (kenc x) (kenc x) = true
theorem run_findAsking (H : KeyTy P kt kenc n) (k : κ) (w : World) : ∀ (l : List (κ × ν × Nat)) (i : Nat),
    (Instr.findAsking kt (kenc k) (l.map (ment kenc venc)) i).run P w = .ok ((l.findIdx? (fun x => x.1 = k)).bind fun j => (l[j]?).map fun x => (i + j, venc x.2.1)) w
  | [], i => by simp [Instr.findAsking]
  | x :: l, i => by
    have h1 := H.eq.eq Op.maxDepth (by have := H.le; simp only [Op.maxDepth]; omega) k x.1 w
    have ih := run_findAsking H k w l (i + 1)
    simp only [List.map_cons, Instr.findAsking, Sem.run_bind, ment, Op.equal, h1, Result.andThen_ok]
    by_cases e : x.1 = k
    · simp [e, List.findIdx?_cons]
    · have e' : ¬ k = x.1 := fun h => e h.symm
      simp only [decide_eq_true_eq, e', if_false, List.findIdx?_cons, e, decide_false, Bool.false_eq_true]
      rw [ih]
      cases hf : l.findIdx? (fun x => decide (x.1 = k)) <;> simp [Nat.add_assoc, Nat.add_comm 1]
theorem run_findKey (H : KeyTy P kt kenc n) (k : κ) (w : World) (l : List (κ × ν × Nat)) :
    (Instr.findKey kt (kenc k) (l.map (ment kenc venc))).run P w = .ok ((l.findIdx? (fun x => x.1 = k)).bind fun j => (l[j]?).map fun x => (j, venc x.2.1)) w := by
  obtain ⟨d, hd, hw⟩ := H.wide
  unfold Instr.findKey
  rw [Sem.run_bind, run_underlying hd w]
  simp only [Result.andThen_ok]
  cases l with
  | nil => simp [Instr.findNow]
  | cons x l =>
    have : Instr.findNow d (kenc k) (List.map (ment kenc venc) (x :: l)) 0 = none := by
      cases d <;> simp_all [Instr.findNow, Instr.sameNow]
    rw [this]
    have := run_findAsking (venc := venc) H k w (x :: l) 0
    simpa using this
theorem mlook_idx (l : List (κ × ν × Nat)) (k : κ) : mlook l k = (l.findIdx? (fun x => x.1 = k)).bind fun j => (l[j]?).map fun x => x.2.1 := by
  unfold mlook
  induction l with
  | nil => rfl
  | cons x l ih =>
    by_cases e : x.1 = k
    · simp [e, List.findIdx?_cons]
    · simp only [List.find?_cons, e, decide_false, List.findIdx?_cons, Bool.false_eq_true, if_false]
      rw [ih]
      cases hf : l.findIdx? (fun x => decide (x.1 = k)) <;> simp
theorem idx_none {l : List (κ × ν × Nat)} {k : κ} (h : mlook l k = none) : l.findIdx? (fun x => x.1 = k) = none := by
  cases hf : l.findIdx? (fun x => decide (x.1 = k)) with
  | none => rfl
  | some j =>
    rw [mlook_idx, hf] at h
    have hj : j < l.length := (List.findIdx?_eq_some_iff_getElem.1 hf).1
    simp [List.getElem?_eq_getElem hj] at h
theorem idx_some {l : List (κ × ν × Nat)} {k : κ} {v : ν} (h : mlook l k = some v) : ∃ (j : Nat) (b : Nat), l.findIdx? (fun x => x.1 = k) = some j ∧ l[j]? = some (k, v, b) := by
  cases hf : l.findIdx? (fun x => decide (x.1 = k)) with
  | none => rw [mlook_idx, hf] at h; cases h
  | some j =>
    rw [mlook_idx, hf] at h
    obtain ⟨hj, hp, _⟩ := List.findIdx?_eq_some_iff_getElem.1 hf
    simp only [Option.bind_some, List.getElem?_eq_getElem hj, Option.map_some, Option.some.injEq] at h
    refine ⟨j, (l[j]).2.2, rfl, ?_⟩
    rw [List.getElem?_eq_getElem hj]
    have : (l[j]).1 = k := by simpa using hp
    rw [← h, ← this]
theorem mset_at {l : List (κ × ν × Nat)} {k : κ} {j : Nat} (v : ν) (h : l.findIdx? (fun x => x.1 = k) = some j) : ∀ {u b}, l[j]? = some (k, u, b) → mset l k v = l.set j (k, v, b) := by
  induction l generalizing j with
  | nil => simp at h
  | cons x l ih =>
    intro u b hx
    by_cases e : x.1 = k
    · simp [List.findIdx?_cons, e] at h
      subst h
      simp at hx
      simp [mset, hx]
    · simp only [List.findIdx?_cons, e, decide_false, Bool.false_eq_true, if_false] at h
      obtain ⟨j', hj', rfl⟩ := Option.map_eq_some_iff.1 h
      simp [mset, e, ih hj' (by simpa using hx)]
variable {w : World} {g c : Nat} {l : List (κ × ν × Nat)} {T et : TypeId}
theorem modify_set {α : Type} (l : List α) (j : Nat) (f : α → α) (x : α) (h : l[j]? = some x) : l.toArray.modify j f = (l.set j (f x)).toArray := by
  apply Array.ext_getElem?
  intro i
  rw [Array.getElem?_modify]
  simp only [List.getElem?_toArray]
  by_cases e : j = i
  · subst e
    have hlt := (List.getElem?_eq_some_iff.1 h).1
    simp [h, List.getElem?_set_self hlt]
  · simp [e, List.getElem?_set_ne e]
end
end HL
end Go.Proofs.YtfopgaijfeeioaaGreat
set_option linter.unusedVariables false
set_option linter.unusedSimpArgs false
set_option linter.unusedSectionVars false
namespace Go.Proofs.YtfopgaijfeeioaaGreat
namespace HL
open Go Go.RowKit
def seg (w : World) (e : TypeId) (sz : Nat) (A : Option Addr) (n c : Nat) (xs : List Value) : Prop :=
  xs.length = n * sz ∧ n ≤ c ∧ c ≤ maxLen ∧ ((A = none ∧ n = 0 ∧ c = 0) ∨
    ∃ g off pre post, A = some ⟨g, off, none⟩ ∧ w.heap[g]? = some (.cells (pre ++ xs ++ post).toArray e (0, 0)) ∧ pre.length = off ∧ c * sz ≤ (xs ++ post).length)
def obl (A : Option Addr) : Option Nat := A.map (·.block)
def Res.row (A : Option Addr) (n c : Nat) (e : TypeId) (sz : Nat) (xs : List Value) : Res := ⟨fun b => obl A = some b, fun w => seg w e sz A n c xs,
  fun w h b hb => by
    obtain ⟨_, _, _, h⟩ := h
    rcases h with ⟨rfl, _⟩ | ⟨g, off, pre, post, rfl, h1, _⟩
    · simp [obl] at hb
    · simp [obl] at hb
      subst hb
      exact lt_of_heap h1,
  fun w w' h hh => by
    obtain ⟨h1, h2, h3, hh⟩ := hh
    refine ⟨h1, h2, h3, ?_⟩
    rcases hh with h0 | ⟨g, off, pre, post, rfl, h1, h2⟩
    · exact .inl h0
    · exact .inr ⟨g, off, pre, post, rfl, by rw [h g (by simp [obl])]; exact h1, h2⟩⟩
theorem seg_nil (w : World) (e : TypeId) (sz : Nat) : seg w e sz none 0 0 [] := ⟨by simp, Nat.le_refl _, by simp [maxLen], .inl ⟨rfl, rfl, rfl⟩⟩
def RdS (w : World) (A : Option Addr) (xs : List Value) : Prop := xs = [] ∨ ∃ ad, A = some ad ∧ CellsAt w ad xs
theorem RdS.nil (w : World) (A : Option Addr) : RdS w A [] := .inl rfl
theorem RdS.of_heap {w w' : World} {A : Option Addr} {xs : List Value} (h : RdS w A xs) (hb : ∀ ad, A = some ad → ad.block < w.heap.size → w'.heap[ad.block]? = w.heap[ad.block]?) : RdS w' A xs := by
  by_cases hx : xs = []
  · exact .inl hx
  · rcases h with h | ⟨ad, rfl, h⟩
    · exact absurd h hx
    · exact .inr ⟨ad, rfl, h.of_heap (hb ad rfl (h.lt hx))⟩
section
variable {P : Program} {ops : Array Oper} {Q : Exit → Act → World → Prop} {a : Act} {w : World} {rest : List Oper} {o : Oper} {G : Prop} {K : Act → World → Prop}
variable {w0 : World} {M : Nat → Prop} {L : List Res}
theorem seg_cells {e : TypeId} {sz n c : Nat} {A : Option Addr} {xs : List Value} (h : seg w e sz A n c xs) : RdS w A xs := by
  obtain ⟨h0, _, _, h⟩ := h
  rcases h with ⟨rfl, rfl, rfl⟩ | ⟨g, off, pre, post, rfl, h1, h2, h3⟩
  · exact .inl (List.eq_nil_of_length_eq_zero (by simpa using h0))
  · refine .inr ⟨_, rfl, ?_⟩
    have h4 := blk_cells h1
    simp only [List.append_assoc] at h4
    have h5 := (CellsAt.right h4 h2).left
    rwa [add_lit0, Nat.zero_add] at h5
structure ElemPtr (A : Option Addr) (sz i : Nat) (p : Addr) : Prop where
  ex : ∃ ad, A = some ad ∧ p = ad.add (i * sz)
theorem ElemPtr.cells {A : Option Addr} {sz i : Nat} {p : Addr} (hp : ElemPtr A sz i p) {vs : List Value} {v : Value} (hr : RdS w A (flat vs)) (hs : ∀ v ∈ vs, v.cells.size = sz) (hsz : 0 < sz) (hv : vs[i]? = some v) : CellsAt w p v.cells.toList := by
  obtain ⟨ad, rfl, rfl⟩ := hp.ex
  rcases hr with hr | ⟨ad', h1, hc⟩
  · exfalso
    have hvm := List.mem_of_getElem? hv
    have h5 : v.cells.toList = [] := List.flatMap_eq_nil_iff.1 hr v hvm
    have h2 := hs v hvm
    rw [← Array.length_toList, h5] at h2
    simp at h2
    omega
  · injection h1 with h1
    subst h1
    exact hc.elem hs hv
structure Src (w : World) (A : Option Addr) (m sz : Nat) (news : List Value) : Prop where
  len : news.length = m * sz
  nil : A = none → m = 0
  cells : RdS w A news
  one : ∀ u ∈ news, u.oneCell' = true
theorem run_appendS {t ty e : TypeId} {agg : Bool} {sz bytes n c m c' : Nat} {z : Value} {A A' : Option Addr} {xs news : List Value} (hu : P.underlying t = some (.slice e)) (hT : TyIs P e agg sz z bytes) (hsz : 0 < sz) (hzs : z.cells.size = sz)
    (hs : seg w e sz A n c xs) (hx : Src w A' m sz news) (hb : (n + m) * bytes ≤ 140737488355328) (hm : n + m ≤ 140737488355328) :
    ∃ B c2 w', (Builtin.append_ #[t, t] ty #[.slice A n c, .slice A' m c']).run P w = .ok (.slice B (n + m) c2) w' ∧ seg w' e sz B (n + m) c2 (xs ++ news) ∧ w'.os = w.os ∧ w'.tape = w.tape ∧ w'.output = w.output ∧ w.heap.size ≤ w'.heap.size ∧ w.drawn ≤ w'.drawn ∧
      (∀ b, b < w.heap.size → ¬ obl A = some b → w'.heap[b]? = w.heap[b]?) ∧ (∀ b, obl B = some b → obl A = some b ∨ w.heap.size ≤ b) ∧
      (B = A ∧ c2 = c ∨ (∀ b, b < w.heap.size → w'.heap[b]? = w.heap[b]?) ∧ ∀ b, obl B = some b → w.heap.size ≤ b) := by
  obtain ⟨i, hi, he⟩ := Option.map_eq_some_iff.1 hT.info
  simp only [Prod.mk.injEq] at he
  obtain ⟨hz, hisz, hib⟩ := he
  subst hisz
  subst hib
  have hlen : (xs ++ news).length = (n + m) * i.size := by rw [List.length_append, hs.1, hx.len, Nat.add_mul]
  have hm63 : n + m ≤ maxLen := by simp only [maxLen]; omega
  have same : m = 0 → ∃ B c2 w', (Builtin.append_ #[t, t] ty #[.slice A n c, .slice A' m c']).run P w = .ok (.slice B (n + m) c2) w' ∧ seg w' e i.size B (n + m) c2 (xs ++ news) ∧ w'.os = w.os ∧ w'.tape = w.tape ∧ w'.output = w.output ∧ w.heap.size ≤ w'.heap.size ∧ w.drawn ≤ w'.drawn ∧
      (∀ b, b < w.heap.size → ¬ obl A = some b → w'.heap[b]? = w.heap[b]?) ∧ (∀ b, obl B = some b → obl A = some b ∨ w.heap.size ≤ b) ∧
      (B = A ∧ c2 = c ∨ (∀ b, b < w.heap.size → w'.heap[b]? = w.heap[b]?) ∧ ∀ b, obl B = some b → w.heap.size ≤ b) := by
    intro h0
    subst h0
    have hn : news = [] := List.eq_nil_of_length_eq_zero (by simpa using hx.len)
    subst hn
    refine ⟨A, c, w, ?_, by simpa using hs, rfl, rfl, rfl, Nat.le_refl _, Nat.le_refl _, fun _ _ _ => rfl, fun b hb => .inl hb, .inl ⟨rfl, rfl⟩⟩
    have hnc := hs.2.1
    cases A' <;> rcases hs.2.2.2 with ⟨rfl, rfl, rfl⟩ | ⟨g, off, pre, post, rfl, _⟩ <;>
      simp [Builtin.append_, run_underlying hu, sizeOf, typeInfo, hi, Builtin.lenOf, Builtin.firstCells, loadCells, loadCellsFrom, storeCells, hnc]
  by_cases h0 : m = 0
  · exact same h0
  · have hA' : ∃ ad, A' = some ad := by
      cases A' with
      | none => exact absurd (hx.nil rfl) h0
      | some ad => exact ⟨ad, rfl⟩
    obtain ⟨ad, rfl⟩ := hA'
    have hnews : ∀ j u, news[j]? = some u → w.cell? (ad.add j) = some u := by
      rcases hx.cells with hc | ⟨ad', h1, hc⟩
      · intro j u hju
        rw [hc] at hju
        simp at hju
      · injection h1 with h1
        subst h1
        exact hc
    have fresh : ∀ (old : Nat), old < n + m →
        seg (w.drew.alloc (.cells (xs.toArray ++ news.toArray ++ Builtin.zeroCells z.cells (grownCap w (n + m) old e - (n + m))) e)) e i.size (some ⟨w.heap.size, 0, none⟩) (n + m) (grownCap w (n + m) old e) (xs ++ news) := by
      intro old ho
      have hge := grownCap_ge w (n + m) old e
      refine ⟨hlen, hge, grownCap_le_maxLen w (n + m) old e hm63, .inr ⟨w.heap.size, 0, [], (Builtin.zeroCells z.cells (grownCap w (n + m) old e - (n + m))).toList, rfl, ?_, rfl, ?_⟩⟩
      · rw [show (w.drew.alloc (.cells (xs.toArray ++ news.toArray ++ Builtin.zeroCells z.cells (grownCap w (n + m) old e - (n + m))) e)).heap[w.heap.size]? = some (.cells (xs.toArray ++ news.toArray ++ Builtin.zeroCells z.cells (grownCap w (n + m) old e - (n + m))) e) from heap_alloc_new w.drew _]
        congr 2
        apply Array.toList_inj.1
        simp
      · rw [List.length_append, hlen, Array.length_toList, size_zeroCells, hzs, ← Nat.add_mul]
        exact Nat.mul_le_mul_right _ (by omega)
    have keepN : ∀ (O : Obj), (∀ b, b < w.heap.size → ¬ obl A = some b → (w.drew.alloc O).heap[b]? = w.heap[b]?) := fun O b hb _ => Below.heap_alloc w.drew O b hb
    rcases hs.2.2.2 with ⟨rfl, rfl, rfl⟩ | ⟨g, off, pre, post, rfl, hbk, hpre, hcap⟩
    · have hx0 : xs = [] := List.eq_nil_of_length_eq_zero (by simpa using hs.1)
      subst hx0
      have hr := run_append_nil (P := P) w t ty e i z hu hi hz ad m c' news hx.len hnews (by omega) (by omega) (by have := hb; simp only [Nat.zero_add] at this; omega)
      have hf := fresh 0 (by omega)
      simp only [Nat.zero_add, List.nil_append, Array.empty_append] at hf ⊢
      exact ⟨_, _, _, hr, hf, rfl, rfl, rfl, by simp, Nat.le_succ _, keepN _, fun b hb => .inr (by simp [obl] at hb; omega), .inr ⟨fun b hb => Below.heap_alloc w.drew _ b hb, fun b hb => by simp [obl] at hb; omega⟩⟩
    · by_cases hroom : n + m ≤ c
      · -- there is room: the new ones are stored behind
        have hf := run_firstCells_some (P := P) w i.size m ad m c' news hx.len hnews
        have hfit : news.length ≤ post.length := by
          have h1 := Nat.mul_le_mul_right i.size hroom
          rw [Nat.add_mul, ← hs.1, ← hx.len] at h1
          rw [List.length_append] at hcap
          omega
        have hxl : xs.length = n * i.size := hs.1
        have hst := run_storeCells_at P g (off + n * i.size) e news 0 (pre ++ xs ++ post).toArray w hbk (by
          rw [List.size_toArray]
          simp only [List.length_append, hpre, hxl]
          omega) hx.one
        simp only [Nat.add_zero] at hst
        have hpl : (pre ++ xs).length = off + n * i.size := by rw [List.length_append, hpre, hxl]
        have hsplit : post = post.take news.length ++ post.drop news.length := (List.take_append_drop _ _).symm
        have htl : (post.take news.length).length = news.length := by rw [List.length_take]; omega
        have hnew : (pre ++ xs ++ post).take (off + n * i.size) ++ news ++ (pre ++ xs ++ post).drop (off + n * i.size + news.length) = pre ++ (xs ++ news) ++ post.drop news.length := by
          rw [← hpl]
          conv => lhs; rw [hsplit]
          rw [← List.append_assoc (pre ++ xs) (post.take news.length) (post.drop news.length), take_drop_set _ _ _ _ htl.symm]
          simp [List.append_assoc]
        have hadd : (⟨g, off, none⟩ : Addr).add (n * i.size) = ⟨g, off + n * i.size, none⟩ := add_lit0 _ _ _
        rw [hnew] at hst
        refine ⟨some ⟨g, off, none⟩, c, w.setRow g (pre ++ (xs ++ news) ++ post.drop news.length).toArray, ?_, ?_, rfl, rfl, rfl, by simp, Nat.le_refl _, fun b _ hn => setRow_other w g b _ (fun e => hn (by simp [obl, e])), fun b hb => .inl hb, .inl ⟨rfl, rfl⟩⟩
        · simp [Builtin.append_, run_underlying hu, sizeOf, typeInfo, hi, Builtin.lenOf, hroom, hf, hadd, hst]
        · refine ⟨hlen, hroom, hs.2.2.1, .inr ⟨g, off, pre, post.drop news.length, rfl, setRow_heap w g _ _ _ _ hbk, hpre, ?_⟩⟩
          simp only [List.length_append, List.length_drop] at hcap ⊢
          omega
      · have holds : ∀ j u, xs[j]? = some u → w.cell? ((⟨g, off, none⟩ : Addr).add j) = some u := by
          rcases seg_cells hs with h1 | ⟨ad', h1, hc⟩
          · intro j u hju
            rw [h1] at hju
            simp at hju
          · injection h1 with h1
            subst h1
            exact hc
        have hr := run_append_grow (P := P) w t ty e i z hu hi hz ⟨g, off, none⟩ n c xs hs.1 holds ad m c' news hx.len hnews (by omega) (by omega) (growslice_fits (by omega) hb)
        exact ⟨_, _, _, hr, fresh c (by omega), rfl, rfl, rfl, by simp, Nat.le_succ _, keepN _, fun b hb => .inr (by simp [obl] at hb; omega), .inr ⟨fun b hb => Below.heap_alloc w.drew _ b hb, fun b hb => by simp [obl] at hb; omega⟩⟩
theorem run_append {t ty e : TypeId} {agg : Bool} {sz bytes n c m c' : Nat} {z : Value} {A A' : Option Addr} {xs news : List Value} (hu : P.underlying t = some (.slice e)) (hT : TyIs P e agg sz z bytes) (hsz : 0 < sz) (hzs : z.cells.size = sz)
    (hs : seg w e sz A n c xs) (hx : Src w A' m sz news) (hb : (n + m) * bytes ≤ 140737488355328) (hm : n + m ≤ 140737488355328) :
    ∃ B c2 w', (Builtin.append_ #[t, t] ty #[.slice A n c, .slice A' m c']).run P w = .ok (.slice B (n + m) c2) w' ∧ seg w' e sz B (n + m) c2 (xs ++ news) ∧ w'.os = w.os ∧ w'.tape = w.tape ∧ w'.output = w.output ∧ w.heap.size ≤ w'.heap.size ∧ w.drawn ≤ w'.drawn ∧
      (∀ b, b < w.heap.size → ¬ obl A = some b → w'.heap[b]? = w.heap[b]?) ∧ (∀ b, obl B = some b → obl A = some b ∨ w.heap.size ≤ b) := by
  obtain ⟨B, c2, w', h1, h2, h3, h4, h5, h6, h7, h8, h9, _⟩ := run_appendS (ty := ty) (c' := c') hu hT hsz hzs hs hx hb hm
  exact ⟨B, c2, w', h1, h2, h3, h4, h5, h6, h7, h8, h9⟩
theorem St.nilrow (h : St w0 w M L) (e : TypeId) (sz : Nat) : St w0 w M (Res.row none 0 0 e sz [] :: L) :=
  h.new rfl rfl rfl (Nat.le_refl _) (fun _ _ => rfl) (r := Res.row none 0 0 e sz []) (seg_nil w e sz) (fun b hb => by simp [Res.row, obl] at hb)
theorem ok1_flat {vs : List Value} (h : ∀ v ∈ vs, Ok1 v) : ∀ u ∈ flat vs, u.oneCell' = true := fun u hu => by
  obtain ⟨v, hv, hu⟩ := List.mem_flatMap.1 hu
  exact h v hv u hu
theorem fill_rows {sz : Nat} : ∀ (vs done : List Value) (rest : List Value), (∀ v ∈ vs, v.cells.size = sz) → (∀ v ∈ done, v.cells.size = sz) → rest.length = vs.length * sz →
    Instr.fill (fun i => some (i * sz, sz)) (flat done ++ rest).toArray ((List.range' done.length vs.length).zip vs) = some (flat (done ++ vs)).toArray
  | [], done, rest, _, _, hr => by
    have : rest = [] := List.eq_nil_of_length_eq_zero (by simpa using hr)
    subst this
    simp [Instr.fill]
  | v :: vs, done, rest, hv, hd, hr => by
    have hvs := hv v (by simp)
    have hdl : (flat done).length = done.length * sz := by rw [length_flat, szs_const hd]
    have hrl : sz ≤ rest.length := by rw [hr, List.length_cons, Nat.add_mul]; omega
    have ih := fill_rows vs (done ++ [v]) (rest.drop sz) (fun u hu => hv u (by simp [hu])) (fun u hu => by
      rcases List.mem_append.1 hu with hu | hu
      · exact hd u hu
      · simp at hu; subst hu; exact hvs) (by rw [List.length_drop, hr, List.length_cons, Nat.add_mul]; omega)
    have key : (v.cells.zipIdx.foldl (fun cs (x : Value × Nat) => cs.setIfInBounds (done.length * sz + x.2) x.1) (flat done ++ rest).toArray) = (flat (done ++ [v]) ++ rest.drop sz).toArray := by
      have gen : ∀ (us : List Value) (k : Nat) (pre tail : List Value), us.length ≤ tail.length → pre.length = done.length * sz + k →
          (us.zipIdx k).foldl (fun cs (x : Value × Nat) => cs.setIfInBounds (done.length * sz + x.2) x.1) (pre ++ tail).toArray = (pre ++ us ++ tail.drop us.length).toArray := by
        intro us
        induction us with
        | nil => intro k pre tail _ _; simp
        | cons u us ih2 =>
          intro k pre tail hl hp
          obtain ⟨t0, tail, rfl⟩ : ∃ t0 t1, tail = t0 :: t1 := by
            cases tail with
            | nil => simp at hl
            | cons t0 t1 => exact ⟨t0, t1, rfl⟩
          have hset : (pre ++ t0 :: tail).toArray.setIfInBounds (done.length * sz + k) u = ((pre ++ [u]) ++ tail).toArray := by
            rw [← hp]
            apply Array.toList_inj.1
            simp
          simp only [List.zipIdx_cons, List.foldl_cons, hset]
          rw [ih2 (k + 1) (pre ++ [u]) tail (by simpa using hl) (by simp [hp]; omega)]
          simp
      have h2 := gen v.cells.toList 0 (flat done) rest (by rw [Array.length_toList, hvs]; exact hrl) (by simp [hdl])
      rw [← Array.foldl_toList, Array.toList_zipIdx]
      rw [h2, flat_append, flat_single, Array.length_toList, hvs]
    have hfit : ¬ (v.cells.size ≠ sz || decide (done.length * sz + v.cells.size > (flat done ++ rest).toArray.size)) = true := by
      simp only [ne_eq, hvs, not_true_eq_false, decide_false, Bool.false_or, decide_eq_true_eq, List.size_toArray, List.length_append, hdl]
      omega
    simp only [List.length_cons, List.range'_succ, List.zip_cons_cons, Instr.fill]
    rw [if_neg hfit, key]
    simpa [List.append_assoc] using ih
theorem run_buildSlice {t e : TypeId} {agg : Bool} {sz bytes : Nat} {z : Value} (hu : P.underlying t = some (.slice e)) (hT : TyIs P e agg sz z bytes) (hzs : z.cells.size = sz) (vs : List Value) (hv : ∀ v ∈ vs, v.cells.size = sz) (hn : vs.length * sz ≤ 16777216) (w : World) :
    (Instr.buildSlice t vs.length ((List.range' 0 vs.length).zip vs).toArray).run P w = .ok (.slice (some ⟨w.heap.size, 0, none⟩) vs.length vs.length) (w.alloc (.cells (flat vs).toArray e)) := by
  have hbig : ¬ vs.length * sz > 2 ^ 24 := by omega
  by_cases h0 : vs.length * sz = 0
  · have hfill := fill_rows (sz := sz) vs [] [] hv (by simp) (by simpa using h0.symm)
    simp only [flat_nil, List.nil_append, List.length_nil] at hfill
    unfold Instr.buildSlice
    have er : ∀ f : Nat → Value, (Array.range 0).map f = #[] := fun f => by apply Array.eq_empty_of_size_eq_zero; simp
    simp only [Sem.run_bind, run_underlying hu, Result.andThen_ok, hT.size w, h0, if_true, Sem.run_pure, er]
    simp only [show ¬ (0 : Nat) > 2 ^ 24 by omega, if_false, er, hfill]
    simp [newRow, newObj, Sem.run]
  · have hfill := fill_rows (sz := sz) vs [] ((List.range (vs.length * sz)).map fun i => z.cells[i % z.cells.size]!) hv (by simp) (by simp)
    simp only [flat_nil, List.nil_append, List.length_nil] at hfill
    have harr : (Array.range (vs.length * sz)).map (fun i => z.cells[i % z.cells.size]!) = ((List.range (vs.length * sz)).map fun i => z.cells[i % z.cells.size]!).toArray := by
      apply Array.toList_inj.1
      simp
    unfold Instr.buildSlice
    simp only [Sem.run_bind, run_underlying hu, Result.andThen_ok, hT.size w, hbig, if_false, h0, hT.zero w, Sem.run_pure, harr, hfill]
    simp [newRow, newObj, Sem.run]
theorem seg_lit (w : World) (e : TypeId) (sz : Nat) (vs : List Value) (hv : ∀ v ∈ vs, v.cells.size = sz) (hm : vs.length ≤ maxLen) : seg (w.alloc (.cells (flat vs).toArray e)) e sz (some ⟨w.heap.size, 0, none⟩) vs.length vs.length (flat vs) :=
  ⟨by rw [length_flat, szs_const hv], Nat.le_refl _, hm, .inr ⟨w.heap.size, 0, [], [], rfl, by simpa using heap_alloc_new w _, rfl, by simp [length_flat, szs_const hv]⟩⟩
variable {κ ν : Type} [DecidableEq κ] {kt et T : TypeId} {kenc : κ → Value} {venc : ν → Value} {nk : Nat}
theorem St.mapset (h : St w0 w M L) {i g c : Nat} {l l' : List (κ × ν × Nat)} {c' : Nat} (hi : L[i]? = some (Res.map g kenc venc l c)) : St w0 { w with heap := w.heap.setIfInBounds g (mobj kenc venc l' c') } M (L.set i (Res.map g kenc venc l' c')) := by
  have hb : w.heap[g]? = some (mobj kenc venc l c) := h.get hi
  refine h.turn hi (w' := { w with heap := w.heap.setIfInBounds g (mobj kenc venc l' c') }) rfl rfl rfl (by simp) (fun b hb' hn => ?_) ?_ (fun b hb' => .inl hb')
  · exact Array.getElem?_setIfInBounds_ne (fun e => hn e.symm)
  · exact Array.getElem?_setIfInBounds_self_of_lt (lt_of_heap hb)
end
end HL
end Go.Proofs.YtfopgaijfeeioaaGreat
set_option linter.unusedVariables false
set_option linter.unusedSimpArgs false
set_option linter.unusedSectionVars false
namespace Go.Proofs.YtfopgaijfeeioaaGreat
namespace HL
open Go Go.RowKit
def placesOf : List Value → Nat → List (Nat × Nat)
  | [], _ => []
  | v :: vs, off => (off, v.cells.size) :: placesOf vs (off + v.cells.size)
def structPlaces (P : Program) (T : TypeId) : Option (List (Nat × Nat)) :=
  match P.underlying T with
  | some (.struct fs) => fs.toList.mapM fun f => (P.info? f.type).map fun i => (f.offset, i.size)
  | _ => none
def applyParts : List Value → List (Nat × Value) → List Value
  | vs, [] => vs
  | vs, (i, v) :: ps => applyParts (vs.set i v) ps
def partsFit : List Value → List (Nat × Value) → Prop
  | _, [] => True
  | vs, (i, v) :: ps => (∃ u, vs[i]? = some u ∧ v.cells.size = u.cells.size) ∧ partsFit (vs.set i v) ps
theorem placesOf_get : ∀ (vs : List Value) (off i : Nat) (v : Value), vs[i]? = some v → (placesOf vs off)[i]? = some (off + szs (vs.take i), v.cells.size)
  | [], _, i, _, h => by simp at h
  | u :: vs, off, 0, v, h => by simp at h; subst h; simp [placesOf, szs]
  | u :: vs, off, i + 1, v, h => by
    have := placesOf_get vs (off + u.cells.size) i v (by simpa using h)
    simp [placesOf, this, szs, Nat.add_assoc]
theorem placesOf_set : ∀ (vs : List Value) (off i : Nat) (u v : Value), vs[i]? = some u → v.cells.size = u.cells.size → placesOf (vs.set i v) off = placesOf vs off
  | [], _, _, _, _, h, _ => by simp at h
  | x :: vs, off, 0, u, v, h, hs => by simp at h; subst h; simp [placesOf, hs]
  | x :: vs, off, i + 1, u, v, h, hs => by simp [placesOf, placesOf_set vs _ i u v (by simpa using h) hs]
theorem fill_struct : ∀ (ps : List (Nat × Value)) (vs : List Value), partsFit vs ps → Instr.fill (fun i => (placesOf vs 0)[i]?) (flat vs).toArray ps = some (flat (applyParts vs ps)).toArray
  | [], vs, _ => rfl
  | (i, v) :: ps, vs, h => by
    obtain ⟨⟨u, hu, hs⟩, hp⟩ := h
    have hpl := placesOf_get vs 0 i u hu
    rw [Nat.zero_add] at hpl
    obtain ⟨e1, e2⟩ := flat_set (v := v) hu
    have hlen : (flat (vs.take i)).length = szs (vs.take i) := length_flat _
    have key : (v.cells.zipIdx.foldl (fun cs (x : Value × Nat) => cs.setIfInBounds (szs (vs.take i) + x.2) x.1) (flat vs).toArray) = (flat (vs.set i v)).toArray := by
      have gen : ∀ (us : List Value) (k : Nat) (pre tail : List Value), us.length ≤ tail.length → pre.length = szs (vs.take i) + k →
          (us.zipIdx k).foldl (fun cs (x : Value × Nat) => cs.setIfInBounds (szs (vs.take i) + x.2) x.1) (pre ++ tail).toArray = (pre ++ us ++ tail.drop us.length).toArray := by
        intro us
        induction us with
        | nil => intro k pre tail _ _; simp
        | cons u us ih2 =>
          intro k pre tail hl hp
          obtain ⟨t0, tail, rfl⟩ : ∃ t0 t1, tail = t0 :: t1 := by
            cases tail with
            | nil => simp at hl
            | cons t0 t1 => exact ⟨t0, t1, rfl⟩
          have hset : (pre ++ t0 :: tail).toArray.setIfInBounds (szs (vs.take i) + k) u = ((pre ++ [u]) ++ tail).toArray := by
            rw [← hp]
            apply Array.toList_inj.1
            simp
          simp only [List.zipIdx_cons, List.foldl_cons, hset]
          rw [ih2 (k + 1) (pre ++ [u]) tail (by simpa using hl) (by simp [hp]; omega)]
          simp
      have h2 := gen v.cells.toList 0 (flat (vs.take i)) (u.cells.toList ++ flat (vs.drop (i + 1))) (by simp [hs]) (by simp [hlen])
      rw [← Array.foldl_toList, Array.toList_zipIdx, e1, List.append_assoc, h2, e2]
      congr 2
      rw [Array.length_toList, hs, ← Array.length_toList, List.drop_left]
    have hfit : ¬ (v.cells.size ≠ u.cells.size || decide (szs (vs.take i) + v.cells.size > (flat vs).toArray.size)) = true := by
      simp only [ne_eq, hs, not_true_eq_false, decide_false, Bool.false_or, decide_eq_true_eq, List.size_toArray]
      rw [e1]
      simp only [List.length_append, hlen, Array.length_toList]
      omega
    have ih := fill_struct ps (vs.set i v) hp
    rw [placesOf_set vs 0 i u v hu hs] at ih
    simp only [Instr.fill, hpl]
    rw [if_neg hfit, key]
    exact ih
section
variable {P : Program} {ops : Array Oper} {Q : Exit → Act → World → Prop} {a : Act} {w : World} {rest : List Oper} {o : Oper} {G : Prop} {K : Act → World → Prop} {T : TypeId}
theorem run_buildS {agg : Bool} {sz bytes : Nat} {zs : List Value} (hT : TyIs P T agg sz (mkS zs) bytes) (hp : structPlaces P T = some (placesOf zs 0)) (ps : List (Nat × Value)) (hf : partsFit zs ps) (w : World) :
    (Instr.build T ps.toArray).run P w = .ok (mkS (applyParts zs ps)) w := by
  refine run_build w T ps.toArray _ ?_
  obtain ⟨i, hi, he⟩ := Option.map_eq_some_iff.1 hT.info
  simp only [Prod.mk.injEq] at he
  unfold structPlaces at hp
  split at hp
  · rename_i fs hu
    have hfill := fill_struct ps zs hf
    have hz : (mkS zs).cells = (flat zs).toArray := rfl
    simp only [Program.built, hi, hu, he.1, hp, hz]
    simpa using hfill
  · cases hp
def fieldTy (P : Program) (T : TypeId) (k : Nat) : Option (TypeId × Nat) :=
  match P.underlying T with
  | some (.struct fs) => (fs[k]?).map fun f => (f.type, f.offset)
  | _ => none
theorem run_binEq {α : Type} [DecidableEq α] {enc : α → Value} {n : Nat} (H : EqTy P T enc n) (hn : n ≤ 10000) (hag : ∀ x, isAggV (enc x) = true) (hg : P.eqGuardType P.depth T = false) (x y : α) (p q : Operand) (w : World) :
    (do eqGuard .eql T p q (enc x) (enc y); binOp .eql T (enc x) (enc y) : Sem Value).run P w = .ok (.bool (decide (x = y))) w := by
  obtain ⟨cx, hx⟩ : ∃ c, enc x = .agg c := by have := hag x; cases hc : enc x <;> simp_all [isAggV]
  obtain ⟨cy, hy⟩ : ∃ c, enc y = .agg c := by have := hag y; cases hc : enc y <;> simp_all [isAggV]
  have := H.eq 10000 hn x y w
  rw [hx, hy] at this ⊢
  simp only [Sem.run_bind, run_eqGuard_agg w .eql T p q cx cy hg, Result.andThen_ok, run_eql_struct, this]
theorem run_binNe {α : Type} [DecidableEq α] {enc : α → Value} {n : Nat} (H : EqTy P T enc n) (hn : n ≤ 10000) (hag : ∀ x, isAggV (enc x) = true) (hg : P.eqGuardType P.depth T = false) (x y : α) (p q : Operand) (w : World) :
    (do eqGuard .neq T p q (enc x) (enc y); binOp .neq T (enc x) (enc y) : Sem Value).run P w = .ok (.bool (!decide (x = y))) w := by
  obtain ⟨cx, hx⟩ : ∃ c, enc x = .agg c := by have := hag x; cases hc : enc x <;> simp_all [isAggV]
  obtain ⟨cy, hy⟩ : ∃ c, enc y = .agg c := by have := hag y; cases hc : enc y <;> simp_all [isAggV]
  have := H.eq 10000 hn x y w
  rw [hx, hy] at this ⊢
  simp only [Sem.run_bind, run_eqGuard_agg w .neq T p q cx cy hg, Result.andThen_ok, run_neq_struct, this]
end
theorem sameBits_ints : ∀ (l : List UInt8), ((l.map fun b => Value.int .u8 b.toNat).zip (l.map fun b => Value.int .u8 b.toNat)).all (fun (x, y) => Instr.sameBits 9999 x y) = true
  | [] => rfl
  | b :: l => by
    have := sameBits_ints l
    simp only [List.map_cons, List.zip_cons_cons, List.all_cons, this, Bool.and_true]
    simp [Instr.sameBits]
theorem sameBits_hash (h : Hash) : Instr.sameBits 10000 (hval h) (hval h) = true := by
  unfold hval
  rw [show (10000 : Nat) = 9999 + 1 from rfl, Instr.sameBits]
  simp only [beq_self_eq_true, Bool.true_and]
  exact sameBits_ints h.toList
theorem keyTy_hash {P : Program} {T e : TypeId} {z : Value} (hT : P.underlying T = some (.array 32 e)) (hu : P.underlying e = some (.int .u8)) (he : TyIs P e false 1 z 1) : KeyTy P T hval 2 where
  eq := eqTy_hash hT hu he
  le := by omega
  wide := ⟨_, hT, rfl⟩
  same := sameBits_hash
def hset : Hash → List (Nat × UInt8) → Hash
  | h, [] => h
  | h, (i, b) :: ps => hset (h.setIfInBounds i b) ps
theorem fill_hash : ∀ (ps : List (Nat × UInt8)) (h : Hash), (∀ p ∈ ps, p.1 < 32) → Instr.fill (fun i => some (i * 1, 1)) (hcells h).toArray (ps.map fun p => (p.1, Value.int .u8 p.2.toNat)) = some (hcells (hset h ps)).toArray
  | [], h, _ => rfl
  | (i, b) :: ps, h, hp => by
    have hi : i < 32 := hp (i, b) (by simp)
    have ih := fill_hash ps (h.setIfInBounds i b) (fun p hp' => hp p (by simp [hp']))
    have hfit : ¬ ((Value.int .u8 (b.toNat : Int)).cells.size ≠ 1 || decide (i * 1 + (Value.int .u8 (b.toNat : Int)).cells.size > (hcells h).toArray.size)) = true := by
      simp [Value.cells, length_hcells]
      omega
    simp only [List.map_cons, Instr.fill]
    rw [if_neg hfit]
    have e : ((Value.int .u8 (b.toNat : Int)).cells.zipIdx.foldl (fun cs (x : Value × Nat) => cs.setIfInBounds (i * 1 + x.2) x.1) (hcells h).toArray) = (hcells (h.setIfInBounds i b)).toArray := by
      simp only [Value.cells]
      apply Array.toList_inj.1
      simp [hcells, Vector.toList, List.map_set]
    rw [e]
    exact ih
end HL
end Go.Proofs.YtfopgaijfeeioaaGreat
set_option linter.unusedVariables false
set_option linter.unusedSimpArgs false
set_option linter.unusedSectionVars false
namespace Go.Proofs.YtfopgaijfeeioaaGreat
namespace HL
open Go Go.RowKit
def bcells (bs : List UInt8) : List Value := bs.map fun b => .int .u8 b.toNat
theorem hcells_eq (h : Hash) : hcells h = bcells h.toList := rfl
@[simp] theorem length_bcells (bs : List UInt8) : (bcells bs).length = bs.length := by simp [bcells]
def ba (bs : List UInt8) : ByteArray := bs.foldl ByteArray.push .empty
theorem foldl_push_data (bs : List UInt8) : ∀ (acc : ByteArray), (bs.foldl ByteArray.push acc).data.toList = acc.data.toList ++ bs := by
  induction bs with
  | nil => intro acc; simp
  | cons b bs ih => intro acc; rw [List.foldl_cons, ih]; simp [ByteArray.push]
theorem ba_data (bs : List UInt8) : (ba bs).data.toList = bs := by rw [ba, foldl_push_data]; rfl
theorem ba_size (bs : List UInt8) : (ba bs).size = bs.length := by rw [← ByteArray.size_data, ← Array.length_toList, ba_data]
theorem ba_get (bs : List UInt8) (i : Nat) : (ba bs)[i]! = bs.getD i 0 := by
  by_cases h : i < bs.length
  · have h' : i < (ba bs).size := by rw [ba_size]; exact h
    rw [getElem!_pos (ba bs) i h']
    have : (ba bs)[i] = (ba bs).data[i] := rfl
    rw [this, ← Array.getElem_toList]
    simp only [ba_data]
    simp [List.getD, h]
  · have h' : ¬ i < (ba bs).size := by rw [ba_size]; exact h
    rw [getElem!_neg (ba bs) i h']
    simp [List.getD, List.getElem?_eq_none (by omega : bs.length ≤ i)]
    rfl
theorem ba_of (b : ByteArray) : ba b.data.toList = b := by
  apply ByteArray.ext
  apply Array.toList_inj.1
  rw [ba_data]
theorem toList_ba (bs : List UInt8) : (ba bs).toList = bs := by
  have h : ∀ r : ByteArray, r.toList = r.data.toList := by
    have gen : ∀ (n : Nat) (b : ByteArray) (i : Nat) (acc : List UInt8), b.size - i = n → ByteArray.toList.loop b i acc = acc.reverse ++ b.data.toList.drop i := by
      intro n
      induction n with
      | zero =>
        intro b i acc hn
        rw [ByteArray.toList.loop]
        have h1 : ¬ i < b.size := by omega
        rw [if_neg h1, List.drop_eq_nil_of_le]
        · simp
        · rw [Array.length_toList, ByteArray.size_data]; omega
      | succ n ih =>
        intro b i acc hn
        rw [ByteArray.toList.loop]
        have h1 : i < b.size := by omega
        rw [if_pos h1, ih b (i + 1) _ (by omega)]
        have h2 : i < b.data.toList.length := by rw [Array.length_toList, ByteArray.size_data]; exact h1
        rw [List.drop_eq_getElem_cons h2]
        have h3 : b.get! i = b.data.toList[i] := by
          show b.data[i]! = _
          rw [getElem!_pos b.data i (by rw [ByteArray.size_data]; exact h1)]
          simp
        rw [h3]
        simp
    intro r
    have := gen _ r 0 [] rfl
    simpa [ByteArray.toList] using this
  rw [h, ba_data]
variable {P : Program}
theorem run_extBytes {w : World} : ∀ (bs : List UInt8) (a : Addr) (acc : ByteArray), CellsAt w a (bcells bs) → (Extern.Bytes.loadBytes a bs.length acc).run P w = .ok (bs.foldl ByteArray.push acc) w
  | [], a, acc, _ => rfl
  | b :: bs, a, acc, h => by
    have h0 : w.cell? a = some (.int .u8 b.toNat) := by
      have := h 0 (.int .u8 b.toNat) (by simp [bcells])
      have e : a.add 0 = a := by unfold Addr.add; split <;> simp_all
      rwa [e] at this
    have h1 : CellsAt w (a.add 1) (bcells bs) := fun j u hu => by
      rw [add_of_add, Nat.add_comm]
      exact h (j + 1) u (by simpa [bcells] using hu)
    simp only [List.length_cons, Extern.Bytes.loadBytes]
    rw [Sem.run_bind, run_load, h0]
    simp only [Result.andThen, List.foldl_cons]
    have := run_extBytes bs (a.add 1) (acc.push b) h1
    simpa using this
theorem run_bytesOf {w : World} {A : Option Addr} {bs : List UInt8} {c : Nat} (h : RdS w A (bcells bs)) : (Extern.Bytes.bytesOf (.slice A bs.length c)).run P w = .ok (ba bs) w := by
  rcases h with h | ⟨ad, rfl, h⟩
  · have : bs = [] := by simpa [bcells] using h
    subst this
    cases A <;> rfl
  · exact run_extBytes bs ad .empty h
def bcmp : List UInt8 → List UInt8 → Int
  | [], [] => 0
  | [], _ :: _ => -1
  | _ :: _, [] => 1
  | a :: x, b :: y => if a < b then -1 else if b < a then 1 else bcmp x y
theorem bcmp_find : ∀ (x y : List UInt8), bcmp x y = (match (List.range (min x.length y.length)).find? (fun i => x.getD i 0 != y.getD i 0) with
    | some i => if x.getD i 0 < y.getD i 0 then -1 else 1
    | none => if x.length < y.length then -1 else if x.length > y.length then 1 else 0)
  | [], [] => rfl
  | [], b :: y => by simp [bcmp]
  | a :: x, [] => by simp [bcmp]
  | a :: x, b :: y => by
    have ih := bcmp_find x y
    have e : min (a :: x).length (b :: y).length = min x.length y.length + 1 := by simp only [List.length_cons]; omega
    rw [e, List.range_succ_eq_map, List.find?_cons]
    by_cases hab : a = b
    · subst hab
      simp only [List.getD_cons_zero, bne_self_eq_false]
      rw [List.find?_map]
      have e2 : ((fun i => (a :: x).getD i 0 != (a :: y).getD i 0) ∘ Nat.succ) = fun i => x.getD i 0 != y.getD i 0 := by funext i; simp
      rw [e2]
      have hlt : ¬ a < a := UInt8.lt_irrefl a
      simp only [bcmp, hlt, if_false, ih]
      cases h : (List.range (min x.length y.length)).find? (fun i => x.getD i 0 != y.getD i 0) with
      | none => simp [h]
      | some i => simp [h]
    · have h1 : ((a :: x).getD 0 0 != (b :: y).getD 0 0) = true := by simpa using hab
      rw [h1]
      simp only [List.getD_cons_zero, bcmp]
      by_cases h2 : a < b
      · simp [h2]
      · have h3 : b < a := by
          rcases UInt8.lt_or_lt_of_ne hab with h | h
          · exact absurd h h2
          · exact h
        simp [h2, h3]
theorem cmp_ba (x y : List UInt8) : Extern.BytealgCompare.cmp (ba x) (ba y) = bcmp x y := by
  rw [bcmp_find, Extern.BytealgCompare.cmp]
  simp only [ba_size, ba_get]
  rfl
theorem bytesLess_bcmp : ∀ (x y : List UInt8), Op.bytesLess x y = decide (bcmp x y < 0)
  | [], [] => rfl
  | [], b :: y => rfl
  | a :: x, [] => rfl
  | a :: x, b :: y => by
    rw [Op.bytesLess, bytesLess_bcmp x y, bcmp]
    by_cases h : a < b
    · simp [h]
    · by_cases h2 : b < a
      · have h3 : ¬ a = b := fun e => by subst e; exact UInt8.lt_irrefl _ h2
        simp [h, h2, h3]
      · have h3 : a = b := by
          rcases Decidable.em (a = b) with e | e
          · exact e
          · rcases UInt8.lt_or_lt_of_ne e with h' | h'
            · exact absurd h' h
            · exact absurd h' h2
        subst h3
        simp [h]
theorem bcmp_refl : ∀ (x : List UInt8), bcmp x x = 0
  | [] => rfl
  | a :: x => by simp [bcmp, UInt8.lt_irrefl, bcmp_refl x]
theorem bcmp_swap : ∀ (x y : List UInt8), bcmp y x = - bcmp x y
  | [], [] => rfl
  | [], b :: y => rfl
  | a :: x, [] => rfl
  | a :: x, b :: y => by
    have ih := bcmp_swap x y
    simp only [bcmp]
    by_cases h : a < b
    · have h2 : ¬ b < a := UInt8.lt_asymm h
      simp [h, h2]
    · by_cases h2 : b < a
      · simp [h, h2]
      · simp [h, h2, ih]
theorem bcmp_eq : ∀ {x y : List UInt8}, bcmp x y = 0 → x = y
  | [], [], _ => rfl
  | [], b :: y, h => by simp [bcmp] at h
  | a :: x, [], h => by simp [bcmp] at h
  | a :: x, b :: y, h => by
    simp only [bcmp] at h
    by_cases h1 : a < b
    · simp [h1] at h
    · by_cases h2 : b < a
      · simp [h1, h2] at h
      · simp only [h1, h2, if_false] at h
        have := bcmp_eq h
        subst this
        have h3 : a = b := by
          rcases Decidable.em (a = b) with e | e
          · exact e
          · rcases UInt8.lt_or_lt_of_ne e with h' | h'
            · exact absurd h' h1
            · exact absurd h' h2
        rw [h3]
theorem bcmp_trans : ∀ {x y z : List UInt8}, bcmp x y < 0 → bcmp y z < 0 → bcmp x z < 0
  | [], [], z, h, _ => by simp [bcmp] at h
  | [], b :: y, [], _, h => by simp [bcmp] at h
  | [], b :: y, c :: z, _, _ => by simp [bcmp]
  | a :: x, [], z, h, _ => by simp [bcmp] at h
  | a :: x, b :: y, [], _, h => by simp [bcmp] at h
  | a :: x, b :: y, c :: z, h1, h2 => by
    simp only [bcmp] at h1 h2 ⊢
    have tri : ∀ p q : UInt8, p < q ∨ p = q ∨ q < p := fun p q => by
      rcases Decidable.em (p = q) with e | e
      · exact .inr (.inl e)
      · rcases UInt8.lt_or_lt_of_ne e with h' | h'
        · exact .inl h'
        · exact .inr (.inr h')
    rcases tri a b with e | e | e
    · rcases tri b c with f | f | f
      · simp [UInt8.lt_trans e f]
      · subst f; simp [e]
      · simp [f, UInt8.lt_asymm f] at h2
    · subst e
      simp only [UInt8.lt_irrefl, if_false] at h1
      rcases tri a c with f | f | f
      · simp [f]
      · subst f
        simp only [UInt8.lt_irrefl, if_false] at h2 ⊢
        exact bcmp_trans h1 h2
      · simp [f, UInt8.lt_asymm f] at h2
    · simp [e, UInt8.lt_asymm e] at h1
def hlt (a b : Hash) : Prop := bcmp a.toList b.toList < 0
instance (a b : Hash) : Decidable (hlt a b) := inferInstanceAs (Decidable (_ < _))
variable {ops : Array Oper} {rest : List Nat} {o : Oper} {Q : Exit → Act → World → Prop} {a : Act} {w : World} {G : Prop} {K : Act → World → Prop}
variable {w0 : World} {M : Nat → Prop} {L : List Res}
theorem run_stand {f : FuncId} {fn : Func} {e : Array Value → Sem Value} {args : Array Value} {v : Value} {w w' : World} (hf : P.funcs[f]? = some fn) (hn : (fn.name == "runtime.NumGoroutine") = false) (hb : fn.body.isNone = true) (h1 : Extern.findNext fn = none) (h2 : Extern.find fn = some e) (hr : (e args).run P w = .ok v w') : (callFunc f args).run P w = .ok (.value v) w' := by
  simp only [callFunc, Sem.run_bind, run_program, Result.andThen, hf, hn, hb, h1, h2, run_mark, hr]
  simp [Sem.run_bind, hr, Result.andThen, Sem.run_pure]
theorem run_bytesStr {A : Option Addr} {bs : List UInt8} {c : Nat} (h : RdS w A (bcells bs)) : (Conv.bytesToString (.slice A bs.length c)).run P w = .ok (.string (ba bs)) w := by
  rcases h with h | ⟨ad, rfl, h⟩
  · have h0 : bs = [] := by simpa [bcells] using h
    subst h0
    cases A with
    | none => rfl
    | some ad => rfl
  · have h1 := run_loadCells_list (P := P) (w := w) ad (bcells bs) h
    rw [length_bcells] at h1
    have h2 : bcells bs = (bs.map fun b => (b.toNat : Int)).map (Value.int .u8) := by simp [bcells]
    rw [h2] at h1
    rw [run_bytesToString w ad bs.length c _ h1]
    have gen : ∀ (bs : List UInt8) (acc : ByteArray), (bs.map fun b => (b.toNat : Int)).foldl (fun r n => r.push (UInt8.ofNat n.toNat)) acc = bs.foldl ByteArray.push acc := by
      intro bs
      induction bs with
      | nil => intro acc; rfl
      | cons b bs ih => intro acc; simp only [List.map_cons, List.foldl_cons]; rw [ih]; simp
    rw [gen]
    rfl
theorem run_convStr {S D e : TypeId} {A : Option Addr} {bs : List UInt8} {c : Nat} (hS : P.underlying S = some (.slice e)) (he : P.underlying e = some (.int .u8)) (hD : P.underlying D = some .string) (h : RdS w A (bcells bs)) : (convert S D (.slice A bs.length c)).run P w = .ok (.string (ba bs)) w := by
  unfold convert
  simp [Sem.run_bind, run_underlying hS, run_underlying hD, run_underlying he, Result.andThen, run_bytesStr h]
theorem run_equalMap {T k v : TypeId} (hu : P.underlying T = some (.map k v)) (m : Option Nat) (w : World) : (Op.equal T (.map m) (.map none)).run P w = .ok m.isNone w := by
  have h : ∀ d, (Op.equalIn (d + 1) T (.map m) (.map none)).run P w = .ok m.isNone w := fun d => by
    cases m <;> simp [Op.equalIn, run_underlying hu, Sem.run_bind, Result.andThen]
  exact h 9999
theorem run_neMap {T k v : TypeId} (hu : P.underlying T = some (.map k v)) (m : Option Nat) (w : World) : (binOp .neq T (.map m) (.map none)).run P w = .ok (.bool m.isSome) w := by
  cases m <;> simp [binOp, run_equalMap hu, Sem.run_bind, Result.andThen]
theorem run_eqMap {T k v : TypeId} (hu : P.underlying T = some (.map k v)) (m : Option Nat) (w : World) : (binOp .eql T (.map m) (.map none)).run P w = .ok (.bool m.isNone) w := by
  cases m <;> simp [binOp, run_equalMap hu, Sem.run_bind, Result.andThen]
end HL
end Go.Proofs.YtfopgaijfeeioaaGreat
set_option linter.unusedVariables false
set_option linter.unusedSimpArgs false
set_option linter.unusedSectionVars false
namespace Go.Proofs.YtfopgaijfeeioaaGreat
namespace HL
open Go Go.RowKit
section
variable {P : Program} {ops : Array Oper} {Q : Exit → Act → World → Prop} {S : World → Prop}
inductive Plan where
  | nil : Plan
  | q : Nat → Plan → Plan
  | s : Nat → Plan → Plan
  | s2 : Nat → Plan → Nat → Plan → Plan
  | s3 : Nat → Plan → Nat → Plan → Nat → Plan → Plan
def Plan.len : Plan → Nat
  | .nil => 0
  | .q _ p | .s _ p => p.len + 1
  | .s2 _ p _ r => max p.len r.len + 1
  | .s3 _ p _ r _ t => max p.len (max r.len t.len) + 1
def wpSched (P : Program) (ops : Array Oper) (Q : Exit → Act → World → Prop) (S : World → Prop) : Plan → Act → World → Prop
  | .nil, a, w => Q .normal a w
  | .q i σ, a, w => ∃ o, ops[i]? = some o ∧ S w ∧ ∃ v, YieldsIf P ops S o v a ∧ wpSched P ops Q S σ (a.put o.dst v) w
  | .s i σ, a, w => ∃ o, ops[i]? = some o ∧ wpOp P ops Q i (fun a' w' => S w' ∧ wpSched P ops Q S σ a' w') a w
  | .s2 i σ j τ, a, w => (∃ o, ops[i]? = some o ∧ wpOp P ops Q i (fun a' w' => S w' ∧ wpSched P ops Q S σ a' w') a w) ∧ ∃ o, ops[j]? = some o ∧ wpOp P ops Q j (fun a' w' => S w' ∧ wpSched P ops Q S τ a' w') a w
  | .s3 i σ j τ k ρ, a, w => (∃ o, ops[i]? = some o ∧ wpOp P ops Q i (fun a' w' => S w' ∧ wpSched P ops Q S σ a' w') a w) ∧ (∃ o, ops[j]? = some o ∧ wpOp P ops Q j (fun a' w' => S w' ∧ wpSched P ops Q S τ a' w') a w) ∧ ∃ o, ops[k]? = some o ∧ wpOp P ops Q k (fun a' w' => S w' ∧ wpSched P ops Q S ρ a' w') a w
def schedOk (md : Region.Mode) (ops : Array Oper) : Plan → Array Bool → Bool
  | .nil, listed => Region.ready md ops listed == []
  | .q i σ, listed => Region.free md ops listed i && (Region.ready md ops listed).contains i && schedOk md ops σ (listed.setIfInBounds i true)
  | .s i σ, listed => Region.ready md ops listed == [i] && schedOk md ops σ (listed.setIfInBounds i true)
  | .s2 i σ j τ, listed => Region.ready md ops listed == [i, j] && schedOk md ops σ (listed.setIfInBounds i true) && schedOk md ops τ (listed.setIfInBounds j true)
  | .s3 i σ j τ k ρ, listed => Region.ready md ops listed == [i, j, k] && schedOk md ops σ (listed.setIfInBounds i true) && schedOk md ops τ (listed.setIfInBounds j true) && schedOk md ops ρ (listed.setIfInBounds k true)
theorem wpAnyH_of_sched {md : Region.Mode} (hs : Region.noSelect ops = true) (hQ : ∀ (d : Option Tmp) v c a w, Q (.panic c) (a.put d v) w → Q (.panic c) a w) : ∀ (σ : Plan) (listed : Array Bool) (a : Act) (w : World), schedOk md ops σ listed = true →
    wpSched P ops Q S σ a w → ∀ fuel, σ.len ≤ fuel → wpAnyH P md ops Q S fuel listed a w
  | .nil, listed, a, w, hk, h, fuel, _ => wpAnyH_done (by simpa [schedOk] using hk) (by simpa [wpSched] using h) fuel
  | .q i σ, listed, a, w, hk, h, fuel, hf => by
    rw [wpSched] at h
    obtain ⟨o, ho, hS, v, hy, hrest⟩ := h
    simp only [schedOk, Bool.and_eq_true] at hk
    obtain ⟨fuel, rfl⟩ : ∃ m, fuel = m + 1 := ⟨fuel - 1, by simp [Plan.len] at hf; omega⟩
    exact wpAnyH_take ho hs hk.1.1 hk.1.2 (hQ o.dst v) hy hS (wpAnyH_of_sched hs hQ σ _ _ _ hk.2 hrest fuel (by simp [Plan.len] at hf; omega))
  | .s i σ, listed, a, w, hk, h, fuel, hf => by
    rw [wpSched] at h
    obtain ⟨o, ho, hrest⟩ := h
    simp only [schedOk, Bool.and_eq_true, beq_iff_eq] at hk
    obtain ⟨fuel, rfl⟩ : ∃ m, fuel = m + 1 := ⟨fuel - 1, by simp [Plan.len] at hf; omega⟩
    refine wpAnyH_all hk.1 (by simp) (fun j hj => ?_)
    simp at hj
    subst hj
    exact wpOp_mono (fun a' w' h' => ⟨h'.1, wpAnyH_of_sched hs hQ σ _ _ _ hk.2 h'.2 fuel (by simp [Plan.len] at hf; omega)⟩) hrest
  | .s2 i σ j τ, listed, a, w, hk, h, fuel, hf => by
    rw [wpSched] at h
    obtain ⟨⟨o, ho, hrest⟩, ⟨o2, ho2, hrest2⟩⟩ := h
    simp only [schedOk, Bool.and_eq_true, beq_iff_eq] at hk
    obtain ⟨fuel, rfl⟩ : ∃ m, fuel = m + 1 := ⟨fuel - 1, by simp [Plan.len] at hf; omega⟩
    refine wpAnyH_all hk.1.1 (by simp) (fun k hj => ?_)
    simp at hj
    rcases hj with rfl | rfl
    · exact wpOp_mono (fun a' w' h' => ⟨h'.1, wpAnyH_of_sched hs hQ σ _ _ _ hk.1.2 h'.2 fuel (by simp [Plan.len] at hf; omega)⟩) hrest
    · exact wpOp_mono (fun a' w' h' => ⟨h'.1, wpAnyH_of_sched hs hQ τ _ _ _ hk.2 h'.2 fuel (by simp [Plan.len] at hf; omega)⟩) hrest2
  | .s3 i σ j τ k ρ, listed, a, w, hk, h, fuel, hf => by
    rw [wpSched] at h
    obtain ⟨⟨o, ho, hrest⟩, ⟨o2, ho2, hrest2⟩, ⟨o3, ho3, hrest3⟩⟩ := h
    simp only [schedOk, Bool.and_eq_true, beq_iff_eq] at hk
    obtain ⟨fuel, rfl⟩ : ∃ m, fuel = m + 1 := ⟨fuel - 1, by simp [Plan.len] at hf; omega⟩
    refine wpAnyH_all hk.1.1.1 (by simp) (fun q hj => ?_)
    simp at hj
    rcases hj with rfl | rfl | rfl
    · exact wpOp_mono (fun a' w' h' => ⟨h'.1, wpAnyH_of_sched hs hQ σ _ _ _ hk.1.1.2 h'.2 fuel (by simp [Plan.len] at hf; omega)⟩) hrest
    · exact wpOp_mono (fun a' w' h' => ⟨h'.1, wpAnyH_of_sched hs hQ τ _ _ _ hk.1.2 h'.2 fuel (by simp [Plan.len] at hf; omega)⟩) hrest2
    · exact wpOp_mono (fun a' w' h' => ⟨h'.1, wpAnyH_of_sched hs hQ ρ _ _ _ hk.2 h'.2 fuel (by simp [Plan.len] at hf; omega)⟩) hrest3
theorem wp_region_sched {id : Nat} {a : Act} {w : World} {l : List Oper} (σ : Plan) (S : World → Prop) (hm : P.follows .mixedOrders = true) (hs : Region.noSelect l.toArray = true) (hk : schedOk .any l.toArray σ (Array.replicate l.length false) = true) (hl : σ.len ≤ l.length)
    (hQ : ∀ (d : Option Tmp) v c a w, Q (.panic c) (a.put d v) w → Q (.panic c) a w) (h : wpSched P l.toArray Q S σ a w.drew) : (Code.region id l.toArray true).wp P Q a w :=
  wp_region_held (S := S) hm (wpAnyH_of_sched hs hQ σ _ a _ (by simpa using hk) h _ (by simpa using hl))
variable {a : Act} {w : World} {o : Oper} {i : Nat} {σ : Plan}
theorem toArr (h : ops.toList[i]? = some o) : ops[i]? = some o := by simpa using h
theorem sched_r {v : Value} (ho0 : ops.toList[i]? = some o) (hw : Region.wanted o (yielded ops a.tmps) = true) (hS : S w) (hr : ∀ w, S w → (execOp a.eval o).run P w = .ok (.value v) w) (h : wpSched P ops Q S σ (a.put o.dst v) w) : wpSched P ops Q S (.q i σ) a w :=
  ⟨o, toArr ho0, hS, v, .inl ⟨hw, hr⟩, h⟩
theorem sched_skip (ho0 : ops.toList[i]? = some o) (hw : Region.wanted o (yielded ops a.tmps) = false) (hS : S w) (h : wpSched P ops Q S σ (a.put o.dst undef) w) : wpSched P ops Q S (.q i σ) a w :=
  ⟨o, toArr ho0, hS, undef, .inr ⟨hw, rfl⟩, h⟩
theorem sched_s (ho0 : ops.toList[i]? = some o) (hw : Region.wanted o (yielded ops a.tmps) = true) (h : o.wp P a w (fun a' w' => S w' ∧ wpSched P ops Q S σ a' w') Q) : wpSched P ops Q S (.s i σ) a w := by
  have ho := toArr ho0
  refine ⟨o, ho, ?_⟩
  unfold wpOp
  simp only [ho, hw, if_true]
  exact .inl h
theorem sched_sskip (ho0 : ops.toList[i]? = some o) (hw : Region.wanted o (yielded ops a.tmps) = false) (hS : S w) (h : wpSched P ops Q S σ (a.put o.dst undef) w) : wpSched P ops Q S (.s i σ) a w := by
  have ho := toArr ho0
  refine ⟨o, ho, ?_⟩
  unfold wpOp
  simp only [ho, hw, Bool.false_eq_true, if_false]
  exact ⟨hS, h⟩
variable {T : TypeId} {x y : Operand} {v : Value} {p : Addr}
end
theorem var_cells {g : Nat} {e : TypeId} {vs : List Value} {w : World} (h : (Res.var g e vs).holds w) : CellsAt w ⟨g, 0, none⟩ (flat vs) := by
  have h' : w.heap[g]? = some (.cells (flat vs).toArray e (0, 0)) := h
  simpa using blk_cells h'
theorem map_heap {κ ν : Type} {g c : Nat} {kenc : κ → Value} {venc : ν → Value} {l : List (κ × ν × Nat)} {w : World} (h : (Res.map g kenc venc l c).holds w) : w.heap[g]? = some (mobj kenc venc l c) := h
theorem row_reads {n c sz : Nat} {e : TypeId} {A : Option Addr} {xs : List Value} {w : World} (h : (Res.row A n c e sz xs).holds w) : RdS w A xs := seg_cells h
theorem St.map_get {w0 w : World} {M : Nat → Prop} {L : List Res} (h : St w0 w M L) {κ ν : Type} {i g c : Nat} {kenc : κ → Value} {venc : ν → Value} {l : List (κ × ν × Nat)} (hi : L[i]? = some (Res.map g kenc venc l c)) : w.heap[g]? = some (mobj kenc venc l c) := h.get hi
theorem fp_var {g : Nat} {e : TypeId} {vs : List Value} {b : Nat} : (Res.var g e vs).fp b ↔ b = g := Iff.rfl
theorem fp_row {n c sz : Nat} {e : TypeId} {A : Option Addr} {xs : List Value} {b : Nat} : (Res.row A n c e sz xs).fp b ↔ obl A = some b := Iff.rfl
theorem St.pickT {w0 w : World} {M : Nat → Prop} (Lf T : List Res) (h : St w0 w M (Lf ++ T)) (σ : List Nat) (hn : σ.Nodup) : St w0 w M (σ.filterMap (fun i => Lf[i]?) ++ T) := by
  have hm : ∀ r ∈ σ.filterMap (fun i => Lf[i]?), r ∈ Lf := fun r hr => by
    obtain ⟨i, _, hi⟩ := List.mem_filterMap.1 hr
    exact List.mem_of_getElem? hi
  have hd := List.pairwise_append.1 h.dis
  have hp := List.pairwise_iff_getElem.1 hd.1
  refine ⟨h.os, h.tape, h.output, h.drawn, h.size, h.keep, fun r hr => ?_, List.pairwise_append.2 ⟨?_, hd.2.1, fun r hr s hs => hd.2.2 r (hm r hr) s hs⟩, fun r hr => ?_⟩
  · rcases List.mem_append.1 hr with hr | hr
    · exact h.res r (List.mem_append_left _ (hm r hr))
    · exact h.res r (List.mem_append_right _ hr)
  · rw [List.pairwise_filterMap]
    refine hn.imp ?_
    intro i j hij r hr s hs b hb hb'
    obtain ⟨hil, rfl⟩ := List.getElem?_eq_some_iff.1 hr
    obtain ⟨hjl, rfl⟩ := List.getElem?_eq_some_iff.1 hs
    rcases Nat.lt_or_gt_of_ne hij with hlt | hgt
    · exact hp i j hil hjl hlt b hb hb'
    · exact hp j i hjl hil hgt b hb' hb
  · rcases List.mem_append.1 hr with hr | hr
    · exact h.own r (List.mem_append_left _ (hm r hr))
    · exact h.own r (List.mem_append_right _ hr)
theorem St.pick {w0 w : World} {M : Nat → Prop} {L : List Res} (h : St w0 w M L) (σ : List Nat) (hn : σ.Nodup) : St w0 w M (σ.filterMap fun i => L[i]?) := by
  have := St.pickT L [] (by simpa using h) σ hn
  simpa using this
theorem isAgg_hval (h : Hash) : isAggV (hval h) = true := rfl
theorem isAgg_mkS (vs : List Value) : isAggV (mkS vs) = true := rfl
attribute [irreducible] Res.blk Res.var Res.row Res.map Res.fact hval mkS mlook mhas flat
end HL
end Go.Proofs.YtfopgaijfeeioaaGreat
/- HEAP LIBRARY, second part: parts of slices. My own text; it names no program. -/

set_option linter.unusedVariables false
set_option linter.unusedSimpArgs false
set_option linter.unusedSectionVars false
namespace Go.Proofs.YtfopgaijfeeioaaGreat
namespace HL
open Go Go.RowKit
def tailA (A : Option Addr) (c i sz : Nat) : Option Addr := if c = i then A else A.map (·.add (i * sz))
theorem obl_tailA (A : Option Addr) (c i sz : Nat) : obl (tailA A c i sz) = obl A := by
  unfold tailA obl
  split
  · rfl
  · cases A <;> simp [block_of_add]
theorem rds_tail {w : World} {A : Option Addr} {n c i : Nat} {sz : Nat} {vs : List Value} (hsz : 0 < sz) (hs : ∀ v ∈ vs, v.cells.size = sz) (h : RdS w A (flat vs)) (hn : vs.length = n) (hc : n ≤ c) (hi : i ≤ n) : RdS w (tailA A c i sz) (flat (vs.drop i)) := by
  by_cases e : i = n
  · left
    rw [e, ← hn, List.drop_length]
    unfold flat
    rfl
  · rcases h with h | ⟨ad, rfl, h⟩
    · exfalso
      have h9 := congrArg List.length h
      rw [length_flat, szs_const hs, hn, List.length_nil] at h9
      have := Nat.mul_pos (show 0 < n by omega) hsz
      omega
    · right
      refine ⟨ad.add (i * sz), ?_, ?_⟩
      · unfold tailA
        rw [if_neg (by omega)]
        rfl
      · have hsplit : flat vs = flat (vs.take i) ++ flat (vs.drop i) := by rw [← flat_append, List.take_append_drop]
        rw [hsplit] at h
        refine h.right ?_
        rw [length_flat, szs_const (fun v hv => hs v (List.mem_of_mem_take hv)), List.length_take, hn, Nat.min_eq_left hi]
theorem rds_take {w : World} {A : Option Addr} {i : Nat} {vs : List Value} (h : RdS w A (flat vs)) : RdS w A (flat (vs.take i)) := by
  rcases h with h | ⟨ad, rfl, h⟩
  · left
    have : flat (vs.take i) ++ flat (vs.drop i) = [] := by rw [← flat_append, List.take_append_drop]; exact h
    exact (List.append_eq_nil_iff.1 this).1
  · right
    refine ⟨ad, rfl, ?_⟩
    have hsplit : flat vs = flat (vs.take i) ++ flat (vs.drop i) := by rw [← flat_append, List.take_append_drop]
    rw [hsplit] at h
    exact h.left
theorem add_zero (a : Addr) : a.add 0 = a := by unfold Addr.add; split <;> simp_all
section
variable {P : Program} {ops : Array Oper} {Q : Exit → Act → World → Prop} {S : World → Prop} {σ : Plan} {i : Nat}
variable {a : Act} {w : World} {o : Oper} {G : Prop} {K : Act → World → Prop} {x y : Operand}
theorem run_sliceLo {t e : TypeId} {agg : Bool} {sz bytes n c : Nat} {z : Value} {A : Option Addr} {k : IntKind} {j : Int} (hu : P.underlying t = some (.slice e)) (hT : TyIs P e agg sz z bytes) (h0 : 0 ≤ j) (h1 : j ≤ n) (w : World) :
    (Instr.sliceAt t (.slice A n c) (some (.int k j)) none none).run P w = .ok (.slice (tailA A c j.toNat sz) (n - j.toNat) (c - j.toNat)) w := by
  have hs := hT.size w
  unfold Instr.sliceAt
  simp only [Sem.run_bind, run_underlying hu, Result.andThen]
  unfold Instr.slice
  simp only [Sem.run_bind, run_underlying hu, Result.andThen]
  simp [Instr.sliceBounds, Instr.sliceBound, asIntOf, h0, h1, hs, Sem.run_bind, Result.andThen, tailA]
theorem run_sliceHi {t e : TypeId} {agg : Bool} {sz bytes n c : Nat} {z : Value} {A : Option Addr} {k : IntKind} {j : Int} (hu : P.underlying t = some (.slice e)) (hT : TyIs P e agg sz z bytes) (h0 : 0 ≤ j) (h1 : j ≤ c) (w : World) :
    (Instr.sliceAt t (.slice A n c) none (some (.int k j)) none).run P w = .ok (.slice A j.toNat c) w := by
  have hs := hT.size w
  unfold Instr.sliceAt
  simp only [Sem.run_bind, run_underlying hu, Result.andThen]
  unfold Instr.slice
  simp only [Sem.run_bind, run_underlying hu, Result.andThen]
  have e1 : (if c = 0 then A else A.map fun x => x.add 0) = A := by
    split
    · rfl
    · cases A <;> simp [add_zero]
  simp [Instr.sliceBounds, Instr.sliceBound, asIntOf, h0, h1, hs, Sem.run_bind, Result.andThen, e1]
end
end HL
end Go.Proofs.YtfopgaijfeeioaaGreat
