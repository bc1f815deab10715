/- SYMBOLIC STATES: types, parts of what lies flat, rows; the operations that only read. My own text; it names no program. -/
import Derived.Test.YtonbgcehgmpnkaaK1
import Derived.Test.YtonbgcehgmpnkaaR
set_option linter.unusedVariables false
set_option linter.unusedSimpArgs false
set_option linter.unusedSectionVars false
namespace Go.Proofs.Ytonbgcehgmpnkaa
namespace HL
open Go Go.RowKit
/-! ### what is known of types -/
class TyA (P : Program) (T : TypeId) (agg : outParam Bool) (sz : outParam Nat) (z : outParam SV) (bytes : outParam Nat) : Prop where
  is : TyIs P T agg sz z.den bytes
  zs : ats z.ats = sz
  za : z.isAgg = agg
class UD (P : Program) (T : TypeId) (d : outParam TypeDesc) : Prop where
  is : P.underlying T = some d
class FA (P : Program) (T : TypeId) (k : Nat) (off : outParam Nat) : Prop where
  is : fieldFact P T k = some off
class FT (P : Program) (T : TypeId) (k : Nat) (ft : outParam TypeId) (off : outParam Nat) : Prop where
  is : fieldTy P T k = some (ft, off)
class PL (P : Program) (T : TypeId) (pl : outParam (List (Nat × Nat))) : Prop where
  is : structPlaces P T = some pl
/-! ### parts -/
def takeSz : List At → Nat → Option (List At)
  | _, 0 => some []
  | [], _ + 1 => none
  | a :: as, n + 1 => bif Nat.ble a.sz (n + 1) then (match takeSz as (n + 1 - a.sz) with | some r => some (a :: r) | none => none) else none
def cutAt : List At → Nat → Nat → Option (List At)
  | as, 0, sz => takeSz as sz
  | [], _ + 1, _ => none
  | a :: as, off + 1, sz => bif Nat.ble a.sz (off + 1) then cutAt as (off + 1 - a.sz) sz else none
def mkSV (agg : Bool) (as : List At) : Option SV :=
  match agg, as with
  | true, as => some (.agg as)
  | false, [.one p] => some (.one p)
  | false, _ => none
theorem takeSz_spec : ∀ (as : List At) (n : Nat) {r : List At}, takeSz as n = some r → ∃ q, as = r ++ q ∧ ats r = n
  | as, 0, r, h => by
    have : r = [] := by cases as <;> (unfold takeSz at h; injection h with h; exact h.symm)
    subst this
    exact ⟨as, rfl, rfl⟩
  | [], n + 1, r, h => by unfold takeSz at h; cases h
  | a :: as, n + 1, r, h => by
    unfold takeSz at h
    cases hb : Nat.ble a.sz (n + 1) with
    | false => rw [hb] at h; cases h
    | true =>
      rw [hb] at h
      simp only [cond_true] at h
      cases ht : takeSz as (n + 1 - a.sz) with
      | none => rw [ht] at h; cases h
      | some r' =>
        rw [ht] at h
        injection h with h
        subst h
        obtain ⟨q, e1, e2⟩ := takeSz_spec as _ ht
        have := Nat.le_of_ble_eq_true hb
        refine ⟨q, by rw [e1]; rfl, ?_⟩
        show a.sz + ats r' = n + 1
        omega
theorem cutAt_spec : ∀ (as : List At) (off sz : Nat) {r : List At}, cutAt as off sz = some r → ∃ p q, as = p ++ r ++ q ∧ ats p = off ∧ ats r = sz
  | as, 0, sz, r, h => by
    have h' : takeSz as sz = some r := by cases as <;> (unfold cutAt at h; exact h)
    obtain ⟨q, e1, e2⟩ := takeSz_spec as sz h'
    exact ⟨[], q, by simpa using e1, rfl, e2⟩
  | [], off + 1, sz, r, h => by unfold cutAt at h; cases h
  | a :: as, off + 1, sz, r, h => by
    unfold cutAt at h
    cases hb : Nat.ble a.sz (off + 1) with
    | false => rw [hb] at h; cases h
    | true =>
      rw [hb] at h
      simp only [cond_true] at h
      obtain ⟨p, q, e1, e2, e3⟩ := cutAt_spec as _ sz h
      have := Nat.le_of_ble_eq_true hb
      refine ⟨a :: p, q, by rw [e1]; rfl, ?_, e3⟩
      show a.sz + ats p = off + 1
      omega
theorem mkSV_spec {agg : Bool} {as : List At} {v : SV} (h : mkSV agg as = some v) : v.ats = as ∧ v.isAgg = agg := by
  unfold mkSV at h
  split at h
  · injection h with h; subst h; exact ⟨rfl, rfl⟩
  · injection h with h; subst h; exact ⟨rfl, rfl⟩
  · cases h
theorem CellsAt.cut {w : World} {ad : Addr} {as r : List At} {off sz : Nat} (h : CellsAt w ad (flat (vals as))) (hc : cutAt as off sz = some r) : CellsAt w (ad.add off) (flat (vals r)) := by
  obtain ⟨p, q, e1, e2, e3⟩ := cutAt_spec as off sz hc
  rw [e1, vals_append, vals_append, flat_append, flat_append] at h
  exact (h.left).right (by rw [length_flat, szs_vals]; exact e2)
theorem fits_sv {P : Program} {T : TypeId} {agg : Bool} {sz bytes : Nat} {z : SV} [h : TyA P T agg sz z bytes] {v : SV} (ha : v.isAgg = agg) (hs : ats v.ats = sz) : Fits P T v.den := fits_of h.is (by rw [v.isAgg_den, ha]) (by rw [v.sz_den, hs])
/-! ### resources -/
/-- A variable of its own block. -/
def Res.va (g : Nat) (e : TypeId) (as : List At) : Res := Res.var g e (vals as)
theorem va_cells {g : Nat} {e : TypeId} {as : List At} {w : World} (h : (Res.va g e as).holds w) : CellsAt w ⟨g, 0, none⟩ (flat (vals as)) := var_cells h
/-- How elements lie. -/
structure En (α : Type) where
  f : α → SV
  agg : Bool
  sz : Nat
  ok : ∀ x, (f x).isAgg = agg ∧ ats (f x).ats = sz
  pos : 0 < sz
def En.dens {α : Type} (E : En α) (l : List α) : List Value := l.map fun x => (E.f x).den
theorem En.sizes {α : Type} (E : En α) (l : List α) : ∀ v ∈ E.dens l, v.cells.size = E.sz := fun v hv => by
  obtain ⟨x, _, rfl⟩ := List.mem_map.1 hv
  rw [SV.sz_den]
  exact (E.ok x).2
theorem En.get {α : Type} (E : En α) {l : List α} {j : Nat} {x : α} (h : l[j]? = some x) : (E.dens l)[j]? = some (E.f x).den := by
  unfold En.dens
  rw [List.getElem?_map, h]
  rfl
/-- A slice of one's own, with all its room. -/
def Res.rows {α : Type} (A : Option Addr) (c : Nat) (e : TypeId) (E : En α) (l : List α) : Res := Res.row A l.length c e E.sz (flat (E.dens l))
/-- A slice that is read. -/
def Res.rd {α : Type} (A : Option Addr) (E : En α) (l : List α) : Res := Res.fact (fun w => RdS w A (flat (E.dens l))) (fun b => l ≠ [] ∧ obl A = some b)
  (fun w h b hb => by
    rcases h with h | ⟨ad, rfl, h⟩
    · exfalso
      obtain ⟨x, hx⟩ := List.exists_mem_of_ne_nil l hb.1
      have h1 := List.flatMap_eq_nil_iff.1 (show (E.dens l).flatMap (fun v => v.cells.toList) = [] by unfold flat at h; exact h) (E.f x).den (List.mem_map.2 ⟨x, hx, rfl⟩)
      have h2 := (E.f x).sz_den
      rw [(E.ok x).2, ← Array.length_toList, h1] at h2
      have := E.pos
      simp at h2
      omega
    · have e1 : ad.block = b := by simpa [obl] using hb.2
      rw [← e1]
      refine h.lt fun h1 => ?_
      obtain ⟨x, hx⟩ := List.exists_mem_of_ne_nil l hb.1
      have h1' := List.flatMap_eq_nil_iff.1 (show (E.dens l).flatMap (fun v => v.cells.toList) = [] by unfold flat at h1; exact h1) (E.f x).den (List.mem_map.2 ⟨x, hx, rfl⟩)
      have h2 := (E.f x).sz_den
      rw [(E.ok x).2, ← Array.length_toList, h1'] at h2
      have := E.pos
      simp at h2
      omega)
  (fun w w' hb h => by
    by_cases hl : l = []
    · subst hl
      left
      unfold En.dens flat
      rfl
    · refine h.of_heap fun ad hA _ => hb _ ⟨hl, by rw [hA]; rfl⟩)
theorem rows_reads {α : Type} {A : Option Addr} {c : Nat} {e : TypeId} {E : En α} {l : List α} {w : World} (h : (Res.rows A c e E l).holds w) : RdS w A (flat (E.dens l)) := row_reads h
theorem rd_reads {α : Type} {A : Option Addr} {E : En α} {l : List α} {w : World} (h : (Res.rd A E l).holds w) : RdS w A (flat (E.dens l)) := by
  unfold Res.rd Res.fact at h
  exact h
theorem flat_pos {α : Type} {E : En α} {l : List α} (hl : 0 < l.length) : flat (E.dens l) ≠ [] := fun h => by
  obtain ⟨x, hx⟩ := List.exists_mem_of_ne_nil l (List.length_pos_iff.1 hl)
  have h1' := List.flatMap_eq_nil_iff.1 (show (E.dens l).flatMap (fun v => v.cells.toList) = [] by unfold flat at h; exact h) (E.f x).den (List.mem_map.2 ⟨x, hx, rfl⟩)
  have h2 := (E.f x).sz_den
  rw [(E.ok x).2, ← Array.length_toList, h1'] at h2
  have := E.pos
  simp at h2
  omega
theorem rds_some {α : Type} {A : Option Addr} {E : En α} {l : List α} {w : World} (h : RdS w A (flat (E.dens l))) (hl : 0 < l.length) : ∃ ad, A = some ad ∧ CellsAt w ad (flat (E.dens l)) := by
  rcases h with h | h
  · exact absurd h (flat_pos hl)
  · exact h
theorem rds_elem {α : Type} {ad : Addr} {E : En α} {l : List α} {w : World} (h : CellsAt w ad (flat (E.dens l))) {j : Nat} {x : α} (hx : l[j]? = some x) : CellsAt w (ad.add (j * E.sz)) (flat (vals (E.f x).ats)) := by
  rw [← SV.cells_den]
  exact h.elem (E.sizes l) (E.get hx)
/-! ### the operations that read -/
section
variable {P : Program} {env : List (Nat × TV)} {n : Nat} {B L : List (Nat × Res)}
variable {dst : Option Tmp} {ty : TypeId} {pos : String} {af : Array Edge} {gd : Option (Nat × Bool)} {x y z : Operand} {T T' : TypeId}
theorem r_move {v : TV} (hx : ev env x = some v := by rfl) : Reads P ⟨dst, .move x, ty, pos, af, gd⟩ env n B L v := fun a w ht _ => by
  unfold execOp
  simp [ev_sound ht hx]
theorem r_assign {v : TV} (hx : ev env x = some v := by rfl) : Reads P ⟨dst, .assign x, ty, pos, af, gd⟩ env n B L v := fun a w ht _ => by
  unfold execOp
  simp [ev_sound ht hx]
theorem r_pick {v u : TV} {c : Bool} (hc : ev env x = some (vb c) := by rfl) (hy : ev env y = some v := by rfl) (hz : ev env z = some u := by rfl) : Reads P ⟨dst, .pick x y z, ty, pos, af, gd⟩ env n B L (bif c then v else u) := fun a w ht _ => by
  unfold execOp
  have h1 : a.eval x = .bool c := ev_sound ht hc
  cases c <;> simp [h1, ev_sound ht hy, ev_sound ht hz, asBool, Sem.run_bind]
theorem r_pickB {u v c : Bool} (hc : ev env x = some (vb c) := by rfl) (hy : ev env y = some (vb u) := by rfl) (hz : ev env z = some (vb v) := by rfl) : Reads P ⟨dst, .pick x y z, ty, pos, af, gd⟩ env n B L (vb (if c then u else v)) := fun a w ht _ => by
  unfold execOp
  have h1 : a.eval x = .bool c := ev_sound ht hc
  have h2 : a.eval y = .bool u := ev_sound ht hy
  have h3 : a.eval z = .bool v := ev_sound ht hz
  cases c <;> simp [h1, h2, h3, asBool, Sem.run_bind, TV.den, SV.den, PV.den]
theorem r_or {u c : Bool} (hc : ev env x = some (vb c) := by rfl) (hy : ev env y = some (vb true) := by rfl) (hz : ev env z = some (.cond (!c) (.one (.b u))) := by rfl) : Reads P ⟨dst, .pick x y z, ty, pos, af, gd⟩ env n B L (vb (c || u)) := fun a w ht _ => by
  unfold execOp
  have h1 : a.eval x = .bool c := ev_sound ht hc
  have h2 : a.eval y = .bool true := ev_sound ht hy
  have h3 : a.eval z = if (!c) = true then .bool u else undef := ev_sound ht hz
  cases c <;> simp [h1, h2, h3, asBool, Sem.run_bind, TV.den, SV.den, PV.den]
theorem r_and {u c : Bool} (hc : ev env x = some (vb c) := by rfl) (hy : ev env y = some (.cond c (.one (.b u))) := by rfl) (hz : ev env z = some (vb false) := by rfl) : Reads P ⟨dst, .pick x y z, ty, pos, af, gd⟩ env n B L (vb (c && u)) := fun a w ht _ => by
  unfold execOp
  have h1 : a.eval x = .bool c := ev_sound ht hc
  have h2 : a.eval z = .bool false := ev_sound ht hz
  have h3 : a.eval y = if c = true then .bool u else undef := ev_sound ht hy
  cases c <;> simp [h1, h2, h3, asBool, Sem.run_bind, TV.den, SV.den, PV.den]
theorem r_extract {l : List SV} {k : Nat} {v : SV} (hx : ev env x = some (.tup l) := by rfl) (hv : l[k]? = some v := by rfl) : Reads P ⟨dst, .extract x k, ty, pos, af, gd⟩ env n B L (.s v) := fun a w ht _ => by
  unfold execOp
  have h1 : a.eval x = .tuple (l.map SV.den).toArray := ev_sound ht hx
  simp only [h1, Instr.extract, Sem.run_bind]
  have : (l.map SV.den).toArray[k]? = some v.den := by simp [hv]
  rw [this]
  rfl
theorem r_nilCheck {i : Nat} {p : Addr} (hx : ev env x = some (vp i p) := by rfl) : Reads P ⟨dst, .nilCheck x, ty, pos, af, gd⟩ env n B L (vp i p) := fun a w ht _ => by
  unfold execOp
  have h1 : a.eval x = .pointer (some p) := ev_sound ht hx
  simp only [h1]
  rfl
theorem r_nilCheckF {f : FuncId} {cap : List Value} {gh : List Nat} (hx : ev env x = some (.s (.one (.fn f cap gh))) := by rfl) : Reads P ⟨dst, .nilCheck x, ty, pos, af, gd⟩ env n B L (.s (.one (.fn f cap gh))) := fun a w ht _ => by
  unfold execOp
  have h1 : a.eval x = .func (.func f) #[] cap.toArray := ev_sound ht hx
  simp only [h1]
  rfl
/-! numbers -/
theorem run_int {o : BinOp} {k : IntKind} {p q r : Int} (w : World) (h : (binOp o T (.int k p) (.int k q)).run P w = .ok (.int k r) w) (hne : o ≠ .eql ∧ o ≠ .neq) : (do eqGuard o T x y (.int k p) (.int k q); binOp o T (.int k p) (.int k q) : Sem Value).run P w = .ok (.int k r) w := by
  have : eqGuard o T x y (.int k p) (.int k q) = pure () := by
    unfold eqGuard
    cases o <;> simp_all
  rw [this]
  simpa [Sem.run_bind] using h
theorem r_arith {o : BinOp} {k : IntKind} {p q r : Int} (hne : o ≠ .eql ∧ o ≠ .neq) (hx : ev env x = some (vi k p)) (hy : ev env y = some (vi k q)) (h : ∀ w, (binOp o T (.int k p) (.int k q)).run P w = .ok (.int k r) w) : Reads P ⟨dst, .binOp o T x y T', ty, pos, af, gd⟩ env n B L (vi k r) := fun a w ht _ => by
  unfold execOp
  have h1 : a.eval x = .int k p := ev_sound ht hx
  have h2 : a.eval y = .int k q := ev_sound ht hy
  simp only [h1, h2]
  rw [Sem.run_bind, run_int w (h w) hne]
  rfl
theorem r_addW {k : IntKind} {p q : Int} (hx : ev env x = some (vi k p) := by rfl) (hy : ev env y = some (vi k q) := by rfl) : Reads P ⟨dst, .binOp .add T x y T', ty, pos, af, gd⟩ env n B L (vi k (k.wrap (p + q))) :=
  r_arith (by simp) hx hy fun w => by simp [binOp, Op.intArith]
theorem r_subW {k : IntKind} {p q : Int} (hx : ev env x = some (vi k p) := by rfl) (hy : ev env y = some (vi k q) := by rfl) : Reads P ⟨dst, .binOp .sub T x y T', ty, pos, af, gd⟩ env n B L (vi k (k.wrap (p - q))) :=
  r_arith (by simp) hx hy fun w => by simp [binOp, Op.intArith]
theorem r_mulW {k : IntKind} {p q : Int} (hx : ev env x = some (vi k p) := by rfl) (hy : ev env y = some (vi k q) := by rfl) : Reads P ⟨dst, .binOp .mul T x y T', ty, pos, af, gd⟩ env n B L (vi k (k.wrap (p * q))) :=
  r_arith (by simp) hx hy fun w => by simp [binOp, Op.intArith]
theorem wrap_id64 {p : Int} (h : -9223372036854775808 ≤ p ∧ p ≤ 9223372036854775807) : IntKind.i64.wrap p = p := by rw [IntKind.wrap_i64]; omega
theorem r_add {p q : Int} (hx : ev env x = some (vint p) := by rfl) (hy : ev env y = some (vint q) := by rfl) (h : -9223372036854775808 ≤ p + q ∧ p + q ≤ 9223372036854775807 := by omega) : Reads P ⟨dst, .binOp .add T x y T', ty, pos, af, gd⟩ env n B L (vint (p + q)) := by
  have := r_addW (P := P) (T := T) (T' := T') (dst := dst) (ty := ty) (pos := pos) (af := af) (gd := gd) (n := n) (B := B) (L := L) hx hy
  rwa [wrap_id64 h] at this
theorem r_sub {p q : Int} (hx : ev env x = some (vint p) := by rfl) (hy : ev env y = some (vint q) := by rfl) (h : -9223372036854775808 ≤ p - q ∧ p - q ≤ 9223372036854775807 := by omega) : Reads P ⟨dst, .binOp .sub T x y T', ty, pos, af, gd⟩ env n B L (vint (p - q)) := by
  have := r_subW (P := P) (T := T) (T' := T') (dst := dst) (ty := ty) (pos := pos) (af := af) (gd := gd) (n := n) (B := B) (L := L) hx hy
  rwa [wrap_id64 h] at this
theorem r_mul {p q : Int} (hx : ev env x = some (vint p) := by rfl) (hy : ev env y = some (vint q) := by rfl) (h : -9223372036854775808 ≤ p * q ∧ p * q ≤ 9223372036854775807 := by omega) : Reads P ⟨dst, .binOp .mul T x y T', ty, pos, af, gd⟩ env n B L (vint (p * q)) := by
  have := r_mulW (P := P) (T := T) (T' := T') (dst := dst) (ty := ty) (pos := pos) (af := af) (gd := gd) (n := n) (B := B) (L := L) hx hy
  rwa [wrap_id64 h] at this
theorem r_quoT {k : IntKind} {p q : Int} (hx : ev env x = some (vi k p) := by rfl) (hy : ev env y = some (vi k q) := by rfl) (h : q ≠ 0 := by omega) : Reads P ⟨dst, .binOp .quo T x y T', ty, pos, af, gd⟩ env n B L (vi k (k.wrap (p.tdiv q))) :=
  r_arith (by simp) hx hy fun w => by simp [binOp, Op.intDiv, h]
theorem r_remT {k : IntKind} {p q : Int} (hx : ev env x = some (vi k p) := by rfl) (hy : ev env y = some (vi k q) := by rfl) (h : q ≠ 0 := by omega) : Reads P ⟨dst, .binOp .rem T x y T', ty, pos, af, gd⟩ env n B L (vi k (p.tmod q)) :=
  r_arith (by simp) hx hy fun w => by simp [binOp, Op.intDiv, h]
theorem r_quo {p q : Int} (hx : ev env x = some (vint p) := by rfl) (hy : ev env y = some (vint q) := by rfl) (h : 0 < q ∧ 0 ≤ p ∧ p ≤ 9223372036854775807 := by omega) : Reads P ⟨dst, .binOp .quo T x y T', ty, pos, af, gd⟩ env n B L (vint (p / q)) := by
  have := r_quoT (P := P) (T := T) (T' := T') (dst := dst) (ty := ty) (pos := pos) (af := af) (gd := gd) (n := n) (B := B) (L := L) hx hy (by omega)
  rwa [Int.tdiv_eq_ediv_of_nonneg h.2.1, wrap_id64 ⟨by have := Int.ediv_nonneg h.2.1 (Int.le_of_lt h.1); omega, by have := Int.ediv_le_self q h.2.1; omega⟩] at this
theorem r_rem {k : IntKind} {p q : Int} (hx : ev env x = some (vi k p) := by rfl) (hy : ev env y = some (vi k q) := by rfl) (h : 0 < q ∧ 0 ≤ p := by omega) : Reads P ⟨dst, .binOp .rem T x y T', ty, pos, af, gd⟩ env n B L (vi k (p % q)) := by
  have := r_remT (P := P) (T := T) (T' := T') (dst := dst) (ty := ty) (pos := pos) (af := af) (gd := gd) (n := n) (B := B) (L := L) hx hy (by omega)
  rwa [Int.tmod_eq_emod_of_nonneg h.2] at this
theorem r_neg {k : IntKind} {p : Int} (hx : ev env x = some (vi k p) := by rfl) : Reads P ⟨dst, .unOp .neg T x, ty, pos, af, gd⟩ env n B L (vi k (k.wrap (0 - p))) := fun a w ht _ => by
  unfold execOp
  have h1 : a.eval x = .int k p := ev_sound ht hx
  simp [h1, Op.unary, Op.intArith, TV.den, SV.den, PV.den, Sem.run_bind]
theorem r_not {p : Bool} (hx : ev env x = some (vb p) := by rfl) : Reads P ⟨dst, .unOp .not T x, ty, pos, af, gd⟩ env n B L (vb (!p)) := fun a w ht _ => by
  unfold execOp
  have h1 : a.eval x = .bool p := ev_sound ht hx
  simp [h1, Op.unary, TV.den, SV.den, PV.den, Sem.run_bind]
theorem run_cmp {o : BinOp} {k : IntKind} {p q : Int} {r : Bool} (w : World) (h : (binOp o T (.int k p) (.int k q)).run P w = .ok (.bool r) w) : (do eqGuard o T x y (.int k p) (.int k q); binOp o T (.int k p) (.int k q) : Sem Value).run P w = .ok (.bool r) w := by
  have : (eqGuard o T x y (.int k p) (.int k q)).run P w = .ok () w := by
    unfold eqGuard
    cases o <;> simp
  rw [Sem.run_bind, this]
  exact h
theorem r_cmp {o : BinOp} {k : IntKind} {p q : Int} {r : Bool} (hx : ev env x = some (vi k p)) (hy : ev env y = some (vi k q)) (h : ∀ w, (binOp o T (.int k p) (.int k q)).run P w = .ok (.bool r) w) : Reads P ⟨dst, .binOp o T x y T', ty, pos, af, gd⟩ env n B L (vb r) := fun a w ht _ => by
  unfold execOp
  have h1 : a.eval x = .int k p := ev_sound ht hx
  have h2 : a.eval y = .int k q := ev_sound ht hy
  simp only [h1, h2]
  rw [Sem.run_bind, run_cmp w (h w)]
  rfl
theorem r_lss {k : IntKind} {p q : Int} (hx : ev env x = some (vi k p) := by rfl) (hy : ev env y = some (vi k q) := by rfl) : Reads P ⟨dst, .binOp .lss T x y T', ty, pos, af, gd⟩ env n B L (vb (decide (p < q))) := r_cmp hx hy fun w => by simp [binOp, Op.intCmp]
theorem r_leq {k : IntKind} {p q : Int} (hx : ev env x = some (vi k p) := by rfl) (hy : ev env y = some (vi k q) := by rfl) : Reads P ⟨dst, .binOp .leq T x y T', ty, pos, af, gd⟩ env n B L (vb (decide (p ≤ q))) := r_cmp hx hy fun w => by simp [binOp, Op.intCmp]
theorem r_gtr {k : IntKind} {p q : Int} (hx : ev env x = some (vi k p) := by rfl) (hy : ev env y = some (vi k q) := by rfl) : Reads P ⟨dst, .binOp .gtr T x y T', ty, pos, af, gd⟩ env n B L (vb (decide (q < p))) := r_cmp hx hy fun w => by simp [binOp, Op.intCmp]
theorem r_geq {k : IntKind} {p q : Int} (hx : ev env x = some (vi k p) := by rfl) (hy : ev env y = some (vi k q) := by rfl) : Reads P ⟨dst, .binOp .geq T x y T', ty, pos, af, gd⟩ env n B L (vb (decide (q ≤ p))) := r_cmp hx hy fun w => by simp [binOp, Op.intCmp]
theorem r_eql {k : IntKind} {p q : Int} (hx : ev env x = some (vi k p) := by rfl) (hy : ev env y = some (vi k q) := by rfl) : Reads P ⟨dst, .binOp .eql T x y T', ty, pos, af, gd⟩ env n B L (vb (decide (p = q))) := r_cmp hx hy fun w => by simp [binOp, Op.intCmp]; rfl
theorem r_neq {k : IntKind} {p q : Int} (hx : ev env x = some (vi k p) := by rfl) (hy : ev env y = some (vi k q) := by rfl) : Reads P ⟨dst, .binOp .neq T x y T', ty, pos, af, gd⟩ env n B L (vb (!decide (p = q))) := r_cmp hx hy fun w => by simp [binOp, Op.intCmp, bne]; rfl
theorem r_convW {k k' : IntKind} {p : Int} [hd : UD P T' (.int k)] (hx : ev env x = some (vi k' p) := by rfl) (hs : (P.underlying T).isSome = true := by kernel_rfl) : Reads P ⟨dst, .convert T T' x, ty, pos, af, gd⟩ env n B L (vi k (k.wrap p)) := fun a w ht _ => by
  unfold execOp
  have h1 : a.eval x = .int k' p := ev_sound ht hx
  obtain ⟨d, hd'⟩ := Option.isSome_iff_exists.1 hs
  simp [h1, convert, run_underlying hd', run_underlying hd.is, Conv.intToInt, TV.den, SV.den, PV.den, Sem.run_bind]
/-! strings -/
theorem eqGuard_str (o : BinOp) (p q : ByteArray) (w : World) : (eqGuard o T x y (.string p) (.string q)).run P w = .ok () w := by
  unfold eqGuard
  cases o <;> simp
theorem r_strOp {o : BinOp} {p q : ByteArray} {r : Bool} (hx : ev env x = some (vs p)) (hy : ev env y = some (vs q)) (h : ∀ w, (binOp o T (.string p) (.string q)).run P w = .ok (.bool r) w) : Reads P ⟨dst, .binOp o T x y T', ty, pos, af, gd⟩ env n B L (vb r) := fun a w ht _ => by
  unfold execOp
  have h1 : a.eval x = .string p := ev_sound ht hx
  have h2 : a.eval y = .string q := ev_sound ht hy
  simp only [h1, h2]
  rw [Sem.run_bind, Sem.run_bind, eqGuard_str, Result.andThen_ok, h w]
  rfl
theorem toList_data (x : ByteArray) : x.toList = x.data.toList := by
  have := toList_ba x.data.toList
  rw [ba_of] at this
  exact this
theorem toList_inj {x y : ByteArray} : x.toList = y.toList ↔ x = y := by
  rw [toList_data, toList_data]
  exact ⟨fun h => ByteArray.ext (Array.toList_inj.1 h), fun h => by rw [h]⟩
theorem beq_toList (p q : ByteArray) : (p.toList == q.toList) = decide (p = q) := by
  by_cases h : p = q
  · subst h; simp
  · rw [decide_eq_false h]
    simp only [beq_eq_false_iff_ne, ne_eq]
    exact fun e => h (toList_inj.1 e)
theorem r_eqlS {p q : ByteArray} (hx : ev env x = some (vs p) := by rfl) (hy : ev env y = some (vs q) := by rfl) : Reads P ⟨dst, .binOp .eql T x y T', ty, pos, af, gd⟩ env n B L (vb (decide (p = q))) := r_strOp hx hy fun w => by simp [binOp, Op.stringOp, beq_toList]
theorem r_neqS {p q : ByteArray} (hx : ev env x = some (vs p) := by rfl) (hy : ev env y = some (vs q) := by rfl) : Reads P ⟨dst, .binOp .neq T x y T', ty, pos, af, gd⟩ env n B L (vb (!decide (p = q))) := r_strOp hx hy fun w => by simp [binOp, Op.stringOp, beq_toList]
def bltS (x y : ByteArray) : Prop := bcmp x.data.toList y.data.toList < 0
instance (x y : ByteArray) : Decidable (bltS x y) := inferInstanceAs (Decidable (_ < _))
theorem r_lssS {p q : ByteArray} (hx : ev env x = some (vs p) := by rfl) (hy : ev env y = some (vs q) := by rfl) : Reads P ⟨dst, .binOp .lss T x y T', ty, pos, af, gd⟩ env n B L (vb (decide (bltS p q))) := r_strOp hx hy fun w => by simp only [binOp, Op.stringOp, toList_data, bytesLess_bcmp]; rfl
theorem r_lenS {p : ByteArray} [hT : UD P T .string] (hx : ev env x = some (vs p) := by rfl) : Reads P ⟨dst, .call { callee := .builtin .len, args := #[x], argTypes := #[T] }, ty, pos, af, gd⟩ env n B L (vint p.size) := fun a w ht _ => by
  unfold execOp
  have h1 : a.eval x = .string p := ev_sound ht hx
  simp [resolve, invoke, builtin, Builtin.len_, h1, run_underlying hT.is, goInt, TV.den, SV.den, PV.den, Sem.run_bind]
theorem r_len {e : TypeId} {i m c : Nat} {A : Option Addr} [hT : UD P T (.slice e)] (hx : ev env x = some (vsl i A m c) := by rfl) : Reads P ⟨dst, .call { callee := .builtin .len, args := #[x], argTypes := #[T] }, ty, pos, af, gd⟩ env n B L (vint m) := fun a w ht _ => by
  unfold execOp
  have h1 : a.eval x = .slice A m c := ev_sound ht hx
  simp [resolve, invoke, builtin, Builtin.len_, h1, run_underlying hT.is, goInt, TV.den, SV.den, PV.den, Sem.run_bind]
/-! memory -/
theorem r_load {i g off : Nat} {e : TypeId} {as r : List At} {v : SV} {agg : Bool} {sz bytes : Nat} {z : SV} [hT : TyA P T agg sz z bytes] (hx : ev env x = some (vp i ⟨g, off, none⟩) := by rfl) (hr : lk2 B L i = some (Res.va g e as) := by rfl) (hc : cutAt as off sz = some r := by rfl) (hv : mkSV agg r = some v := by rfl) : Reads P ⟨dst, .load T x, ty, pos, af, gd⟩ env n B L (.s v) := fun a w ht hf => by
  obtain ⟨h2, h3⟩ := mkSV_spec hv
  obtain ⟨_, _, _, _, h4⟩ := cutAt_spec as off sz hc
  have hcells : CellsAt w ⟨g, off, none⟩ v.den.cells.toList := by
    have := (va_cells (hf i _ hr)).cut hc
    rw [add_lit0, Nat.zero_add] at this
    rw [SV.cells_den, h2]
    exact this
  unfold execOp
  have h1 : a.eval x = .pointer (some ⟨g, off, none⟩) := ev_sound ht hx
  simp [h1, Instr.loadAt, Instr.sureAddr, Sem.run_bind, run_loadVar (fits_sv (P := P) (T := T) h3 (by rw [h2]; exact h4)) hcells]
  rfl
theorem load_el {α : Type} {i j off : Nat} {ad : Addr} {E : En α} {l : List α} {y : α} {r : List At} {v : SV} {agg : Bool} {sz bytes : Nat} {z : SV} [hT : TyA P T agg sz z bytes] (hx : ev env x = some (.s (.one (.el i ad E.sz j off)))) (hr : ∀ w, Facts B L w → RdS w (some ad) (flat (E.dens l))) (hj : l[j]? = some y) (hc : cutAt (E.f y).ats off sz = some r) (hv : mkSV agg r = some v) : Reads P ⟨dst, .load T x, ty, pos, af, gd⟩ env n B L (.s v) := fun a w ht hf => by
  obtain ⟨h2, h3⟩ := mkSV_spec hv
  obtain ⟨_, _, _, _, h4⟩ := cutAt_spec _ off sz hc
  have hl : j < l.length := (List.getElem?_eq_some_iff.1 hj).1
  obtain ⟨ad', e, hcs⟩ := rds_some (hr w hf) (by omega)
  injection e with e
  subst e
  have hcells : CellsAt w ((ad.add (j * E.sz)).add off) v.den.cells.toList := by
    rw [SV.cells_den, h2]
    exact (rds_elem hcs hj).cut hc
  unfold execOp
  have h1 : a.eval x = .pointer (some ((ad.add (j * E.sz)).add off)) := ev_sound ht hx
  simp [h1, Instr.loadAt, Instr.sureAddr, Sem.run_bind, run_loadVar (fits_sv (P := P) (T := T) h3 (by rw [h2]; exact h4)) hcells]
  rfl
/-- What may be read as a row. -/
structure RowOf {α : Type} (r : Res) (A : Option Addr) (E : En α) (l : List α) : Prop where
  is : ∀ w, r.holds w → RdS w A (flat (E.dens l))
theorem rowOf_rows {α : Type} {A : Option Addr} {c : Nat} {e : TypeId} {E : En α} {l : List α} : RowOf (Res.rows A c e E l) A E l := ⟨fun _ h => rows_reads h⟩
theorem rowOf_rd {α : Type} {A : Option Addr} {E : En α} {l : List α} : RowOf (Res.rd A E l) A E l := ⟨fun _ h => rd_reads h⟩
structure View (R r : Res) : Prop where
  h : ∀ w, R.holds w → r.holds w
  f : ∀ b, r.fp b → R.fp b
theorem View.refl (R : Res) : View R R := ⟨fun _ h => h, fun _ h => h⟩
theorem View.row {α : Type} {R : Res} {A : Option Addr} {E : En α} {l : List α} (h : View R (Res.rd A E l)) : RowOf R A E l := ⟨fun w hw => rd_reads (h.h w hw)⟩
theorem rowOf_tail {α : Type} {r : Res} {A : Option Addr} {E : En α} {l : List α} {c k : Nat} (h : RowOf r A E l) (hc : l.length ≤ c) (hk : k ≤ l.length) : RowOf r (tailA A c k E.sz) E (l.drop k) := ⟨fun w hw => by
  have := rds_tail (n := l.length) (c := c) E.pos (E.sizes l) (h.is w hw) (by unfold En.dens; rw [List.length_map]) hc hk
  unfold En.dens at this ⊢
  rwa [List.map_drop]⟩
theorem rowOf_take {α : Type} {r : Res} {A : Option Addr} {E : En α} {l : List α} {k : Nat} (h : RowOf r A E l) : RowOf r A E (l.take k) := ⟨fun w hw => by
  have := rds_take (i := k) (h.is w hw)
  unfold En.dens at this ⊢
  rwa [List.map_take]⟩
/-- .. of so many elements. -/
structure RowM {α : Type} (r : Res) (A : Option Addr) (m : Nat) (E : En α) (l : List α) : Prop where
  is : RowOf r A E l
  len : m = l.length
theorem rowM_take {α : Type} {r : Res} {A : Option Addr} {m : Nat} {E : En α} {l : List α} (h : RowOf r A E l) (hm : m ≤ l.length) : RowM r A m E (l.take m) := ⟨rowOf_take h, by rw [List.length_take, Nat.min_eq_left hm]⟩
structure RowEl {α : Type} (r : Res) (ad : Addr) (E : En α) (l : List α) (j : Nat) (y : α) : Prop where
  ex : ∃ A, RowOf r A E l ∧ A = some ad ∧ l[j]? = some y
theorem RowEl.mk' {α : Type} {r : Res} {ad : Addr} {E : En α} {l : List α} {j : Nat} {y : α} {A : Option Addr} (h1 : RowOf r A E l) (h2 : A = some ad) (h3 : l[j]? = some y) : RowEl r ad E l j y := ⟨A, h1, h2, h3⟩
theorem r_loadE {α : Type} {i j off sz' : Nat} {ad : Addr} {R : Res} {E : En α} {l : List α} {y : α} {r : List At} {v : SV} {agg : Bool} {sz bytes : Nat} {z : SV} [hT : TyA P T agg sz z bytes] (hx : ev env x = some (.s (.one (.el i ad sz' j off))) := by rfl) (hr : lk2 B L i = some R := by rfl) (hro : RowEl R ad E l j y := by first | exact RowEl.mk' (View.row (by assumption)) (by assumption) (by assumption) | exact RowEl.mk' (rowOf_rows) (by assumption) (by assumption) | exact RowEl.mk' (rowOf_rd) (by assumption) (by assumption) | (refine RowEl.mk' (rowOf_tail rowOf_rd ?_ ?_) (by assumption) (by assumption) <;> omega) | exact RowEl.mk' (rowOf_take rowOf_rd) (by assumption) (by assumption) | (refine RowEl.mk' (rowOf_tail rowOf_rows ?_ ?_) (by assumption) (by assumption) <;> omega) | exact RowEl.mk' (rowOf_take rowOf_rows) (by assumption) (by assumption)) (hs : sz' = E.sz := by rfl) (hc : cutAt (E.f y).ats off sz = some r := by rfl) (hv : mkSV agg r = some v := by rfl) : Reads P ⟨dst, .load T x, ty, pos, af, gd⟩ env n B L (.s v) := by
  obtain ⟨A, hro, rfl, hj⟩ := hro.ex
  subst hs
  exact load_el hx (fun w hf => hro.is w (hf i _ hr)) hj hc hv
theorem r_field {k off i g o' : Nat} [hf : FA P T k off] (hx : ev env x = some (vp i ⟨g, o', none⟩) := by rfl) : Reads P ⟨dst, .fieldAddr T x k, ty, pos, af, gd⟩ env n B L (vp i ⟨g, o' + off, none⟩) := fun a w ht _ => by
  unfold execOp
  have h1 : a.eval x = .pointer (some ⟨g, o', none⟩) := ev_sound ht hx
  simp only [h1]
  rw [Sem.run_bind, run_fieldAt hf.is g o' w]
  rfl
theorem r_fieldE {k off i j sz o' : Nat} {ad : Addr} [hf : FA P T k off] (hx : ev env x = some (.s (.one (.el i ad sz j o'))) := by rfl) : Reads P ⟨dst, .fieldAddr T x k, ty, pos, af, gd⟩ env n B L (.s (.one (.el i ad sz j (o' + off)))) := fun a w ht _ => by
  unfold execOp
  have h1 : a.eval x = .pointer (some ((ad.add (j * sz)).add o')) := ev_sound ht hx
  simp only [h1]
  rw [Sem.run_bind, run_fieldAt' hf.is _ w]
  show _ = Result.ok (Next.value (.pointer (some ((ad.add (j * sz)).add (o' + off))))) w
  rw [← add_of_add]
  rfl
theorem run_fieldP {k off j : Nat} {ft : TypeId} {vs : List Value} {v : Value} (hft : fieldTy P T k = some (ft, off)) (hf : Fits P ft v) (hv : vs[j]? = some v) (ho : szs (vs.take j) = off) (w : World) : (Instr.field T (mkS vs) k).run P w = .ok v w := by
  unfold fieldTy at hft
  split at hft
  · rename_i fs hu
    obtain ⟨f, hk, he⟩ := Option.map_eq_some_iff.1 hft
    simp only [Prod.mk.injEq] at he
    obtain ⟨rfl, rfl⟩ := he
    obtain ⟨agg, sz, z, bytes, ht, ha, hs⟩ := hf.ex
    obtain ⟨e1, _⟩ := flat_set (v := v) hv
    unfold Instr.field
    simp only [Sem.run_bind, run_underlying hu, Result.andThen_ok, hk, mkS, asAgg, Sem.run_pure]
    unfold part
    rw [Sem.run_bind, ht.isAgg w]
    simp only [Result.andThen_ok]
    have hlen : (flat (vs.take j)).length = f.offset := by rw [length_flat]; exact ho
    cases agg with
    | true =>
      obtain ⟨cs, rfl⟩ : ∃ cs, v = .agg cs := by cases v <;> simp_all [isAggV]
      simp only [if_true, Sem.run_bind, ht.size w, Result.andThen_ok, Sem.run_pure]
      congr 2
      apply Array.toList_inj.1
      simp only [Array.toList_extract, List.extract_eq_take_drop, Nat.add_sub_cancel_left]
      rw [e1, ← hlen, List.append_assoc, List.drop_left, ← hs, ← Array.length_toList, List.take_left]
      rfl
    | false =>
      have hc : v.cells = #[v] := by cases v <;> first | rfl | simp_all [isAggV]
      have : (flat vs).toArray[f.offset]? = some v := by
        rw [List.getElem?_toArray, e1, ← hlen, hc, List.append_assoc, List.getElem?_append_right (Nat.le_refl _), Nat.sub_self]
        rfl
      simp [this]
  · cases hft
theorem r_fieldV {k off : Nat} {ft : TypeId} {as r : List At} {v : SV} {agg : Bool} {sz bytes : Nat} {z : SV} [hf : FT P T k ft off] [hT : TyA P ft agg sz z bytes] (hx : ev env x = some (.s (.agg as)) := by rfl) (hc : cutAt as off sz = some r := by rfl) (hv : mkSV agg r = some v := by rfl) : Reads P ⟨dst, .field T x k, ty, pos, af, gd⟩ env n B L (.s v) := fun a w ht _ => by
  obtain ⟨h2, h3⟩ := mkSV_spec hv
  obtain ⟨p, q, e1, e2, h4⟩ := cutAt_spec as off sz hc
  unfold execOp
  have hfl : flat (vals as) = flat [mkS (vals p), v.den, mkS (vals q)] := by
    rw [flat_cons, flat_cons, flat_single, cells_mkS, cells_mkS, SV.cells_den, h2, e1, vals_append, vals_append, flat_append, flat_append]
    simp
  have h1 : a.eval x = mkS [mkS (vals p), v.den, mkS (vals q)] := by
    have : a.eval x = (SV.agg as).den := ev_sound ht hx
    rw [this, SV.den_agg]
    unfold mkS at hfl ⊢
    rw [hfl]
  simp only [h1]
  rw [Sem.run_bind, run_fieldP (j := 1) hf.is (fits_sv (P := P) (T := ft) h3 (by rw [h2]; exact h4)) (v := v.den) rfl (by simpa [szs, szs_vals] using e2) w]
  rfl
theorem r_index {e : TypeId} {i m c j sz bytes : Nat} {A : Option Addr} {ad : Addr} {k : IntKind} {p : Int} {agg : Bool} {z : SV} [hu : UD P T (.slice e)] [hT : TyA P e agg sz z bytes] (hA : A = some ad) (hx : ev env x = some (vsl i A m c)) (hy : ev env y = some (vi k p)) (hp : p = (j : Int)) (hj : j < m) : Reads P ⟨dst, .indexAddr T x y, ty, pos, af, gd⟩ env n B L (.s (.one (.el i ad sz j 0))) := fun a w ht _ => by
  subst hA
  unfold execOp
  have h1 : a.eval x = .slice (some ad) m c := ev_sound ht hx
  have h2 : a.eval y = .int k p := ev_sound ht hy
  have he : P.elem T = e := by simp [Program.elem, hu.is]
  have hu' : P.underlying T = some (.slice (P.elem T)) := by rw [he]; exact hu.is
  have := run_indexAt_slice (P := P) w T ad m c k p hu'
  rw [if_pos ⟨by omega, by omega⟩, he, hT.is.size w] at this
  simp only [h1, h2]
  rw [Sem.run_bind, this]
  show _ = Result.ok (Next.value (.pointer (some ((ad.add (j * sz)).add 0)))) w
  rw [add_zero, hp]
  rfl
end
end HL
end Go.Proofs.Ytonbgcehgmpnkaa
