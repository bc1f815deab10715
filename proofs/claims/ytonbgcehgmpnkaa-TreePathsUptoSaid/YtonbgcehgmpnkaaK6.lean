/- SYMBOLIC STATES: hashes, slices, append, structs put together, strings. My own text; it names no program. -/
import Derived.Test.YtonbgcehgmpnkaaK5
set_option linter.unusedVariables false
set_option linter.unusedSimpArgs false
set_option linter.unusedSectionVars false
namespace Go.Proofs.Ytonbgcehgmpnkaa
namespace HL
open Go Go.RowKit
def hashEn : En Hash := ⟨fun h => .agg [.hash h], true, 32, fun _ => ⟨rfl, rfl⟩, by decide⟩
def byteEn : En UInt8 := ⟨fun b => .one (.i .u8 b.toNat), false, 1, fun _ => ⟨rfl, rfl⟩, by decide⟩
def intEn (k : IntKind) : En Int := ⟨fun n => .one (.i k n), false, 1, fun _ => ⟨rfl, rfl⟩, by decide⟩
def strEn : En ByteArray := ⟨fun s => .one (.s s), false, 1, fun _ => ⟨rfl, rfl⟩, by decide⟩
def boolEn : En Bool := ⟨fun s => .one (.b s), false, 1, fun _ => ⟨rfl, rfl⟩, by decide⟩
def ptrEn : En (Option Addr) := ⟨fun p => .one (match p with | some a => .ptr 0 a | none => .pn), false, 1, fun p => by cases p <;> exact ⟨rfl, rfl⟩, by decide⟩
class HashT (P : Program) (T : TypeId) : Prop where
  key : KeyTy P T hval 2
  eg : P.eqGuardType P.depth T = false
/-- How an element type's values lie. -/
class ElT (P : Program) (e : TypeId) {α : outParam Type} (E : outParam (En α)) : Prop where
/-- How the fields of a struct lie. -/
class PLS (P : Program) (T : TypeId) (fs : outParam (List SV)) : Prop where
  is : structPlaces P T = some (placesOf (fs.map SV.den) 0)
section
variable {P : Program} {env : Env} {D : List Deferred} {n : Nat} {w0 : World} {M : Nat → Prop} {B L : Hp}
variable {dst : Option Tmp} {d : Nat} {ty : TypeId} {pos : String} {af : Array Edge} {gd : Option (Nat × Bool)} {x y z : Operand} {T T' : TypeId}
/-! ### hashes -/
theorem r_eqH {a b : Hash} [hT : HashT P T] (hx : ev env x = some (vh a) := by rfl) (hy : ev env y = some (vh b) := by rfl) : Reads P ⟨dst, .binOp .eql T x y T', ty, pos, af, gd⟩ env n B L (vb (decide (a = b))) := fun c w ht _ => by
  unfold execOp
  have h1 : c.eval x = hval a := ev_sound ht hx
  have h2 : c.eval y = hval b := ev_sound ht hy
  have := run_binEq hT.key.eq (by omega) isAgg_hval hT.eg a b x y w
  simp only [h1, h2]
  rw [Sem.run_bind, this]
  rfl
theorem r_neH {a b : Hash} [hT : HashT P T] (hx : ev env x = some (vh a) := by rfl) (hy : ev env y = some (vh b) := by rfl) : Reads P ⟨dst, .binOp .neq T x y T', ty, pos, af, gd⟩ env n B L (vb (!decide (a = b))) := fun c w ht _ => by
  unfold execOp
  have h1 : c.eval x = hval a := ev_sound ht hx
  have h2 : c.eval y = hval b := ev_sound ht hy
  have := run_binNe hT.key.eq (by omega) isAgg_hval hT.eg a b x y w
  simp only [h1, h2]
  rw [Sem.run_bind, this]
  rfl
theorem dens_byte (l : List UInt8) : flat (byteEn.dens l) = bcells l := by
  induction l with
  | nil => show flat [] = []; exact flat_nil
  | cons b l ih =>
    show flat (.int .u8 b.toNat :: byteEn.dens l) = .int .u8 b.toNat :: bcells l
    rw [flat_cons, ih]
    rfl
theorem dens_hash (h : Hash) : flat (byteEn.dens h.toList) = flat [hval h] := by rw [dens_byte, flat_single, cells_hval, hcells_eq]
theorem row_of_va {g : Nat} {e : TypeId} {h : Hash} {w : World} (hh : (Res.va g e [.hash h]).holds w) : (Res.rows (some ⟨g, 0, none⟩) 32 e byteEn h.toList).holds w := by
  have hb : w.heap[g]? = some (.cells (flat [hval h]).toArray e (0, 0)) := by
    rw [va_def] at hh
    unfold Res.blk at hh
    exact hh
  have hl : h.toList.length = 32 := by simp
  unfold Res.rows Res.row
  rw [dens_hash, hl]
  have h32 : (flat [hval h]).length = 32 := by rw [flat_single, cells_hval, length_hcells]
  exact ⟨by rw [h32]; rfl, by omega, by simp [maxLen], .inr ⟨g, 0, [], [], rfl, by simpa using hb, rfl, by simp only [List.append_nil, h32]; decide⟩⟩
theorem va_of_row {g : Nat} {e : TypeId} {h : Hash} {w : World} (hh : (Res.rows (some ⟨g, 0, none⟩) 32 e byteEn h.toList).holds w) (hc : ∀ cs, w.heap[g]? = some (.cells cs e (0, 0)) → cs.size = 32) : (Res.va g e [.hash h]).holds w := by
  unfold Res.rows Res.row at hh
  obtain ⟨h1, h2, h3, h4⟩ := hh
  rcases h4 with ⟨h5, _⟩ | ⟨g', off, pre, post, h5, hb, hp, hcap⟩
  · cases h5
  · injection h5 with h5
    injection h5 with h6 h7
    subst h6
    subst h7
    have hs := hc _ hb
    have hpre : pre = [] := List.eq_nil_of_length_eq_zero hp
    subst hpre
    rw [dens_hash] at hb hs hcap
    have h32 : (flat [hval h]).length = 32 := by rw [flat_single, cells_hval, length_hcells]
    have hpost : post = [] := by
      simp only [List.nil_append, List.size_toArray, List.length_append, h32] at hs
      exact List.eq_nil_of_length_eq_zero (by omega)
    subst hpost
    rw [va_def]
    unfold Res.blk
    show w.heap[g]? = some (Obj.cells (flat [hval h]).toArray e)
    simpa using hb
/-- A resource, seen as another one. -/
theorem k_conv (i : Nat) {r : Res} (r' : Res) {K : Act → World → Prop} (hr : lk L i = some r := by rfl) (hh : ∀ w, r.holds w → r'.holds w) (hf : ∀ b, r'.fp b → r.fp b) (h : Ho env D n w0 M B ((i, r') :: L) K) : Ho env D n w0 M B L K := fun a w hs => h a w ⟨hs.tm, hs.df, by
  rw [live_cons]
  have h1 := live_front hs.st hr
  exact h1.turn (i := 0) (r := r) (r' := r') rfl rfl rfl rfl (Nat.le_refl _) (fun _ _ _ => rfl) (hh w (h1.res r (by simp))) (fun b hb => .inl (hf b hb)), hs.bo⟩
/-- An array's bytes as a slice: its variable is a row from here on. -/
theorem d_sliceArr {g i : Nat} {t e e' : TypeId} {h : Hash} {agg : Bool} {sz bytes : Nat} {zz : SV} [hu : UD P T (.array 32 e)] [hT : TyA P e agg sz zz bytes] (hx : ev env x = some (vp i ⟨g, 0, none⟩) := by rfl) (hr : lk L i = some (Res.va g e' [.hash h]) := by rfl) (hd : Nat.blt d n = true := by rfl) :
    Does P ⟨some d, .slice T x none none none, ty, pos, af, gd⟩ env D n w0 M B L (fun _ : Unit => (d, vsl i (some ⟨g, 0, none⟩) h.toList.length 32) :: env) (fun _ => (i, Res.rows (some ⟨g, 0, none⟩) 32 e' byteEn h.toList) :: L) [i] :=
  ⟨fun a w K Q hs hk => by
    have h1 : a.eval x = .pointer (some ⟨g, 0, none⟩) := ev_sound hs.tm hx
    unfold Oper.wp execOp
    simp only [h1, Option.map_none]
    rw [Sem.run_bind, run_sliceArr hu.is hT.is g 0 w]
    have hl : h.toList.length = 32 := by simp
    refine hk () (a.put (some d) _) w ?_
    have h2 := hs.put (v := vsl i (some ⟨g, 0, none⟩) h.toList.length 32) hd
    rw [show (vsl i (some ⟨g, 0, none⟩) h.toList.length 32).den = Value.slice (some ⟨g, 0, none⟩) 32 32 by rw [hl]; rfl] at h2
    refine h2.to ?_
    rw [live_cons]
    have h3 := live_front h2.st hr
    refine h3.turn (i := 0) rfl rfl rfl rfl (Nat.le_refl _) (fun _ _ _ => rfl) (row_of_va (h3.res _ (by simp))) (fun b hb => .inl ?_)
    have := fp_row.1 (show (Res.row _ _ _ _ _ _).fp b from hb)
    rw [va_def]
    unfold Res.blk
    simp [obl] at this
    exact this.symm, kp_one⟩
/-! ### rows that are made -/
theorem src_of {α : Type} {A : Option Addr} {E : En α} {l : List α} {w : World} (h : RdS w A (flat (E.dens l))) : Src w A l.length E.sz (flat (E.dens l)) := by
  refine ⟨?_, fun hA => ?_, h, ok1_flat fun v hv => ?_⟩
  · rw [length_flat, szs_const (E.sizes l)]
    unfold En.dens
    rw [List.length_map]
  · subst hA
    rcases h with h | ⟨ad, h, _⟩
    · cases l with
      | nil => rfl
      | cons a l => exact absurd h (flat_pos (by simp))
    · cases h
  · obtain ⟨x, _, rfl⟩ := List.mem_map.1 hv
    exact (E.f x).ok1
/-- Append to a row of one's own. -/
theorem append_wp {α : Type} {i j c c' m' bytes sz : Nat} {A A' : Option Addr} {e : TypeId} {E : En α} {l l' : List α} {agg : Bool} {z : SV} [hu : UD P T (.slice e)] [hT : TyA P e agg sz z bytes] (hx : ev env x = some (vsl i A l.length c)) (hy : ev env y = some (vsl j A' m' c')) (hr : lk L i = some (Res.rows A c e E l)) (hz : sz = E.sz) (hm : m' = l'.length)
    (hr' : ∀ w, Facts B L w → RdS w A' (flat (E.dens l'))) (hb : (l.length + l'.length) * bytes ≤ 140737488355328 ∧ l.length + l'.length ≤ 140737488355328) (hd : Nat.blt d n = true) :
    Does P ⟨some d, .call { callee := .builtin .append, args := #[x, y], argTypes := #[T, T] }, ty, pos, af, gd⟩ env D n w0 M B L (fun p : Option Addr × Nat => (d, vsl i p.1 (l ++ l').length p.2) :: env) (fun p => (i, Res.rows p.1 p.2 e E (l ++ l')) :: L) [i] :=
  ⟨fun a w K Q hs hk => by
    subst hm; subst hz
    have h1 : a.eval x = .slice A l.length c := ev_sound hs.tm hx
    have h2 : a.eval y = .slice A' l'.length c' := ev_sound hs.tm hy
    have hf := live_front hs.st hr
    have hrow : seg w e E.sz A l.length c (flat (E.dens l)) := by
      have := hf.res _ (List.mem_cons_self ..)
      unfold Res.rows Res.row at this
      exact this
    have hzs : z.den.cells.size = E.sz := by rw [z.sz_den, hT.zs]
    obtain ⟨Bn, c2, w', hrun, q1, q2, q3, q4, q5, qd, q6, q7⟩ := run_append (ty := ty) (c' := c') hu.is hT.is E.pos hzs hrow (src_of (hr' w hs.facts)) hb.1 hb.2
    unfold Oper.wp execOp
    simp only [resolve, invoke, builtin, Sem.run_bind, Sem.run_pure, Result.andThen_ok, List.map_toArray, List.map_cons, List.map_nil, h1, h2]
    rw [hrun]
    refine hk (Bn, c2) _ w' ?_
    have h3 := hs.put (v := vsl i Bn (l ++ l').length c2) hd
    have e1 : (vsl i Bn (l ++ l').length c2).den = Value.slice Bn (l.length + l'.length) c2 := by show Value.slice Bn (l ++ l').length c2 = _; rw [List.length_append]
    rw [e1] at h3
    refine h3.to ?_
    rw [live_cons]
    refine hf.turn (i := 0) rfl q2 q3 q4 q5 (fun b hb' hn => q6 b hb' (fun e => hn (fp_row.2 e))) ?_ (fun b hb' => (q7 b (fp_row.1 hb')).imp (fun e => fp_row.2 e) id) qd
    unfold Res.rows Res.row
    have e2 : E.dens (l ++ l') = E.dens l ++ E.dens l' := List.map_append ..
    rw [e2, flat_append, List.length_append]
    exact q1, kp_one⟩
theorem d_append {α : Type} {i j c c' m m' bytes sz : Nat} {A A' A2 : Option Addr} {R : Res} {e : TypeId} {E : En α} {l l' : List α} {agg : Bool} {z : SV} [hu : UD P T (.slice e)] [hT : TyA P e agg sz z bytes] (hx : ev env x = some (vsl i A m c) := by rfl) (hy : ev env y = some (vsl j A' m' c') := by rfl) (hr : lk L i = some (Res.rows A2 c e E l) := by rfl) (hA : A2 = A := by rfl) (hr' : lk2 B L j = some R := by rfl) (hro : RowM R A' m' E l' := by first | exact ⟨View.row (by assumption), by first | rfl | assumption | omega⟩ | exact ⟨rowOf_rows, by first | rfl | assumption | (simp only [List.length_drop, List.length_take, List.length_append, List.length_cons, List.length_nil]; done) | (simp only [List.length_drop, List.length_take, List.length_append, List.length_cons, List.length_nil]; omega) | omega⟩ | exact ⟨rowOf_rd, by first | rfl | assumption | (simp only [List.length_drop, List.length_take, List.length_append, List.length_cons, List.length_nil]; done) | (simp only [List.length_drop, List.length_take, List.length_append, List.length_cons, List.length_nil]; omega) | omega⟩ | exact ⟨rowOf_tail rowOf_rd (by omega) (by omega), by first | rfl | assumption | (simp only [List.length_drop, List.length_take, List.length_append, List.length_cons, List.length_nil]; done) | (simp only [List.length_drop, List.length_take, List.length_append, List.length_cons, List.length_nil]; omega) | omega⟩ | exact rowM_take rowOf_rd (by omega) | exact rowM_take (rowOf_tail rowOf_rd (by omega) (by omega)) (by first | omega | (simp only [List.length_drop]; omega)) | exact ⟨rowOf_tail rowOf_rows (by omega) (by omega), by first | rfl | assumption | (simp only [List.length_drop, List.length_take, List.length_append, List.length_cons, List.length_nil]; done) | (simp only [List.length_drop, List.length_take, List.length_append, List.length_cons, List.length_nil]; omega) | omega⟩ | exact rowM_take rowOf_rows (by omega) | exact rowM_take (rowOf_tail rowOf_rows (by omega) (by omega)) (by first | omega | (simp only [List.length_drop]; omega))) (hz : sz = E.sz := by rfl) (hm : m = l.length := by first | rfl | assumption | (simp only [List.length_append, List.length_cons, List.length_nil]; omega))
    (hb : (l.length + l'.length) * bytes ≤ 140737488355328 ∧ l.length + l'.length ≤ 140737488355328 := by first | omega | (simp only [List.length_append, List.length_cons, List.length_nil, List.length_drop, List.length_take]; omega)) (hd : Nat.blt d n = true := by rfl) :
    Does P ⟨some d, .call { callee := .builtin .append, args := #[x, y], argTypes := #[T, T] }, ty, pos, af, gd⟩ env D n w0 M B L (fun p : Option Addr × Nat => (d, vsl i p.1 (l ++ l').length p.2) :: env) (fun p => (i, Res.rows p.1 p.2 e E (l ++ l')) :: L) [i] := by
  subst hA; subst hm
  exact append_wp hx hy hr hz hro.len (fun w hf => hro.is.is w (hf j _ hr')) hb hd
/-- Append to nil. -/
theorem d_append0 {α : Type} {i j c' m' bytes sz : Nat} {A' : Option Addr} {R : Res} {e : TypeId} {E : En α} {l' : List α} {agg : Bool} {z : SV} [hu : UD P T (.slice e)] [hT : TyA P e agg sz z bytes] (hx : ev env x = some (vsl i none 0 0) := by rfl) (hy : ev env y = some (vsl j A' m' c') := by rfl) (hr' : lk2 B L j = some R := by rfl) (hro : RowM R A' m' E l' := by first | exact ⟨View.row (by assumption), by first | rfl | assumption | omega⟩ | exact ⟨rowOf_rows, by first | rfl | assumption | (simp only [List.length_drop, List.length_take, List.length_append, List.length_cons, List.length_nil]; done) | (simp only [List.length_drop, List.length_take, List.length_append, List.length_cons, List.length_nil]; omega) | omega⟩ | exact ⟨rowOf_rd, by first | rfl | assumption | (simp only [List.length_drop, List.length_take, List.length_append, List.length_cons, List.length_nil]; done) | (simp only [List.length_drop, List.length_take, List.length_append, List.length_cons, List.length_nil]; omega) | omega⟩ | exact ⟨rowOf_tail rowOf_rd (by omega) (by omega), by first | rfl | assumption | (simp only [List.length_drop, List.length_take, List.length_append, List.length_cons, List.length_nil]; done) | (simp only [List.length_drop, List.length_take, List.length_append, List.length_cons, List.length_nil]; omega) | omega⟩ | exact rowM_take rowOf_rd (by omega) | exact rowM_take (rowOf_tail rowOf_rd (by omega) (by omega)) (by first | omega | (simp only [List.length_drop]; omega)) | exact ⟨rowOf_tail rowOf_rows (by omega) (by omega), by first | rfl | assumption | (simp only [List.length_drop, List.length_take, List.length_append, List.length_cons, List.length_nil]; done) | (simp only [List.length_drop, List.length_take, List.length_append, List.length_cons, List.length_nil]; omega) | omega⟩ | exact rowM_take rowOf_rows (by omega) | exact rowM_take (rowOf_tail rowOf_rows (by omega) (by omega)) (by first | omega | (simp only [List.length_drop]; omega))) (hz : sz = E.sz := by rfl)
    (hb : l'.length * bytes ≤ 140737488355328 ∧ l'.length ≤ 140737488355328 := by first | omega | (simp only [List.length_append, List.length_cons, List.length_nil, List.length_drop, List.length_take]; omega)) (hd : Nat.blt d n = true := by rfl) :
    Does P ⟨some d, .call { callee := .builtin .append, args := #[x, y], argTypes := #[T, T] }, ty, pos, af, gd⟩ env D n w0 M B L (fun p : Option Addr × Nat => (d, vsl (10000 + d) p.1 l'.length p.2) :: env) (fun p => (10000 + d, Res.rows p.1 p.2 e E l') :: L) [10000 + d] :=
  ⟨fun a w K Q hs hk => by
    obtain rfl := hro.len
    subst hz
    have h1 : a.eval x = .slice none 0 0 := ev_sound hs.tm hx
    have h2 : a.eval y = .slice A' l'.length c' := ev_sound hs.tm hy
    have hzs : z.den.cells.size = E.sz := by rw [z.sz_den, hT.zs]
    obtain ⟨Bn, c2, w', hrun, q1, q2, q3, q4, q5, qd, q6, q7⟩ := run_append (ty := ty) (c' := c') hu.is hT.is E.pos hzs (seg_nil w e E.sz) (src_of (hro.is.is w (hs.facts j _ hr'))) (by simpa using hb.1) (by simpa using hb.2)
    simp only [Nat.zero_add, List.nil_append] at hrun q1
    unfold Oper.wp execOp
    simp only [resolve, invoke, builtin, Sem.run_bind, Sem.run_pure, Result.andThen_ok, List.map_toArray, List.map_cons, List.map_nil, h1, h2]
    rw [hrun]
    refine hk (Bn, c2) _ w' ?_
    have h3 := hs.put (v := vsl (10000 + d) Bn l'.length c2) hd
    refine h3.to (live_new ?_)
    refine hs.st.new q2 q3 q4 q5 (fun b hb' => q6 b hb' (by simp [obl])) ?_ (fun b hb' => (q7 b (fp_row.1 hb')).resolve_left (by simp [obl])) qd
    unfold Res.rows Res.row
    exact q1, kp_one⟩
/-- The elements told, one by one. -/
def elemsIn (env : Env) : Nat → List (Nat × Operand) → Option (List SV)
  | _, [] => some []
  | k, (i, x) :: ps => bif Nat.beq i k then (match ev env x with
    | some (.s v) => match elemsIn env (k + 1) ps with
      | some vs => some (v :: vs)
      | none => none
    | _ => none) else none
theorem elemsIn_spec {a : Act} (ht : Tm env n a) : ∀ {ps : List (Nat × Operand)} {k : Nat} {vs : List SV}, elemsIn env k ps = some vs → ps.map (fun p => (p.1, a.eval p.2)) = (List.range' k vs.length).zip (vs.map SV.den)
  | [], k, vs, h => by unfold elemsIn at h; injection h with h; subst h; rfl
  | (i, x) :: ps, k, vs, h => by
    unfold elemsIn at h
    cases hb : Nat.beq i k with
    | false => rw [hb] at h; cases h
    | true =>
      rw [hb] at h
      simp only [cond_true] at h
      split at h
      · rename_i v hv
        split at h
        · rename_i vs' hvs
          injection h with h
          subst h
          have := Nat.eq_of_beq_eq_true hb
          subst this
          simp only [List.map_cons, List.length_cons, List.range'_succ, List.zip_cons_cons, elemsIn_spec ht hvs, ev_sound ht hv]
          rfl
        · cases h
      · cases h
theorem d_bslice {α : Type} (l : List α) {parts : Array (Nat × Operand)} {m bytes sz : Nat} {e : TypeId} {E : En α} {vs : List SV} {agg : Bool} {z : SV} [hu : UD P T (.slice e)] [hT : TyA P e agg sz z bytes] [hE : ElT P e E] (hp : elemsIn env 0 parts.toList = some vs := by rfl) (hv : vs.map SV.den = E.dens l := by rfl) (hz : sz = E.sz := by rfl) (hm : m = l.length := by rfl) (hbig : Nat.ble (l.length * sz) 16777216 = true := by rfl) (hd : Nat.blt d n = true := by rfl) :
    Does P ⟨some d, .buildSlice T m parts, ty, pos, af, gd⟩ env D n w0 M B L (fun A : Option Addr => (d, vsl (10000 + d) A l.length l.length) :: env) (fun A => (10000 + d, Res.rows A l.length e E l) :: L) [10000 + d] :=
  ⟨fun a w K Q hs hk => by
    subst hz; subst hm
    have hbig' := Nat.le_of_ble_eq_true hbig
    have hlen : (E.dens l).length = l.length := by unfold En.dens; rw [List.length_map]
    have hvl : vs.length = l.length := by rw [← hlen, ← hv, List.length_map]
    have hparts : (parts.map fun (i, x) => (i, a.eval x)) = ((List.range' 0 (E.dens l).length).zip (E.dens l)).toArray := by
      apply Array.toList_inj.1
      rw [Array.toList_map, hlen, ← hvl, ← hv]
      exact elemsIn_spec hs.tm hp
    have hr := run_buildSlice (P := P) (t := T) hu.is hT.is (by rw [z.sz_den, hT.zs]) (E.dens l) (E.sizes l) (by rw [hlen]; exact hbig') w
    rw [hlen] at hr hparts
    unfold Oper.wp execOp
    simp only [Sem.run_bind]
    rw [hparts, hr]
    refine hk (some ⟨w.heap.size, 0, none⟩) _ _ ?_
    have h3 := hs.put (v := vsl (10000 + d) (some ⟨w.heap.size, 0, none⟩) l.length l.length) hd
    refine h3.to (live_new ?_)
    refine hs.st.new (w' := w.alloc (.cells (flat (E.dens l)).toArray e)) rfl rfl rfl (by simp) (fun b hb => Below.heap_alloc w _ b hb) ?_ (fun b hb => ?_)
    · have hml : (E.dens l).length ≤ maxLen := by
        rw [hlen]
        have := Nat.le_mul_of_pos_right l.length E.pos
        simp only [maxLen]
        omega
      have := seg_lit w e E.sz (E.dens l) (E.sizes l) hml
      rw [hlen] at this
      unfold Res.rows Res.row
      exact this
    · have := fp_row.1 hb
      simp [obl] at this
      omega, kp_one⟩
/-! ### structs put together -/
def setF : List SV → Nat → SV → Option (List SV)
  | [], _, _ => none
  | u :: us, 0, v => bif Nat.beq (ats v.ats) (ats u.ats) then some (v :: us) else none
  | u :: us, k + 1, v => match setF us k v with
    | some r => some (u :: r)
    | none => none
def bldF (env : Env) : List SV → List (Nat × Operand) → Option (List SV)
  | fs, [] => some fs
  | fs, (i, x) :: ps => match ev env x with
    | some (.s v) => match setF fs i v with
      | some fs' => bldF env fs' ps
      | none => none
    | _ => none
def flatF : List SV → Option (List At)
  | [] => some []
  | v :: vs => match flatF vs with
    | some r => appF v.ats r
    | none => none
theorem setF_spec : ∀ {fs : List SV} {k : Nat} {v : SV} {fs' : List SV}, setF fs k v = some fs' → fs' = fs.set k v ∧ ∃ u, fs[k]? = some u ∧ ats v.ats = ats u.ats
  | [], _, _, _, h => by unfold setF at h; cases h
  | u :: us, 0, v, fs', h => by
    unfold setF at h
    cases hb : Nat.beq (ats v.ats) (ats u.ats) with
    | false => rw [hb] at h; cases h
    | true => rw [hb] at h; injection h with h; subst h; exact ⟨rfl, u, rfl, Nat.eq_of_beq_eq_true hb⟩
  | u :: us, k + 1, v, fs', h => by
    unfold setF at h
    split at h
    · rename_i r hr
      injection h with h
      subst h
      obtain ⟨h1, u', h2, h3⟩ := setF_spec hr
      exact ⟨by rw [h1]; rfl, u', h2, h3⟩
    · cases h
theorem bldF_spec {a : Act} (ht : Tm env n a) : ∀ {ps : List (Nat × Operand)} {fs fs' : List SV}, bldF env fs ps = some fs' → ∃ qs : List (Nat × Value), ps.map (fun p => (p.1, a.eval p.2)) = qs ∧ partsFit (fs.map SV.den) qs ∧ applyParts (fs.map SV.den) qs = fs'.map SV.den
  | [], fs, fs', h => by unfold bldF at h; injection h with h; subst h; exact ⟨[], rfl, trivial, rfl⟩
  | (i, x) :: ps, fs, fs', h => by
    unfold bldF at h
    split at h
    · rename_i v hv
      split at h
      · rename_i fs1 hs
        obtain ⟨e1, u, h2, h3⟩ := setF_spec hs
        obtain ⟨qs, q1, q2, q3⟩ := bldF_spec ht h
        have e2 : (fs.map SV.den).set i v.den = fs1.map SV.den := by rw [e1, List.map_set]
        refine ⟨(i, v.den) :: qs, ?_, ⟨⟨u.den, by rw [List.getElem?_map, h2]; rfl, by rw [v.sz_den, u.sz_den, h3]⟩, by rw [e2]; exact q2⟩, ?_⟩
        · rw [List.map_cons, q1, ev_sound ht hv]
          rfl
        · show applyParts ((fs.map SV.den).set i v.den) qs = _
          rw [e2]
          exact q3
      · cases h
    · cases h
theorem flatF_spec : ∀ {fs : List SV} {as : List At}, flatF fs = some as → flat (fs.map SV.den) = flat (vals as)
  | [], as, h => by unfold flatF at h; injection h with h; subst h; rfl
  | v :: vs, as, h => by
    unfold flatF at h
    split at h
    · rename_i r hr
      rw [appF_eq] at h
      injection h with h
      subst h
      rw [List.map_cons, flat_cons, flatF_spec hr, SV.cells_den, vals_append, flat_append]
    · cases h
theorem r_build {parts : Array (Nat × Operand)} {fz fs : List SV} {as : List At} {agg : Bool} {sz bytes : Nat} {z : SV} [hT : TyA P T agg sz z bytes] [hp : PLS P T fz] (hb : bldF env fz parts.toList = some fs := by rfl) (hf : flatF fs = some as := by rfl) (hz : flatF fz = some z.ats := by rfl) (ha : z.isAgg = true := by rfl) : Reads P ⟨dst, .build T parts, ty, pos, af, gd⟩ env n B L (.s (.agg as)) := fun a w ht _ => by
  obtain ⟨qs, q1, q2, q3⟩ := bldF_spec ht hb
  have hparts : (parts.map fun (i, x) => (i, a.eval x)) = qs.toArray := by
    apply Array.toList_inj.1
    rw [Array.toList_map]
    exact q1
  have hzd : z.den = mkS (fz.map SV.den) := by
    obtain ⟨zs, rfl⟩ : ∃ zs, z = .agg zs := by cases z with | one p => cases ha | agg zs => exact ⟨zs, rfl⟩
    rw [SV.den_agg]
    have h9 := flatF_spec hz
    unfold mkS
    rw [h9]
    rfl
  have hTi := hT.is
  rw [hzd] at hTi
  have hrun := run_buildS hTi hp.is qs q2 w
  rw [q3] at hrun
  unfold execOp
  simp only [Sem.run_bind]
  rw [hparts, hrun]
  have e : mkS (fs.map SV.den) = (SV.agg as).den := by
    rw [SV.den_agg]
    unfold mkS
    rw [flatF_spec hf]
  rw [e]
  rfl
/-! ### functions -/
def PV.fnv : PV → Value := PV.den
def caps (env : Env) : List Operand → Option (List Value × List Nat)
  | [] => some ([], [])
  | x :: xs => match ev env x with
    | some (.s (.one (.ptr i a))) => match caps env xs with
      | some (vs, gs) => some (.pointer (some a) :: vs, i :: gs)
      | none => none
    | _ => none
theorem caps_spec {a : Act} (ht : Tm env n a) : ∀ {xs : List Operand} {vs : List Value} {gs : List Nat}, caps env xs = some (vs, gs) → xs.map a.eval = vs
  | [], vs, gs, h => by unfold caps at h; cases h; rfl
  | x :: xs, vs, gs, h => by
    unfold caps at h
    split at h
    · rename_i i ad hx
      split at h
      · rename_i vs' gs' hc
        injection h with h
        injection h with h1 h2
        subst h1
        rw [List.map_cons, caps_spec ht hc, ev_sound ht hx]
        rfl
      · cases h
    · cases h
theorem r_makeFunc {f : FuncId} {xs : Array Operand} {vs : List Value} {gs : List Nat} (hc : caps env xs.toList = some (vs, gs) := by rfl) : Reads P ⟨dst, .makeFunc (.func f) #[] xs, ty, pos, af, gd⟩ env n B L (.s (.one (.fn f vs gs))) := fun a w ht _ => by
  unfold execOp
  have h1 := caps_spec ht hc
  have h2 : xs.map a.eval = vs.toArray := by
    apply Array.toList_inj.1
    rw [Array.toList_map, h1]
  simp only [h2, Instr.makeFunc, Sem.run_bind, Sem.run_pure, Result.andThen_ok]
  have h3 : (#[] : Array Operand).map a.eval = #[] := by simp
  rw [h3]
  rfl
theorem den_int {k : IntKind} {a b : Int} (h : a = b) : (vi k a).den = (vi k b).den := by rw [h]
/-! ### parts of slices -/
theorem r_sliceH {e : TypeId} {i m c j sz bytes : Nat} {A : Option Addr} {k : IntKind} {p : Int} {agg : Bool} {zz : SV} [hu : UD P T (.slice e)] [hT : TyA P e agg sz zz bytes] (hx : ev env x = some (vsl i A m c) := by rfl) (hy : ev env y = some (vi k p) := by rfl) (hp : p = (j : Int) := by first | rfl | omega) (hj : j ≤ c := by omega) : Reads P ⟨dst, .slice T x none (some y) none, ty, pos, af, gd⟩ env n B L (vsl i A j c) := fun a w ht _ => by
  have h1 : a.eval x = .slice A m c := ev_sound ht hx
  have h2 : a.eval y = .int k p := ev_sound ht hy
  have h3 := run_sliceHi (P := P) (t := T) (A := A) (n := m) (c := c) (k := k) (j := p) hu.is hT.is (by omega) (by omega) w
  unfold execOp
  simp only [h1, h2, Option.map_none, Option.map_some]
  rw [Sem.run_bind, h3, hp]
  rfl
theorem r_sliceL {e : TypeId} {i m c j sz bytes : Nat} {A : Option Addr} {k : IntKind} {p : Int} {agg : Bool} {zz : SV} [hu : UD P T (.slice e)] [hT : TyA P e agg sz zz bytes] (hx : ev env x = some (vsl i A m c) := by rfl) (hy : ev env y = some (vi k p) := by rfl) (hp : p = (j : Int) := by first | rfl | omega) (hj : j ≤ m := by omega) : Reads P ⟨dst, .slice T x (some y) none none, ty, pos, af, gd⟩ env n B L (vsl i (tailA A c j sz) (m - j) (c - j)) := fun a w ht _ => by
  have h1 : a.eval x = .slice A m c := ev_sound ht hx
  have h2 : a.eval y = .int k p := ev_sound ht hy
  have h3 := run_sliceLo (P := P) (t := T) (A := A) (n := m) (c := c) (k := k) (j := p) hu.is hT.is (by omega) (by omega) w
  unfold execOp
  simp only [h1, h2, Option.map_none, Option.map_some]
  rw [Sem.run_bind, h3, hp]
  rfl
theorem run_sliceArrA {t e : TypeId} {n : Nat} {agg : Bool} {sz bytes : Nat} {z : Value} (hu : P.underlying t = some (.array n e)) (hT : TyIs P e agg sz z bytes) (ad : Addr) (w : World) : (Instr.sliceAt t (.pointer (some ad)) none none none).run P w = .ok (.slice (some ad) n n) w := by
  have hs := hT.size w
  unfold Instr.sliceAt
  simp only [Sem.run_bind, run_underlying hu, Result.andThen]
  simp [Instr.sureAddr, Instr.sliceBounds, hs, Sem.run_bind, Result.andThen, add_zero]
/-- An array's bytes, as a slice that is only read. -/
theorem r_sliceArr {g i off m : Nat} {e : TypeId} {agg : Bool} {sz bytes : Nat} {zz : SV} [hu : UD P T (.array m e)] [hT : TyA P e agg sz zz bytes] (hx : ev env x = some (vp i ⟨g, off, none⟩) := by rfl) : Reads P ⟨dst, .slice T x none none none, ty, pos, af, gd⟩ env n B L (vsl i (some ⟨g, off, none⟩) m m) := fun a w ht _ => by
  have h1 : a.eval x = .pointer (some ⟨g, off, none⟩) := ev_sound ht hx
  unfold execOp
  simp only [h1, Option.map_none]
  rw [Sem.run_bind, run_sliceArrA hu.is hT.is _ w]
  rfl
theorem r_sliceArrE {i j off m sz' : Nat} {ad : Addr} {e : TypeId} {agg : Bool} {sz bytes : Nat} {zz : SV} [hu : UD P T (.array m e)] [hT : TyA P e agg sz zz bytes] (hx : ev env x = some (.s (.one (.el i ad sz' j off))) := by rfl) : Reads P ⟨dst, .slice T x none none none, ty, pos, af, gd⟩ env n B L (vsl i (some ((ad.add (j * sz')).add off)) m m) := fun a w ht _ => by
  have h1 : a.eval x = .pointer (some ((ad.add (j * sz')).add off)) := ev_sound ht hx
  unfold execOp
  simp only [h1, Option.map_none]
  rw [Sem.run_bind, run_sliceArrA hu.is hT.is _ w]
  rfl
theorem convStr_of {i m c : Nat} {A : Option Addr} {e : TypeId} {bs : List UInt8} [h1 : UD P T (.slice e)] [h2 : UD P e (.int .u8)] [h3 : UD P T' .string] (hx : ev env x = some (vsl i A m c)) (hm : m = bs.length) (hr : ∀ w, Facts B L w → RdS w A (bcells bs)) : Reads P ⟨dst, .convert T T' x, ty, pos, af, gd⟩ env n B L (vs (ba bs)) := fun a w ht hf => by
  subst hm
  have h4 : a.eval x = .slice A bs.length c := ev_sound ht hx
  unfold execOp
  simp only [h4]
  rw [Sem.run_bind, run_convStr h1.is h2.is h3.is (hr w hf)]
  rfl
/-- string(h[:]) -/
theorem r_convStrV {i g off : Nat} {e' e : TypeId} {as : List At} {h : Hash} [h1 : UD P T (.slice e)] [h2 : UD P e (.int .u8)] [h3 : UD P T' .string] (hx : ev env x = some (vsl i (some ⟨g, off, none⟩) 32 32) := by rfl) (hr : lk2 B L i = some (Res.va g e' as) := by rfl) (hc : cutAt as off 32 = some [.hash h] := by rfl) : Reads P ⟨dst, .convert T T' x, ty, pos, af, gd⟩ env n B L (vs (ba h.toList)) :=
  convStr_of hx (by simp) fun w hf => .inr ⟨_, rfl, by
    have := (va_cells (hf i _ hr)).cut hc
    rw [add_lit0, Nat.zero_add] at this
    show CellsAt w _ (bcells h.toList)
    rw [← hcells_eq, ← cells_hval, ← flat_single]
    exact this⟩
theorem r_convStrE {α : Type} {i j off sz' : Nat} {ad : Addr} {R : Res} {E : En α} {l : List α} {u : α} {e : TypeId} {h : Hash} [h1 : UD P T (.slice e)] [h2 : UD P e (.int .u8)] [h3 : UD P T' .string] (hx : ev env x = some (vsl i (some ((ad.add (j * sz')).add off)) 32 32) := by rfl) (hr : lk2 B L i = some R := by rfl) (hro : RowEl R ad E l j u := by first | exact RowEl.mk' (View.row (by assumption)) (by assumption) (by assumption) | exact RowEl.mk' (rowOf_rows) (by assumption) (by assumption) | exact RowEl.mk' (rowOf_rd) (by assumption) (by assumption) | (refine RowEl.mk' (rowOf_tail rowOf_rd ?_ ?_) (by assumption) (by assumption) <;> omega) | exact RowEl.mk' (rowOf_take rowOf_rd) (by assumption) (by assumption) | (refine RowEl.mk' (rowOf_tail rowOf_rows ?_ ?_) (by assumption) (by assumption) <;> omega) | exact RowEl.mk' (rowOf_take rowOf_rows) (by assumption) (by assumption)) (hs : sz' = E.sz := by rfl) (hc : cutAt (E.f u).ats off 32 = some [.hash h] := by rfl) : Reads P ⟨dst, .convert T T' x, ty, pos, af, gd⟩ env n B L (vs (ba h.toList)) := by
  obtain ⟨A, hro, rfl, hj⟩ := hro.ex
  subst hs
  refine convStr_of hx (by simp) fun w hf => ?_
  have hl : j < l.length := (List.getElem?_eq_some_iff.1 hj).1
  obtain ⟨ad', e1, hcs⟩ := rds_some (hro.is w (hf i _ hr)) (by omega)
  injection e1 with e1
  subst e1
  refine .inr ⟨_, rfl, ?_⟩
  have := (rds_elem hcs hj).cut hc
  rw [← hcells_eq, ← cells_hval, ← flat_single]
  exact this
/-- string(b), b a slice of bytes. -/
theorem r_convStr {i m c : Nat} {A : Option Addr} {R : Res} {e : TypeId} {bs : List UInt8} [h1 : UD P T (.slice e)] [h2 : UD P e (.int .u8)] [h3 : UD P T' .string] (hx : ev env x = some (vsl i A m c) := by rfl) (hr : lk2 B L i = some R := by rfl) (hro : RowM R A m byteEn bs := by first | exact ⟨View.row (by assumption), by first | rfl | assumption | omega⟩ | exact ⟨rowOf_rows, by first | rfl | assumption | (simp only [List.length_drop, List.length_take, List.length_append, List.length_cons, List.length_nil]; done) | (simp only [List.length_drop, List.length_take, List.length_append, List.length_cons, List.length_nil]; omega) | omega⟩ | exact ⟨rowOf_rd, by first | rfl | assumption | (simp only [List.length_drop, List.length_take, List.length_append, List.length_cons, List.length_nil]; done) | (simp only [List.length_drop, List.length_take, List.length_append, List.length_cons, List.length_nil]; omega) | omega⟩ | exact ⟨rowOf_tail rowOf_rd (by omega) (by omega), by first | rfl | assumption | (simp only [List.length_drop, List.length_take, List.length_append, List.length_cons, List.length_nil]; done) | (simp only [List.length_drop, List.length_take, List.length_append, List.length_cons, List.length_nil]; omega) | omega⟩ | exact rowM_take rowOf_rd (by omega) | exact rowM_take (rowOf_tail rowOf_rd (by omega) (by omega)) (by first | omega | (simp only [List.length_drop]; omega)) | exact ⟨rowOf_tail rowOf_rows (by omega) (by omega), by first | rfl | assumption | (simp only [List.length_drop, List.length_take, List.length_append, List.length_cons, List.length_nil]; done) | (simp only [List.length_drop, List.length_take, List.length_append, List.length_cons, List.length_nil]; omega) | omega⟩ | exact rowM_take rowOf_rows (by omega) | exact rowM_take (rowOf_tail rowOf_rows (by omega) (by omega)) (by first | omega | (simp only [List.length_drop]; omega))) : Reads P ⟨dst, .convert T T' x, ty, pos, af, gd⟩ env n B L (vs (ba bs)) :=
  convStr_of hx hro.len fun w hf => by
    rw [← dens_byte]
    exact hro.is.is w (hf i _ hr)
/-! ### against nil -/
theorem eqGuard_nil {o : BinOp} {u v : Value} (w : World) (h : (∀ c, u ≠ .agg c) ∧ (u ≠ .nilIface ∨ v ≠ .nilIface)) : (eqGuard o T x y u v).run P w = .ok () w := by
  unfold eqGuard
  obtain ⟨h1, h2⟩ := h
  cases o <;> cases u <;> cases v <;> simp_all
theorem run_eqNil {d1 : TypeDesc} (hu : P.underlying T = some d1) {u v : Value} {b : Bool} (w : World) (h : ∀ d, (Op.equalIn (d + 1) T u v).run P w = .ok b w) : (Op.equal T u v).run P w = .ok b w := h 9999
theorem run_equalPtr {e : TypeId} (hu : P.underlying T = some (.pointer e)) (p : Option Addr) (w : World) : (Op.equal T (.pointer p) (.pointer none)).run P w = .ok p.isNone w := run_eqNil hu w fun d => by
  cases p <;> simp [Op.equalIn, run_underlying hu, Sem.run_bind, Result.andThen]
theorem run_equalSl {e : TypeId} (hu : P.underlying T = some (.slice e)) (p : Option Addr) (k c : Nat) (w : World) : (Op.equal T (.slice p k c) (.slice none 0 0)).run P w = .ok p.isNone w := run_eqNil hu w fun d => by
  cases p <;> simp [Op.equalIn, run_underlying hu, Sem.run_bind, Result.andThen]
def isNilP : PV → Option Bool
  | .pn => some true
  | .ptr _ _ => some false
  | .el _ _ _ _ _ => some false
  | _ => none
theorem r_eqNilP {p : PV} {e : TypeId} {b : Bool} [hu : UD P T (.pointer e)] (hx : ev env x = some (.s (.one p)) := by rfl) (hy : ev env y = some (.s (.one .pn)) := by rfl) (hb : isNilP p = some b := by rfl) : Reads P ⟨dst, .binOp .eql T x y T', ty, pos, af, gd⟩ env n B L (vb b) := fun a w ht _ => by
  have h1 : a.eval x = p.den := ev_sound ht hx
  have h2 : a.eval y = .pointer none := ev_sound ht hy
  obtain ⟨q, hq, rfl⟩ : ∃ q : Option Addr, p.den = .pointer q ∧ b = q.isNone := by
    cases p <;> first | (cases hb; done) | (injection hb with hb; subst hb; exact ⟨_, rfl, rfl⟩)
  unfold execOp
  simp only [h1, h2, hq]
  rw [Sem.run_bind, Sem.run_bind, eqGuard_nil w (by simp), Result.andThen_ok]
  simp only [binOp, Sem.run_bind, run_equalPtr hu.is]
  rfl
theorem r_neNilP {p : PV} {e : TypeId} {b : Bool} [hu : UD P T (.pointer e)] (hx : ev env x = some (.s (.one p)) := by rfl) (hy : ev env y = some (.s (.one .pn)) := by rfl) (hb : isNilP p = some b := by rfl) : Reads P ⟨dst, .binOp .neq T x y T', ty, pos, af, gd⟩ env n B L (vb (!b)) := fun a w ht _ => by
  have h1 : a.eval x = p.den := ev_sound ht hx
  have h2 : a.eval y = .pointer none := ev_sound ht hy
  obtain ⟨q, hq, rfl⟩ : ∃ q : Option Addr, p.den = .pointer q ∧ b = q.isNone := by
    cases p <;> first | (cases hb; done) | (injection hb with hb; subst hb; exact ⟨_, rfl, rfl⟩)
  unfold execOp
  simp only [h1, h2, hq]
  rw [Sem.run_bind, Sem.run_bind, eqGuard_nil w (by simp), Result.andThen_ok]
  simp only [binOp, Sem.run_bind, run_equalPtr hu.is]
  rfl
theorem r_eqNilM {p : PV} {kt e : TypeId} {b : Bool} [hu : UD P T (.map kt e)] (hx : ev env x = some (.s (.one p)) := by rfl) (hy : ev env y = some (.s (.one .mn)) := by rfl) (hb : (match p with | .mn => some true | .mp _ _ => some false | _ => none) = some b := by rfl) : Reads P ⟨dst, .binOp .eql T x y T', ty, pos, af, gd⟩ env n B L (vb b) := fun a w ht _ => by
  have h1 : a.eval x = p.den := ev_sound ht hx
  have h2 : a.eval y = .map none := ev_sound ht hy
  obtain ⟨q, hq, rfl⟩ : ∃ q : Option Nat, p.den = .map q ∧ b = q.isNone := by
    cases p <;> first | (cases hb; done) | (injection hb with hb; subst hb; exact ⟨_, rfl, rfl⟩)
  unfold execOp
  simp only [h1, h2, hq]
  rw [Sem.run_bind, Sem.run_bind, eqGuard_nil w (by simp), Result.andThen_ok, run_eqMap hu.is]
  rfl
theorem r_neNilM {p : PV} {kt e : TypeId} {b : Bool} [hu : UD P T (.map kt e)] (hx : ev env x = some (.s (.one p)) := by rfl) (hy : ev env y = some (.s (.one .mn)) := by rfl) (hb : (match p with | .mn => some true | .mp _ _ => some false | _ => none) = some b := by rfl) : Reads P ⟨dst, .binOp .neq T x y T', ty, pos, af, gd⟩ env n B L (vb (!b)) := fun a w ht _ => by
  have h1 : a.eval x = p.den := ev_sound ht hx
  have h2 : a.eval y = .map none := ev_sound ht hy
  obtain ⟨q, hq, rfl⟩ : ∃ q : Option Nat, p.den = .map q ∧ b = q.isNone := by
    cases p <;> first | (cases hb; done) | (injection hb with hb; subst hb; exact ⟨_, rfl, rfl⟩)
  unfold execOp
  simp only [h1, h2, hq]
  rw [Sem.run_bind, Sem.run_bind, eqGuard_nil w (by simp), Result.andThen_ok, run_neMap hu.is]
  cases q <;> rfl
end
/-! ### several resources as one -/
def Res.bag (rs : List Res) : Res := ⟨fun b => ∃ r ∈ rs, r.fp b, fun w => (∀ r ∈ rs, r.holds w) ∧ rs.Pairwise dis, fun w h b hb => by
  obtain ⟨r, hr, hb⟩ := hb
  exact r.bound w (h.1 r hr) b hb, fun w w' hb h => ⟨fun r hr => r.stable w w' (fun b hb' => hb b ⟨r, hr, hb'⟩) (h.1 r hr), h.2⟩⟩
theorem St.bag {w0 w : World} {M : Nat → Prop} {rs L : List Res} (h : St w0 w M (rs ++ L)) : St w0 w M (Res.bag rs :: L) := by
  obtain ⟨d1, d2, d3⟩ := List.pairwise_append.1 h.dis
  refine ⟨h.os, h.tape, h.output, h.drawn, h.size, h.keep, fun r hr => ?_, List.pairwise_cons.2 ⟨fun s hs b hb hb' => ?_, d2⟩, fun r hr b hb => ?_⟩
  · rcases List.mem_cons.1 hr with rfl | hr
    · exact ⟨fun r hr => h.res r (List.mem_append_left _ hr), d1⟩
    · exact h.res r (List.mem_append_right _ hr)
  · obtain ⟨r, hr, hb⟩ := hb
    exact d3 r hr s hs b hb hb'
  · rcases List.mem_cons.1 hr with rfl | hr
    · obtain ⟨q, hq, hb⟩ := hb
      exact h.own q (List.mem_append_left _ hq) b hb
    · exact h.own r (List.mem_append_right _ hr) b hb
theorem St.unbag {w0 w : World} {M : Nat → Prop} {rs L : List Res} (h : St w0 w M (Res.bag rs :: L)) : St w0 w M (rs ++ L) := by
  have hd := List.pairwise_cons.1 h.dis
  have hb := h.res _ (List.mem_cons_self ..)
  refine ⟨h.os, h.tape, h.output, h.drawn, h.size, h.keep, fun r hr => ?_, List.pairwise_append.2 ⟨hb.2, hd.2, fun r hr s hs b hb' hb2 => hd.1 s hs b ⟨r, hr, hb'⟩ hb2⟩, fun r hr b hb' => ?_⟩
  · rcases List.mem_append.1 hr with hr | hr
    · exact hb.1 r hr
    · exact h.res r (List.mem_cons_of_mem _ hr)
  · rcases List.mem_append.1 hr with hr | hr
    · exact h.own _ (List.mem_cons_self ..) b ⟨r, hr, hb'⟩
    · exact h.own r (List.mem_cons_of_mem _ hr) b hb'
end HL
end Go.Proofs.Ytonbgcehgmpnkaa
