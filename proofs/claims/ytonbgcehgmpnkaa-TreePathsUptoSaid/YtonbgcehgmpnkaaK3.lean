/- SYMBOLIC STATES: the operations that turn memory; code, loops, calls. My own text; it names no program. -/
import Derived.Test.YtonbgcehgmpnkaaK2
set_option linter.unusedVariables false
set_option linter.unusedSimpArgs false
set_option linter.unusedSectionVars false
namespace Go.Proofs.Ytonbgcehgmpnkaa
namespace HL
open Go Go.RowKit
abbrev Env := List (Nat × TV)
abbrev Hp := List (Nat × Res)
/-- An operation that turns memory, or makes it; what is new bears a name. -/
structure Does {γ : Type} (P : Program) (o : Oper) (env : Env) (D : List Deferred) (n : Nat) (w0 : World) (M : Nat → Prop) (B L : Hp) (env' : γ → Env) (L' : γ → Hp) (ids : List Nat) : Prop where
  go : ∀ a w K Q, Sy env D n w0 M B L a w → (∀ x a' w', Sy (env' x) D n w0 M B (L' x) a' w' → K a' w') → o.wp P a w K Q
  kp : ∀ x i, ids.contains i = false → lk (L' x) i = lk L i
theorem kp_one {γ : Type} {k : Nat} {L : Hp} {r : γ → Res} : ∀ (x : γ) (i : Nat), [k].contains i = false → lk ((k, r x) :: L) i = lk L i := fun x i h => by
  rw [lk_cons, if_neg]
  rintro rfl
  simp at h
section
variable {P : Program} {ops : Array Oper} {Q : Exit → Act → World → Prop} {o : Oper} {rest : List Oper}
variable {env : Env} {D : List Deferred} {n : Nat} {w0 : World} {M : Nat → Prop} {B L : Hp}
theorem l_do {γ : Type} {env' : γ → Env} {L' : γ → Hp} {ids : List Nat} (hr : Does P o env D n w0 M B L env' L' ids) (h : ∀ x, Ho (env' x) D n w0 M B (L' x) (wpList P ops Q rest)) (hg : guarded ops env o = some true := by rfl) : Ho env D n w0 M B L (wpList P ops Q (o :: rest)) := fun a w hs => by
  unfold wpList
  rw [if_pos (guarded_wanted hs.tm hg)]
  exact .inl (hr.go a w _ _ hs fun x a' w' hs' => h x a' w' hs')
theorem l_do1 {env' : Unit → Env} {L' : Unit → Hp} {ids : List Nat} (hr : Does P o env D n w0 M B L env' L' ids) (h : Ho (env' ()) D n w0 M B (L' ()) (wpList P ops Q rest)) (hg : guarded ops env o = some true := by rfl) : Ho env D n w0 M B L (wpList P ops Q (o :: rest)) := l_do hr (fun _ => h) hg
end
/-! ### the operations -/
/-- What is put in place of what lies at an offset. -/
def appF : List At → List At → Option (List At)
  | [], q => some q
  | a :: r, q => match appF r q with
    | some t => some (a :: t)
    | none => none
def dropSz : List At → Nat → Option (List At)
  | as, 0 => some as
  | [], _ + 1 => none
  | a :: as, n + 1 => bif Nat.ble a.sz (n + 1) then dropSz as (n + 1 - a.sz) else none
def putAt : List At → Nat → List At → Option (List At)
  | as, 0, r => match dropSz as (ats r) with
    | some q => appF r q
    | none => none
  | [], _ + 1, _ => none
  | a :: as, off + 1, r => bif Nat.ble a.sz (off + 1) then (match putAt as (off + 1 - a.sz) r with | some q => some (a :: q) | none => none) else none
theorem appF_eq : ∀ (r q : List At), appF r q = some (r ++ q)
  | [], q => rfl
  | a :: r, q => by unfold appF; rw [appF_eq r q]; rfl
theorem dropSz_spec : ∀ (as : List At) (n : Nat) {q : List At}, dropSz as n = some q → ∃ p, as = p ++ q ∧ ats p = n
  | as, 0, q, h => by
    have : as = q := by cases as <;> (unfold dropSz at h; injection h)
    exact ⟨[], by simpa using this, rfl⟩
  | [], n + 1, q, h => by unfold dropSz at h; cases h
  | a :: as, n + 1, q, h => by
    unfold dropSz at h
    cases hb : Nat.ble a.sz (n + 1) with
    | false => rw [hb] at h; cases h
    | true =>
      rw [hb] at h
      simp only [cond_true] at h
      obtain ⟨p, e1, e2⟩ := dropSz_spec as _ h
      have := Nat.le_of_ble_eq_true hb
      refine ⟨a :: p, by rw [e1]; rfl, ?_⟩
      show a.sz + ats p = n + 1
      omega
theorem putAt_spec : ∀ (as : List At) (off : Nat) (r : List At) {as' : List At}, putAt as off r = some as' → ∃ p u q, as = p ++ u ++ q ∧ as' = p ++ r ++ q ∧ ats p = off ∧ ats u = ats r
  | as, 0, r, as', h => by
    have h' : (match dropSz as (ats r) with | some q => appF r q | none => none) = some as' := by cases as <;> (unfold putAt at h; exact h)
    cases hd : dropSz as (ats r) with
    | none => rw [hd] at h'; cases h'
    | some q =>
      rw [hd] at h'
      simp only [appF_eq, Option.some.injEq] at h'
      obtain ⟨u, e1, e2⟩ := dropSz_spec as _ hd
      exact ⟨[], u, q, by simpa using e1, by simpa using h'.symm, rfl, e2⟩
  | [], off + 1, r, as', h => by unfold putAt at h; cases h
  | a :: as, off + 1, r, as', h => by
    unfold putAt at h
    cases hb : Nat.ble a.sz (off + 1) with
    | false => rw [hb] at h; cases h
    | true =>
      rw [hb] at h
      simp only [cond_true] at h
      cases hp : putAt as (off + 1 - a.sz) r with
      | none => rw [hp] at h; cases h
      | some q' =>
        rw [hp] at h
        injection h with h
        subst h
        obtain ⟨p, u, q, e1, e2, e3, e4⟩ := putAt_spec as _ r hp
        have := Nat.le_of_ble_eq_true hb
        refine ⟨a :: p, u, q, by rw [e1]; rfl, by rw [e2]; rfl, ?_, e4⟩
        show a.sz + ats p = off + 1
        omega
section
variable {P : Program} {env : Env} {D : List Deferred} {n : Nat} {w0 : World} {M : Nat → Prop} {B L : Hp}
variable {dst : Option Tmp} {d : Nat} {ty : TypeId} {pos : String} {af : Array Edge} {gd : Option (Nat × Bool)} {x y z : Operand} {T T' : TypeId}
theorem va_def (g : Nat) (e : TypeId) (as : List At) : Res.va g e as = Res.blk g (.cells (flat (vals as)).toArray e (0, 0)) := by unfold Res.va Res.var; rfl
theorem d_alloc {agg : Bool} {sz bytes : Nat} {z : SV} [hT : TyA P T agg sz z bytes] (hd : Nat.blt d n = true := by rfl) : Does P ⟨some d, .alloc T, ty, pos, af, gd⟩ env D n w0 M B L (fun g : Nat => (d, vp (10000 + d) ⟨g, 0, none⟩) :: env) (fun g => (10000 + d, Res.va g T z.ats) :: L) [10000 + d] :=
  ⟨fun a w K Q hs h => by
    refine o_alloc (P := P) (K := K) (Q := Q) (L := live L) hT.is rfl .self hs.st fun w' g hst => h g _ w' ?_
    refine (hs.put (v := vp (10000 + d) ⟨g, 0, none⟩) hd).to (live_new ?_)
    have : Res.var g T [z.den] = Res.va g T z.ats := by
      rw [va_def]
      unfold Res.var
      rw [flat_single, SV.cells_den]
    rw [← this]
    exact hst, kp_one⟩
theorem d_box {v : SV} (hx : ev env x = some (.s v) := by rfl) (hd : Nat.blt d n = true := by rfl) : Does P ⟨some d, .box T x, ty, pos, af, gd⟩ env D n w0 M B L (fun g : Nat => (d, vp (10000 + d) ⟨g, 0, none⟩) :: env) (fun g => (10000 + d, Res.va g T v.ats) :: L) [10000 + d] :=
  ⟨fun a w K Q hs h => by
    unfold Oper.wp execOp
    have h1 : a.eval x = v.den := ev_sound hs.tm hx
    have hr : (Instr.box T v.den).run P w = .ok (.pointer (some ⟨w.heap.size, 0, none⟩)) (w.alloc (.cells v.den.cells T)) := by
      simp [Instr.box, Sem.run_bind, newVar, newRow, newObj, Sem.run]
    simp only [h1]
    rw [Sem.run_bind, hr]
    refine h w.heap.size _ _ ?_
    refine (hs.put (v := vp (10000 + d) ⟨w.heap.size, 0, none⟩) hd).to (live_new ?_)
    have h2 := hs.st.alloc (.cells v.den.cells T)
    rw [va_def]
    have e : (flat (vals v.ats)).toArray = v.den.cells := by rw [← SV.cells_den]
    rw [e]
    exact h2, kp_one⟩
theorem d_store {i g off : Nat} {e : TypeId} {as as' : List At} {v : SV} {agg : Bool} {sz bytes : Nat} {z : SV} [hT : TyA P T agg sz z bytes] (hx : ev env x = some (vp i ⟨g, off, none⟩) := by rfl) (hy : ev env y = some (.s v) := by rfl) (hr : lk L i = some (Res.va g e as) := by rfl) (hp : putAt as off v.ats = some as' := by rfl) (ha : v.isAgg = agg := by rfl) (hz : ats v.ats = sz := by rfl) : Does P ⟨none, .store T x y, ty, pos, af, gd⟩ env D n w0 M B L (fun _ : Unit => env) (fun _ => (i, Res.va g e as') :: L) [i] :=
  ⟨fun a w K Q hs h => by
    obtain ⟨p, u, q, e1, e2, e3, e4⟩ := putAt_spec as off v.ats hp
    have hst := live_front hs.st hr
    have eva : Res.va g e as = Res.var g e [mkS (vals p), mkS (vals u), mkS (vals q)] := by
      rw [va_def]
      unfold Res.var
      rw [flat_cons, flat_cons, flat_single, cells_mkS, cells_mkS, cells_mkS, e1, vals_append, vals_append, flat_append, flat_append, List.append_assoc]
    rw [eva] at hst
    have h1 : a.eval x = .pointer (some ⟨g, off, none⟩) := ev_sound hs.tm hx
    have h2 : a.eval y = v.den := ev_sound hs.tm hy
    unfold Oper.wp execOp
    have hb : w.heap[g]? = some (.cells (flat [mkS (vals p), mkS (vals u), mkS (vals q)]).toArray e (0, 0)) := by
      have := hst.get (i := 0) rfl
      unfold Res.var Res.blk at this
      exact this
    have hrun := run_storeVar (P := P) (T := T) (k := 1) (off := off) (fits_sv (P := P) (T := T) ha hz) v.ok1 hb rfl (by simpa [szs, szs_vals] using e3) (by rw [SV.sz_den, sz_mkS, szs_vals, e4])
    simp only [h1, h2, Instr.storeAt, Instr.sureAddr]
    simp only [Sem.run_bind, Sem.run_pure, Result.andThen_ok]
    rw [hrun]
    refine h () _ _ ?_
    refine (hs.put0 undef).to ?_
    rw [live_cons]
    have ev2 : Res.va g e as' = Res.blk g (.cells (flat ([mkS (vals p), mkS (vals u), mkS (vals q)].set 1 v.den)).toArray e (0, 0)) := by
      rw [va_def]
      congr 3
      simp only [List.set_cons_succ, List.set_cons_zero]
      rw [flat_cons, flat_cons, flat_single, cells_mkS, cells_mkS, SV.cells_den, e2, vals_append, vals_append, flat_append, flat_append, List.append_assoc]
    rw [ev2]
    have := hst.turn (i := 0) (r := Res.var g e [mkS (vals p), mkS (vals u), mkS (vals q)]) (r' := Res.blk g (.cells (flat ([mkS (vals p), mkS (vals u), mkS (vals q)].set 1 v.den)).toArray e (0, 0))) (w' := w.setRow g (flat ([mkS (vals p), mkS (vals u), mkS (vals q)].set 1 v.den)).toArray) rfl rfl rfl rfl (by simp) (fun b hb' hn => setRow_other w g b _ (fun e => hn (fp_var.2 e))) (by unfold Res.blk; exact setRow_heap w g _ _ _ _ hb) (fun b hb' => .inl (fp_var.2 (by unfold Res.blk at hb'; exact hb')))
    exact this, kp_one⟩
/-- into an element of a row of one's own. -/
theorem d_storeE {α : Type} {i j off c : Nat} {ad : Addr} {A : Option Addr} {sz' : Nat} {e : TypeId} {E : En α} {l : List α} {v : SV} {agg : Bool} {sz bytes : Nat} {z : SV} [hT : TyA P T agg sz z bytes] {u' u : α} (hx : ev env x = some (.s (.one (.el i ad sz' j off))) := by rfl) (hy : ev env y = some (.s v) := by rfl) (hr : lk L i = some (Res.rows A c e E l) := by rfl) (hs' : sz' = E.sz := by rfl) (hA : A = some ad := by first | assumption | rfl) (hj : l[j]? = some u := by assumption) (hp : putAt (E.f u).ats off v.ats = some (E.f u').ats := by rfl) (ha : v.isAgg = agg := by rfl) (hz : ats v.ats = sz := by rfl) : Does P ⟨none, .store T x y, ty, pos, af, gd⟩ env D n w0 M B L (fun _ : Unit => env) (fun _ => (i, Res.rows A c e E (l.set j u')) :: L) [i] :=
  ⟨fun a w K Q hs h => by
    subst hs'; subst hA
    obtain ⟨p, t, q, e1, e2, e3, e4⟩ := putAt_spec _ off v.ats hp
    have hst := live_front hs.st hr
    have hlt : j < l.length := (List.getElem?_eq_some_iff.1 hj).1
    -- the row as a row of cells: ahead, in the element, behind
    have hh : (Res.row (some ad) l.length c e E.sz (flat (E.dens l))).holds w := hst.get (i := 0) rfl
    unfold Res.row at hh
    obtain ⟨hl, hnc, hcm, hh⟩ := hh
    rcases hh with ⟨_, h0, _⟩ | ⟨g, o', pre, post, hAd, hb, hpre, hcap⟩
    · omega
    injection hAd with hAd
    subst hAd
    have h1 : a.eval x = .pointer (some ((⟨g, o', none⟩ : Addr).add (j * E.sz) |>.add off)) := ev_sound hs.tm hx
    have h2 : a.eval y = v.den := ev_sound hs.tm hy
    have split : ∀ u'' : α, flat (E.dens (l.set j u'')) = flat (E.dens (l.take j)) ++ flat (vals (E.f u'').ats) ++ flat (E.dens (l.drop (j + 1))) := fun u'' => by
      unfold En.dens
      rw [List.set_eq_take_append_cons_drop, if_pos hlt, List.map_append, List.map_cons, flat_append, flat_cons, SV.cells_den, List.append_assoc]
    have split0 : flat (E.dens l) = flat (E.dens (l.take j)) ++ flat (vals (E.f u).ats) ++ flat (E.dens (l.drop (j + 1))) := by
      have := split u
      rwa [show l.set j u = l from by
        obtain ⟨hlt', he⟩ := List.getElem?_eq_some_iff.1 hj
        rw [← he]
        exact List.set_getElem_self hlt'] at this
    have hlen : (flat (E.dens (l.take j))).length = j * E.sz := by
      rw [length_flat, szs_const (n := E.sz) (E.sizes _)]
      unfold En.dens
      rw [List.length_map, List.length_take, Nat.min_eq_left (by omega)]
    -- all of it
    have hall : pre ++ flat (E.dens l) ++ post = (pre ++ flat (E.dens (l.take j)) ++ flat (vals p)) ++ flat (vals t) ++ (flat (vals q) ++ flat (E.dens (l.drop (j + 1))) ++ post) := by
      rw [split0, e1, vals_append, vals_append, flat_append, flat_append]
      simp [List.append_assoc]
    have hall2 : pre ++ flat (E.dens (l.set j u')) ++ post = (pre ++ flat (E.dens (l.take j)) ++ flat (vals p)) ++ flat (vals v.ats) ++ (flat (vals q) ++ flat (E.dens (l.drop (j + 1))) ++ post) := by
      rw [split u', e2, vals_append, vals_append, flat_append, flat_append]
      simp [List.append_assoc]
    have hpl : (pre ++ flat (E.dens (l.take j)) ++ flat (vals p)).length = o' + j * E.sz + off := by
      rw [List.length_append, List.length_append, hpre, hlen, length_flat, szs_vals, e3]
    have htl : (flat (vals t)).length = ats v.ats := by rw [length_flat, szs_vals, e4]
    have hvl : v.den.cells.toList = flat (vals v.ats) := v.cells_den
    have hvlen : (flat (vals v.ats)).length = ats v.ats := by rw [length_flat, szs_vals]
    have hst2 := run_storeCells_at P g (o' + j * E.sz + off) e (flat (vals v.ats)) 0 (pre ++ flat (E.dens l) ++ post).toArray w hb (by
      rw [List.size_toArray, hall]
      simp only [List.length_append] at hpl ⊢
      omega) (by rw [← hvl]; exact v.ok1)
    simp only [Nat.add_zero] at hst2
    have hrun : (storeVar T ⟨g, o' + j * E.sz + off, none⟩ v.den).run P w = .ok () (w.setRow g (pre ++ flat (E.dens (l.set j u')) ++ post).toArray) := by
      have hcond : ¬ v.den.cells.size ≠ sz := by rw [v.sz_den, hz]; simp
      simp only [storeVar, Sem.run_bind, hT.is.size w, Result.andThen_ok, hcond, if_false]
      rw [hvl, hst2]
      congr 2
      rw [hall, hall2, ← hpl]
      exact congrArg _ (take_drop_set _ (flat (vals t)) (flat (vals v.ats)) _ (hvlen.trans htl.symm))
    unfold Oper.wp execOp
    simp only [h1, h2, Instr.storeAt, Instr.sureAddr, add_lit0]
    simp only [Sem.run_bind, Sem.run_pure, Result.andThen_ok]
    rw [hrun]
    refine h () _ _ ?_
    refine (hs.put0 undef).to ?_
    rw [live_cons]
    have hset : (l.set j u').length = l.length := List.length_set ..
    have hflen : (flat (E.dens (l.set j u'))).length = (flat (E.dens l)).length := by
      rw [length_flat, length_flat, szs_const (E.sizes _), szs_const (E.sizes _)]
      unfold En.dens
      rw [List.length_map, List.length_map, hset]
    refine hst.turn (i := 0) (r := Res.rows (some ⟨g, o', none⟩) c e E l) (r' := Res.rows (some ⟨g, o', none⟩) c e E (l.set j u')) rfl rfl rfl rfl (by simp) (fun b hb' hn => setRow_other w g b _ (fun e => hn (fp_row.2 (by simp [obl, e])))) ?_ (fun b hb' => .inl (fp_row.2 (fp_row.1 hb')))
    unfold Res.rows Res.row
    refine ⟨by rw [hflen, hl, hset], by rw [hset]; exact hnc, hcm, .inr ⟨g, o', pre, post, rfl, setRow_heap w g _ _ _ _ hb, hpre, ?_⟩⟩
    rw [List.length_append, hflen, ← List.length_append]
    exact hcap, kp_one⟩
end
end HL
end Go.Proofs.Ytonbgcehgmpnkaa
