/- SYMBOLIC STATES: conditions that are not split: elements and calls under a guard; loops and cuts that keep all the rest. My own text; it names no program. -/
import Derived.Test.YtonbgcehgmpnkaaK9
set_option linter.unusedVariables false
set_option linter.unusedSimpArgs false
set_option linter.unusedSectionVars false
namespace Go.Proofs.Ytonbgcehgmpnkaa
namespace HL
open Go Go.RowKit
def ad0 : Addr := ⟨0, 0, none⟩
section
variable {P : Program} {env : List (Nat × TV)} {D : List Deferred} {n : Nat} {w0 : World} {M : Nat → Prop} {B L LF : Hp} {ops : Array Oper} {Q : Exit → Act → World → Prop} {rest : List Oper} {σ : Plan}
variable {dst : Option Tmp} {d : Nat} {ty : TypeId} {pos : String} {af : Array Edge} {gd : Option (Nat × Bool)} {x y z : Operand} {T T' : TypeId}
theorem r_indexT {α : Type} {e : TypeId} {i m c sz bytes : Nat} {A : Option Addr} {R : Res} {E : En α} {l : List α} {k : IntKind} {p : Int} {agg : Bool} {zz : SV} [hu : UD P T (.slice e)] [hT : TyA P e agg sz zz bytes] (hx : ev env x = some (vsl i A m c) := by rfl) (hy : ev env y = some (vi k p) := by rfl) (hr : lk2 B L i = some R := by rfl) (hro : RowM R A m E l := by first | exact ⟨View.row (by assumption), by first | rfl | assumption | omega⟩ | exact ⟨rowOf_rows, by first | rfl | assumption | (simp only [List.length_drop, List.length_take, List.length_append, List.length_cons, List.length_nil]; done) | (simp only [List.length_drop, List.length_take, List.length_append, List.length_cons, List.length_nil]; omega) | omega⟩ | exact ⟨rowOf_rd, by first | rfl | assumption | (simp only [List.length_drop, List.length_take, List.length_append, List.length_cons, List.length_nil]; done) | (simp only [List.length_drop, List.length_take, List.length_append, List.length_cons, List.length_nil]; omega) | omega⟩ | exact ⟨rowOf_tail rowOf_rd (by omega) (by omega), by first | rfl | assumption | (simp only [List.length_drop, List.length_take, List.length_append, List.length_cons, List.length_nil]; done) | (simp only [List.length_drop, List.length_take, List.length_append, List.length_cons, List.length_nil]; omega) | omega⟩ | exact rowM_take rowOf_rd (by omega) | exact rowM_take (rowOf_tail rowOf_rd (by omega) (by omega)) (by first | omega | (simp only [List.length_drop]; omega)) | exact ⟨rowOf_tail rowOf_rows (by omega) (by omega), by first | rfl | assumption | (simp only [List.length_drop, List.length_take, List.length_append, List.length_cons, List.length_nil]; done) | (simp only [List.length_drop, List.length_take, List.length_append, List.length_cons, List.length_nil]; omega) | omega⟩ | exact rowM_take rowOf_rows (by omega) | exact rowM_take (rowOf_tail rowOf_rows (by omega) (by omega)) (by first | omega | (simp only [List.length_drop]; omega))) (hj : 0 ≤ p ∧ p < (m : Int)) : Reads P ⟨dst, .indexAddr T x y, ty, pos, af, gd⟩ env n B L (.s (.one (.el i (A.getD ad0) sz p.toNat 0))) := fun a w ht hf => by
  obtain rfl := hro.len
  obtain ⟨ad, hA, _⟩ := rds_some (hro.is.is w (hf i _ hr)) (by omega)
  have := r_index (P := P) (T := T) (dst := dst) (ty := ty) (pos := pos) (af := af) (gd := gd) (n := n) (B := B) (L := L) hA hx hy (show p = ((p.toNat : Nat) : Int) by omega) (by omega) a w ht hf
  rw [hA]
  exact this
theorem r_loadT {α : Type} {i j off sz' : Nat} {A : Option Addr} {R : Res} {E : En α} {l : List α} {r : List At} {v : SV} {agg : Bool} {sz bytes : Nat} {z : SV} [hT : TyA P T agg sz z bytes] (hx : ev env x = some (.s (.one (.el i (A.getD ad0) sz' j off))) := by rfl) (hr : lk2 B L i = some R := by rfl) (hro : RowOf R A E l := by first | exact View.row (by assumption) | exact rowOf_rows | exact rowOf_rd | exact rowOf_tail rowOf_rd (by omega) (by omega) | exact rowOf_take rowOf_rd | exact rowOf_tail rowOf_rows (by omega) (by omega) | exact rowOf_take rowOf_rows) (hs : sz' = E.sz := by rfl) (hI : Inhabited α := by infer_instance) (hc : cutAt (E.f (l.getD j hI.default)).ats off sz = some r := by rfl) (hv : mkSV agg r = some v := by rfl) (hj : j < l.length) : Reads P ⟨dst, .load T x, ty, pos, af, gd⟩ env n B L (.s v) := fun a w ht hf => by
  subst hs
  obtain ⟨ad, hA, _⟩ := rds_some (hro.is w (hf i _ hr)) (by omega)
  subst hA
  exact load_el (P := P) (T := T) (y := l.getD j hI.default) hx (fun w hf => hro.is w (hf i _ hr)) (by rw [List.getD_eq_getElem?_getD, List.getElem?_eq_getElem hj]; rfl) hc hv a w ht hf
theorem r_convStrT {α : Type} {i j off sz' : Nat} {A : Option Addr} {R : Res} {E : En α} {l : List α} {e : TypeId} {h : Hash} [h1 : UD P T (.slice e)] [h2 : UD P e (.int .u8)] [h3 : UD P T' .string] (hx : ev env x = some (vsl i (some (((A.getD ad0).add (j * sz')).add off)) 32 32) := by rfl) (hr : lk2 B L i = some R := by rfl) (hro : RowOf R A E l := by first | exact View.row (by assumption) | exact rowOf_rows | exact rowOf_rd | exact rowOf_tail rowOf_rd (by omega) (by omega) | exact rowOf_take rowOf_rd | exact rowOf_tail rowOf_rows (by omega) (by omega) | exact rowOf_take rowOf_rows) (hs : sz' = E.sz := by rfl) (hI : Inhabited α := by infer_instance) (hc : cutAt (E.f (l.getD j hI.default)).ats off 32 = some [.hash h] := by rfl) (hj : j < l.length) : Reads P ⟨dst, .convert T T' x, ty, pos, af, gd⟩ env n B L (vs (ba h.toList)) := fun a w ht hf => by
  obtain ⟨ad, hA, _⟩ := rds_some (hro.is w (hf i _ hr)) (by omega)
  subst hA
  exact r_convStrE (P := P) (u := l.getD j hI.default) hx hr (RowEl.mk' hro rfl (by rw [List.getD_eq_getElem?_getD, List.getElem?_eq_getElem hj]; rfl)) hs hc a w ht hf
/-- A call under a guard, of a function that only tells. -/
theorem l_callG {v : SV} {f : FuncId} {fn : Func} {args all : List SV} {Bc : Hp} {post : Out → List Res → Prop} {xs : Array Operand} {tys : Array TypeId} {cap : List Value} {gh : List Nat} {g : Bool} (m : List (Nat × Nat)) (ts : List Nat) {env' : List (Nat × TV)} (hres : ResAll env g ts env')
    (hs : g = true → CSpec P f all Bc [] post) (hf : P.funcs[f]? = some fn) (hx : ev env' x = some (.s (.one (.fn f cap gh))) := by rfl) (ha : evs env' xs.toList = some args := by rfl) (hall : args.map SV.den ++ cap = all.map SV.den := by rfl)
    (hB : GotB (lk2 B L) (cid m args) Bc := by repeat (first | exact trivial | refine ⟨⟨_, rfl, by first | assumption | exact View.refl _ | exact view_rows | exact view_tail (View.refl _) (by omega) (by omega) | exact view_take (View.refl _) | exact view_tail view_rows (by omega) (by omega) | exact view_take view_rows⟩, ?_⟩))
    (hpost : ∀ o Lr, post o Lr → o = .ret (.s v) ∧ Lr = [] := by exact fun _ _ h => h)
    (h : Ho ((d, .cond g v) :: env) D n w0 M B L (wpList P ops Q rest))
    (hg : guardSym ops env ⟨some d, .call { callee := .value x, args := xs, argTypes := tys }, ty, pos, af, gd⟩ = some g := by rfl) (hd : Nat.blt d n = true := by rfl) (hb : fn.body.isNone = false := by rfl) (hn : (fn.name == "runtime.NumGoroutine") = false := by rfl) :
    Ho env D n w0 M B L (wpList P ops Q (⟨some d, .call { callee := .value x, args := xs, argTypes := tys }, ty, pos, af, gd⟩ :: rest)) := fun a w hsy => by
  unfold wpList
  rw [guardSym_wanted hsy.tm hg]
  by_cases e : g = true
  · rw [if_pos e]
    have hsy' : Sy env' D n w0 M B L a w := ⟨hres.tm e hsy.tm, hsy.df, hsy.st, hsy.bo⟩
    refine .inl (call_wp (hs e) hf hb hn (cid m args) 0 hx ha hall hB trivial rfl (by
      refine (?_ : ∀ is, noneIn [] is = true) _
      intro is
      induction is with
      | nil => rfl
      | cons i is ih => unfold noneIn; rw [ih]; rfl) rfl hsy' fun o Lr hp => ?_)
    obtain ⟨rfl, rfl⟩ := hpost o Lr hp
    exact fun w' hs' => by
      have h2 : Sy env D n w0 M B L a w' := ⟨hsy.tm, hsy.df, hs'.st, hs'.bo⟩
      have := h2.put (v := .cond g v) hd
      rw [show (TV.cond g v).den = v.den from if_pos e] at this
      exact h _ _ this
  · rw [if_neg e]
    have := hsy.put (v := .cond g v) hd
    rw [show (TV.cond g v).den = undef from if_neg e] at this
    exact h _ _ this
theorem s_callG {i : Nat} {v : SV} {f : FuncId} {fn : Func} {args all : List SV} {Bc : Hp} {post : Out → List Res → Prop} {xs : Array Operand} {tys : Array TypeId} {cap : List Value} {gh : List Nat} {g : Bool} (hi : ops.toList[i]? = some ⟨some d, .call { callee := .value x, args := xs, argTypes := tys }, ty, pos, af, gd⟩) (m : List (Nat × Nat)) (ts : List Nat) {env' : List (Nat × TV)} (hres : ResAll env g ts env')
    (hs : g = true → CSpec P f all Bc [] post) (hf : P.funcs[f]? = some fn) (hx : ev env' x = some (.s (.one (.fn f cap gh))) := by rfl) (ha : evs env' xs.toList = some args := by rfl) (hall : args.map SV.den ++ cap = all.map SV.den := by rfl)
    (hB : GotB (lk2 B L) (cid m args) Bc := by repeat (first | exact trivial | refine ⟨⟨_, rfl, by first | assumption | exact View.refl _ | exact view_rows | exact view_tail (View.refl _) (by omega) (by omega) | exact view_take (View.refl _) | exact view_tail view_rows (by omega) (by omega) | exact view_take view_rows⟩, ?_⟩))
    (hpost : ∀ o Lr, post o Lr → o = .ret (.s v) ∧ Lr = [] := by exact fun _ _ h => h)
    (h : HoC LF ((d, .cond g v) :: env) D n w0 M B L (wpSched P ops Q (Facts B LF) σ))
    (hg : guardSym ops env ⟨some d, .call { callee := .value x, args := xs, argTypes := tys }, ty, pos, af, gd⟩ = some g := by rfl) (hd : Nat.blt d n = true := by rfl) (hb : fn.body.isNone = false := by rfl) (hn : (fn.name == "runtime.NumGoroutine") = false := by rfl) :
    HoC LF env D n w0 M B L (wpSched P ops Q (Facts B LF) (.s i σ)) := fun hc a w hsy => by
  by_cases e : g = true
  · refine sched_s hi (by rw [guardSym_wanted hsy.tm hg]; exact e) ?_
    have hsy' : Sy env' D n w0 M B L a w := ⟨hres.tm e hsy.tm, hsy.df, hsy.st, hsy.bo⟩
    refine call_wp (hs e) hf hb hn (cid m args) 0 hx ha hall hB trivial rfl (by
      refine (?_ : ∀ is, noneIn [] is = true) _
      intro is
      induction is with
      | nil => rfl
      | cons i is ih => unfold noneIn; rw [ih]; rfl) rfl hsy' fun o Lr hp => ?_
    obtain ⟨rfl, rfl⟩ := hpost o Lr hp
    exact fun w' hs' => by
      have h2 : Sy env D n w0 M B L a w' := ⟨hsy.tm, hsy.df, hs'.st, hs'.bo⟩
      have := h2.put (v := .cond g v) hd
      rw [show (TV.cond g v).den = v.den from if_pos e] at this
      exact ⟨facts_cov hc h2, h hc _ _ this⟩
  · refine sched_sskip hi (by rw [guardSym_wanted hsy.tm hg]; simpa using e) (facts_cov hc hsy) ?_
    have := hsy.put (v := .cond g v) hd
    rw [show (TV.cond g v).den = undef from if_neg e] at this
    exact h hc _ _ this
/-! ### all the rest stays -/
def without : List Nat → Hp → Hp
  | _, [] => []
  | is, (k, r) :: l => bif memB k is then without is l else (k, r) :: without (k :: is) l
theorem memB_true {i : Nat} : ∀ {l : List Nat}, memB i l = true → i ∈ l
  | [], h => by unfold memB at h; cases h
  | j :: l, h => by
    unfold memB at h
    rcases Bool.or_eq_true _ _ ▸ h with h | h
    · have := Nat.eq_of_beq_eq_true h
      simp [this]
    · exact List.mem_cons_of_mem _ (memB_true h)
theorem without_lk : ∀ (l : Hp) (is : List Nat), (∀ k r, (k, r) ∈ without is l → lk l k = some r ∧ k ∉ is)
  | [], is, k, r, h => by unfold without at h; cases h
  | (k', r') :: l, is, k, r, h => by
    unfold without at h
    cases hm : memB k' is with
    | true =>
      rw [hm] at h
      obtain ⟨h1, h2⟩ := without_lk l is k r h
      refine ⟨?_, h2⟩
      rw [lk_cons, if_neg fun e => h2 (by rw [← e]; exact memB_true hm)]
      exact h1
    | false =>
      rw [hm] at h
      rcases List.mem_cons.1 h with h | h
      · injection h with h1 h2
        subst h1; subst h2
        exact ⟨by rw [lk_cons, if_pos rfl], memB_spec hm⟩
      · obtain ⟨h1, h2⟩ := without_lk l (k' :: is) k r h
        refine ⟨?_, fun h3 => h2 (List.mem_cons_of_mem _ h3)⟩
        rw [lk_cons, if_neg fun e => h2 (by rw [← e]; exact List.mem_cons_self ..)]
        exact h1
theorem keepO_all : ∀ {l : Hp} (r : Hp), (∀ p ∈ r, lk l p.1 = some p.2) → keepO l (r.map (·.1)) = some r
  | l, [], _ => rfl
  | l, (k, v) :: r, h => by
    show keepO l (k :: r.map (·.1)) = _
    unfold keepO
    rw [h (k, v) (List.mem_cons_self ..), keepO_all r fun p hp => h p (List.mem_cons_of_mem _ hp)]
theorem keepO_without {L : Hp} {is : List Nat} : keepO L ((without is L).map (·.1)) = some (without is L) := keepO_all _ fun p hp => (without_lk L is p.1 p.2 hp).1
theorem c_loopA {c : Code} (I : Nat → Env → Hp → Prop) (ts : List Nat) (m : Nat) (E : Env) (H : Hp) {re : Env} {rh : Hp} (hk : keepO env ts = some re := by rfl) (hh : without (H.map (·.1)) L = rh := by rfl)
    (h0 : I m E H) (he : InE env (E ++ re)) (hl : InH L (H ++ rh)) (hn : nodupB ((H ++ rh).map (·.1)) = true := by rfl)
    (hr : ∀ m E H, I m E H → Ho (E ++ re) D n w0 M B (H ++ rh) (c.wp P (Exit.then (fun a w => ∃ m' E' H', m' < m ∧ I m' E' H' ∧ Sy (E' ++ re) D n w0 M B (H' ++ rh) a w) Q))) :
    Ho env D n w0 M B L ((Code.loop c).wp P Q) := by
  subst hh
  exact c_loop I ts ((without (H.map (·.1)) L).map (·.1)) m E H hk keepO_without h0 he hl hn hr
theorem c_cutA {c : Code} (I : Env → Hp → Prop) (ts is : List Nat) {re : Env} {rh : Hp} (hk : keepO env ts = some re := by rfl) (hh : without is L = rh := by rfl)
    (h1 : Ho env D n w0 M B L (c.wp P (Exit.then (fun a w => ∃ E H, I E H ∧ Sy (E ++ re) D n w0 M B (H ++ rh) a w) Q))) (h2 : ∀ E H, I E H → Ho (E ++ re) D n w0 M B (H ++ rh) (Q .normal)) : Ho env D n w0 M B L (c.wp P Q) := by
  subst hh
  exact c_cut I ts ((without is L).map (·.1)) hk keepO_without h1 h2
end
end HL
end Go.Proofs.Ytonbgcehgmpnkaa
