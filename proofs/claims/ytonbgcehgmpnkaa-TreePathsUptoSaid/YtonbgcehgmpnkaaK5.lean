/- SYMBOLIC STATES: calls by contract, loops, regions that draw their order. My own text; it names no program. -/
import Derived.Test.YtonbgcehgmpnkaaK4
set_option linter.unusedVariables false
set_option linter.unusedSimpArgs false
set_option linter.unusedSectionVars false
namespace Go.Proofs.Ytonbgcehgmpnkaa
namespace HL
open Go Go.RowKit
/-! ### calls by contract -/
def PV.gh : PV → Nat
  | .ptr q _ => q
  | .el q _ _ _ _ => q
  | .sl q _ _ _ => q
  | .mp q _ => q
  | .ifp _ q _ => q
  | _ => 0
def At.gh : At → Nat
  | .one p => p.gh
  | .hash _ => 0
def SV.gh : SV → Nat
  | .one p => p.gh
  | .agg _ => 0
/-- Which resource of the caller's is the callee's k: parameter k's own; 100 (p + 1) + j: that of part j of parameter p; else as told. -/
def cid (m : List (Nat × Nat)) (vs : List SV) (k : Nat) : Nat :=
  match lk m k with
  | some i => i
  | none => bif Nat.blt k 100 then (match vs[k]? with | some v => v.gh | none => 0) else (match vs[k / 100 - 1]? with | some v => (match v.ats[k % 100]? with | some a => a.gh | none => 0) | none => 0)
/-- The callee's resources, among the caller's. -/
def Got (look : Nat → Option Res) (c : Nat → Nat) : Hp → Prop
  | [] => True
  | (k, r) :: t => look (c k) = some r ∧ Got look c t
theorem Got.lk {look : Nat → Option Res} {c : Nat → Nat} : ∀ {H : Hp}, Got look c H → ∀ {i : Nat} {r : Res}, HL.lk H i = some r → look (c i) = some r
  | [], _, i, r, h => by cases h
  | (k, x) :: t, hg, i, r, h => by
    rw [lk_cons] at h
    by_cases e : k = i
    · rw [if_pos e] at h; injection h with h; subst h; subst e; exact hg.1
    · rw [if_neg e] at h; exact hg.2.lk h
theorem Got.picks {L : Hp} {c : Nat → Nat} : ∀ {H : Hp}, Got (HL.lk L) c H → HL.picks L (H.map fun x => c x.1) = some (H.map (·.2))
  | [], _ => rfl
  | (k, r) :: t, h => by
    show HL.picks L (c k :: t.map fun x => c x.1) = _
    unfold HL.picks
    rw [h.1, Got.picks h.2]
    rfl
def num (b : Nat) : List Res → Hp
  | [] => []
  | r :: rs => (b, r) :: num (b + 1) rs
/-- One resource, seen as another. -/
theorem view_rows {α : Type} {A : Option Addr} {c : Nat} {e : TypeId} {E : En α} {l : List α} : View (Res.rows A c e E l) (Res.rd A E l) := ⟨fun w h => by
  have := rows_reads h
  unfold Res.rd Res.fact
  exact this, fun b h => by
  have h' : l ≠ [] ∧ obl A = some b := by unfold Res.rd Res.fact at h; exact h
  exact fp_row.2 h'.2⟩
theorem view_rd {α : Type} {R : Res} {A A' : Option Addr} {E : En α} {l l' : List α} (h : View R (Res.rd A E l)) (ho : RowOf (Res.rd A E l) A' E l') (hA : obl A' = obl A) (hl : l' ≠ [] → l ≠ []) : View R (Res.rd A' E l') := ⟨fun w hw => by
  have := ho.is w (h.h w hw)
  unfold Res.rd Res.fact
  exact this, fun b hb => h.f b (by
  have h' : l' ≠ [] ∧ obl A' = some b := by unfold Res.rd Res.fact at hb; exact hb
  have : l ≠ [] ∧ obl A = some b := ⟨hl h'.1, by rw [← hA]; exact h'.2⟩
  unfold Res.rd Res.fact
  exact this)⟩
theorem view_tail {α : Type} {R : Res} {A : Option Addr} {E : En α} {l : List α} {c k : Nat} (h : View R (Res.rd A E l)) (hc : l.length ≤ c) (hk : k ≤ l.length) : View R (Res.rd (tailA A c k E.sz) E (l.drop k)) :=
  view_rd h (rowOf_tail rowOf_rd hc hk) (obl_tailA _ _ _ _) (fun h1 h2 => h1 (by rw [h2]; exact List.drop_nil))
theorem view_take {α : Type} {R : Res} {A : Option Addr} {E : En α} {l : List α} {k : Nat} (h : View R (Res.rd A E l)) : View R (Res.rd A E (l.take k)) :=
  view_rd h (rowOf_take rowOf_rd) rfl (fun h1 h2 => h1 (by rw [h2]; exact List.take_nil))
/-- .. what it only reads may be seen so. -/
def GotB (look : Nat → Option Res) (c : Nat → Nat) : Hp → Prop
  | [] => True
  | (k, r) :: t => (∃ R, look (c k) = some R ∧ View R r) ∧ GotB look c t
theorem GotB.lk {look : Nat → Option Res} {c : Nat → Nat} : ∀ {H : Hp}, GotB look c H → ∀ {i : Nat} {r : Res}, HL.lk H i = some r → ∃ R, look (c i) = some R ∧ View R r
  | [], _, i, r, h => by cases h
  | (k, x) :: t, hg, i, r, h => by
    rw [lk_cons] at h
    by_cases e : k = i
    · rw [if_pos e] at h; injection h with h; subst h; subst e; exact hg.1
    · rw [if_neg e] at h; exact hg.2.lk h
theorem num_map : ∀ (b : Nat) (rs : List Res), (num b rs).map (·.2) = rs
  | _, [] => rfl
  | b, r :: rs => by show r :: (num (b + 1) rs).map (·.2) = _; rw [num_map]
theorem num_ge : ∀ (b : Nat) (rs : List Res), ∀ x ∈ num b rs, b ≤ x.1
  | _, [], x, h => by cases h
  | b, r :: rs, x, h => by
    rcases List.mem_cons.1 h with rfl | h
    · exact Nat.le_refl _
    · exact Nat.le_of_succ_le (num_ge (b + 1) rs x h)
theorem num_nodup : ∀ (b : Nat) (rs : List Res), ((num b rs).map (·.1)).Nodup
  | _, [] => List.nodup_nil
  | b, r :: rs => by
    refine List.nodup_cons.2 ⟨fun h => ?_, num_nodup (b + 1) rs⟩
    obtain ⟨x, hx, e⟩ := List.mem_map.1 h
    have := num_ge (b + 1) rs x hx
    have e' : x.1 = b := e
    omega
/-- What lies ahead hides what lies behind. -/
theorem St.append_live {w0 w : World} {M : Nat → Prop} {rs : List Res} {b : Nat} {L : Hp} (h : St w0 w M (rs ++ live L)) : St w0 w M (live (num b rs ++ L)) := by
  have gen : ∀ (rs X : List Res) (b : Nat) (L : Hp), St w0 w M (X ++ (rs ++ live L)) → St w0 w M (X ++ live (num b rs ++ L)) := by
    intro rs
    induction rs with
    | nil => intro X b L h; exact h
    | cons r rs ih =>
      intro X b L h
      show St w0 w M (X ++ live ((b, r) :: (num (b + 1) rs ++ L)))
      rw [live_cons]
      have h1 := ih (X ++ [r]) (b + 1) L (by simpa using h)
      -- take away what b hides
      have sub : ∀ (H : Hp) (i : Nat), ∃ r?, (live H).Perm (r? ++ live (del i H)) := fun H i => by
        cases hl : lk H i with
        | some q => exact ⟨[q], live_perm _ H (Nat.le_refl _) hl⟩
        | none => exact ⟨[], by rw [del_same hl]; exact List.Perm.refl _⟩
      obtain ⟨q, hq⟩ := sub (num (b + 1) rs ++ L) b
      have h2 := h1.perm (hq.append_left (X ++ [r]))
      refine h2.sub ?_
      have e : X ++ r :: live (del b (num (b + 1) rs ++ L)) = (X ++ [r]) ++ live (del b (num (b + 1) rs ++ L)) := by simp
      rw [e]
      exact (List.Sublist.refl _).append (List.sublist_append_right _ _)
  have := gen rs [] b L h
  exact this
def evs (env : Env) : List Operand → Option (List SV)
  | [] => some []
  | x :: xs => match ev env x with
    | some (.s v) => match evs env xs with
      | some vs => some (v :: vs)
      | none => none
    | _ => none
theorem evs_sound {env : Env} {n : Nat} {a : Act} (h : Tm env n a) : ∀ {xs : List Operand} {vs : List SV}, evs env xs = some vs → xs.map a.eval = vs.map SV.den
  | [], vs, he => by unfold evs at he; injection he with he; subst he; rfl
  | x :: xs, vs, he => by
    unfold evs at he
    split at he
    · rename_i v hv
      split at he
      · rename_i vs' hvs
        injection he with he
        subst he
        simp only [List.map_cons, evs_sound h hvs, ev_sound h hv]
        rfl
      · cases he
    · cases he
section
variable {P : Program} {ops : Array Oper} {Q : Exit → Act → World → Prop} {o : Oper} {rest : List Oper}
variable {env : Env} {D : List Deferred} {n : Nat} {w0 : World} {M : Nat → Prop} {B L : Hp}
variable {dst : Option Tmp} {d : Nat} {ty : TypeId} {pos : String} {af : Array Edge} {gd : Option (Nat × Bool)} {x y z : Operand} {T T' : TypeId}
theorem lk_dels {α : Type _} {j : Nat} : ∀ {is : List Nat} {L : List (Nat × α)}, j ∉ is → lk (dels is L) j = lk L j
  | [], L, _ => rfl
  | i :: is, L, h => by
    simp only [List.mem_cons, not_or] at h
    show lk (dels is (del i L)) j = _
    rw [lk_dels h.2, lk_del, if_neg h.1]
def noneIn (is : List Nat) : List Nat → Bool
  | [] => true
  | j :: js => bif memB j is then false else noneIn is js
theorem noneIn_spec {is : List Nat} : ∀ {js : List Nat}, noneIn is js = true → ∀ j ∈ js, j ∉ is
  | [], _, j, h => by cases h
  | k :: js, h, j, hj => by
    unfold noneIn at h
    cases hb : memB k is with
    | true => rw [hb] at h; cases h
    | false =>
      rw [hb] at h
      rcases List.mem_cons.1 hj with e | hj
      · subst e; exact memB_spec hb
      · exact noneIn_spec h j hj
def ids (c : Nat → Nat) (H : Hp) : List Nat := H.map fun x => c x.1
theorem ids_mem {c : Nat → Nat} : ∀ {H : Hp} {i : Nat} {r : Res}, HL.lk H i = some r → c i ∈ ids c H
  | [], i, r, h => by cases h
  | (k, x) :: t, i, r, h => by
    rw [lk_cons] at h
    by_cases e : k = i
    · subst e; exact List.mem_cons_self ..
    · rw [if_neg e] at h; exact List.mem_cons_of_mem _ (ids_mem h)
/-- What stands behind an operation that calls. -/
theorem call_wp {f : FuncId} {fn : Func} {args all : List SV} {Bc Lc : Hp} {post : Out → List Res → Prop} {xs : Array Operand} {tys : Array TypeId} {cap : List Value} {gh : List Nat} {a : Act} {w : World} {K : Act → World → Prop}
    (hs : CSpec P f all Bc Lc post) (hf : P.funcs[f]? = some fn) (hb : fn.body.isNone = false) (hn : (fn.name == "runtime.NumGoroutine") = false) (c : Nat → Nat) (b : Nat)
    (hx : ev env x = some (.s (.one (.fn f cap gh)))) (ha : evs env xs.toList = some args) (hall : args.map SV.den ++ cap = all.map SV.den)
    (hB : GotB (lk2 B L) c Bc) (hL : Got (lk L) c Lc) (hnd : nodupB (ids c Lc) = true) (hbl : noneIn (ids c Lc) (ids c Bc) = true) (hnk : nodupB (Lc.map (·.1)) = true)
    (hsy : Sy env D n w0 M B L a w)
    (h : ∀ o Lr, post o Lr → match o with
      | .ret v => ∀ w', Sy env D n w0 M B (num b Lr ++ dels (ids c Lc) L) a w' → K (a.put dst v.den) w'
      | .pan ch => ∀ w', Sy env D n w0 M B (num b Lr ++ dels (ids c Lc) L) a w' → Q (.panic ch) a w') :
    Oper.wp P ⟨dst, .call { callee := .value x, args := xs, argTypes := tys }, ty, pos, af, gd⟩ a w K Q := by
  have h1 : a.eval x = .func (.func f) #[] cap.toArray := ev_sound hsy.tm hx
  have h2 := evs_sound hsy.tm ha
  have hp := hL.picks
  have hst : St w0 w M (Lc.map (·.2) ++ live (dels (ids c Lc) L)) := hsy.st.picks hp (nodupB_spec hnd)
  have elive : live Lc = Lc.map (·.2) := live_nodup (nodupB_spec hnk)
  have e1 : (xs.map a.eval ++ cap.toArray) = (all.map SV.den).toArray := by
    rw [← hall]
    apply Array.toList_inj.1
    simp [h2]
  have hdis := List.pairwise_append.1 hst.dis
  have hc := hs w (fun i r hi => (hB.lk hi).elim fun R hR => hR.2.h w (hsy.facts _ _ hR.1)) (fun r hr => hst.res r (List.mem_append_left _ (by rw [← elive]; exact hr))) (by rw [elive]; exact hdis.1) (fun i r hi s hs => by
    rw [elive] at hs
    obtain ⟨R, hg, hview⟩ := hB.lk hi
    unfold lk2 at hg
    cases hl : lk L (c i) with
    | none =>
      rw [hl] at hg
      intro b' hb' hb2
      have h8 := (hsy.bo _ _ hg).2 b' (hview.f b' hb')
      rcases hst.own s (List.mem_append_left _ hs) b' hb2 with h7 | h7
      · exact h8.2 h7
      · omega
    | some q =>
      rw [hl] at hg
      injection hg with hg
      subst hg
      have hmem : q ∈ live (dels (ids c Lc) L) := lk_live (by rw [lk_dels (noneIn_spec hbl _ (ids_mem hi))]; exact hl)
      exact fun b' hb' hb2 => hdis.2.2 s hs q hmem b' hb2 (hview.f b' hb'))
  have hr : (execOp a.eval ⟨dst, .call { callee := .value x, args := xs, argTypes := tys }, ty, pos, af, gd⟩).run P w = .ok (.enter f (all.map SV.den).toArray) w := by
    unfold execOp
    simp only [resolve, h1, Deferred.ofValue, Sem.run_bind, Sem.run_pure, Result.andThen, invoke, callFunc, run_program, hf, hn, hb, Array.empty_append, e1]
    rfl
  unfold Oper.wp
  rw [hr]
  refine hc.mono fun e w' ⟨out, Lr, he, hpost, hst2⟩ => ?_
  have hst3 : St w0 w' M (Lr ++ live (dels (ids c Lc) L)) := hst.callN hst2 (fun b hb => by
    obtain ⟨r, hr, hb⟩ := hb
    exact ⟨r, by rw [← elive]; exact hr, hb⟩)
  have hsy2 := hsy.to (L' := num b Lr ++ dels (ids c Lc) L) (w' := w') (St.append_live hst3)
  have h9 := h out Lr hpost
  cases out with
  | ret v => subst he; exact h9 w' hsy2
  | pan ch => subst he; exact h9 w' hsy2
theorem l_call {f : FuncId} {fn : Func} {args all : List SV} {Bc Lc : Hp} {post : Out → List Res → Prop} {xs : Array Operand} {tys : Array TypeId} {cap : List Value} {gh : List Nat} (b : Nat) (m : List (Nat × Nat))
    (hs : CSpec P f all Bc Lc post) (hf : P.funcs[f]? = some fn) (hx : ev env x = some (.s (.one (.fn f cap gh))) := by rfl) (ha : evs env xs.toList = some args := by rfl) (hall : args.map SV.den ++ cap = all.map SV.den := by rfl)
    (hB : GotB (lk2 B L) (cid m args) Bc := by repeat (first | exact trivial | refine ⟨⟨_, rfl, by first | assumption | exact View.refl _ | exact view_rows | exact view_tail (View.refl _) (by omega) (by omega) | exact view_take (View.refl _) | exact view_tail view_rows (by omega) (by omega) | exact view_take view_rows⟩, ?_⟩)) (hL : Got (lk L) (cid m args) Lc := by repeat (first | exact trivial | refine ⟨rfl, ?_⟩))
    (hnd : nodupB (ids (cid m args) Lc) = true := by rfl) (hbl : noneIn (ids (cid m args) Lc) (ids (cid m args) Bc) = true := by rfl) (hnk : nodupB (Lc.map (·.1)) = true := by rfl)
    (h : ∀ o Lr, post o Lr → match o with
      | .ret v => Ho ((d, v.up b) :: env) D n w0 M B (num b Lr ++ dels (ids (cid m args) Lc) L) (wpList P ops Q rest)
      | .pan ch => Ho env D n w0 M B (num b Lr ++ dels (ids (cid m args) Lc) L) (Q (.panic ch)))
    (hg : guarded ops env ⟨some d, .call { callee := .value x, args := xs, argTypes := tys }, ty, pos, af, gd⟩ = some true := by rfl) (hd : Nat.blt d n = true := by rfl) (hb : fn.body.isNone = false := by rfl) (hn : (fn.name == "runtime.NumGoroutine") = false := by rfl) :
    Ho env D n w0 M B L (wpList P ops Q (⟨some d, .call { callee := .value x, args := xs, argTypes := tys }, ty, pos, af, gd⟩ :: rest)) := fun a w hsy => by
  unfold wpList
  rw [if_pos (guarded_wanted hsy.tm hg)]
  refine .inl (call_wp hs hf hb hn (cid m args) b hx ha hall hB hL hnd hbl hnk hsy fun o Lr hp => ?_)
  have h9 := h o Lr hp
  cases o with
  | ret v => exact fun w' hs' => h9 _ _ (by have := hs'.put (v := v.up b) hd; rwa [v.den_up] at this)
  | pan ch => exact fun w' hs' => h9 _ _ hs'
/-! ### the address of an element -/
theorem l_ix {α : Type} {e : TypeId} {i m c j sz bytes : Nat} {A : Option Addr} {R : Res} {E : En α} {l : List α} {k : IntKind} {p : Int} {agg : Bool} {zz : SV} [hu : UD P T (.slice e)] [hT : TyA P e agg sz zz bytes] (h : ∀ ad u, A = some ad → l[j]? = some u → Ho ((d, .s (.one (.el i ad sz j 0))) :: env) D n w0 M B L (wpList P ops Q rest))
    (hx : ev env x = some (vsl i A m c) := by rfl) (hy : ev env y = some (vi k p) := by rfl) (hr : lk2 B L i = some R := by rfl) (hro : RowM R A m E l := by first | exact ⟨View.row (by assumption), by first | rfl | assumption | omega⟩ | exact ⟨rowOf_rows, by first | rfl | assumption | (simp only [List.length_drop, List.length_take, List.length_append, List.length_cons, List.length_nil]; done) | (simp only [List.length_drop, List.length_take, List.length_append, List.length_cons, List.length_nil]; omega) | omega⟩ | exact ⟨rowOf_rd, by first | rfl | assumption | (simp only [List.length_drop, List.length_take, List.length_append, List.length_cons, List.length_nil]; done) | (simp only [List.length_drop, List.length_take, List.length_append, List.length_cons, List.length_nil]; omega) | omega⟩ | exact ⟨rowOf_tail rowOf_rd (by omega) (by omega), by first | rfl | assumption | (simp only [List.length_drop, List.length_take, List.length_append, List.length_cons, List.length_nil]; done) | (simp only [List.length_drop, List.length_take, List.length_append, List.length_cons, List.length_nil]; omega) | omega⟩ | exact rowM_take rowOf_rd (by omega) | exact rowM_take (rowOf_tail rowOf_rd (by omega) (by omega)) (by first | omega | (simp only [List.length_drop]; omega)) | exact ⟨rowOf_tail rowOf_rows (by omega) (by omega), by first | rfl | assumption | (simp only [List.length_drop, List.length_take, List.length_append, List.length_cons, List.length_nil]; done) | (simp only [List.length_drop, List.length_take, List.length_append, List.length_cons, List.length_nil]; omega) | omega⟩ | exact rowM_take rowOf_rows (by omega) | exact rowM_take (rowOf_tail rowOf_rows (by omega) (by omega)) (by first | omega | (simp only [List.length_drop]; omega))) (hp : p = (j : Int) := by first | rfl | omega) (hj : j < l.length := by first | assumption | omega | (simp only [List.length_drop, List.length_take, List.length_append, List.length_cons, List.length_nil]; omega))
    (hg : guarded ops env ⟨some d, .indexAddr T x y, ty, pos, af, gd⟩ = some true := by rfl) (hd : Nat.blt d n = true := by rfl) : Ho env D n w0 M B L (wpList P ops Q (⟨some d, .indexAddr T x y, ty, pos, af, gd⟩ :: rest)) := fun a w hs => by
  obtain rfl := hro.len
  obtain ⟨ad, hA, _⟩ := rds_some (hro.is.is w (hs.facts i _ hr)) (by omega)
  exact l_rd (r_index hA hx hy hp hj) (h ad l[j] hA (List.getElem?_eq_getElem hj)) rfl hg hd a w hs
/-! ### loops -/
/-- Round and round: what holds at a round's head: so many rounds to come, these temporaries, these resources, beside those that stay. -/
theorem c_loop {c : Code} (I : Nat → Env → Hp → Prop) (ts : List Nat) (hs : List Nat) (m : Nat) (E : Env) (H : Hp) {re : Env} {rh : Hp} (hk : keepO env ts = some re := by rfl) (hh : keepO L hs = some rh := by rfl)
    (h0 : I m E H) (he : InE env (E ++ re)) (hl : InH L (H ++ rh)) (hn : nodupB ((H ++ rh).map (·.1)) = true := by rfl)
    (hr : ∀ m E H, I m E H → Ho (E ++ re) D n w0 M B (H ++ rh) (c.wp P (Exit.then (fun a w => ∃ m' E' H', m' < m ∧ I m' E' H' ∧ Sy (E' ++ re) D n w0 M B (H' ++ rh) a w) Q))) :
    Ho env D n w0 M B L ((Code.loop c).wp P Q) := fun a w hsy =>
  wp_loop_ghost (fun m a w => ∃ E H, I m E H ∧ Sy (E ++ re) D n w0 M B (H ++ rh) a w) m ⟨E, H, h0, he.tm hsy.tm, hsy.df, hl.st (nodupB_spec hn) hsy.st, hsy.bo⟩
    fun m a w ⟨E, H, hi, hsy⟩ => by
      refine wp_mono (hr m E H hi a w hsy) fun e a' w' hq => ?_
      cases e with
      | normal =>
        obtain ⟨m', E', H', h1, h2, h3⟩ := hq
        exact ⟨m', h1, E', H', h2, h3⟩
      | exit id => exact hq
      | goto l => exact hq
      | ret => exact hq
      | panic ch => exact hq
      | outgrown => exact hq
/-- A round's end. -/
theorem k_again {I : Nat → Env → Hp → Prop} {m : Nat} {re : Env} {rh : Hp} (m' : Nat) {E' : Env} {H' : Hp} (hi : I m' E' H') (hm : m' < m) (he : InE env (E' ++ re)) (hl : InH L (H' ++ rh)) (hn : nodupB ((H' ++ rh).map (·.1)) = true := by rfl) :
    Ho env D n w0 M B L (fun a w => ∃ m' E' H', m' < m ∧ I m' E' H' ∧ Sy (E' ++ re) D n w0 M B (H' ++ rh) a w) := fun a w hsy =>
  ⟨m', E', H', hm, hi, he.tm hsy.tm, hsy.df, hl.st (nodupB_spec hn) hsy.st, hsy.bo⟩
/-- Ways that meet again. -/
theorem c_cut {c : Code} (I : Env → Hp → Prop) (ts hs : List Nat) {re : Env} {rh : Hp} (hk : keepO env ts = some re := by rfl) (hh : keepO L hs = some rh := by rfl)
    (h1 : Ho env D n w0 M B L (c.wp P (Exit.then (fun a w => ∃ E H, I E H ∧ Sy (E ++ re) D n w0 M B (H ++ rh) a w) Q))) (h2 : ∀ E H, I E H → Ho (E ++ re) D n w0 M B (H ++ rh) (Q .normal)) : Ho env D n w0 M B L (c.wp P Q) := fun a w hsy =>
  wp_mono (h1 a w hsy) fun e a' w' hq => by
    cases e with
    | normal => obtain ⟨E, H, hi, hs⟩ := hq; exact h2 E H hi a' w' hs
    | exit id => exact hq
    | goto l => exact hq
    | ret => exact hq
    | panic ch => exact hq
    | outgrown => exact hq
theorem k_join {I : Env → Hp → Prop} {re : Env} {rh : Hp} {E' : Env} {H' : Hp} (hi : I E' H') (he : InE env (E' ++ re)) (hl : InH L (H' ++ rh)) (hn : nodupB ((H' ++ rh).map (·.1)) = true := by rfl) :
    Ho env D n w0 M B L (fun a w => ∃ E H, I E H ∧ Sy (E ++ re) D n w0 M B (H ++ rh) a w) := fun a w hsy => ⟨E', H', hi, he.tm hsy.tm, hsy.df, hl.st (nodupB_spec hn) hsy.st, hsy.bo⟩
/-! ### regions that draw their order -/
theorem keepO_lk {L : Hp} {F : List Nat} : ∀ {LF : Hp}, keepO L F = some LF → ∀ i r, lk LF i = some r → lk L i = some r := fun {LF} h i r hr => by
  have hi := keepO_inH h
  have gen : ∀ {H : Hp}, InH L H → ∀ i r, lk H i = some r → lk L i = some r := by
    intro H
    induction H with
    | nil => intro _ i r h; cases h
    | cons x t ih =>
      obtain ⟨k, q⟩ := x
      intro hi i r h
      rw [lk_cons] at h
      by_cases e : k = i
      · rw [if_pos e] at h; injection h with h; subst h; subst e; exact hi.1
      · rw [if_neg e] at h; exact ih hi.2 i r h
  exact gen hi i r hr
/-- What holds all through a region: the resources LF are there. -/
structure Cov (LF L : Hp) : Prop where
  go : ∀ i r, lk LF i = some r → lk L i = some r
theorem cov_of {LF L : Hp} (h : InH L LF) : Cov LF L := ⟨by
  induction LF with
  | nil => intro i r h; cases h
  | cons x t ih =>
    obtain ⟨k, q⟩ := x
    intro i r hr
    rw [lk_cons] at hr
    by_cases e : k = i
    · rw [if_pos e] at hr; injection hr with hr; subst hr; subst e; exact h.1
    · rw [if_neg e] at hr; exact ih h.2 i r hr⟩
def HoC (LF : Hp) (env : Env) (D : List Deferred) (n : Nat) (w0 : World) (M : Nat → Prop) (B L : Hp) (K : Act → World → Prop) : Prop := Cov LF L → Ho env D n w0 M B L K
theorem facts_cov {LF : Hp} {w : World} {a : Act} (hc : Cov LF L) (hs : Sy env D n w0 M B L a w) : Facts B LF w := fun i r hr => by
  unfold lk2 at hr
  cases hl : lk LF i with
  | some q => rw [hl] at hr; injection hr with hr; subst hr; exact hs.st.res _ (lk_live (hc.go i _ hl))
  | none => rw [hl] at hr; exact (hs.bo i r hr).1
variable {LF : Hp} {σ : Plan} {i : Nat}
theorem c_draw {id : Nat} {l : List Oper} (σ : Plan) (F : List Nat) {LF : Hp} (hF : keepO L F = some LF := by rfl) (hm : P.follows .mixedOrders = true) (hs : Region.noSelect l.toArray = true) (hk : schedOk .any l.toArray σ (Array.replicate l.length false) = true) (hl : Nat.ble σ.len l.length = true := by rfl)
    (hQ : ∀ (d : Option Tmp) v c a w, Q (.panic c) (a.put d v) w → Q (.panic c) a w) (h : HoC LF env D n w0 M B L (wpSched P l.toArray Q (Facts B LF) σ)) : Ho env D n w0 M B L ((Code.region id l.toArray true).wp P Q) := fun a w hsy =>
  wp_region_sched σ (Facts B LF) hm hs hk (Nat.le_of_ble_eq_true hl) hQ (h ⟨keepO_lk hF⟩ a w.drew ⟨hsy.tm, hsy.df, hsy.st.drew, fun i r hr => ⟨r.stable w w.drew (fun _ _ => rfl) (hsy.bo i r hr).1, (hsy.bo i r hr).2⟩⟩)
/-- one that reads what stays. -/
theorem q_rd {v : TV} {d : Nat} (hi : ops.toList[i]? = some o) (hr : Reads P o env n B LF v) (h : HoC LF ((d, v) :: env) D n w0 M B L (wpSched P ops Q (Facts B LF) σ)) (ho : o.dst = some d := by rfl) (hg : guarded ops env o = some true := by rfl) (hd : Nat.blt d n = true := by rfl) : HoC LF env D n w0 M B L (wpSched P ops Q (Facts B LF) (.q i σ)) := fun hc a w hs => by
  refine sched_r (v := v.den) hi (guarded_wanted hs.tm hg) (facts_cov hc hs) (fun w' hw' => hr a w' hs.tm hw') ?_
  rw [ho]
  exact h hc _ _ (hs.put hd)
theorem q_rdG {v : SV} {d : Nat} {g : Bool} (hi : ops.toList[i]? = some o) (ts : List Nat) {env' : List (Nat × TV)} (hres : ResAll env g ts env') (hr : g = true → Reads P o env' n B LF (.s v)) (h : HoC LF ((d, .cond g v) :: env) D n w0 M B L (wpSched P ops Q (Facts B LF) σ)) (ho : o.dst = some d := by rfl) (hg : guardSym ops env o = some g := by rfl) (hd : Nat.blt d n = true := by rfl) : HoC LF env D n w0 M B L (wpSched P ops Q (Facts B LF) (.q i σ)) := fun hc a w hs => by
  by_cases e : g = true
  · refine sched_r (v := v.den) hi (by rw [guardSym_wanted hs.tm hg]; exact e) (facts_cov hc hs) (fun w' hw' => hr e a w' (hres.tm e hs.tm) hw') ?_
    rw [ho]
    have := hs.put (v := .cond g v) hd
    rw [show (TV.cond g v).den = v.den from if_pos e] at this
    exact h hc _ _ this
  · refine sched_skip hi (by rw [guardSym_wanted hs.tm hg]; simpa using e) (facts_cov hc hs) ?_
    rw [ho]
    have := hs.put (v := .cond g v) hd
    rw [show (TV.cond g v).den = undef from if_neg e] at this
    exact h hc _ _ this
theorem k_caseC (t : Nat) {x : Bool} {K : Act → World → Prop} (ht : lk env t = some (vb x) := by rfl) (h1 : x = true → HoC LF ((t, vb true) :: env) D n w0 M B L K) (h2 : x = false → HoC LF ((t, vb false) :: env) D n w0 M B L K) : HoC LF env D n w0 M B L K := fun hc => k_case t ht (fun h => h1 h hc) (fun h => h2 h hc)
theorem q_skip {d : Nat} (hi : ops.toList[i]? = some o) (h : HoC LF ((d, .un) :: env) D n w0 M B L (wpSched P ops Q (Facts B LF) σ)) (ho : o.dst = some d := by rfl) (hg : guarded ops env o = some false := by rfl) (hd : Nat.blt d n = true := by rfl) : HoC LF env D n w0 M B L (wpSched P ops Q (Facts B LF) (.q i σ)) := fun hc a w hs => by
  refine sched_skip hi (guarded_wanted hs.tm hg) (facts_cov hc hs) ?_
  rw [ho]
  exact h hc _ _ (hs.put (v := .un) hd)
/-- serial ones. -/
theorem s_rd {v : TV} {d : Nat} (hi : ops.toList[i]? = some o) (hr : Reads P o env n B L v) (h : HoC LF ((d, v) :: env) D n w0 M B L (wpSched P ops Q (Facts B LF) σ)) (ho : o.dst = some d := by rfl) (hg : guarded ops env o = some true := by rfl) (hd : Nat.blt d n = true := by rfl) : HoC LF env D n w0 M B L (wpSched P ops Q (Facts B LF) (.s i σ)) := fun hc a w hs => by
  refine sched_s hi (guarded_wanted hs.tm hg) ?_
  unfold Oper.wp
  rw [hr a w hs.tm hs.facts]
  show _ ∧ _
  rw [ho]
  exact ⟨facts_cov hc hs, h hc _ _ (hs.put hd)⟩
theorem s_skip {d : Nat} (hi : ops.toList[i]? = some o) (h : HoC LF ((d, .un) :: env) D n w0 M B L (wpSched P ops Q (Facts B LF) σ)) (ho : o.dst = some d := by rfl) (hg : guarded ops env o = some false := by rfl) (hd : Nat.blt d n = true := by rfl) : HoC LF env D n w0 M B L (wpSched P ops Q (Facts B LF) (.s i σ)) := fun hc a w hs => by
  refine sched_sskip hi (guarded_wanted hs.tm hg) (facts_cov hc hs) ?_
  rw [ho]
  exact h hc _ _ (hs.put (v := .un) hd)
theorem s_skip0 (hi : ops.toList[i]? = some o) (h : HoC LF env D n w0 M B L (wpSched P ops Q (Facts B LF) σ)) (ho : o.dst = none := by rfl) (hg : guarded ops env o = some false := by rfl) : HoC LF env D n w0 M B L (wpSched P ops Q (Facts B LF) (.s i σ)) := fun hc a w hs => by
  refine sched_sskip hi (guarded_wanted hs.tm hg) (facts_cov hc hs) ?_
  rw [ho]
  exact h hc _ _ (hs.put0 _)
theorem s_do {γ : Type} {env' : γ → Env} {L' : γ → Hp} {js : List Nat} (hi : ops.toList[i]? = some o) (hr : Does P o env D n w0 M B L env' L' js) (h : ∀ x, HoC LF (env' x) D n w0 M B (L' x) (wpSched P ops Q (Facts B LF) σ)) (hg : guarded ops env o = some true := by rfl) (hF : noneIn js (LF.map (·.1)) = true := by rfl) : HoC LF env D n w0 M B L (wpSched P ops Q (Facts B LF) (.s i σ)) := fun hc a w hs => by
  refine sched_s hi (guarded_wanted hs.tm hg) ?_
  refine hr.go a w _ _ hs fun x a' w' hs' => ?_
  have hc' : Cov LF (L' x) := ⟨fun j r hj => by
    rw [hr.kp x j ?_]
    · exact hc.go j r hj
    · have hm : j ∈ LF.map (·.1) := by
        have gen : ∀ (H : Hp), lk H j = some r → j ∈ H.map (·.1) := by
          intro H
          induction H with
          | nil => intro h; cases h
          | cons x t ih =>
            obtain ⟨k, v⟩ := x
            intro h
            rw [lk_cons] at h
            by_cases e : k = j
            · simp [e]
            · rw [if_neg e] at h
              exact List.mem_cons_of_mem _ (ih h)
        exact gen LF hj
      have := noneIn_spec hF j hm
      simpa using this⟩
  exact ⟨facts_cov hc' hs', h x hc' a' w' hs'⟩
theorem s_do1 {env' : Unit → Env} {L' : Unit → Hp} {js : List Nat} (hi : ops.toList[i]? = some o) (hr : Does P o env D n w0 M B L env' L' js) (h : HoC LF (env' ()) D n w0 M B (L' ()) (wpSched P ops Q (Facts B LF) σ)) (hg : guarded ops env o = some true := by rfl) (hF : noneIn js (LF.map (·.1)) = true := by rfl) : HoC LF env D n w0 M B L (wpSched P ops Q (Facts B LF) (.s i σ)) := s_do hi hr (fun _ => h) hg hF
theorem q_ix {α : Type} {e : TypeId} {i' m c j sz bytes : Nat} {A : Option Addr} {R : Res} {E : En α} {l : List α} {k : IntKind} {p : Int} {agg : Bool} {zz : SV} [hu : UD P T (.slice e)] [hT : TyA P e agg sz zz bytes] (hi : ops.toList[i]? = some ⟨some d, .indexAddr T x y, ty, pos, af, gd⟩) (h : ∀ ad u, A = some ad → l[j]? = some u → HoC LF ((d, .s (.one (.el i' ad sz j 0))) :: env) D n w0 M B L (wpSched P ops Q (Facts B LF) σ)) (hx : ev env x = some (vsl i' A m c) := by rfl) (hy : ev env y = some (vi k p) := by rfl) (hr : lk2 B L i' = some R := by rfl) (hro : RowM R A m E l := by first | exact ⟨View.row (by assumption), by first | rfl | assumption | omega⟩ | exact ⟨rowOf_rows, by first | rfl | assumption | (simp only [List.length_drop, List.length_take, List.length_append, List.length_cons, List.length_nil]; done) | (simp only [List.length_drop, List.length_take, List.length_append, List.length_cons, List.length_nil]; omega) | omega⟩ | exact ⟨rowOf_rd, by first | rfl | assumption | (simp only [List.length_drop, List.length_take, List.length_append, List.length_cons, List.length_nil]; done) | (simp only [List.length_drop, List.length_take, List.length_append, List.length_cons, List.length_nil]; omega) | omega⟩ | exact ⟨rowOf_tail rowOf_rd (by omega) (by omega), by first | rfl | assumption | (simp only [List.length_drop, List.length_take, List.length_append, List.length_cons, List.length_nil]; done) | (simp only [List.length_drop, List.length_take, List.length_append, List.length_cons, List.length_nil]; omega) | omega⟩ | exact rowM_take rowOf_rd (by omega) | exact rowM_take (rowOf_tail rowOf_rd (by omega) (by omega)) (by first | omega | (simp only [List.length_drop]; omega)) | exact ⟨rowOf_tail rowOf_rows (by omega) (by omega), by first | rfl | assumption | (simp only [List.length_drop, List.length_take, List.length_append, List.length_cons, List.length_nil]; done) | (simp only [List.length_drop, List.length_take, List.length_append, List.length_cons, List.length_nil]; omega) | omega⟩ | exact rowM_take rowOf_rows (by omega) | exact rowM_take (rowOf_tail rowOf_rows (by omega) (by omega)) (by first | omega | (simp only [List.length_drop]; omega))) (hp : p = (j : Int) := by first | rfl | omega) (hj : j < l.length := by first | assumption | omega | (simp only [List.length_drop, List.length_take, List.length_append, List.length_cons, List.length_nil]; omega))
    (hg : guarded ops env ⟨some d, .indexAddr T x y, ty, pos, af, gd⟩ = some true := by rfl) (hd : Nat.blt d n = true := by rfl) : HoC LF env D n w0 M B L (wpSched P ops Q (Facts B LF) (.q i σ)) := fun hc a w hs => by
  obtain rfl := hro.len
  obtain ⟨ad, hA, _⟩ := rds_some (hro.is.is w (hs.facts i' _ hr)) (by omega)
  exact q_rd hi (r_index hA hx hy hp hj) (h ad l[j] hA (List.getElem?_eq_getElem hj)) rfl hg hd hc a w hs
theorem s_ix {α : Type} {e : TypeId} {i' m c j sz bytes : Nat} {A : Option Addr} {R : Res} {E : En α} {l : List α} {k : IntKind} {p : Int} {agg : Bool} {zz : SV} [hu : UD P T (.slice e)] [hT : TyA P e agg sz zz bytes] (hi : ops.toList[i]? = some ⟨some d, .indexAddr T x y, ty, pos, af, gd⟩) (h : ∀ ad u, A = some ad → l[j]? = some u → HoC LF ((d, .s (.one (.el i' ad sz j 0))) :: env) D n w0 M B L (wpSched P ops Q (Facts B LF) σ)) (hx : ev env x = some (vsl i' A m c) := by rfl) (hy : ev env y = some (vi k p) := by rfl) (hr : lk2 B L i' = some R := by rfl) (hro : RowM R A m E l := by first | exact ⟨View.row (by assumption), by first | rfl | assumption | omega⟩ | exact ⟨rowOf_rows, by first | rfl | assumption | (simp only [List.length_drop, List.length_take, List.length_append, List.length_cons, List.length_nil]; done) | (simp only [List.length_drop, List.length_take, List.length_append, List.length_cons, List.length_nil]; omega) | omega⟩ | exact ⟨rowOf_rd, by first | rfl | assumption | (simp only [List.length_drop, List.length_take, List.length_append, List.length_cons, List.length_nil]; done) | (simp only [List.length_drop, List.length_take, List.length_append, List.length_cons, List.length_nil]; omega) | omega⟩ | exact ⟨rowOf_tail rowOf_rd (by omega) (by omega), by first | rfl | assumption | (simp only [List.length_drop, List.length_take, List.length_append, List.length_cons, List.length_nil]; done) | (simp only [List.length_drop, List.length_take, List.length_append, List.length_cons, List.length_nil]; omega) | omega⟩ | exact rowM_take rowOf_rd (by omega) | exact rowM_take (rowOf_tail rowOf_rd (by omega) (by omega)) (by first | omega | (simp only [List.length_drop]; omega)) | exact ⟨rowOf_tail rowOf_rows (by omega) (by omega), by first | rfl | assumption | (simp only [List.length_drop, List.length_take, List.length_append, List.length_cons, List.length_nil]; done) | (simp only [List.length_drop, List.length_take, List.length_append, List.length_cons, List.length_nil]; omega) | omega⟩ | exact rowM_take rowOf_rows (by omega) | exact rowM_take (rowOf_tail rowOf_rows (by omega) (by omega)) (by first | omega | (simp only [List.length_drop]; omega))) (hp : p = (j : Int) := by first | rfl | omega) (hj : j < l.length := by first | assumption | omega | (simp only [List.length_drop, List.length_take, List.length_append, List.length_cons, List.length_nil]; omega))
    (hg : guarded ops env ⟨some d, .indexAddr T x y, ty, pos, af, gd⟩ = some true := by rfl) (hd : Nat.blt d n = true := by rfl) : HoC LF env D n w0 M B L (wpSched P ops Q (Facts B LF) (.s i σ)) := fun hc a w hs => by
  obtain rfl := hro.len
  obtain ⟨ad, hA, _⟩ := rds_some (hro.is.is w (hs.facts i' _ hr)) (by omega)
  exact s_rd hi (r_index hA hx hy hp hj) (h ad l[j] hA (List.getElem?_eq_getElem hj)) rfl hg hd hc a w hs
theorem s_nil (h : Ho env D n w0 M B L (Q .normal)) : HoC LF env D n w0 M B L (wpSched P ops Q (Facts B LF) .nil) := fun _ => h
theorem s_two {i j : Nat} {σ τ : Plan} (h1 : HoC LF env D n w0 M B L (wpSched P ops Q (Facts B LF) (.s i σ))) (h2 : HoC LF env D n w0 M B L (wpSched P ops Q (Facts B LF) (.s j τ))) : HoC LF env D n w0 M B L (wpSched P ops Q (Facts B LF) (.s2 i σ j τ)) := fun hc a w hs => ⟨h1 hc a w hs, h2 hc a w hs⟩
theorem s_call {f : FuncId} {fn : Func} {args all : List SV} {Bc Lc : Hp} {post : Out → List Res → Prop} {xs : Array Operand} {tys : Array TypeId} {cap : List Value} {gh : List Nat} (hi : ops.toList[i]? = some ⟨some d, .call { callee := .value x, args := xs, argTypes := tys }, ty, pos, af, gd⟩) (b : Nat) (m : List (Nat × Nat))
    (hs : CSpec P f all Bc Lc post) (hf : P.funcs[f]? = some fn) (hx : ev env x = some (.s (.one (.fn f cap gh))) := by rfl) (ha : evs env xs.toList = some args := by rfl) (hall : args.map SV.den ++ cap = all.map SV.den := by rfl)
    (hB : GotB (lk2 B L) (cid m args) Bc := by repeat (first | exact trivial | refine ⟨⟨_, rfl, by first | assumption | exact View.refl _ | exact view_rows | exact view_tail (View.refl _) (by omega) (by omega) | exact view_take (View.refl _) | exact view_tail view_rows (by omega) (by omega) | exact view_take view_rows⟩, ?_⟩)) (hL : Got (lk L) (cid m args) Lc := by repeat (first | exact trivial | refine ⟨rfl, ?_⟩))
    (hnd : nodupB (ids (cid m args) Lc) = true := by rfl) (hbl : noneIn (ids (cid m args) Lc) (ids (cid m args) Bc) = true := by rfl) (hnk : nodupB (Lc.map (·.1)) = true := by rfl)
    (h : ∀ o Lr, post o Lr → match o with
      | .ret v => Cov LF (num b Lr ++ dels (ids (cid m args) Lc) L) ∧ HoC LF ((d, v.up b) :: env) D n w0 M B (num b Lr ++ dels (ids (cid m args) Lc) L) (wpSched P ops Q (Facts B LF) σ)
      | .pan ch => Ho env D n w0 M B (num b Lr ++ dels (ids (cid m args) Lc) L) (Q (.panic ch)))
    (hg : guarded ops env ⟨some d, .call { callee := .value x, args := xs, argTypes := tys }, ty, pos, af, gd⟩ = some true := by rfl) (hd : Nat.blt d n = true := by rfl) (hb : fn.body.isNone = false := by rfl) (hn : (fn.name == "runtime.NumGoroutine") = false := by rfl) :
    HoC LF env D n w0 M B L (wpSched P ops Q (Facts B LF) (.s i σ)) := fun hc a w hsy => by
  refine sched_s hi (guarded_wanted hsy.tm hg) ?_
  refine call_wp hs hf hb hn (cid m args) b hx ha hall hB hL hnd hbl hnk hsy fun o Lr hp => ?_
  have h9 := h o Lr hp
  cases o with
  | ret v => exact fun w' hs' => ⟨facts_cov h9.1 hs', h9.2 h9.1 _ _ (by have := hs'.put (v := v.up b) hd; rwa [v.den_up] at this)⟩
  | pan ch => exact fun w' hs' => h9 _ _ hs'
end
end HL
end Go.Proofs.Ytonbgcehgmpnkaa
