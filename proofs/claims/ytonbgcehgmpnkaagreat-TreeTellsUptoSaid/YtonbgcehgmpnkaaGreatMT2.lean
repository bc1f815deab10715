/- Lemmas and walks: K4, K5, K6, K7, K8, K9, KA, KB, KC. -/
import Derived.Test.YtonbgcehgmpnkaaGreatMT1
import Derived.Maps.RangeRun
import Derived.RangeFuncIn
import Derived.RangeFuncRecord
import Derived.RangeFuncSeq
import Derived.RangeFuncLeaves
import Derived.Laws.MakeOwn
import Derived.Laws.StructEq
/- SYMBOLIC STATES: code, loops, calls, regions that draw their order. My own text; it names no program. -/

set_option linter.unusedVariables false
set_option linter.unusedSimpArgs false
set_option linter.unusedSectionVars false
namespace Go.Proofs.YtonbgcehgmpnkaaGreat
namespace HL
open Go Go.RowKit
/-- How a call ends. -/
inductive Out where
  | ret (v : TV)
  | pan (c : List PanicEntry)
def Out.den : Out → Ending
  | .ret v => .returned v.den
  | .pan c => .panicked c
def Post (post : Out → List Res → Prop) (w0 : World) (M : Nat → Prop) (e : Ending) (w' : World) : Prop := ∃ o L, o.den = e ∧ post o L ∧ St w0 w' M L
def memB (i : Nat) : List Nat → Bool
  | [] => false
  | j :: js => bif Nat.beq i j then true else memB i js
def nodupB : List Nat → Bool
  | [] => true
  | i :: is => bif memB i is then false else nodupB is
theorem memB_spec {i : Nat} : ∀ {l : List Nat}, memB i l = false → i ∉ l
  | [], _ => by simp
  | j :: js, h => by
    unfold memB at h
    cases hb : Nat.beq i j with
    | true => rw [hb] at h; cases h
    | false =>
      rw [hb] at h
      intro hm
      rcases List.mem_cons.1 hm with e | hm
      · subst e; rw [Nat.beq_refl] at hb; cases hb
      · exact memB_spec h hm
theorem nodupB_spec : ∀ {l : List Nat}, nodupB l = true → l.Nodup
  | [], _ => List.nodup_nil
  | i :: is, h => by
    unfold nodupB at h
    cases hb : memB i is with
    | true => rw [hb] at h; cases h
    | false => rw [hb] at h; exact List.nodup_cons.2 ⟨memB_spec hb, nodupB_spec h⟩
def picks (L : Hp) : List Nat → Option (List Res)
  | [] => some []
  | i :: is => match lk L i with
    | some r => match picks L is with
      | some rs => some (r :: rs)
      | none => none
    | none => none
theorem picks_cons {L : Hp} {i : Nat} {is : List Nat} {rs : List Res} (h : picks L (i :: is) = some rs) : ∃ r rs', lk L i = some r ∧ picks L is = some rs' ∧ rs = r :: rs' := by
  unfold picks at h
  split at h
  · rename_i r hr
    split at h
    · rename_i rs' hrs
      injection h with h
      exact ⟨r, rs', hr, hrs, h.symm⟩
    · cases h
  · cases h
theorem picks_del {L : Hp} {k : Nat} : ∀ {is : List Nat} {rs : List Res}, k ∉ is → picks L is = some rs → picks (del k L) is = some rs
  | [], rs, _, h => h
  | i :: is, rs, hk, h => by
    obtain ⟨r, rs', h1, h2, rfl⟩ := picks_cons h
    simp only [List.mem_cons, not_or] at hk
    unfold picks
    rw [lk_del, if_neg (fun e => hk.1 e.symm), h1, picks_del hk.2 h2]
def dels {α : Type _} (is : List Nat) (L : List (Nat × α)) : List (Nat × α) := is.foldl (fun L i => del i L) L
theorem St.picks {w0 w : World} {M : Nat → Prop} : ∀ {is : List Nat} {L : Hp} {rs : List Res}, St w0 w M (live L) → picks L is = some rs → is.Nodup → St w0 w M (rs ++ live (dels is L))
  | [], L, rs, h, hp, _ => by
    unfold HL.picks at hp
    injection hp with hp
    subst hp
    exact h
  | i :: is, L, rs, h, hp, hn => by
    obtain ⟨r, rs', h1, h2, rfl⟩ := picks_cons hp
    have hn' := List.nodup_cons.1 hn
    have hf := live_front h h1
    -- the rest, with r aside
    have gen : ∀ {is : List Nat} {L : Hp} {rs : List Res} {X : List Res}, St w0 w M (X ++ live L) → HL.picks L is = some rs → is.Nodup → St w0 w M (X ++ (rs ++ live (dels is L))) := by
      intro is
      induction is with
      | nil => intro L rs X h hp _; unfold HL.picks at hp; injection hp with hp; subst hp; exact h
      | cons i is ih =>
        intro L rs X h hp hn
        obtain ⟨r, rs', h1, h2, rfl⟩ := picks_cons hp
        have hn' := List.nodup_cons.1 hn
        have hperm : (X ++ live L).Perm ((X ++ [r]) ++ live (del i L)) := by
          rw [List.append_assoc]
          exact (live_perm _ L (Nat.le_refl _) h1).append_left X
        have := ih (h.perm hperm) (picks_del hn'.1 h2) hn'.2
        rw [List.append_assoc] at this
        exact this
    have := gen (X := [r]) hf (picks_del hn'.1 h2) hn'.2
    exact this
section
variable {P : Program} {Q : Exit → Act → World → Prop}
variable {env env' : Env} {D : List Deferred} {n : Nat} {w0 : World} {M : Nat → Prop} {B L L' : Hp} {K : Act → World → Prop}
/-! ### code -/
theorem c_seq {x y : Code} (h : Ho env D n w0 M B L (x.wp P (Exit.then (y.wp P Q) Q))) : Ho env D n w0 M B L ((Code.seq x y).wp P Q) := fun a w hs => wp_seq (h a w hs)
theorem c_block {id : Nat} {c : Code} (h : Ho env D n w0 M B L (c.wp P (Exit.inBlock id Q))) : Ho env D n w0 M B L ((Code.block id c).wp P Q) := fun a w hs => wp_block (h a w hs)
theorem c_skip (h : Ho env D n w0 M B L (Q .normal)) : Ho env D n w0 M B L (Code.skip.wp P Q) := fun a w hs => wp_skip (h a w hs)
theorem c_exit {id : Nat} (h : Ho env D n w0 M B L (Q (.exit id))) : Ho env D n w0 M B L ((Code.exit id).wp P Q) := fun a w hs => wp_exit (h a w hs)
theorem c_ret (h : Ho env D n w0 M B L (Q .ret)) : Ho env D n w0 M B L (Code.ret.wp P Q) := fun a w hs => wp_ret (h a w hs)
theorem c_region {id : Nat} {l : List Oper} (h : Ho env D n w0 M B L (wpList P l.toArray Q l)) : Ho env D n w0 M B L ((Code.region id l.toArray false).wp P Q) := fun a w hs => wp_region_lit (h a w hs)
theorem c_if {c : Operand} {x y : Code} {t : Bool} (hc : ev env c = some (vb t) := by rfl) (h1 : t = true → Ho env D n w0 M B L (x.wp P Q)) (h2 : t = false → Ho env D n w0 M B L (y.wp P Q)) : Ho env D n w0 M B L ((Code.cond c x y).wp P Q) := fun a w hs =>
  wp_cond_split (ev_sound hs.tm hc) (fun h => h1 h a w hs) (fun h => h2 h a w hs)
theorem c_ifd {c : Operand} {x y : Code} {p : Prop} [Decidable p] (hc : ev env c = some (vb (decide p)) := by rfl) (h1 : p → Ho env D n w0 M B L (x.wp P Q)) (h2 : ¬ p → Ho env D n w0 M B L (y.wp P Q)) : Ho env D n w0 M B L ((Code.cond c x y).wp P Q) :=
  c_if hc (fun h => h1 (of_decide_eq_true h)) (fun h => h2 (of_decide_eq_false h))
theorem c_ifn {c : Operand} {x y : Code} {p : Prop} [Decidable p] (hc : ev env c = some (vb (!decide p)) := by rfl) (h1 : ¬ p → Ho env D n w0 M B L (x.wp P Q)) (h2 : p → Ho env D n w0 M B L (y.wp P Q)) : Ho env D n w0 M B L ((Code.cond c x y).wp P Q) :=
  c_if hc (fun h => h1 (by simpa using h)) (fun h => h2 (by simpa using h))
theorem c_true {c : Operand} {x y : Code} (hc : ev env c = some (vb true) := by rfl) (h : Ho env D n w0 M B L (x.wp P Q)) : Ho env D n w0 M B L ((Code.cond c x y).wp P Q) := fun a w hs => wp_cond_true (ev_sound hs.tm hc) (h a w hs)
theorem c_false {c : Operand} {x y : Code} (hc : ev env c = some (vb false) := by rfl) (h : Ho env D n w0 M B L (y.wp P Q)) : Ho env D n w0 M B L ((Code.cond c x y).wp P Q) := fun a w hs => wp_cond_false (ev_sound hs.tm hc) (h a w hs)
theorem x_then (h : Ho env D n w0 M B L K) : Ho env D n w0 M B L (Exit.then K Q .normal) := h
theorem x_thenE {id : Nat} (h : Ho env D n w0 M B L (Q (.exit id))) : Ho env D n w0 M B L (Exit.then K Q (.exit id)) := h
theorem x_thenR (h : Ho env D n w0 M B L (Q .ret)) : Ho env D n w0 M B L (Exit.then K Q .ret) := h
theorem x_thenP {c : List PanicEntry} (h : Ho env D n w0 M B L (Q (.panic c))) : Ho env D n w0 M B L (Exit.then K Q (.panic c)) := h
theorem x_in {id : Nat} (h : Ho env D n w0 M B L (Q .normal)) : Ho env D n w0 M B L (Exit.inBlock id Q .normal) := h
theorem x_inE {id : Nat} (h : Ho env D n w0 M B L (Q .normal)) : Ho env D n w0 M B L (Exit.inBlock id Q (.exit id)) := fun a w hs => by
  simp only [Exit.inBlock, if_true]
  exact h a w hs
theorem x_inO {id id' : Nat} (h : Ho env D n w0 M B L (Q (.exit id'))) (hne : Nat.beq id' id = false := by rfl) : Ho env D n w0 M B L (Exit.inBlock id Q (.exit id')) := fun a w hs => by
  have : ¬ id' = id := fun e => by subst e; rw [Nat.beq_refl] at hne; cases hne
  simp only [Exit.inBlock, this, if_false]
  exact h a w hs
theorem x_inR {id : Nat} (h : Ho env D n w0 M B L (Q .ret)) : Ho env D n w0 M B L (Exit.inBlock id Q .ret) := h
theorem x_inP {id : Nat} {c : List PanicEntry} (h : Ho env D n w0 M B L (Q (.panic c))) : Ho env D n w0 M B L (Exit.inBlock id Q (.panic c)) := h
/-! ### the state, told otherwise -/
/-- Values that are there. -/
def InE (env : Env) : Env → Prop
  | [] => True
  | (t, v) :: r => (∃ u, lk env t = some u ∧ u.den = v.den) ∧ InE env r
theorem InE.lk {env : Env} : ∀ {env' : Env}, InE env env' → ∀ {t : Nat} {v : TV}, lk env' t = some v → ∃ u, HL.lk env t = some u ∧ u.den = v.den
  | [], _, t, v, h => by cases h
  | (k, x) :: r, hi, t, v, h => by
    rw [lk_cons] at h
    by_cases e : k = t
    · rw [if_pos e] at h
      injection h with h
      subst h
      subst e
      exact hi.1
    · rw [if_neg e] at h
      exact hi.2.lk h
theorem InE.tm {a : Act} (h : InE env env') (ht : Tm env n a) : Tm env' n a := ⟨fun t v hv => by
  obtain ⟨u, h1, h2⟩ := h.lk hv
  rw [ht.tm t u h1, h2], ht.sz⟩
/-- Resources that are there. -/
def InH (L : Hp) : Hp → Prop
  | [] => True
  | (i, r) :: t => HL.lk L i = some r ∧ InH L t
theorem InH.picks : ∀ {L' : Hp}, InH L L' → HL.picks L (L'.map (·.1)) = some (L'.map (·.2))
  | [], _ => rfl
  | (i, r) :: t, h => by
    show HL.picks L (i :: t.map (·.1)) = _
    unfold HL.picks
    rw [h.1, InH.picks h.2]
    rfl
theorem live_nodup : ∀ {L : Hp}, (L.map (·.1)).Nodup → live L = L.map (·.2)
  | [], _ => live_nil
  | (i, r) :: t, h => by
    have h' := List.nodup_cons.1 h
    have hn : lk t i = none := by
      cases hl : lk t i with
      | none => rfl
      | some q =>
        exfalso
        refine h'.1 ?_
        have gen : ∀ (t : Hp), lk t i = some q → i ∈ t.map (·.1) := by
          intro t
          induction t with
          | nil => intro h; cases h
          | cons x t ih =>
            obtain ⟨k, v⟩ := x
            intro h
            rw [lk_cons] at h
            by_cases e : k = i
            · simp [e]
            · rw [if_neg e] at h
              exact List.mem_cons_of_mem _ (ih h)
        exact gen t hl
    rw [live_cons, del_same hn, live_nodup h'.2]
    rfl
theorem InH.st {w : World} (h : InH L L') (hn : (L'.map (·.1)).Nodup) (hs : St w0 w M (live L)) : St w0 w M (live L') := by
  have := hs.picks h.picks hn
  rw [live_nodup hn]
  exact this.sub (List.sublist_append_left _ _)
theorem k_sub (he : InE env env') (hl : InH L L') (hn : nodupB (L'.map (·.1)) = true := by rfl) (h : Ho env' D n w0 M B L' K) : Ho env D n w0 M B L K := fun a w hs => h a w ⟨he.tm hs.tm, hs.df, hl.st (nodupB_spec hn) hs.st, hs.bo⟩
/-- The first entries of these numbers, each once. -/
def keepO {α : Type _} (l : List (Nat × α)) : List Nat → Option (List (Nat × α))
  | [] => some []
  | t :: ts => match lk l t with
    | some v => match keepO l ts with
      | some r => some ((t, v) :: r)
      | none => none
    | none => keepO l ts
theorem keepO_in : ∀ {ts : List Nat} {e' : Env}, keepO env ts = some e' → InE env e'
  | [], e', h => by unfold keepO at h; injection h with h; subst h; trivial
  | t :: ts, e', h => by
    unfold keepO at h
    split at h
    · rename_i v hv
      split at h
      · rename_i r hr
        injection h with h
        subst h
        exact ⟨⟨v, hv, rfl⟩, keepO_in hr⟩
      · cases h
    · exact keepO_in h
theorem keepO_inH : ∀ {ts : List Nat} {e' : Hp}, keepO L ts = some e' → InH L e'
  | [], e', h => by unfold keepO at h; injection h with h; subst h; trivial
  | t :: ts, e', h => by
    unfold keepO at h
    split at h
    · rename_i v hv
      split at h
      · rename_i r hr
        injection h with h
        subst h
        exact ⟨hv, keepO_inH hr⟩
      · cases h
    · exact keepO_inH h
/-- Only these temporaries are remembered. -/
theorem k_env (ts : List Nat) (hk : keepO env ts = some env' := by rfl) (h : Ho env' D n w0 M B L K) : Ho env D n w0 M B L K := fun a w hs => h a w ⟨(keepO_in hk).tm hs.tm, hs.df, hs.st, hs.bo⟩
/-- Only these resources are. -/
theorem k_heap (ts : List Nat) (hk : keepO L ts = some L' := by rfl) (hn : nodupB (L'.map (·.1)) = true := by rfl) (h : Ho env D n w0 M B L' K) : Ho env D n w0 M B L K := fun a w hs => h a w ⟨hs.tm, hs.df, (keepO_inH hk).st (nodupB_spec hn) hs.st, hs.bo⟩
/-- A value, spelled otherwise. -/
theorem k_val (t : Nat) {u : TV} (v : TV) (ht : lk env t = some u := by rfl) (hv : u.den = v.den := by rfl) (h : Ho ((t, v) :: env) D n w0 M B L K) : Ho env D n w0 M B L K := fun a w hs => h a w ⟨⟨fun q x hq => by
  rw [lk_cons] at hq
  by_cases e : t = q
  · rw [if_pos e] at hq
    injection hq with hq
    rw [← hq, ← hv, ← e]
    exact hs.tm.tm t u ht
  · rw [if_neg e] at hq
    exact hs.tm.tm q x hq, hs.tm.sz⟩, hs.df, hs.st, hs.bo⟩
/-- A resource, told otherwise. -/
theorem k_res (i : Nat) {r : Res} (r' : Res) (hr : lk L i = some r := by rfl) (he : r = r') (h : Ho env D n w0 M B ((i, r') :: L) K) : Ho env D n w0 M B L K := fun a w hs => h a w ⟨hs.tm, hs.df, by rw [live_cons, ← he]; exact live_front hs.st hr, hs.bo⟩
/-- A nil slice as a row. -/
theorem k_nil {α : Type} (i : Nat) (e : TypeId) (E : En α) (h : Ho env D n w0 M B ((i, Res.rows none 0 e E []) :: L) K) : Ho env D n w0 M B L K := fun a w hs => h a w ⟨hs.tm, hs.df, live_new (by
  have := hs.st.nilrow e E.sz
  unfold Res.rows En.dens
  rw [List.map_nil, flat_nil]
  exact this), hs.bo⟩
/-- A fact of the heap, in hand. -/
theorem k_fact {p : Prop} (hp : ∀ w, Facts B L w → p) (h : p → Ho env D n w0 M B L K) : Ho env D n w0 M B L K := fun a w hs => h (hp w hs.facts) a w hs
/-! ### the end -/
/-- What a result is. -/
inductive RV (P : Program) (env : Env) (B L : Hp) : ResultVar → SV → Prop where
  | tmp {t : Nat} {v : SV} (h : HL.lk env t = some (.s v)) : RV P env B L (.tmp t) v
  | cell {t i g off : Nat} {T e : TypeId} {as r : List At} {v : SV} {agg : Bool} {sz bytes : Nat} {z : SV} (hT : TyA P T agg sz z bytes) (hx : HL.lk env t = some (vp i ⟨g, off, none⟩)) (hr : lk2 B L i = some (Res.va g e as)) (hc : cutAt as off sz = some r) (hv : mkSV agg r = some v) : RV P env B L (.cell t T) v
inductive RVs (P : Program) (env : Env) (B L : Hp) : List ResultVar → List SV → Prop where
  | nil : RVs P env B L [] []
  | cons {x : ResultVar} {v : SV} {xs : List ResultVar} {vs : List SV} (h : RV P env B L x v) (hs : RVs P env B L xs vs) : RVs P env B L (x :: xs) (v :: vs)
def retTV : List SV → TV
  | [v] => .s v
  | vs => .tup vs
def rvF (tmps : Array Value) : ResultVar → Sem Value
  | .tmp t => pure (tmps.getD t undef)
  | .cell c t => do loadVar t (← asAddr (tmps.getD c undef))
theorem rv_run {r : ResultVar} {v : SV} {a : Act} {w : World} (h : RV P env B L r v) (ht : Tm env n a) (hf : Facts B L w) : (rvF a.tmps r).run P w = .ok v.den w := by
  cases h with
  | tmp h =>
    have := ht.tm _ _ h
    simp only [rvF, Sem.run_pure]
    simp [Array.getD_eq_getD_getElem?, this]
    rfl
  | cell hT hx hr hc hv =>
    rename_i t i g off T e as r agg sz bytes z
    obtain ⟨h2, h3⟩ := mkSV_spec hv
    obtain ⟨_, _, _, _, h4⟩ := cutAt_spec as off sz hc
    have hcells : CellsAt w ⟨g, off, none⟩ v.den.cells.toList := by
      have := (va_cells (hf i _ hr)).cut hc
      rw [add_lit0, Nat.zero_add] at this
      rw [SV.cells_den, h2]
      exact this
    have h1 : a.tmps.getD t undef = .pointer (some ⟨g, off, none⟩) := by
      have := ht.tm _ _ hx
      simp [Array.getD_eq_getD_getElem?, this]
      rfl
    simp only [rvF, h1, asAddr, Sem.run_bind, Sem.run_pure, Result.andThen_ok]
    exact run_loadVar (fits_sv (P := P) (T := T) h3 (by rw [h2]; exact h4)) hcells
theorem rvs_run {a : Act} {w : World} (ht : Tm env n a) (hf : Facts B L w) {xs : List ResultVar} {vs : List SV} (h : RVs P env B L xs vs) : (xs.mapM (rvF a.tmps)).run P w = .ok (vs.map SV.den) w := by
  induction h with
  | nil => rfl
  | cons h hs ih =>
    rw [List.mapM_cons, Sem.run_bind, rv_run h ht hf]
    simp only [Result.andThen_ok, Sem.run_bind, ih]
    rfl
theorem results_rvs {fn : Func} {vs : List SV} {a : Act} {w : World} (h : RVs P env B L fn.results.toList vs) (ht : Tm env n a) (hf : Facts B L w) : (results fn a.tmps).run P w = .ok (retTV vs).den w := by
  have e : results fn a.tmps = (do
      let vs ← fn.results.mapM (rvF a.tmps)
      pure (if h : vs.size = 1 then vs[0] else .tuple vs)) := by
    unfold results
    congr 1
  rw [e, Sem.run_bind, Array.mapM_eq_mapM_toList]
  have h1 : (List.toArray <$> (fn.results.toList.mapM (rvF a.tmps))).run P w = .ok (vs.map SV.den).toArray w := by
    rw [show (List.toArray <$> (fn.results.toList.mapM (rvF a.tmps)) : Sem (Array Value)) = (fn.results.toList.mapM (rvF a.tmps) >>= fun l => pure l.toArray) from rfl, Sem.run_bind, rvs_run ht hf h]
    rfl
  rw [h1]
  simp only [Result.andThen_ok, Sem.run_pure]
  match vs with
  | [] => rfl
  | [v] => rfl
  | v :: u :: r => simp [retTV, TV.den]
variable {post : Out → List Res → Prop} {fn : Func}
theorem k_ret (ids : List Nat) {vs : List SV} {rs : List Res} (v : TV) (hr : RVs P env B L fn.results.toList vs) (hp : picks L ids = some rs := by rfl) (hn : ids.Nodup := by decide) (hv : v.den = (retTV vs).den := by rfl) (h : post (.ret v) rs) : Ho env [] n w0 M B L (bodyPost P fn (Post post w0 M) .ret) := fun a w hs => by
  refine ⟨hs.df, _, results_rvs hr hs.tm hs.facts, .ret v, rs, congrArg _ hv, h, ?_⟩
  exact (hs.st.picks hp hn).sub (List.sublist_append_left _ _)
theorem k_end (ids : List Nat) {vs : List SV} {rs : List Res} (v : TV) (hr : RVs P env B L fn.results.toList vs) (hp : picks L ids = some rs := by rfl) (hn : ids.Nodup := by decide) (hv : v.den = (retTV vs).den := by rfl) (h : post (.ret v) rs) : Ho env [] n w0 M B L (bodyPost P fn (Post post w0 M) .normal) := k_ret ids v hr hp hn hv h
theorem k_pan (ids : List Nat) {c : List PanicEntry} {rs : List Res} (hp : picks L ids = some rs := by rfl) (hn : ids.Nodup := by decide) (h : post (.pan c) rs) : Ho env [] n w0 M B L (bodyPost P fn (Post post w0 M) (.panic c)) := fun a w hs =>
  ⟨hs.df, .pan c, rs, rfl, h, (hs.st.picks hp hn).sub (List.sublist_append_left _ _)⟩
/-! ### calls -/
def dis (r s : Res) : Prop := ∀ b, r.fp b → ¬ s.fp b
/-- What a call does: of what it reads (B) and may turn (L), what it hands back, and what is there then. -/
def CSpec (P : Program) (f : FuncId) (args : List SV) (B L : Hp) (post : Out → List Res → Prop) : Prop := ∀ w, (∀ i r, lk B i = some r → r.holds w) → (∀ r ∈ live L, r.holds w) → (live L).Pairwise dis → (∀ i r, lk B i = some r → ∀ s ∈ live L, dis r s) →
  Calls P f (args.map SV.den).toArray w (Post post w fun b => ∃ r ∈ live L, r.fp b)
def argEnv : List SV → Option Env
  | [] => some []
  | [a] => some [(0, .s a)]
  | [a, b] => some [(0, .s a), (1, .s b)]
  | [a, b, c] => some [(0, .s a), (1, .s b), (2, .s c)]
  | [a, b, c, d] => some [(0, .s a), (1, .s b), (2, .s c), (3, .s d)]
  | [a, b, c, d, e] => some [(0, .s a), (1, .s b), (2, .s c), (3, .s d), (4, .s e)]
  | [a, b, c, d, e, f] => some [(0, .s a), (1, .s b), (2, .s c), (3, .s d), (4, .s e), (5, .s f)]
  | [a, b, c, d, e, f, g] => some [(0, .s a), (1, .s b), (2, .s c), (3, .s d), (4, .s e), (5, .s f), (6, .s g)]
  | [a, b, c, d, e, f, g, h] => some [(0, .s a), (1, .s b), (2, .s c), (3, .s d), (4, .s e), (5, .s f), (6, .s g), (7, .s h)]
  | _ => none
theorem argEnv_get {args : List SV} {e : Env} (h : argEnv args = some e) : ∀ t v, lk e t = some v → ∃ u, args[t]? = some u ∧ v = .s u := by
  intro t v hv
  unfold argEnv at h
  split at h <;> first
    | (injection h with h; subst h; cases hv; done)
    | (injection h with h; subst h; simp only [lk_cons] at hv; (repeat' split at hv) <;> first | (rename_i e1; subst e1; injection hv with hv; subst hv; exact ⟨_, rfl, rfl⟩) | cases hv)
    | cases h
theorem k_enter {f : FuncId} {c : Code} {args : List SV} (hf : P.funcs[f]? = some fn) (hb : fn.body = some c) (hn : fn.ntmps = n) (he : argEnv args = some env := by rfl) (hl : Nat.ble args.length n = true := by rfl)
    (h : ∀ w, Ho env [] n w (fun b => ∃ r ∈ live L, r.fp b) B L (c.wp P (bodyPost P fn (Post post w fun b => ∃ r ∈ live L, r.fp b)))) : CSpec P f args B L post := fun w hB hL hd hBL => by
  refine calls_of_wp hf hb (h w _ w ⟨⟨fun t v hv => ?_, ?_⟩, rfl, St.startL hL hd, fun i r hr => ⟨hB i r hr, fun b hb => ⟨r.bound w (hB i r hr) b hb, ?_⟩⟩⟩)
  · obtain ⟨u, h1, rfl⟩ := argEnv_get he t v hv
    have hlt := (List.getElem?_eq_some_iff.1 h1).1
    rw [Array.getElem?_append_left (by simpa using hlt)]
    simp [h1, TV.den]
  · have := Nat.le_of_ble_eq_true hl
    simp [hn]
    omega
  · rintro ⟨s, hs, hb'⟩
    exact hBL i r hr s hs b hb hb'
end
end HL
end Go.Proofs.YtonbgcehgmpnkaaGreat
/- SYMBOLIC STATES: calls by contract, loops, regions that draw their order. My own text; it names no program. -/

set_option linter.unusedVariables false
set_option linter.unusedSimpArgs false
set_option linter.unusedSectionVars false
namespace Go.Proofs.YtonbgcehgmpnkaaGreat
namespace HL
open Go Go.RowKit
/-! ### calls by contract -/
def PV.gh : PV → Nat
  | .ptr q _ => q
  | .el q _ _ _ _ => q
  | .sl q _ _ _ => q
  | .mp q _ => q
  | .ifp _ q _ => q
  | _ => 0
def At.gh : At → Nat
  | .one p => p.gh
  | .hash _ => 0
def SV.gh : SV → Nat
  | .one p => p.gh
  | .agg _ => 0
/-- Which resource of the caller's is the callee's k: parameter k's own; 100 (p + 1) + j: that of part j of parameter p; else as told. -/
def cid (m : List (Nat × Nat)) (vs : List SV) (k : Nat) : Nat :=
  match lk m k with
  | some i => i
  | none => bif Nat.blt k 100 then (match vs[k]? with | some v => v.gh | none => 0) else (match vs[k / 100 - 1]? with | some v => (match v.ats[k % 100]? with | some a => a.gh | none => 0) | none => 0)
/-- The callee's resources, among the caller's. -/
def Got (look : Nat → Option Res) (c : Nat → Nat) : Hp → Prop
  | [] => True
  | (k, r) :: t => look (c k) = some r ∧ Got look c t
theorem Got.lk {look : Nat → Option Res} {c : Nat → Nat} : ∀ {H : Hp}, Got look c H → ∀ {i : Nat} {r : Res}, HL.lk H i = some r → look (c i) = some r
  | [], _, i, r, h => by cases h
  | (k, x) :: t, hg, i, r, h => by
    rw [lk_cons] at h
    by_cases e : k = i
    · rw [if_pos e] at h; injection h with h; subst h; subst e; exact hg.1
    · rw [if_neg e] at h; exact hg.2.lk h
theorem Got.picks {L : Hp} {c : Nat → Nat} : ∀ {H : Hp}, Got (HL.lk L) c H → HL.picks L (H.map fun x => c x.1) = some (H.map (·.2))
  | [], _ => rfl
  | (k, r) :: t, h => by
    show HL.picks L (c k :: t.map fun x => c x.1) = _
    unfold HL.picks
    rw [h.1, Got.picks h.2]
    rfl
def num (b : Nat) : List Res → Hp
  | [] => []
  | r :: rs => (b, r) :: num (b + 1) rs
/-- One resource, seen as another. -/
theorem view_rows {α : Type} {A : Option Addr} {c : Nat} {e : TypeId} {E : En α} {l : List α} : View (Res.rows A c e E l) (Res.rd A E l) := ⟨fun w h => by
  have := rows_reads h
  unfold Res.rd Res.fact
  exact this, fun b h => by
  have h' : l ≠ [] ∧ obl A = some b := by unfold Res.rd Res.fact at h; exact h
  exact fp_row.2 h'.2⟩
theorem view_rd {α : Type} {R : Res} {A A' : Option Addr} {E : En α} {l l' : List α} (h : View R (Res.rd A E l)) (ho : RowOf (Res.rd A E l) A' E l') (hA : obl A' = obl A) (hl : l' ≠ [] → l ≠ []) : View R (Res.rd A' E l') := ⟨fun w hw => by
  have := ho.is w (h.h w hw)
  unfold Res.rd Res.fact
  exact this, fun b hb => h.f b (by
  have h' : l' ≠ [] ∧ obl A' = some b := by unfold Res.rd Res.fact at hb; exact hb
  have : l ≠ [] ∧ obl A = some b := ⟨hl h'.1, by rw [← hA]; exact h'.2⟩
  unfold Res.rd Res.fact
  exact this)⟩
theorem view_tail {α : Type} {R : Res} {A : Option Addr} {E : En α} {l : List α} {c k : Nat} (h : View R (Res.rd A E l)) (hc : l.length ≤ c) (hk : k ≤ l.length) : View R (Res.rd (tailA A c k E.sz) E (l.drop k)) :=
  view_rd h (rowOf_tail rowOf_rd hc hk) (obl_tailA _ _ _ _) (fun h1 h2 => h1 (by rw [h2]; exact List.drop_nil))
theorem view_take {α : Type} {R : Res} {A : Option Addr} {E : En α} {l : List α} {k : Nat} (h : View R (Res.rd A E l)) : View R (Res.rd A E (l.take k)) :=
  view_rd h (rowOf_take rowOf_rd) rfl (fun h1 h2 => h1 (by rw [h2]; exact List.take_nil))
/-- .. what it only reads may be seen so. -/
def GotB (look : Nat → Option Res) (c : Nat → Nat) : Hp → Prop
  | [] => True
  | (k, r) :: t => (∃ R, look (c k) = some R ∧ View R r) ∧ GotB look c t
theorem GotB.lk {look : Nat → Option Res} {c : Nat → Nat} : ∀ {H : Hp}, GotB look c H → ∀ {i : Nat} {r : Res}, HL.lk H i = some r → ∃ R, look (c i) = some R ∧ View R r
  | [], _, i, r, h => by cases h
  | (k, x) :: t, hg, i, r, h => by
    rw [lk_cons] at h
    by_cases e : k = i
    · rw [if_pos e] at h; injection h with h; subst h; subst e; exact hg.1
    · rw [if_neg e] at h; exact hg.2.lk h
theorem num_map : ∀ (b : Nat) (rs : List Res), (num b rs).map (·.2) = rs
  | _, [] => rfl
  | b, r :: rs => by show r :: (num (b + 1) rs).map (·.2) = _; rw [num_map]
theorem num_ge : ∀ (b : Nat) (rs : List Res), ∀ x ∈ num b rs, b ≤ x.1
  | _, [], x, h => by cases h
  | b, r :: rs, x, h => by
    rcases List.mem_cons.1 h with rfl | h
    · exact Nat.le_refl _
    · exact Nat.le_of_succ_le (num_ge (b + 1) rs x h)
theorem num_nodup : ∀ (b : Nat) (rs : List Res), ((num b rs).map (·.1)).Nodup
  | _, [] => List.nodup_nil
  | b, r :: rs => by
    refine List.nodup_cons.2 ⟨fun h => ?_, num_nodup (b + 1) rs⟩
    obtain ⟨x, hx, e⟩ := List.mem_map.1 h
    have := num_ge (b + 1) rs x hx
    have e' : x.1 = b := e
    omega
/-- What lies ahead hides what lies behind. -/
theorem St.append_live {w0 w : World} {M : Nat → Prop} {rs : List Res} {b : Nat} {L : Hp} (h : St w0 w M (rs ++ live L)) : St w0 w M (live (num b rs ++ L)) := by
  have gen : ∀ (rs X : List Res) (b : Nat) (L : Hp), St w0 w M (X ++ (rs ++ live L)) → St w0 w M (X ++ live (num b rs ++ L)) := by
    intro rs
    induction rs with
    | nil => intro X b L h; exact h
    | cons r rs ih =>
      intro X b L h
      show St w0 w M (X ++ live ((b, r) :: (num (b + 1) rs ++ L)))
      rw [live_cons]
      have h1 := ih (X ++ [r]) (b + 1) L (by simpa using h)
      -- take away what b hides
      have sub : ∀ (H : Hp) (i : Nat), ∃ r?, (live H).Perm (r? ++ live (del i H)) := fun H i => by
        cases hl : lk H i with
        | some q => exact ⟨[q], live_perm _ H (Nat.le_refl _) hl⟩
        | none => exact ⟨[], by rw [del_same hl]; exact List.Perm.refl _⟩
      obtain ⟨q, hq⟩ := sub (num (b + 1) rs ++ L) b
      have h2 := h1.perm (hq.append_left (X ++ [r]))
      refine h2.sub ?_
      have e : X ++ r :: live (del b (num (b + 1) rs ++ L)) = (X ++ [r]) ++ live (del b (num (b + 1) rs ++ L)) := by simp
      rw [e]
      exact (List.Sublist.refl _).append (List.sublist_append_right _ _)
  have := gen rs [] b L h
  exact this
def evs (env : Env) : List Operand → Option (List SV)
  | [] => some []
  | x :: xs => match ev env x with
    | some (.s v) => match evs env xs with
      | some vs => some (v :: vs)
      | none => none
    | _ => none
theorem evs_sound {env : Env} {n : Nat} {a : Act} (h : Tm env n a) : ∀ {xs : List Operand} {vs : List SV}, evs env xs = some vs → xs.map a.eval = vs.map SV.den
  | [], vs, he => by unfold evs at he; injection he with he; subst he; rfl
  | x :: xs, vs, he => by
    unfold evs at he
    split at he
    · rename_i v hv
      split at he
      · rename_i vs' hvs
        injection he with he
        subst he
        simp only [List.map_cons, evs_sound h hvs, ev_sound h hv]
        rfl
      · cases he
    · cases he
section
variable {P : Program} {ops : Array Oper} {Q : Exit → Act → World → Prop} {o : Oper} {rest : List Oper}
variable {env : Env} {D : List Deferred} {n : Nat} {w0 : World} {M : Nat → Prop} {B L : Hp}
variable {dst : Option Tmp} {d : Nat} {ty : TypeId} {pos : String} {af : Array Edge} {gd : Option (Nat × Bool)} {x y z : Operand} {T T' : TypeId}
theorem lk_dels {α : Type _} {j : Nat} : ∀ {is : List Nat} {L : List (Nat × α)}, j ∉ is → lk (dels is L) j = lk L j
  | [], L, _ => rfl
  | i :: is, L, h => by
    simp only [List.mem_cons, not_or] at h
    show lk (dels is (del i L)) j = _
    rw [lk_dels h.2, lk_del, if_neg h.1]
def noneIn (is : List Nat) : List Nat → Bool
  | [] => true
  | j :: js => bif memB j is then false else noneIn is js
theorem noneIn_spec {is : List Nat} : ∀ {js : List Nat}, noneIn is js = true → ∀ j ∈ js, j ∉ is
  | [], _, j, h => by cases h
  | k :: js, h, j, hj => by
    unfold noneIn at h
    cases hb : memB k is with
    | true => rw [hb] at h; cases h
    | false =>
      rw [hb] at h
      rcases List.mem_cons.1 hj with e | hj
      · subst e; exact memB_spec hb
      · exact noneIn_spec h j hj
def ids (c : Nat → Nat) (H : Hp) : List Nat := H.map fun x => c x.1
theorem ids_mem {c : Nat → Nat} : ∀ {H : Hp} {i : Nat} {r : Res}, HL.lk H i = some r → c i ∈ ids c H
  | [], i, r, h => by cases h
  | (k, x) :: t, i, r, h => by
    rw [lk_cons] at h
    by_cases e : k = i
    · subst e; exact List.mem_cons_self ..
    · rw [if_neg e] at h; exact List.mem_cons_of_mem _ (ids_mem h)
/-- What stands behind an operation that calls. -/
theorem call_wp {f : FuncId} {fn : Func} {args all : List SV} {Bc Lc : Hp} {post : Out → List Res → Prop} {xs : Array Operand} {tys : Array TypeId} {cap : List Value} {gh : List Nat} {a : Act} {w : World} {K : Act → World → Prop}
    (hs : CSpec P f all Bc Lc post) (hf : P.funcs[f]? = some fn) (hb : fn.body.isNone = false) (hn : (fn.name == "runtime.NumGoroutine") = false) (c : Nat → Nat) (b : Nat)
    (hx : ev env x = some (.s (.one (.fn f cap gh)))) (ha : evs env xs.toList = some args) (hall : args.map SV.den ++ cap = all.map SV.den)
    (hB : GotB (lk2 B L) c Bc) (hL : Got (lk L) c Lc) (hnd : nodupB (ids c Lc) = true) (hbl : noneIn (ids c Lc) (ids c Bc) = true) (hnk : nodupB (Lc.map (·.1)) = true)
    (hsy : Sy env D n w0 M B L a w)
    (h : ∀ o Lr, post o Lr → match o with
      | .ret v => ∀ w', Sy env D n w0 M B (num b Lr ++ dels (ids c Lc) L) a w' → K (a.put dst v.den) w'
      | .pan ch => ∀ w', Sy env D n w0 M B (num b Lr ++ dels (ids c Lc) L) a w' → Q (.panic ch) a w') :
    Oper.wp P ⟨dst, .call { callee := .value x, args := xs, argTypes := tys }, ty, pos, af, gd⟩ a w K Q := by
  have h1 : a.eval x = .func (.func f) #[] cap.toArray := ev_sound hsy.tm hx
  have h2 := evs_sound hsy.tm ha
  have hp := hL.picks
  have hst : St w0 w M (Lc.map (·.2) ++ live (dels (ids c Lc) L)) := hsy.st.picks hp (nodupB_spec hnd)
  have elive : live Lc = Lc.map (·.2) := live_nodup (nodupB_spec hnk)
  have e1 : (xs.map a.eval ++ cap.toArray) = (all.map SV.den).toArray := by
    rw [← hall]
    apply Array.toList_inj.1
    simp [h2]
  have hdis := List.pairwise_append.1 hst.dis
  have hc := hs w (fun i r hi => (hB.lk hi).elim fun R hR => hR.2.h w (hsy.facts _ _ hR.1)) (fun r hr => hst.res r (List.mem_append_left _ (by rw [← elive]; exact hr))) (by rw [elive]; exact hdis.1) (fun i r hi s hs => by
    rw [elive] at hs
    obtain ⟨R, hg, hview⟩ := hB.lk hi
    unfold lk2 at hg
    cases hl : lk L (c i) with
    | none =>
      rw [hl] at hg
      intro b' hb' hb2
      have h8 := (hsy.bo _ _ hg).2 b' (hview.f b' hb')
      rcases hst.own s (List.mem_append_left _ hs) b' hb2 with h7 | h7
      · exact h8.2 h7
      · omega
    | some q =>
      rw [hl] at hg
      injection hg with hg
      subst hg
      have hmem : q ∈ live (dels (ids c Lc) L) := lk_live (by rw [lk_dels (noneIn_spec hbl _ (ids_mem hi))]; exact hl)
      exact fun b' hb' hb2 => hdis.2.2 s hs q hmem b' hb2 (hview.f b' hb'))
  have hr : (execOp a.eval ⟨dst, .call { callee := .value x, args := xs, argTypes := tys }, ty, pos, af, gd⟩).run P w = .ok (.enter f (all.map SV.den).toArray) w := by
    unfold execOp
    simp only [resolve, h1, Deferred.ofValue, Sem.run_bind, Sem.run_pure, Result.andThen, invoke, callFunc, run_program, hf, hn, hb, Array.empty_append, e1]
    rfl
  unfold Oper.wp
  rw [hr]
  refine hc.mono fun e w' ⟨out, Lr, he, hpost, hst2⟩ => ?_
  have hst3 : St w0 w' M (Lr ++ live (dels (ids c Lc) L)) := hst.callN hst2 (fun b hb => by
    obtain ⟨r, hr, hb⟩ := hb
    exact ⟨r, by rw [← elive]; exact hr, hb⟩)
  have hsy2 := hsy.to (L' := num b Lr ++ dels (ids c Lc) L) (w' := w') (St.append_live hst3)
  have h9 := h out Lr hpost
  cases out with
  | ret v => subst he; exact h9 w' hsy2
  | pan ch => subst he; exact h9 w' hsy2
theorem l_call {f : FuncId} {fn : Func} {args all : List SV} {Bc Lc : Hp} {post : Out → List Res → Prop} {xs : Array Operand} {tys : Array TypeId} {cap : List Value} {gh : List Nat} (b : Nat) (m : List (Nat × Nat))
    (hs : CSpec P f all Bc Lc post) (hf : P.funcs[f]? = some fn) (hx : ev env x = some (.s (.one (.fn f cap gh))) := by rfl) (ha : evs env xs.toList = some args := by rfl) (hall : args.map SV.den ++ cap = all.map SV.den := by rfl)
    (hB : GotB (lk2 B L) (cid m args) Bc := by repeat (first | exact trivial | refine ⟨⟨_, rfl, by first | assumption | exact View.refl _ | exact view_rows | exact view_tail (View.refl _) (by omega) (by omega) | exact view_take (View.refl _) | exact view_tail view_rows (by omega) (by omega) | exact view_take view_rows⟩, ?_⟩)) (hL : Got (lk L) (cid m args) Lc := by repeat (first | exact trivial | refine ⟨rfl, ?_⟩))
    (hnd : nodupB (ids (cid m args) Lc) = true := by rfl) (hbl : noneIn (ids (cid m args) Lc) (ids (cid m args) Bc) = true := by rfl) (hnk : nodupB (Lc.map (·.1)) = true := by rfl)
    (h : ∀ o Lr, post o Lr → match o with
      | .ret v => Ho ((d, v.up b) :: env) D n w0 M B (num b Lr ++ dels (ids (cid m args) Lc) L) (wpList P ops Q rest)
      | .pan ch => Ho env D n w0 M B (num b Lr ++ dels (ids (cid m args) Lc) L) (Q (.panic ch)))
    (hg : guarded ops env ⟨some d, .call { callee := .value x, args := xs, argTypes := tys }, ty, pos, af, gd⟩ = some true := by rfl) (hd : Nat.blt d n = true := by rfl) (hb : fn.body.isNone = false := by rfl) (hn : (fn.name == "runtime.NumGoroutine") = false := by rfl) :
    Ho env D n w0 M B L (wpList P ops Q (⟨some d, .call { callee := .value x, args := xs, argTypes := tys }, ty, pos, af, gd⟩ :: rest)) := fun a w hsy => by
  unfold wpList
  rw [if_pos (guarded_wanted hsy.tm hg)]
  refine .inl (call_wp hs hf hb hn (cid m args) b hx ha hall hB hL hnd hbl hnk hsy fun o Lr hp => ?_)
  have h9 := h o Lr hp
  cases o with
  | ret v => exact fun w' hs' => h9 _ _ (by have := hs'.put (v := v.up b) hd; rwa [v.den_up] at this)
  | pan ch => exact fun w' hs' => h9 _ _ hs'
/-! ### the address of an element -/
theorem l_ix {α : Type} {e : TypeId} {i m c j sz bytes : Nat} {A : Option Addr} {R : Res} {E : En α} {l : List α} {k : IntKind} {p : Int} {agg : Bool} {zz : SV} [hu : UD P T (.slice e)] [hT : TyA P e agg sz zz bytes] (h : ∀ ad u, A = some ad → l[j]? = some u → Ho ((d, .s (.one (.el i ad sz j 0))) :: env) D n w0 M B L (wpList P ops Q rest))
    (hx : ev env x = some (vsl i A m c) := by rfl) (hy : ev env y = some (vi k p) := by rfl) (hr : lk2 B L i = some R := by rfl) (hro : RowM R A m E l := by first | exact ⟨View.row (by assumption), by first | rfl | assumption | omega⟩ | exact ⟨rowOf_rows, by first | rfl | assumption | (simp only [List.length_drop, List.length_take, List.length_append, List.length_cons, List.length_nil]; done) | (simp only [List.length_drop, List.length_take, List.length_append, List.length_cons, List.length_nil]; omega) | omega⟩ | exact ⟨rowOf_rd, by first | rfl | assumption | (simp only [List.length_drop, List.length_take, List.length_append, List.length_cons, List.length_nil]; done) | (simp only [List.length_drop, List.length_take, List.length_append, List.length_cons, List.length_nil]; omega) | omega⟩ | exact ⟨rowOf_tail rowOf_rd (by omega) (by omega), by first | rfl | assumption | (simp only [List.length_drop, List.length_take, List.length_append, List.length_cons, List.length_nil]; done) | (simp only [List.length_drop, List.length_take, List.length_append, List.length_cons, List.length_nil]; omega) | omega⟩ | exact rowM_take rowOf_rd (by omega) | exact rowM_take (rowOf_tail rowOf_rd (by omega) (by omega)) (by first | omega | (simp only [List.length_drop]; omega)) | exact ⟨rowOf_tail rowOf_rows (by omega) (by omega), by first | rfl | assumption | (simp only [List.length_drop, List.length_take, List.length_append, List.length_cons, List.length_nil]; done) | (simp only [List.length_drop, List.length_take, List.length_append, List.length_cons, List.length_nil]; omega) | omega⟩ | exact rowM_take rowOf_rows (by omega) | exact rowM_take (rowOf_tail rowOf_rows (by omega) (by omega)) (by first | omega | (simp only [List.length_drop]; omega))) (hp : p = (j : Int) := by first | rfl | omega) (hj : j < l.length := by first | assumption | omega | (simp only [List.length_drop, List.length_take, List.length_append, List.length_cons, List.length_nil]; omega))
    (hg : guarded ops env ⟨some d, .indexAddr T x y, ty, pos, af, gd⟩ = some true := by rfl) (hd : Nat.blt d n = true := by rfl) : Ho env D n w0 M B L (wpList P ops Q (⟨some d, .indexAddr T x y, ty, pos, af, gd⟩ :: rest)) := fun a w hs => by
  obtain rfl := hro.len
  obtain ⟨ad, hA, _⟩ := rds_some (hro.is.is w (hs.facts i _ hr)) (by omega)
  exact l_rd (r_index hA hx hy hp hj) (h ad l[j] hA (List.getElem?_eq_getElem hj)) rfl hg hd a w hs
/-! ### loops -/
/-- Round and round: what holds at a round's head: so many rounds to come, these temporaries, these resources, beside those that stay. -/
theorem c_loop {c : Code} (I : Nat → Env → Hp → Prop) (ts : List Nat) (hs : List Nat) (m : Nat) (E : Env) (H : Hp) {re : Env} {rh : Hp} (hk : keepO env ts = some re := by rfl) (hh : keepO L hs = some rh := by rfl)
    (h0 : I m E H) (he : InE env (E ++ re)) (hl : InH L (H ++ rh)) (hn : nodupB ((H ++ rh).map (·.1)) = true := by rfl)
    (hr : ∀ m E H, I m E H → Ho (E ++ re) D n w0 M B (H ++ rh) (c.wp P (Exit.then (fun a w => ∃ m' E' H', m' < m ∧ I m' E' H' ∧ Sy (E' ++ re) D n w0 M B (H' ++ rh) a w) Q))) :
    Ho env D n w0 M B L ((Code.loop c).wp P Q) := fun a w hsy =>
  wp_loop_ghost (fun m a w => ∃ E H, I m E H ∧ Sy (E ++ re) D n w0 M B (H ++ rh) a w) m ⟨E, H, h0, he.tm hsy.tm, hsy.df, hl.st (nodupB_spec hn) hsy.st, hsy.bo⟩
    fun m a w ⟨E, H, hi, hsy⟩ => by
      refine wp_mono (hr m E H hi a w hsy) fun e a' w' hq => ?_
      cases e with
      | normal =>
        obtain ⟨m', E', H', h1, h2, h3⟩ := hq
        exact ⟨m', h1, E', H', h2, h3⟩
      | exit id => exact hq
      | goto l => exact hq
      | ret => exact hq
      | panic ch => exact hq
      | outgrown => exact hq
/-- A round's end. -/
theorem k_again {I : Nat → Env → Hp → Prop} {m : Nat} {re : Env} {rh : Hp} (m' : Nat) {E' : Env} {H' : Hp} (hi : I m' E' H') (hm : m' < m) (he : InE env (E' ++ re)) (hl : InH L (H' ++ rh)) (hn : nodupB ((H' ++ rh).map (·.1)) = true := by rfl) :
    Ho env D n w0 M B L (fun a w => ∃ m' E' H', m' < m ∧ I m' E' H' ∧ Sy (E' ++ re) D n w0 M B (H' ++ rh) a w) := fun a w hsy =>
  ⟨m', E', H', hm, hi, he.tm hsy.tm, hsy.df, hl.st (nodupB_spec hn) hsy.st, hsy.bo⟩
/-- Ways that meet again. -/
theorem c_cut {c : Code} (I : Env → Hp → Prop) (ts hs : List Nat) {re : Env} {rh : Hp} (hk : keepO env ts = some re := by rfl) (hh : keepO L hs = some rh := by rfl)
    (h1 : Ho env D n w0 M B L (c.wp P (Exit.then (fun a w => ∃ E H, I E H ∧ Sy (E ++ re) D n w0 M B (H ++ rh) a w) Q))) (h2 : ∀ E H, I E H → Ho (E ++ re) D n w0 M B (H ++ rh) (Q .normal)) : Ho env D n w0 M B L (c.wp P Q) := fun a w hsy =>
  wp_mono (h1 a w hsy) fun e a' w' hq => by
    cases e with
    | normal => obtain ⟨E, H, hi, hs⟩ := hq; exact h2 E H hi a' w' hs
    | exit id => exact hq
    | goto l => exact hq
    | ret => exact hq
    | panic ch => exact hq
    | outgrown => exact hq
theorem k_join {I : Env → Hp → Prop} {re : Env} {rh : Hp} {E' : Env} {H' : Hp} (hi : I E' H') (he : InE env (E' ++ re)) (hl : InH L (H' ++ rh)) (hn : nodupB ((H' ++ rh).map (·.1)) = true := by rfl) :
    Ho env D n w0 M B L (fun a w => ∃ E H, I E H ∧ Sy (E ++ re) D n w0 M B (H ++ rh) a w) := fun a w hsy => ⟨E', H', hi, he.tm hsy.tm, hsy.df, hl.st (nodupB_spec hn) hsy.st, hsy.bo⟩
/-! ### regions that draw their order -/
theorem keepO_lk {L : Hp} {F : List Nat} : ∀ {LF : Hp}, keepO L F = some LF → ∀ i r, lk LF i = some r → lk L i = some r := fun {LF} h i r hr => by
  have hi := keepO_inH h
  have gen : ∀ {H : Hp}, InH L H → ∀ i r, lk H i = some r → lk L i = some r := by
    intro H
    induction H with
    | nil => intro _ i r h; cases h
    | cons x t ih =>
      obtain ⟨k, q⟩ := x
      intro hi i r h
      rw [lk_cons] at h
      by_cases e : k = i
      · rw [if_pos e] at h; injection h with h; subst h; subst e; exact hi.1
      · rw [if_neg e] at h; exact ih hi.2 i r h
  exact gen hi i r hr
/-- What holds all through a region: the resources LF are there. -/
structure Cov (LF L : Hp) : Prop where
  go : ∀ i r, lk LF i = some r → lk L i = some r
theorem cov_of {LF L : Hp} (h : InH L LF) : Cov LF L := ⟨by
  induction LF with
  | nil => intro i r h; cases h
  | cons x t ih =>
    obtain ⟨k, q⟩ := x
    intro i r hr
    rw [lk_cons] at hr
    by_cases e : k = i
    · rw [if_pos e] at hr; injection hr with hr; subst hr; subst e; exact h.1
    · rw [if_neg e] at hr; exact ih h.2 i r hr⟩
def HoC (LF : Hp) (env : Env) (D : List Deferred) (n : Nat) (w0 : World) (M : Nat → Prop) (B L : Hp) (K : Act → World → Prop) : Prop := Cov LF L → Ho env D n w0 M B L K
theorem facts_cov {LF : Hp} {w : World} {a : Act} (hc : Cov LF L) (hs : Sy env D n w0 M B L a w) : Facts B LF w := fun i r hr => by
  unfold lk2 at hr
  cases hl : lk LF i with
  | some q => rw [hl] at hr; injection hr with hr; subst hr; exact hs.st.res _ (lk_live (hc.go i _ hl))
  | none => rw [hl] at hr; exact (hs.bo i r hr).1
variable {LF : Hp} {σ : Plan} {i : Nat}
theorem c_draw {id : Nat} {l : List Oper} (σ : Plan) (F : List Nat) {LF : Hp} (hF : keepO L F = some LF := by rfl) (hm : P.follows .mixedOrders = true) (hs : Region.noSelect l.toArray = true) (hk : schedOk .any l.toArray σ (Array.replicate l.length false) = true) (hl : Nat.ble σ.len l.length = true := by rfl)
    (hQ : ∀ (d : Option Tmp) v c a w, Q (.panic c) (a.put d v) w → Q (.panic c) a w) (h : HoC LF env D n w0 M B L (wpSched P l.toArray Q (Facts B LF) σ)) : Ho env D n w0 M B L ((Code.region id l.toArray true).wp P Q) := fun a w hsy =>
  wp_region_sched σ (Facts B LF) hm hs hk (Nat.le_of_ble_eq_true hl) hQ (h ⟨keepO_lk hF⟩ a w.drew ⟨hsy.tm, hsy.df, hsy.st.drew, fun i r hr => ⟨r.stable w w.drew (fun _ _ => rfl) (hsy.bo i r hr).1, (hsy.bo i r hr).2⟩⟩)
/-- one that reads what stays. -/
theorem q_rd {v : TV} {d : Nat} (hi : ops.toList[i]? = some o) (hr : Reads P o env n B LF v) (h : HoC LF ((d, v) :: env) D n w0 M B L (wpSched P ops Q (Facts B LF) σ)) (ho : o.dst = some d := by rfl) (hg : guarded ops env o = some true := by rfl) (hd : Nat.blt d n = true := by rfl) : HoC LF env D n w0 M B L (wpSched P ops Q (Facts B LF) (.q i σ)) := fun hc a w hs => by
  refine sched_r (v := v.den) hi (guarded_wanted hs.tm hg) (facts_cov hc hs) (fun w' hw' => hr a w' hs.tm hw') ?_
  rw [ho]
  exact h hc _ _ (hs.put hd)
theorem q_rdG {v : SV} {d : Nat} {g : Bool} (hi : ops.toList[i]? = some o) (ts : List Nat) {env' : List (Nat × TV)} (hres : ResAll env g ts env') (hr : g = true → Reads P o env' n B LF (.s v)) (h : HoC LF ((d, .cond g v) :: env) D n w0 M B L (wpSched P ops Q (Facts B LF) σ)) (ho : o.dst = some d := by rfl) (hg : guardSym ops env o = some g := by rfl) (hd : Nat.blt d n = true := by rfl) : HoC LF env D n w0 M B L (wpSched P ops Q (Facts B LF) (.q i σ)) := fun hc a w hs => by
  by_cases e : g = true
  · refine sched_r (v := v.den) hi (by rw [guardSym_wanted hs.tm hg]; exact e) (facts_cov hc hs) (fun w' hw' => hr e a w' (hres.tm e hs.tm) hw') ?_
    rw [ho]
    have := hs.put (v := .cond g v) hd
    rw [show (TV.cond g v).den = v.den from if_pos e] at this
    exact h hc _ _ this
  · refine sched_skip hi (by rw [guardSym_wanted hs.tm hg]; simpa using e) (facts_cov hc hs) ?_
    rw [ho]
    have := hs.put (v := .cond g v) hd
    rw [show (TV.cond g v).den = undef from if_neg e] at this
    exact h hc _ _ this
theorem k_caseC (t : Nat) {x : Bool} {K : Act → World → Prop} (ht : lk env t = some (vb x) := by rfl) (h1 : x = true → HoC LF ((t, vb true) :: env) D n w0 M B L K) (h2 : x = false → HoC LF ((t, vb false) :: env) D n w0 M B L K) : HoC LF env D n w0 M B L K := fun hc => k_case t ht (fun h => h1 h hc) (fun h => h2 h hc)
theorem q_skip {d : Nat} (hi : ops.toList[i]? = some o) (h : HoC LF ((d, .un) :: env) D n w0 M B L (wpSched P ops Q (Facts B LF) σ)) (ho : o.dst = some d := by rfl) (hg : guarded ops env o = some false := by rfl) (hd : Nat.blt d n = true := by rfl) : HoC LF env D n w0 M B L (wpSched P ops Q (Facts B LF) (.q i σ)) := fun hc a w hs => by
  refine sched_skip hi (guarded_wanted hs.tm hg) (facts_cov hc hs) ?_
  rw [ho]
  exact h hc _ _ (hs.put (v := .un) hd)
/-- serial ones. -/
theorem s_rd {v : TV} {d : Nat} (hi : ops.toList[i]? = some o) (hr : Reads P o env n B L v) (h : HoC LF ((d, v) :: env) D n w0 M B L (wpSched P ops Q (Facts B LF) σ)) (ho : o.dst = some d := by rfl) (hg : guarded ops env o = some true := by rfl) (hd : Nat.blt d n = true := by rfl) : HoC LF env D n w0 M B L (wpSched P ops Q (Facts B LF) (.s i σ)) := fun hc a w hs => by
  refine sched_s hi (guarded_wanted hs.tm hg) ?_
  unfold Oper.wp
  rw [hr a w hs.tm hs.facts]
  show _ ∧ _
  rw [ho]
  exact ⟨facts_cov hc hs, h hc _ _ (hs.put hd)⟩
theorem s_skip {d : Nat} (hi : ops.toList[i]? = some o) (h : HoC LF ((d, .un) :: env) D n w0 M B L (wpSched P ops Q (Facts B LF) σ)) (ho : o.dst = some d := by rfl) (hg : guarded ops env o = some false := by rfl) (hd : Nat.blt d n = true := by rfl) : HoC LF env D n w0 M B L (wpSched P ops Q (Facts B LF) (.s i σ)) := fun hc a w hs => by
  refine sched_sskip hi (guarded_wanted hs.tm hg) (facts_cov hc hs) ?_
  rw [ho]
  exact h hc _ _ (hs.put (v := .un) hd)
theorem s_skip0 (hi : ops.toList[i]? = some o) (h : HoC LF env D n w0 M B L (wpSched P ops Q (Facts B LF) σ)) (ho : o.dst = none := by rfl) (hg : guarded ops env o = some false := by rfl) : HoC LF env D n w0 M B L (wpSched P ops Q (Facts B LF) (.s i σ)) := fun hc a w hs => by
  refine sched_sskip hi (guarded_wanted hs.tm hg) (facts_cov hc hs) ?_
  rw [ho]
  exact h hc _ _ (hs.put0 _)
theorem s_do {γ : Type} {env' : γ → Env} {L' : γ → Hp} {js : List Nat} (hi : ops.toList[i]? = some o) (hr : Does P o env D n w0 M B L env' L' js) (h : ∀ x, HoC LF (env' x) D n w0 M B (L' x) (wpSched P ops Q (Facts B LF) σ)) (hg : guarded ops env o = some true := by rfl) (hF : noneIn js (LF.map (·.1)) = true := by rfl) : HoC LF env D n w0 M B L (wpSched P ops Q (Facts B LF) (.s i σ)) := fun hc a w hs => by
  refine sched_s hi (guarded_wanted hs.tm hg) ?_
  refine hr.go a w _ _ hs fun x a' w' hs' => ?_
  have hc' : Cov LF (L' x) := ⟨fun j r hj => by
    rw [hr.kp x j ?_]
    · exact hc.go j r hj
    · have hm : j ∈ LF.map (·.1) := by
        have gen : ∀ (H : Hp), lk H j = some r → j ∈ H.map (·.1) := by
          intro H
          induction H with
          | nil => intro h; cases h
          | cons x t ih =>
            obtain ⟨k, v⟩ := x
            intro h
            rw [lk_cons] at h
            by_cases e : k = j
            · simp [e]
            · rw [if_neg e] at h
              exact List.mem_cons_of_mem _ (ih h)
        exact gen LF hj
      have := noneIn_spec hF j hm
      simpa using this⟩
  exact ⟨facts_cov hc' hs', h x hc' a' w' hs'⟩
theorem s_do1 {env' : Unit → Env} {L' : Unit → Hp} {js : List Nat} (hi : ops.toList[i]? = some o) (hr : Does P o env D n w0 M B L env' L' js) (h : HoC LF (env' ()) D n w0 M B (L' ()) (wpSched P ops Q (Facts B LF) σ)) (hg : guarded ops env o = some true := by rfl) (hF : noneIn js (LF.map (·.1)) = true := by rfl) : HoC LF env D n w0 M B L (wpSched P ops Q (Facts B LF) (.s i σ)) := s_do hi hr (fun _ => h) hg hF
theorem q_ix {α : Type} {e : TypeId} {i' m c j sz bytes : Nat} {A : Option Addr} {R : Res} {E : En α} {l : List α} {k : IntKind} {p : Int} {agg : Bool} {zz : SV} [hu : UD P T (.slice e)] [hT : TyA P e agg sz zz bytes] (hi : ops.toList[i]? = some ⟨some d, .indexAddr T x y, ty, pos, af, gd⟩) (h : ∀ ad u, A = some ad → l[j]? = some u → HoC LF ((d, .s (.one (.el i' ad sz j 0))) :: env) D n w0 M B L (wpSched P ops Q (Facts B LF) σ)) (hx : ev env x = some (vsl i' A m c) := by rfl) (hy : ev env y = some (vi k p) := by rfl) (hr : lk2 B L i' = some R := by rfl) (hro : RowM R A m E l := by first | exact ⟨View.row (by assumption), by first | rfl | assumption | omega⟩ | exact ⟨rowOf_rows, by first | rfl | assumption | (simp only [List.length_drop, List.length_take, List.length_append, List.length_cons, List.length_nil]; done) | (simp only [List.length_drop, List.length_take, List.length_append, List.length_cons, List.length_nil]; omega) | omega⟩ | exact ⟨rowOf_rd, by first | rfl | assumption | (simp only [List.length_drop, List.length_take, List.length_append, List.length_cons, List.length_nil]; done) | (simp only [List.length_drop, List.length_take, List.length_append, List.length_cons, List.length_nil]; omega) | omega⟩ | exact ⟨rowOf_tail rowOf_rd (by omega) (by omega), by first | rfl | assumption | (simp only [List.length_drop, List.length_take, List.length_append, List.length_cons, List.length_nil]; done) | (simp only [List.length_drop, List.length_take, List.length_append, List.length_cons, List.length_nil]; omega) | omega⟩ | exact rowM_take rowOf_rd (by omega) | exact rowM_take (rowOf_tail rowOf_rd (by omega) (by omega)) (by first | omega | (simp only [List.length_drop]; omega)) | exact ⟨rowOf_tail rowOf_rows (by omega) (by omega), by first | rfl | assumption | (simp only [List.length_drop, List.length_take, List.length_append, List.length_cons, List.length_nil]; done) | (simp only [List.length_drop, List.length_take, List.length_append, List.length_cons, List.length_nil]; omega) | omega⟩ | exact rowM_take rowOf_rows (by omega) | exact rowM_take (rowOf_tail rowOf_rows (by omega) (by omega)) (by first | omega | (simp only [List.length_drop]; omega))) (hp : p = (j : Int) := by first | rfl | omega) (hj : j < l.length := by first | assumption | omega | (simp only [List.length_drop, List.length_take, List.length_append, List.length_cons, List.length_nil]; omega))
    (hg : guarded ops env ⟨some d, .indexAddr T x y, ty, pos, af, gd⟩ = some true := by rfl) (hd : Nat.blt d n = true := by rfl) : HoC LF env D n w0 M B L (wpSched P ops Q (Facts B LF) (.q i σ)) := fun hc a w hs => by
  obtain rfl := hro.len
  obtain ⟨ad, hA, _⟩ := rds_some (hro.is.is w (hs.facts i' _ hr)) (by omega)
  exact q_rd hi (r_index hA hx hy hp hj) (h ad l[j] hA (List.getElem?_eq_getElem hj)) rfl hg hd hc a w hs
theorem s_ix {α : Type} {e : TypeId} {i' m c j sz bytes : Nat} {A : Option Addr} {R : Res} {E : En α} {l : List α} {k : IntKind} {p : Int} {agg : Bool} {zz : SV} [hu : UD P T (.slice e)] [hT : TyA P e agg sz zz bytes] (hi : ops.toList[i]? = some ⟨some d, .indexAddr T x y, ty, pos, af, gd⟩) (h : ∀ ad u, A = some ad → l[j]? = some u → HoC LF ((d, .s (.one (.el i' ad sz j 0))) :: env) D n w0 M B L (wpSched P ops Q (Facts B LF) σ)) (hx : ev env x = some (vsl i' A m c) := by rfl) (hy : ev env y = some (vi k p) := by rfl) (hr : lk2 B L i' = some R := by rfl) (hro : RowM R A m E l := by first | exact ⟨View.row (by assumption), by first | rfl | assumption | omega⟩ | exact ⟨rowOf_rows, by first | rfl | assumption | (simp only [List.length_drop, List.length_take, List.length_append, List.length_cons, List.length_nil]; done) | (simp only [List.length_drop, List.length_take, List.length_append, List.length_cons, List.length_nil]; omega) | omega⟩ | exact ⟨rowOf_rd, by first | rfl | assumption | (simp only [List.length_drop, List.length_take, List.length_append, List.length_cons, List.length_nil]; done) | (simp only [List.length_drop, List.length_take, List.length_append, List.length_cons, List.length_nil]; omega) | omega⟩ | exact ⟨rowOf_tail rowOf_rd (by omega) (by omega), by first | rfl | assumption | (simp only [List.length_drop, List.length_take, List.length_append, List.length_cons, List.length_nil]; done) | (simp only [List.length_drop, List.length_take, List.length_append, List.length_cons, List.length_nil]; omega) | omega⟩ | exact rowM_take rowOf_rd (by omega) | exact rowM_take (rowOf_tail rowOf_rd (by omega) (by omega)) (by first | omega | (simp only [List.length_drop]; omega)) | exact ⟨rowOf_tail rowOf_rows (by omega) (by omega), by first | rfl | assumption | (simp only [List.length_drop, List.length_take, List.length_append, List.length_cons, List.length_nil]; done) | (simp only [List.length_drop, List.length_take, List.length_append, List.length_cons, List.length_nil]; omega) | omega⟩ | exact rowM_take rowOf_rows (by omega) | exact rowM_take (rowOf_tail rowOf_rows (by omega) (by omega)) (by first | omega | (simp only [List.length_drop]; omega))) (hp : p = (j : Int) := by first | rfl | omega) (hj : j < l.length := by first | assumption | omega | (simp only [List.length_drop, List.length_take, List.length_append, List.length_cons, List.length_nil]; omega))
    (hg : guarded ops env ⟨some d, .indexAddr T x y, ty, pos, af, gd⟩ = some true := by rfl) (hd : Nat.blt d n = true := by rfl) : HoC LF env D n w0 M B L (wpSched P ops Q (Facts B LF) (.s i σ)) := fun hc a w hs => by
  obtain rfl := hro.len
  obtain ⟨ad, hA, _⟩ := rds_some (hro.is.is w (hs.facts i' _ hr)) (by omega)
  exact s_rd hi (r_index hA hx hy hp hj) (h ad l[j] hA (List.getElem?_eq_getElem hj)) rfl hg hd hc a w hs
theorem s_nil (h : Ho env D n w0 M B L (Q .normal)) : HoC LF env D n w0 M B L (wpSched P ops Q (Facts B LF) .nil) := fun _ => h
theorem s_two {i j : Nat} {σ τ : Plan} (h1 : HoC LF env D n w0 M B L (wpSched P ops Q (Facts B LF) (.s i σ))) (h2 : HoC LF env D n w0 M B L (wpSched P ops Q (Facts B LF) (.s j τ))) : HoC LF env D n w0 M B L (wpSched P ops Q (Facts B LF) (.s2 i σ j τ)) := fun hc a w hs => ⟨h1 hc a w hs, h2 hc a w hs⟩
theorem s_call {f : FuncId} {fn : Func} {args all : List SV} {Bc Lc : Hp} {post : Out → List Res → Prop} {xs : Array Operand} {tys : Array TypeId} {cap : List Value} {gh : List Nat} (hi : ops.toList[i]? = some ⟨some d, .call { callee := .value x, args := xs, argTypes := tys }, ty, pos, af, gd⟩) (b : Nat) (m : List (Nat × Nat))
    (hs : CSpec P f all Bc Lc post) (hf : P.funcs[f]? = some fn) (hx : ev env x = some (.s (.one (.fn f cap gh))) := by rfl) (ha : evs env xs.toList = some args := by rfl) (hall : args.map SV.den ++ cap = all.map SV.den := by rfl)
    (hB : GotB (lk2 B L) (cid m args) Bc := by repeat (first | exact trivial | refine ⟨⟨_, rfl, by first | assumption | exact View.refl _ | exact view_rows | exact view_tail (View.refl _) (by omega) (by omega) | exact view_take (View.refl _) | exact view_tail view_rows (by omega) (by omega) | exact view_take view_rows⟩, ?_⟩)) (hL : Got (lk L) (cid m args) Lc := by repeat (first | exact trivial | refine ⟨rfl, ?_⟩))
    (hnd : nodupB (ids (cid m args) Lc) = true := by rfl) (hbl : noneIn (ids (cid m args) Lc) (ids (cid m args) Bc) = true := by rfl) (hnk : nodupB (Lc.map (·.1)) = true := by rfl)
    (h : ∀ o Lr, post o Lr → match o with
      | .ret v => Cov LF (num b Lr ++ dels (ids (cid m args) Lc) L) ∧ HoC LF ((d, v.up b) :: env) D n w0 M B (num b Lr ++ dels (ids (cid m args) Lc) L) (wpSched P ops Q (Facts B LF) σ)
      | .pan ch => Ho env D n w0 M B (num b Lr ++ dels (ids (cid m args) Lc) L) (Q (.panic ch)))
    (hg : guarded ops env ⟨some d, .call { callee := .value x, args := xs, argTypes := tys }, ty, pos, af, gd⟩ = some true := by rfl) (hd : Nat.blt d n = true := by rfl) (hb : fn.body.isNone = false := by rfl) (hn : (fn.name == "runtime.NumGoroutine") = false := by rfl) :
    HoC LF env D n w0 M B L (wpSched P ops Q (Facts B LF) (.s i σ)) := fun hc a w hsy => by
  refine sched_s hi (guarded_wanted hsy.tm hg) ?_
  refine call_wp hs hf hb hn (cid m args) b hx ha hall hB hL hnd hbl hnk hsy fun o Lr hp => ?_
  have h9 := h o Lr hp
  cases o with
  | ret v => exact fun w' hs' => ⟨facts_cov h9.1 hs', h9.2 h9.1 _ _ (by have := hs'.put (v := v.up b) hd; rwa [v.den_up] at this)⟩
  | pan ch => exact fun w' hs' => h9 _ _ hs'
end
end HL
end Go.Proofs.YtonbgcehgmpnkaaGreat
/- SYMBOLIC STATES: hashes, slices, append, structs put together, strings. My own text; it names no program. -/

set_option linter.unusedVariables false
set_option linter.unusedSimpArgs false
set_option linter.unusedSectionVars false
namespace Go.Proofs.YtonbgcehgmpnkaaGreat
namespace HL
open Go Go.RowKit
def hashEn : En Hash := ⟨fun h => .agg [.hash h], true, 32, fun _ => ⟨rfl, rfl⟩, by decide⟩
def byteEn : En UInt8 := ⟨fun b => .one (.i .u8 b.toNat), false, 1, fun _ => ⟨rfl, rfl⟩, by decide⟩
def intEn (k : IntKind) : En Int := ⟨fun n => .one (.i k n), false, 1, fun _ => ⟨rfl, rfl⟩, by decide⟩
def strEn : En ByteArray := ⟨fun s => .one (.s s), false, 1, fun _ => ⟨rfl, rfl⟩, by decide⟩
def boolEn : En Bool := ⟨fun s => .one (.b s), false, 1, fun _ => ⟨rfl, rfl⟩, by decide⟩
def ptrEn : En (Option Addr) := ⟨fun p => .one (match p with | some a => .ptr 0 a | none => .pn), false, 1, fun p => by cases p <;> exact ⟨rfl, rfl⟩, by decide⟩
class HashT (P : Program) (T : TypeId) : Prop where
  key : KeyTy P T hval 2
  eg : P.eqGuardType P.depth T = false
/-- How an element type's values lie. -/
class ElT (P : Program) (e : TypeId) {α : outParam Type} (E : outParam (En α)) : Prop where
/-- How the fields of a struct lie. -/
class PLS (P : Program) (T : TypeId) (fs : outParam (List SV)) : Prop where
  is : structPlaces P T = some (placesOf (fs.map SV.den) 0)
section
variable {P : Program} {env : Env} {D : List Deferred} {n : Nat} {w0 : World} {M : Nat → Prop} {B L : Hp}
variable {dst : Option Tmp} {d : Nat} {ty : TypeId} {pos : String} {af : Array Edge} {gd : Option (Nat × Bool)} {x y z : Operand} {T T' : TypeId}
/-! ### hashes -/
theorem r_eqH {a b : Hash} [hT : HashT P T] (hx : ev env x = some (vh a) := by rfl) (hy : ev env y = some (vh b) := by rfl) : Reads P ⟨dst, .binOp .eql T x y T', ty, pos, af, gd⟩ env n B L (vb (decide (a = b))) := fun c w ht _ => by
  unfold execOp
  have h1 : c.eval x = hval a := ev_sound ht hx
  have h2 : c.eval y = hval b := ev_sound ht hy
  have := run_binEq hT.key.eq (by omega) isAgg_hval hT.eg a b x y w
  simp only [h1, h2]
  rw [Sem.run_bind, this]
  rfl
theorem r_neH {a b : Hash} [hT : HashT P T] (hx : ev env x = some (vh a) := by rfl) (hy : ev env y = some (vh b) := by rfl) : Reads P ⟨dst, .binOp .neq T x y T', ty, pos, af, gd⟩ env n B L (vb (!decide (a = b))) := fun c w ht _ => by
  unfold execOp
  have h1 : c.eval x = hval a := ev_sound ht hx
  have h2 : c.eval y = hval b := ev_sound ht hy
  have := run_binNe hT.key.eq (by omega) isAgg_hval hT.eg a b x y w
  simp only [h1, h2]
  rw [Sem.run_bind, this]
  rfl
theorem dens_byte (l : List UInt8) : flat (byteEn.dens l) = bcells l := by
  induction l with
  | nil => show flat [] = []; exact flat_nil
  | cons b l ih =>
    show flat (.int .u8 b.toNat :: byteEn.dens l) = .int .u8 b.toNat :: bcells l
    rw [flat_cons, ih]
    rfl
theorem dens_hash (h : Hash) : flat (byteEn.dens h.toList) = flat [hval h] := by rw [dens_byte, flat_single, cells_hval, hcells_eq]
theorem row_of_va {g : Nat} {e : TypeId} {h : Hash} {w : World} (hh : (Res.va g e [.hash h]).holds w) : (Res.rows (some ⟨g, 0, none⟩) 32 e byteEn h.toList).holds w := by
  have hb : w.heap[g]? = some (.cells (flat [hval h]).toArray e (0, 0)) := by
    rw [va_def] at hh
    unfold Res.blk at hh
    exact hh
  have hl : h.toList.length = 32 := by simp
  unfold Res.rows Res.row
  rw [dens_hash, hl]
  have h32 : (flat [hval h]).length = 32 := by rw [flat_single, cells_hval, length_hcells]
  exact ⟨by rw [h32]; rfl, by omega, by simp [maxLen], .inr ⟨g, 0, [], [], rfl, by simpa using hb, rfl, by simp only [List.append_nil, h32]; decide⟩⟩
theorem va_of_row {g : Nat} {e : TypeId} {h : Hash} {w : World} (hh : (Res.rows (some ⟨g, 0, none⟩) 32 e byteEn h.toList).holds w) (hc : ∀ cs, w.heap[g]? = some (.cells cs e (0, 0)) → cs.size = 32) : (Res.va g e [.hash h]).holds w := by
  unfold Res.rows Res.row at hh
  obtain ⟨h1, h2, h3, h4⟩ := hh
  rcases h4 with ⟨h5, _⟩ | ⟨g', off, pre, post, h5, hb, hp, hcap⟩
  · cases h5
  · injection h5 with h5
    injection h5 with h6 h7
    subst h6
    subst h7
    have hs := hc _ hb
    have hpre : pre = [] := List.eq_nil_of_length_eq_zero hp
    subst hpre
    rw [dens_hash] at hb hs hcap
    have h32 : (flat [hval h]).length = 32 := by rw [flat_single, cells_hval, length_hcells]
    have hpost : post = [] := by
      simp only [List.nil_append, List.size_toArray, List.length_append, h32] at hs
      exact List.eq_nil_of_length_eq_zero (by omega)
    subst hpost
    rw [va_def]
    unfold Res.blk
    show w.heap[g]? = some (Obj.cells (flat [hval h]).toArray e)
    simpa using hb
/-- A resource, seen as another one. -/
theorem k_conv (i : Nat) {r : Res} (r' : Res) {K : Act → World → Prop} (hr : lk L i = some r := by rfl) (hh : ∀ w, r.holds w → r'.holds w) (hf : ∀ b, r'.fp b → r.fp b) (h : Ho env D n w0 M B ((i, r') :: L) K) : Ho env D n w0 M B L K := fun a w hs => h a w ⟨hs.tm, hs.df, by
  rw [live_cons]
  have h1 := live_front hs.st hr
  exact h1.turn (i := 0) (r := r) (r' := r') rfl rfl rfl rfl (Nat.le_refl _) (fun _ _ _ => rfl) (hh w (h1.res r (by simp))) (fun b hb => .inl (hf b hb)), hs.bo⟩
/-- An array's bytes as a slice: its variable is a row from here on. -/
theorem d_sliceArr {g i : Nat} {t e e' : TypeId} {h : Hash} {agg : Bool} {sz bytes : Nat} {zz : SV} [hu : UD P T (.array 32 e)] [hT : TyA P e agg sz zz bytes] (hx : ev env x = some (vp i ⟨g, 0, none⟩) := by rfl) (hr : lk L i = some (Res.va g e' [.hash h]) := by rfl) (hd : Nat.blt d n = true := by rfl) :
    Does P ⟨some d, .slice T x none none none, ty, pos, af, gd⟩ env D n w0 M B L (fun _ : Unit => (d, vsl i (some ⟨g, 0, none⟩) h.toList.length 32) :: env) (fun _ => (i, Res.rows (some ⟨g, 0, none⟩) 32 e' byteEn h.toList) :: L) [i] :=
  ⟨fun a w K Q hs hk => by
    have h1 : a.eval x = .pointer (some ⟨g, 0, none⟩) := ev_sound hs.tm hx
    unfold Oper.wp execOp
    simp only [h1, Option.map_none]
    rw [Sem.run_bind, run_sliceArr hu.is hT.is g 0 w]
    have hl : h.toList.length = 32 := by simp
    refine hk () (a.put (some d) _) w ?_
    have h2 := hs.put (v := vsl i (some ⟨g, 0, none⟩) h.toList.length 32) hd
    rw [show (vsl i (some ⟨g, 0, none⟩) h.toList.length 32).den = Value.slice (some ⟨g, 0, none⟩) 32 32 by rw [hl]; rfl] at h2
    refine h2.to ?_
    rw [live_cons]
    have h3 := live_front h2.st hr
    refine h3.turn (i := 0) rfl rfl rfl rfl (Nat.le_refl _) (fun _ _ _ => rfl) (row_of_va (h3.res _ (by simp))) (fun b hb => .inl ?_)
    have := fp_row.1 (show (Res.row _ _ _ _ _ _).fp b from hb)
    rw [va_def]
    unfold Res.blk
    simp [obl] at this
    exact this.symm, kp_one⟩
/-! ### rows that are made -/
theorem src_of {α : Type} {A : Option Addr} {E : En α} {l : List α} {w : World} (h : RdS w A (flat (E.dens l))) : Src w A l.length E.sz (flat (E.dens l)) := by
  refine ⟨?_, fun hA => ?_, h, ok1_flat fun v hv => ?_⟩
  · rw [length_flat, szs_const (E.sizes l)]
    unfold En.dens
    rw [List.length_map]
  · subst hA
    rcases h with h | ⟨ad, h, _⟩
    · cases l with
      | nil => rfl
      | cons a l => exact absurd h (flat_pos (by simp))
    · cases h
  · obtain ⟨x, _, rfl⟩ := List.mem_map.1 hv
    exact (E.f x).ok1
/-- Append to a row of one's own. -/
theorem append_wp {α : Type} {i j c c' m' bytes sz : Nat} {A A' : Option Addr} {e : TypeId} {E : En α} {l l' : List α} {agg : Bool} {z : SV} [hu : UD P T (.slice e)] [hT : TyA P e agg sz z bytes] (hx : ev env x = some (vsl i A l.length c)) (hy : ev env y = some (vsl j A' m' c')) (hr : lk L i = some (Res.rows A c e E l)) (hz : sz = E.sz) (hm : m' = l'.length)
    (hr' : ∀ w, Facts B L w → RdS w A' (flat (E.dens l'))) (hb : (l.length + l'.length) * bytes ≤ 140737488355328 ∧ l.length + l'.length ≤ 140737488355328) (hd : Nat.blt d n = true) :
    Does P ⟨some d, .call { callee := .builtin .append, args := #[x, y], argTypes := #[T, T] }, ty, pos, af, gd⟩ env D n w0 M B L (fun p : Option Addr × Nat => (d, vsl i p.1 (l ++ l').length p.2) :: env) (fun p => (i, Res.rows p.1 p.2 e E (l ++ l')) :: L) [i] :=
  ⟨fun a w K Q hs hk => by
    subst hm; subst hz
    have h1 : a.eval x = .slice A l.length c := ev_sound hs.tm hx
    have h2 : a.eval y = .slice A' l'.length c' := ev_sound hs.tm hy
    have hf := live_front hs.st hr
    have hrow : seg w e E.sz A l.length c (flat (E.dens l)) := by
      have := hf.res _ (List.mem_cons_self ..)
      unfold Res.rows Res.row at this
      exact this
    have hzs : z.den.cells.size = E.sz := by rw [z.sz_den, hT.zs]
    obtain ⟨Bn, c2, w', hrun, q1, q2, q3, q4, q5, qd, q6, q7⟩ := run_append (ty := ty) (c' := c') hu.is hT.is E.pos hzs hrow (src_of (hr' w hs.facts)) hb.1 hb.2
    unfold Oper.wp execOp
    simp only [resolve, invoke, builtin, Sem.run_bind, Sem.run_pure, Result.andThen_ok, List.map_toArray, List.map_cons, List.map_nil, h1, h2]
    rw [hrun]
    refine hk (Bn, c2) _ w' ?_
    have h3 := hs.put (v := vsl i Bn (l ++ l').length c2) hd
    have e1 : (vsl i Bn (l ++ l').length c2).den = Value.slice Bn (l.length + l'.length) c2 := by show Value.slice Bn (l ++ l').length c2 = _; rw [List.length_append]
    rw [e1] at h3
    refine h3.to ?_
    rw [live_cons]
    refine hf.turn (i := 0) rfl q2 q3 q4 q5 (fun b hb' hn => q6 b hb' (fun e => hn (fp_row.2 e))) ?_ (fun b hb' => (q7 b (fp_row.1 hb')).imp (fun e => fp_row.2 e) id) qd
    unfold Res.rows Res.row
    have e2 : E.dens (l ++ l') = E.dens l ++ E.dens l' := List.map_append ..
    rw [e2, flat_append, List.length_append]
    exact q1, kp_one⟩
theorem d_append {α : Type} {i j c c' m m' bytes sz : Nat} {A A' A2 : Option Addr} {R : Res} {e : TypeId} {E : En α} {l l' : List α} {agg : Bool} {z : SV} [hu : UD P T (.slice e)] [hT : TyA P e agg sz z bytes] (hx : ev env x = some (vsl i A m c) := by rfl) (hy : ev env y = some (vsl j A' m' c') := by rfl) (hr : lk L i = some (Res.rows A2 c e E l) := by rfl) (hA : A2 = A := by rfl) (hr' : lk2 B L j = some R := by rfl) (hro : RowM R A' m' E l' := by first | exact ⟨View.row (by assumption), by first | rfl | assumption | omega⟩ | exact ⟨rowOf_rows, by first | rfl | assumption | (simp only [List.length_drop, List.length_take, List.length_append, List.length_cons, List.length_nil]; done) | (simp only [List.length_drop, List.length_take, List.length_append, List.length_cons, List.length_nil]; omega) | omega⟩ | exact ⟨rowOf_rd, by first | rfl | assumption | (simp only [List.length_drop, List.length_take, List.length_append, List.length_cons, List.length_nil]; done) | (simp only [List.length_drop, List.length_take, List.length_append, List.length_cons, List.length_nil]; omega) | omega⟩ | exact ⟨rowOf_tail rowOf_rd (by omega) (by omega), by first | rfl | assumption | (simp only [List.length_drop, List.length_take, List.length_append, List.length_cons, List.length_nil]; done) | (simp only [List.length_drop, List.length_take, List.length_append, List.length_cons, List.length_nil]; omega) | omega⟩ | exact rowM_take rowOf_rd (by omega) | exact rowM_take (rowOf_tail rowOf_rd (by omega) (by omega)) (by first | omega | (simp only [List.length_drop]; omega)) | exact ⟨rowOf_tail rowOf_rows (by omega) (by omega), by first | rfl | assumption | (simp only [List.length_drop, List.length_take, List.length_append, List.length_cons, List.length_nil]; done) | (simp only [List.length_drop, List.length_take, List.length_append, List.length_cons, List.length_nil]; omega) | omega⟩ | exact rowM_take rowOf_rows (by omega) | exact rowM_take (rowOf_tail rowOf_rows (by omega) (by omega)) (by first | omega | (simp only [List.length_drop]; omega))) (hz : sz = E.sz := by rfl) (hm : m = l.length := by first | rfl | assumption | (simp only [List.length_append, List.length_cons, List.length_nil]; omega))
    (hb : (l.length + l'.length) * bytes ≤ 140737488355328 ∧ l.length + l'.length ≤ 140737488355328 := by first | omega | (simp only [List.length_append, List.length_cons, List.length_nil, List.length_drop, List.length_take]; omega)) (hd : Nat.blt d n = true := by rfl) :
    Does P ⟨some d, .call { callee := .builtin .append, args := #[x, y], argTypes := #[T, T] }, ty, pos, af, gd⟩ env D n w0 M B L (fun p : Option Addr × Nat => (d, vsl i p.1 (l ++ l').length p.2) :: env) (fun p => (i, Res.rows p.1 p.2 e E (l ++ l')) :: L) [i] := by
  subst hA; subst hm
  exact append_wp hx hy hr hz hro.len (fun w hf => hro.is.is w (hf j _ hr')) hb hd
/-- Append to nil. -/
theorem d_append0 {α : Type} {i j c' m' bytes sz : Nat} {A' : Option Addr} {R : Res} {e : TypeId} {E : En α} {l' : List α} {agg : Bool} {z : SV} [hu : UD P T (.slice e)] [hT : TyA P e agg sz z bytes] (hx : ev env x = some (vsl i none 0 0) := by rfl) (hy : ev env y = some (vsl j A' m' c') := by rfl) (hr' : lk2 B L j = some R := by rfl) (hro : RowM R A' m' E l' := by first | exact ⟨View.row (by assumption), by first | rfl | assumption | omega⟩ | exact ⟨rowOf_rows, by first | rfl | assumption | (simp only [List.length_drop, List.length_take, List.length_append, List.length_cons, List.length_nil]; done) | (simp only [List.length_drop, List.length_take, List.length_append, List.length_cons, List.length_nil]; omega) | omega⟩ | exact ⟨rowOf_rd, by first | rfl | assumption | (simp only [List.length_drop, List.length_take, List.length_append, List.length_cons, List.length_nil]; done) | (simp only [List.length_drop, List.length_take, List.length_append, List.length_cons, List.length_nil]; omega) | omega⟩ | exact ⟨rowOf_tail rowOf_rd (by omega) (by omega), by first | rfl | assumption | (simp only [List.length_drop, List.length_take, List.length_append, List.length_cons, List.length_nil]; done) | (simp only [List.length_drop, List.length_take, List.length_append, List.length_cons, List.length_nil]; omega) | omega⟩ | exact rowM_take rowOf_rd (by omega) | exact rowM_take (rowOf_tail rowOf_rd (by omega) (by omega)) (by first | omega | (simp only [List.length_drop]; omega)) | exact ⟨rowOf_tail rowOf_rows (by omega) (by omega), by first | rfl | assumption | (simp only [List.length_drop, List.length_take, List.length_append, List.length_cons, List.length_nil]; done) | (simp only [List.length_drop, List.length_take, List.length_append, List.length_cons, List.length_nil]; omega) | omega⟩ | exact rowM_take rowOf_rows (by omega) | exact rowM_take (rowOf_tail rowOf_rows (by omega) (by omega)) (by first | omega | (simp only [List.length_drop]; omega))) (hz : sz = E.sz := by rfl)
    (hb : l'.length * bytes ≤ 140737488355328 ∧ l'.length ≤ 140737488355328 := by first | omega | (simp only [List.length_append, List.length_cons, List.length_nil, List.length_drop, List.length_take]; omega)) (hd : Nat.blt d n = true := by rfl) :
    Does P ⟨some d, .call { callee := .builtin .append, args := #[x, y], argTypes := #[T, T] }, ty, pos, af, gd⟩ env D n w0 M B L (fun p : Option Addr × Nat => (d, vsl (10000 + d) p.1 l'.length p.2) :: env) (fun p => (10000 + d, Res.rows p.1 p.2 e E l') :: L) [10000 + d] :=
  ⟨fun a w K Q hs hk => by
    obtain rfl := hro.len
    subst hz
    have h1 : a.eval x = .slice none 0 0 := ev_sound hs.tm hx
    have h2 : a.eval y = .slice A' l'.length c' := ev_sound hs.tm hy
    have hzs : z.den.cells.size = E.sz := by rw [z.sz_den, hT.zs]
    obtain ⟨Bn, c2, w', hrun, q1, q2, q3, q4, q5, qd, q6, q7⟩ := run_append (ty := ty) (c' := c') hu.is hT.is E.pos hzs (seg_nil w e E.sz) (src_of (hro.is.is w (hs.facts j _ hr'))) (by simpa using hb.1) (by simpa using hb.2)
    simp only [Nat.zero_add, List.nil_append] at hrun q1
    unfold Oper.wp execOp
    simp only [resolve, invoke, builtin, Sem.run_bind, Sem.run_pure, Result.andThen_ok, List.map_toArray, List.map_cons, List.map_nil, h1, h2]
    rw [hrun]
    refine hk (Bn, c2) _ w' ?_
    have h3 := hs.put (v := vsl (10000 + d) Bn l'.length c2) hd
    refine h3.to (live_new ?_)
    refine hs.st.new q2 q3 q4 q5 (fun b hb' => q6 b hb' (by simp [obl])) ?_ (fun b hb' => (q7 b (fp_row.1 hb')).resolve_left (by simp [obl])) qd
    unfold Res.rows Res.row
    exact q1, kp_one⟩
/-- The elements told, one by one. -/
def elemsIn (env : Env) : Nat → List (Nat × Operand) → Option (List SV)
  | _, [] => some []
  | k, (i, x) :: ps => bif Nat.beq i k then (match ev env x with
    | some (.s v) => match elemsIn env (k + 1) ps with
      | some vs => some (v :: vs)
      | none => none
    | _ => none) else none
theorem elemsIn_spec {a : Act} (ht : Tm env n a) : ∀ {ps : List (Nat × Operand)} {k : Nat} {vs : List SV}, elemsIn env k ps = some vs → ps.map (fun p => (p.1, a.eval p.2)) = (List.range' k vs.length).zip (vs.map SV.den)
  | [], k, vs, h => by unfold elemsIn at h; injection h with h; subst h; rfl
  | (i, x) :: ps, k, vs, h => by
    unfold elemsIn at h
    cases hb : Nat.beq i k with
    | false => rw [hb] at h; cases h
    | true =>
      rw [hb] at h
      simp only [cond_true] at h
      split at h
      · rename_i v hv
        split at h
        · rename_i vs' hvs
          injection h with h
          subst h
          have := Nat.eq_of_beq_eq_true hb
          subst this
          simp only [List.map_cons, List.length_cons, List.range'_succ, List.zip_cons_cons, elemsIn_spec ht hvs, ev_sound ht hv]
          rfl
        · cases h
      · cases h
theorem d_bslice {α : Type} (l : List α) {parts : Array (Nat × Operand)} {m bytes sz : Nat} {e : TypeId} {E : En α} {vs : List SV} {agg : Bool} {z : SV} [hu : UD P T (.slice e)] [hT : TyA P e agg sz z bytes] [hE : ElT P e E] (hp : elemsIn env 0 parts.toList = some vs := by rfl) (hv : vs.map SV.den = E.dens l := by rfl) (hz : sz = E.sz := by rfl) (hm : m = l.length := by rfl) (hbig : Nat.ble (l.length * sz) 16777216 = true := by rfl) (hd : Nat.blt d n = true := by rfl) :
    Does P ⟨some d, .buildSlice T m parts, ty, pos, af, gd⟩ env D n w0 M B L (fun A : Option Addr => (d, vsl (10000 + d) A l.length l.length) :: env) (fun A => (10000 + d, Res.rows A l.length e E l) :: L) [10000 + d] :=
  ⟨fun a w K Q hs hk => by
    subst hz; subst hm
    have hbig' := Nat.le_of_ble_eq_true hbig
    have hlen : (E.dens l).length = l.length := by unfold En.dens; rw [List.length_map]
    have hvl : vs.length = l.length := by rw [← hlen, ← hv, List.length_map]
    have hparts : (parts.map fun (i, x) => (i, a.eval x)) = ((List.range' 0 (E.dens l).length).zip (E.dens l)).toArray := by
      apply Array.toList_inj.1
      rw [Array.toList_map, hlen, ← hvl, ← hv]
      exact elemsIn_spec hs.tm hp
    have hr := run_buildSlice (P := P) (t := T) hu.is hT.is (by rw [z.sz_den, hT.zs]) (E.dens l) (E.sizes l) (by rw [hlen]; exact hbig') w
    rw [hlen] at hr hparts
    unfold Oper.wp execOp
    simp only [Sem.run_bind]
    rw [hparts, hr]
    refine hk (some ⟨w.heap.size, 0, none⟩) _ _ ?_
    have h3 := hs.put (v := vsl (10000 + d) (some ⟨w.heap.size, 0, none⟩) l.length l.length) hd
    refine h3.to (live_new ?_)
    refine hs.st.new (w' := w.alloc (.cells (flat (E.dens l)).toArray e)) rfl rfl rfl (by simp) (fun b hb => Below.heap_alloc w _ b hb) ?_ (fun b hb => ?_)
    · have hml : (E.dens l).length ≤ maxLen := by
        rw [hlen]
        have := Nat.le_mul_of_pos_right l.length E.pos
        simp only [maxLen]
        omega
      have := seg_lit w e E.sz (E.dens l) (E.sizes l) hml
      rw [hlen] at this
      unfold Res.rows Res.row
      exact this
    · have := fp_row.1 hb
      simp [obl] at this
      omega, kp_one⟩
/-! ### structs put together -/
def setF : List SV → Nat → SV → Option (List SV)
  | [], _, _ => none
  | u :: us, 0, v => bif Nat.beq (ats v.ats) (ats u.ats) then some (v :: us) else none
  | u :: us, k + 1, v => match setF us k v with
    | some r => some (u :: r)
    | none => none
def bldF (env : Env) : List SV → List (Nat × Operand) → Option (List SV)
  | fs, [] => some fs
  | fs, (i, x) :: ps => match ev env x with
    | some (.s v) => match setF fs i v with
      | some fs' => bldF env fs' ps
      | none => none
    | _ => none
def flatF : List SV → Option (List At)
  | [] => some []
  | v :: vs => match flatF vs with
    | some r => appF v.ats r
    | none => none
theorem setF_spec : ∀ {fs : List SV} {k : Nat} {v : SV} {fs' : List SV}, setF fs k v = some fs' → fs' = fs.set k v ∧ ∃ u, fs[k]? = some u ∧ ats v.ats = ats u.ats
  | [], _, _, _, h => by unfold setF at h; cases h
  | u :: us, 0, v, fs', h => by
    unfold setF at h
    cases hb : Nat.beq (ats v.ats) (ats u.ats) with
    | false => rw [hb] at h; cases h
    | true => rw [hb] at h; injection h with h; subst h; exact ⟨rfl, u, rfl, Nat.eq_of_beq_eq_true hb⟩
  | u :: us, k + 1, v, fs', h => by
    unfold setF at h
    split at h
    · rename_i r hr
      injection h with h
      subst h
      obtain ⟨h1, u', h2, h3⟩ := setF_spec hr
      exact ⟨by rw [h1]; rfl, u', h2, h3⟩
    · cases h
theorem bldF_spec {a : Act} (ht : Tm env n a) : ∀ {ps : List (Nat × Operand)} {fs fs' : List SV}, bldF env fs ps = some fs' → ∃ qs : List (Nat × Value), ps.map (fun p => (p.1, a.eval p.2)) = qs ∧ partsFit (fs.map SV.den) qs ∧ applyParts (fs.map SV.den) qs = fs'.map SV.den
  | [], fs, fs', h => by unfold bldF at h; injection h with h; subst h; exact ⟨[], rfl, trivial, rfl⟩
  | (i, x) :: ps, fs, fs', h => by
    unfold bldF at h
    split at h
    · rename_i v hv
      split at h
      · rename_i fs1 hs
        obtain ⟨e1, u, h2, h3⟩ := setF_spec hs
        obtain ⟨qs, q1, q2, q3⟩ := bldF_spec ht h
        have e2 : (fs.map SV.den).set i v.den = fs1.map SV.den := by rw [e1, List.map_set]
        refine ⟨(i, v.den) :: qs, ?_, ⟨⟨u.den, by rw [List.getElem?_map, h2]; rfl, by rw [v.sz_den, u.sz_den, h3]⟩, by rw [e2]; exact q2⟩, ?_⟩
        · rw [List.map_cons, q1, ev_sound ht hv]
          rfl
        · show applyParts ((fs.map SV.den).set i v.den) qs = _
          rw [e2]
          exact q3
      · cases h
    · cases h
theorem flatF_spec : ∀ {fs : List SV} {as : List At}, flatF fs = some as → flat (fs.map SV.den) = flat (vals as)
  | [], as, h => by unfold flatF at h; injection h with h; subst h; rfl
  | v :: vs, as, h => by
    unfold flatF at h
    split at h
    · rename_i r hr
      rw [appF_eq] at h
      injection h with h
      subst h
      rw [List.map_cons, flat_cons, flatF_spec hr, SV.cells_den, vals_append, flat_append]
    · cases h
theorem r_build {parts : Array (Nat × Operand)} {fz fs : List SV} {as : List At} {agg : Bool} {sz bytes : Nat} {z : SV} [hT : TyA P T agg sz z bytes] [hp : PLS P T fz] (hb : bldF env fz parts.toList = some fs := by rfl) (hf : flatF fs = some as := by rfl) (hz : flatF fz = some z.ats := by rfl) (ha : z.isAgg = true := by rfl) : Reads P ⟨dst, .build T parts, ty, pos, af, gd⟩ env n B L (.s (.agg as)) := fun a w ht _ => by
  obtain ⟨qs, q1, q2, q3⟩ := bldF_spec ht hb
  have hparts : (parts.map fun (i, x) => (i, a.eval x)) = qs.toArray := by
    apply Array.toList_inj.1
    rw [Array.toList_map]
    exact q1
  have hzd : z.den = mkS (fz.map SV.den) := by
    obtain ⟨zs, rfl⟩ : ∃ zs, z = .agg zs := by cases z with | one p => cases ha | agg zs => exact ⟨zs, rfl⟩
    rw [SV.den_agg]
    have h9 := flatF_spec hz
    unfold mkS
    rw [h9]
    rfl
  have hTi := hT.is
  rw [hzd] at hTi
  have hrun := run_buildS hTi hp.is qs q2 w
  rw [q3] at hrun
  unfold execOp
  simp only [Sem.run_bind]
  rw [hparts, hrun]
  have e : mkS (fs.map SV.den) = (SV.agg as).den := by
    rw [SV.den_agg]
    unfold mkS
    rw [flatF_spec hf]
  rw [e]
  rfl
/-! ### functions -/
def PV.fnv : PV → Value := PV.den
def caps (env : Env) : List Operand → Option (List Value × List Nat)
  | [] => some ([], [])
  | x :: xs => match ev env x with
    | some (.s (.one (.ptr i a))) => match caps env xs with
      | some (vs, gs) => some (.pointer (some a) :: vs, i :: gs)
      | none => none
    | _ => none
theorem caps_spec {a : Act} (ht : Tm env n a) : ∀ {xs : List Operand} {vs : List Value} {gs : List Nat}, caps env xs = some (vs, gs) → xs.map a.eval = vs
  | [], vs, gs, h => by unfold caps at h; cases h; rfl
  | x :: xs, vs, gs, h => by
    unfold caps at h
    split at h
    · rename_i i ad hx
      split at h
      · rename_i vs' gs' hc
        injection h with h
        injection h with h1 h2
        subst h1
        rw [List.map_cons, caps_spec ht hc, ev_sound ht hx]
        rfl
      · cases h
    · cases h
theorem r_makeFunc {f : FuncId} {xs : Array Operand} {vs : List Value} {gs : List Nat} (hc : caps env xs.toList = some (vs, gs) := by rfl) : Reads P ⟨dst, .makeFunc (.func f) #[] xs, ty, pos, af, gd⟩ env n B L (.s (.one (.fn f vs gs))) := fun a w ht _ => by
  unfold execOp
  have h1 := caps_spec ht hc
  have h2 : xs.map a.eval = vs.toArray := by
    apply Array.toList_inj.1
    rw [Array.toList_map, h1]
  simp only [h2, Instr.makeFunc, Sem.run_bind, Sem.run_pure, Result.andThen_ok]
  have h3 : (#[] : Array Operand).map a.eval = #[] := by simp
  rw [h3]
  rfl
theorem den_int {k : IntKind} {a b : Int} (h : a = b) : (vi k a).den = (vi k b).den := by rw [h]
/-! ### parts of slices -/
theorem r_sliceH {e : TypeId} {i m c j sz bytes : Nat} {A : Option Addr} {k : IntKind} {p : Int} {agg : Bool} {zz : SV} [hu : UD P T (.slice e)] [hT : TyA P e agg sz zz bytes] (hx : ev env x = some (vsl i A m c) := by rfl) (hy : ev env y = some (vi k p) := by rfl) (hp : p = (j : Int) := by first | rfl | omega) (hj : j ≤ c := by omega) : Reads P ⟨dst, .slice T x none (some y) none, ty, pos, af, gd⟩ env n B L (vsl i A j c) := fun a w ht _ => by
  have h1 : a.eval x = .slice A m c := ev_sound ht hx
  have h2 : a.eval y = .int k p := ev_sound ht hy
  have h3 := run_sliceHi (P := P) (t := T) (A := A) (n := m) (c := c) (k := k) (j := p) hu.is hT.is (by omega) (by omega) w
  unfold execOp
  simp only [h1, h2, Option.map_none, Option.map_some]
  rw [Sem.run_bind, h3, hp]
  rfl
theorem r_sliceL {e : TypeId} {i m c j sz bytes : Nat} {A : Option Addr} {k : IntKind} {p : Int} {agg : Bool} {zz : SV} [hu : UD P T (.slice e)] [hT : TyA P e agg sz zz bytes] (hx : ev env x = some (vsl i A m c) := by rfl) (hy : ev env y = some (vi k p) := by rfl) (hp : p = (j : Int) := by first | rfl | omega) (hj : j ≤ m := by omega) : Reads P ⟨dst, .slice T x (some y) none none, ty, pos, af, gd⟩ env n B L (vsl i (tailA A c j sz) (m - j) (c - j)) := fun a w ht _ => by
  have h1 : a.eval x = .slice A m c := ev_sound ht hx
  have h2 : a.eval y = .int k p := ev_sound ht hy
  have h3 := run_sliceLo (P := P) (t := T) (A := A) (n := m) (c := c) (k := k) (j := p) hu.is hT.is (by omega) (by omega) w
  unfold execOp
  simp only [h1, h2, Option.map_none, Option.map_some]
  rw [Sem.run_bind, h3, hp]
  rfl
theorem run_sliceArrA {t e : TypeId} {n : Nat} {agg : Bool} {sz bytes : Nat} {z : Value} (hu : P.underlying t = some (.array n e)) (hT : TyIs P e agg sz z bytes) (ad : Addr) (w : World) : (Instr.sliceAt t (.pointer (some ad)) none none none).run P w = .ok (.slice (some ad) n n) w := by
  have hs := hT.size w
  unfold Instr.sliceAt
  simp only [Sem.run_bind, run_underlying hu, Result.andThen]
  simp [Instr.sureAddr, Instr.sliceBounds, hs, Sem.run_bind, Result.andThen, add_zero]
/-- An array's bytes, as a slice that is only read. -/
theorem r_sliceArr {g i off m : Nat} {e : TypeId} {agg : Bool} {sz bytes : Nat} {zz : SV} [hu : UD P T (.array m e)] [hT : TyA P e agg sz zz bytes] (hx : ev env x = some (vp i ⟨g, off, none⟩) := by rfl) : Reads P ⟨dst, .slice T x none none none, ty, pos, af, gd⟩ env n B L (vsl i (some ⟨g, off, none⟩) m m) := fun a w ht _ => by
  have h1 : a.eval x = .pointer (some ⟨g, off, none⟩) := ev_sound ht hx
  unfold execOp
  simp only [h1, Option.map_none]
  rw [Sem.run_bind, run_sliceArrA hu.is hT.is _ w]
  rfl
theorem r_sliceArrE {i j off m sz' : Nat} {ad : Addr} {e : TypeId} {agg : Bool} {sz bytes : Nat} {zz : SV} [hu : UD P T (.array m e)] [hT : TyA P e agg sz zz bytes] (hx : ev env x = some (.s (.one (.el i ad sz' j off))) := by rfl) : Reads P ⟨dst, .slice T x none none none, ty, pos, af, gd⟩ env n B L (vsl i (some ((ad.add (j * sz')).add off)) m m) := fun a w ht _ => by
  have h1 : a.eval x = .pointer (some ((ad.add (j * sz')).add off)) := ev_sound ht hx
  unfold execOp
  simp only [h1, Option.map_none]
  rw [Sem.run_bind, run_sliceArrA hu.is hT.is _ w]
  rfl
theorem convStr_of {i m c : Nat} {A : Option Addr} {e : TypeId} {bs : List UInt8} [h1 : UD P T (.slice e)] [h2 : UD P e (.int .u8)] [h3 : UD P T' .string] (hx : ev env x = some (vsl i A m c)) (hm : m = bs.length) (hr : ∀ w, Facts B L w → RdS w A (bcells bs)) : Reads P ⟨dst, .convert T T' x, ty, pos, af, gd⟩ env n B L (vs (ba bs)) := fun a w ht hf => by
  subst hm
  have h4 : a.eval x = .slice A bs.length c := ev_sound ht hx
  unfold execOp
  simp only [h4]
  rw [Sem.run_bind, run_convStr h1.is h2.is h3.is (hr w hf)]
  rfl
/-- string(h[:]) -/
theorem r_convStrV {i g off : Nat} {e' e : TypeId} {as : List At} {h : Hash} [h1 : UD P T (.slice e)] [h2 : UD P e (.int .u8)] [h3 : UD P T' .string] (hx : ev env x = some (vsl i (some ⟨g, off, none⟩) 32 32) := by rfl) (hr : lk2 B L i = some (Res.va g e' as) := by rfl) (hc : cutAt as off 32 = some [.hash h] := by rfl) : Reads P ⟨dst, .convert T T' x, ty, pos, af, gd⟩ env n B L (vs (ba h.toList)) :=
  convStr_of hx (by simp) fun w hf => .inr ⟨_, rfl, by
    have := (va_cells (hf i _ hr)).cut hc
    rw [add_lit0, Nat.zero_add] at this
    show CellsAt w _ (bcells h.toList)
    rw [← hcells_eq, ← cells_hval, ← flat_single]
    exact this⟩
theorem r_convStrE {α : Type} {i j off sz' : Nat} {ad : Addr} {R : Res} {E : En α} {l : List α} {u : α} {e : TypeId} {h : Hash} [h1 : UD P T (.slice e)] [h2 : UD P e (.int .u8)] [h3 : UD P T' .string] (hx : ev env x = some (vsl i (some ((ad.add (j * sz')).add off)) 32 32) := by rfl) (hr : lk2 B L i = some R := by rfl) (hro : RowEl R ad E l j u := by first | exact RowEl.mkV (by assumption) (View.row (by assumption)) (by assumption) | exact RowEl.mk' (rowOf_rows) (by assumption) (by assumption) | exact RowEl.mk' (rowOf_rd) (by assumption) (by assumption) | (refine RowEl.mk' (rowOf_tail rowOf_rd ?_ ?_) (by assumption) (by assumption) <;> omega) | exact RowEl.mk' (rowOf_take rowOf_rd) (by assumption) (by assumption) | (refine RowEl.mk' (rowOf_tail rowOf_rows ?_ ?_) (by assumption) (by assumption) <;> omega) | exact RowEl.mk' (rowOf_take rowOf_rows) (by assumption) (by assumption)) (hs : sz' = E.sz := by rfl) (hc : cutAt (E.f u).ats off 32 = some [.hash h] := by rfl) : Reads P ⟨dst, .convert T T' x, ty, pos, af, gd⟩ env n B L (vs (ba h.toList)) := by
  obtain ⟨A, hro, rfl, hj⟩ := hro.ex
  subst hs
  refine convStr_of hx (by simp) fun w hf => ?_
  have hl : j < l.length := (List.getElem?_eq_some_iff.1 hj).1
  obtain ⟨ad', e1, hcs⟩ := rds_some (hro.is w (hf i _ hr)) (by omega)
  injection e1 with e1
  subst e1
  refine .inr ⟨_, rfl, ?_⟩
  have := (rds_elem hcs hj).cut hc
  rw [← hcells_eq, ← cells_hval, ← flat_single]
  exact this
/-- string(b), b a slice of bytes. -/
theorem r_convStr {i m c : Nat} {A : Option Addr} {R : Res} {e : TypeId} {bs : List UInt8} [h1 : UD P T (.slice e)] [h2 : UD P e (.int .u8)] [h3 : UD P T' .string] (hx : ev env x = some (vsl i A m c) := by rfl) (hr : lk2 B L i = some R := by rfl) (hro : RowM R A m byteEn bs := by first | exact ⟨View.row (by assumption), by first | rfl | assumption | omega⟩ | exact ⟨rowOf_rows, by first | rfl | assumption | (simp only [List.length_drop, List.length_take, List.length_append, List.length_cons, List.length_nil]; done) | (simp only [List.length_drop, List.length_take, List.length_append, List.length_cons, List.length_nil]; omega) | omega⟩ | exact ⟨rowOf_rd, by first | rfl | assumption | (simp only [List.length_drop, List.length_take, List.length_append, List.length_cons, List.length_nil]; done) | (simp only [List.length_drop, List.length_take, List.length_append, List.length_cons, List.length_nil]; omega) | omega⟩ | exact ⟨rowOf_tail rowOf_rd (by omega) (by omega), by first | rfl | assumption | (simp only [List.length_drop, List.length_take, List.length_append, List.length_cons, List.length_nil]; done) | (simp only [List.length_drop, List.length_take, List.length_append, List.length_cons, List.length_nil]; omega) | omega⟩ | exact rowM_take rowOf_rd (by omega) | exact rowM_take (rowOf_tail rowOf_rd (by omega) (by omega)) (by first | omega | (simp only [List.length_drop]; omega)) | exact ⟨rowOf_tail rowOf_rows (by omega) (by omega), by first | rfl | assumption | (simp only [List.length_drop, List.length_take, List.length_append, List.length_cons, List.length_nil]; done) | (simp only [List.length_drop, List.length_take, List.length_append, List.length_cons, List.length_nil]; omega) | omega⟩ | exact rowM_take rowOf_rows (by omega) | exact rowM_take (rowOf_tail rowOf_rows (by omega) (by omega)) (by first | omega | (simp only [List.length_drop]; omega))) : Reads P ⟨dst, .convert T T' x, ty, pos, af, gd⟩ env n B L (vs (ba bs)) :=
  convStr_of hx hro.len fun w hf => by
    rw [← dens_byte]
    exact hro.is.is w (hf i _ hr)
/-! ### against nil -/
theorem eqGuard_nil {o : BinOp} {u v : Value} (w : World) (h : (∀ c, u ≠ .agg c) ∧ (u ≠ .nilIface ∨ v ≠ .nilIface)) : (eqGuard o T x y u v).run P w = .ok () w := by
  unfold eqGuard
  obtain ⟨h1, h2⟩ := h
  cases o <;> cases u <;> cases v <;> simp_all
theorem run_eqNil {d1 : TypeDesc} (hu : P.underlying T = some d1) {u v : Value} {b : Bool} (w : World) (h : ∀ d, (Op.equalIn (d + 1) T u v).run P w = .ok b w) : (Op.equal T u v).run P w = .ok b w := h 9999
theorem run_equalPtr {e : TypeId} (hu : P.underlying T = some (.pointer e)) (p : Option Addr) (w : World) : (Op.equal T (.pointer p) (.pointer none)).run P w = .ok p.isNone w := run_eqNil hu w fun d => by
  cases p <;> simp [Op.equalIn, run_underlying hu, Sem.run_bind, Result.andThen]
theorem run_equalSl {e : TypeId} (hu : P.underlying T = some (.slice e)) (p : Option Addr) (k c : Nat) (w : World) : (Op.equal T (.slice p k c) (.slice none 0 0)).run P w = .ok p.isNone w := run_eqNil hu w fun d => by
  cases p <;> simp [Op.equalIn, run_underlying hu, Sem.run_bind, Result.andThen]
def isNilP : PV → Option Bool
  | .pn => some true
  | .ptr _ _ => some false
  | .el _ _ _ _ _ => some false
  | _ => none
theorem r_eqNilP {p : PV} {e : TypeId} {b : Bool} [hu : UD P T (.pointer e)] (hx : ev env x = some (.s (.one p)) := by rfl) (hy : ev env y = some (.s (.one .pn)) := by rfl) (hb : isNilP p = some b := by rfl) : Reads P ⟨dst, .binOp .eql T x y T', ty, pos, af, gd⟩ env n B L (vb b) := fun a w ht _ => by
  have h1 : a.eval x = p.den := ev_sound ht hx
  have h2 : a.eval y = .pointer none := ev_sound ht hy
  obtain ⟨q, hq, rfl⟩ : ∃ q : Option Addr, p.den = .pointer q ∧ b = q.isNone := by
    cases p <;> first | (cases hb; done) | (injection hb with hb; subst hb; exact ⟨_, rfl, rfl⟩)
  unfold execOp
  simp only [h1, h2, hq]
  rw [Sem.run_bind, Sem.run_bind, eqGuard_nil w (by simp), Result.andThen_ok]
  simp only [binOp, Sem.run_bind, run_equalPtr hu.is]
  rfl
theorem r_neNilP {p : PV} {e : TypeId} {b : Bool} [hu : UD P T (.pointer e)] (hx : ev env x = some (.s (.one p)) := by rfl) (hy : ev env y = some (.s (.one .pn)) := by rfl) (hb : isNilP p = some b := by rfl) : Reads P ⟨dst, .binOp .neq T x y T', ty, pos, af, gd⟩ env n B L (vb (!b)) := fun a w ht _ => by
  have h1 : a.eval x = p.den := ev_sound ht hx
  have h2 : a.eval y = .pointer none := ev_sound ht hy
  obtain ⟨q, hq, rfl⟩ : ∃ q : Option Addr, p.den = .pointer q ∧ b = q.isNone := by
    cases p <;> first | (cases hb; done) | (injection hb with hb; subst hb; exact ⟨_, rfl, rfl⟩)
  unfold execOp
  simp only [h1, h2, hq]
  rw [Sem.run_bind, Sem.run_bind, eqGuard_nil w (by simp), Result.andThen_ok]
  simp only [binOp, Sem.run_bind, run_equalPtr hu.is]
  rfl
theorem r_eqNilM {p : PV} {kt e : TypeId} {b : Bool} [hu : UD P T (.map kt e)] (hx : ev env x = some (.s (.one p)) := by rfl) (hy : ev env y = some (.s (.one .mn)) := by rfl) (hb : (match p with | .mn => some true | .mp _ _ => some false | _ => none) = some b := by rfl) : Reads P ⟨dst, .binOp .eql T x y T', ty, pos, af, gd⟩ env n B L (vb b) := fun a w ht _ => by
  have h1 : a.eval x = p.den := ev_sound ht hx
  have h2 : a.eval y = .map none := ev_sound ht hy
  obtain ⟨q, hq, rfl⟩ : ∃ q : Option Nat, p.den = .map q ∧ b = q.isNone := by
    cases p <;> first | (cases hb; done) | (injection hb with hb; subst hb; exact ⟨_, rfl, rfl⟩)
  unfold execOp
  simp only [h1, h2, hq]
  rw [Sem.run_bind, Sem.run_bind, eqGuard_nil w (by simp), Result.andThen_ok, run_eqMap hu.is]
  rfl
theorem r_neNilM {p : PV} {kt e : TypeId} {b : Bool} [hu : UD P T (.map kt e)] (hx : ev env x = some (.s (.one p)) := by rfl) (hy : ev env y = some (.s (.one .mn)) := by rfl) (hb : (match p with | .mn => some true | .mp _ _ => some false | _ => none) = some b := by rfl) : Reads P ⟨dst, .binOp .neq T x y T', ty, pos, af, gd⟩ env n B L (vb (!b)) := fun a w ht _ => by
  have h1 : a.eval x = p.den := ev_sound ht hx
  have h2 : a.eval y = .map none := ev_sound ht hy
  obtain ⟨q, hq, rfl⟩ : ∃ q : Option Nat, p.den = .map q ∧ b = q.isNone := by
    cases p <;> first | (cases hb; done) | (injection hb with hb; subst hb; exact ⟨_, rfl, rfl⟩)
  unfold execOp
  simp only [h1, h2, hq]
  rw [Sem.run_bind, Sem.run_bind, eqGuard_nil w (by simp), Result.andThen_ok, run_neMap hu.is]
  cases q <;> rfl
end
/-! ### several resources as one -/
def Res.bag (rs : List Res) : Res := ⟨fun b => ∃ r ∈ rs, r.fp b, fun w => (∀ r ∈ rs, r.holds w) ∧ rs.Pairwise dis, fun w h b hb => by
  obtain ⟨r, hr, hb⟩ := hb
  exact r.bound w (h.1 r hr) b hb, fun w w' hb h => ⟨fun r hr => r.stable w w' (fun b hb' => hb b ⟨r, hr, hb'⟩) (h.1 r hr), h.2⟩⟩
theorem St.bag {w0 w : World} {M : Nat → Prop} {rs L : List Res} (h : St w0 w M (rs ++ L)) : St w0 w M (Res.bag rs :: L) := by
  obtain ⟨d1, d2, d3⟩ := List.pairwise_append.1 h.dis
  refine ⟨h.os, h.tape, h.output, h.drawn, h.size, h.keep, fun r hr => ?_, List.pairwise_cons.2 ⟨fun s hs b hb hb' => ?_, d2⟩, fun r hr b hb => ?_⟩
  · rcases List.mem_cons.1 hr with rfl | hr
    · exact ⟨fun r hr => h.res r (List.mem_append_left _ hr), d1⟩
    · exact h.res r (List.mem_append_right _ hr)
  · obtain ⟨r, hr, hb⟩ := hb
    exact d3 r hr s hs b hb hb'
  · rcases List.mem_cons.1 hr with rfl | hr
    · obtain ⟨q, hq, hb⟩ := hb
      exact h.own q (List.mem_append_left _ hq) b hb
    · exact h.own r (List.mem_append_right _ hr) b hb
theorem St.unbag {w0 w : World} {M : Nat → Prop} {rs L : List Res} (h : St w0 w M (Res.bag rs :: L)) : St w0 w M (rs ++ L) := by
  have hd := List.pairwise_cons.1 h.dis
  have hb := h.res _ (List.mem_cons_self ..)
  refine ⟨h.os, h.tape, h.output, h.drawn, h.size, h.keep, fun r hr => ?_, List.pairwise_append.2 ⟨hb.2, hd.2, fun r hr s hs b hb' hb2 => hd.1 s hs b ⟨r, hr, hb'⟩ hb2⟩, fun r hr b hb' => ?_⟩
  · rcases List.mem_append.1 hr with hr | hr
    · exact hb.1 r hr
    · exact h.res r (List.mem_cons_of_mem _ hr)
  · rcases List.mem_append.1 hr with hr | hr
    · exact h.own _ (List.mem_cons_self ..) b ⟨r, hr, hb'⟩
    · exact h.own r (List.mem_cons_of_mem _ hr) b hb'
end HL
end Go.Proofs.YtonbgcehgmpnkaaGreat
/- Small facts of lists that walks end with. My own text; it names no program. -/

set_option linter.unusedVariables false
set_option linter.unusedSimpArgs false
namespace Go.Proofs.YtonbgcehgmpnkaaGreat
namespace HL
open Go Go.RowKit
theorem opt_eq {α : Type} {a : Option α} {x y : α} (h1 : a = some x) (h2 : a = some y) : x = y := by rw [h1] at h2; injection h2
theorem take_get {α : Type} {l : List α} {k : Nat} {x : α} (h : l[k]? = some x) : l.take (k + 1) = l.take k ++ [x] := by
  obtain ⟨hk, rfl⟩ := List.getElem?_eq_some_iff.1 h
  exact List.take_succ_eq_append_getElem hk
theorem all_take {α : Type} {p : α → Prop} {l : List α} {k : Nat} {x : α} (hx : l[k]? = some x) (h : ∀ y ∈ l.take k, p y) (h1 : p x) : ∀ y ∈ l.take (k + 1), p y := by
  rw [take_get hx]
  intro y hy
  rcases List.mem_append.1 hy with hy | hy
  · exact h y hy
  · rw [List.mem_singleton.1 hy]; exact h1
theorem take_all {α : Type} {l : List α} {k : Nat} (h : ¬ ((k : Nat) : Int) < (l.length : Int)) : l.take k = l := List.take_of_length_le (by omega)
theorem find_at {α : Type} {p : α → Bool} {l : List α} {k : Nat} {x : α} (hx : l[k]? = some x) (h : ∀ y ∈ l.take k, ¬ p y = true) (h1 : p x = true) : l.find? p = some x := by
  obtain ⟨hk, rfl⟩ := List.getElem?_eq_some_iff.1 hx
  conv => lhs; rw [← List.take_append_drop k l]
  rw [List.find?_append, List.find?_eq_none.2 h, List.drop_eq_getElem_cons hk, List.find?_cons, h1]
  rfl
theorem find_no {α : Type} {p : α → Bool} {l : List α} (h : ∀ y ∈ l, ¬ p y = true) : l.find? p = none := List.find?_eq_none.2 h
theorem drop_get {α : Type} {l : List α} {k : Nat} {x : α} (h : l[k]? = some x) : l.drop k = x :: l.drop (k + 1) := by
  obtain ⟨hk, rfl⟩ := List.getElem?_eq_some_iff.1 h
  exact List.drop_eq_getElem_cons hk
end HL
end Go.Proofs.YtonbgcehgmpnkaaGreat
/- SYMBOLIC STATES: maps, and going through one. My own text; it names no program. -/


set_option linter.unusedVariables false
set_option linter.unusedSimpArgs false
set_option linter.unusedSectionVars false
namespace Go.Proofs.YtonbgcehgmpnkaaGreat
namespace HL
open Go Go.RowKit
abbrev vm (id g : Nat) : TV := .s (.one (.mp id g))
section
variable {κ ν : Type} [DecidableEq κ]
/-- Keys that a map tells apart. -/
structure KeyOk (P : Program) (kt : TypeId) (kenc : κ → Value) : Prop where
  chk : ∀ (em : Bool) (k : κ) (w : World), (Instr.checkKey em 10000 kt (kenc k)).run P w = .ok () w
  find : ∀ {ν : Type} (venc : ν → Value) (k : κ) (w : World) (l : List (κ × ν × Nat)), (Instr.findKey kt (kenc k) (l.map (ment kenc venc))).run P w = .ok ((l.findIdx? (fun x => x.1 = k)).bind fun j => (l[j]?).map fun x => (j, venc x.2.1)) w
  stays : ∀ k w, (Instr.keyThatStays (kenc k) (kenc k)).run P w = .ok (kenc k) w
theorem KeyTy.ok {P : Program} {kt : TypeId} {kenc : κ → Value} {n : Nat} (H : KeyTy P kt kenc n) : KeyOk P kt kenc := ⟨fun em k w => H.eq.chk 10000 H.le em k w, fun venc k w l => run_findKey H k w l, fun k w => by
  unfold Instr.keyThatStays
  simp only [H.same k, if_true, Sem.run_pure]⟩
variable {P : Program} {kt et T : TypeId} {kenc : κ → Value} {venc : ν → Value} {l : List (κ × ν × Nat)} {g c : Nat} {w : World}
theorem lookupK (H : KeyOk P kt kenc) (hT : P.underlying T = some (.map kt et)) (hb : w.heap[g]? = some (mobj kenc venc l c)) {agg : Bool} {sz bytes : Nat} {z : Value} (hz : TyIs P et agg sz z bytes) (k : κ) (ok : Bool) :
    (Instr.lookup T (.map (some g)) (kenc k) ok).run P w = .ok (if ok then .tuple #[((mlook l k).map venc).getD z, .bool (mhas l k)] else ((mlook l k).map venc).getD z) w := by
  have hg : (getObj g).run P w = .ok (mobj kenc venc l c) w := by simp [getObj, Sem.run, hb, mobj]
  unfold Instr.lookup
  simp only [Sem.run_bind, run_underlying hT, Result.andThen_ok, hg, mobj, Sem.run_pure, H.chk _ k w, H.find venc k w l]
  cases hm : mlook l k with
  | none =>
    rw [idx_none hm]
    simp only [Option.bind_none, Sem.run_bind, hz.zero w, Result.andThen_ok, Sem.run_pure, Option.map_none, Option.getD_none, mhas, hm, Option.isSome_none]
  | some v =>
    obtain ⟨j, b, h1, h2⟩ := idx_some hm
    simp only [h1, Option.bind_some, h2, Option.map_some, Sem.run_bind, Result.andThen_ok, Sem.run_pure, Option.getD_some, mhas, hm, Option.isSome_some]
theorem lookupK_nil (H : KeyOk P kt kenc) (hT : P.underlying T = some (.map kt et)) {agg : Bool} {sz bytes : Nat} {z : Value} (hz : TyIs P et agg sz z bytes) (k : κ) (ok : Bool) (w : World) :
    (Instr.lookup T (.map none) (kenc k) ok).run P w = .ok (if ok then .tuple #[z, .bool false] else z) w := by
  have h0 := H.find (ν := Nat) (fun _ => undef) k w []
  simp only [List.map_nil, List.findIdx?_nil, Option.bind_none] at h0
  unfold Instr.lookup
  simp only [Sem.run_bind, run_underlying hT, Result.andThen_ok, Sem.run_pure, H.chk _ k w, h0, hz.zero w]
theorem updateK (H : KeyOk P kt kenc) (hT : P.underlying T = some (.map kt et)) (hb : w.heap[g]? = some (mobj kenc venc l c)) (k : κ) (v : ν) :
    (Instr.mapUpdate T (.map (some g)) (kenc k) (venc v)).run P w = .ok () { w with heap := w.heap.setIfInBounds g (mobj kenc venc (mput l c k v) (mclk l c k)) } := by
  have hg : (getObj g).run P w = .ok (mobj kenc venc l c) w := by simp [getObj, Sem.run, hb, mobj]
  have hs : ∀ o, (setObj g o).run P w = .ok () { w with heap := w.heap.setIfInBounds g o } := fun o => by simp [setObj, Sem.run, hb, mobj]
  unfold Instr.mapUpdate
  simp only [Sem.run_bind, run_underlying hT, Result.andThen_ok, hg, mobj, H.chk _ k w, H.find venc k w l]
  cases hm : mlook l k with
  | none =>
    rw [idx_none hm]
    simp only [Option.bind_none, hs]
    have e1 : mput l c k v = l ++ [(k, v, c)] := by simp [mput, mhas, hm]
    have e2 : mclk l c k = c + 1 := by simp [mclk, mhas, hm]
    rw [e1, e2]
    simp [ment]
  | some u =>
    obtain ⟨j, b, h1, h2⟩ := idx_some hm
    have e1 : mput l c k v = l.set j (k, v, b) := by simp only [mput, mhas, hm, Option.isSome_some, if_true]; exact mset_at v h1 h2
    have e2 : mclk l c k = c := by simp [mclk, mhas, hm]
    have h3 : (l.map (ment kenc venc))[j]? = some (ment kenc venc (k, u, b)) := by rw [List.getElem?_map, h2]; rfl
    simp only [h1, Option.bind_some, h2, Option.map_some, Sem.run_bind, List.getElem?_toArray, h3, Option.getD_some]
    have hk : (Instr.keyThatStays (ment kenc venc (k, u, b)).key (kenc k)).run P w = .ok (kenc k) w := H.stays k w
    simp only [hk, Result.andThen_ok, hs, modify_set _ _ _ _ h3]
    rw [e1, e2, List.map_set]
    rfl
end
/-! ### the rules -/
section
variable {κ ν : Type} [DecidableEq κ]
variable {P : Program} {env : Env} {D : List Deferred} {n : Nat} {w0 : World} {M : Nat → Prop} {B L : Hp}
variable {dst : Option Tmp} {d : Nat} {ty : TypeId} {pos : String} {af : Array Edge} {gd : Option (Nat × Bool)} {x y z : Operand} {T T' : TypeId}
def kdn {κ : Type} (Ek : En κ) : κ → Value := fun k => (Ek.f k).den
def Res.mp (g : Nat) (Ek : En κ) (Ev : En ν) (l : List (κ × ν × Nat)) (c : Nat) : Res := Res.map g (kdn Ek) (kdn Ev) l c
/-- A resource that has a map in it. -/
structure MapOf (R : Res) (g : Nat) (Ek : En κ) (Ev : En ν) (l : List (κ × ν × Nat)) (c : Nat) : Prop where
  m : ∀ w, R.holds w → w.heap[g]? = some (mobj (kdn Ek) (kdn Ev) l c)
theorem mapOf_mp {g c : Nat} {Ek : En κ} {Ev : En ν} {l : List (κ × ν × Nat)} : MapOf (Res.mp g Ek Ev l c) g Ek Ev l c := ⟨fun _ h => by unfold Res.mp at h; exact map_heap h⟩
class KeyT (P : Program) (kt : TypeId) {κ : outParam Type} [DecidableEq κ] (Ek : outParam (En κ)) : Prop where
  ok : KeyOk P kt (kdn Ek)
class ZeroOf {ν : Type} (Ev : En ν) (zv : outParam ν) (z : outParam SV) : Prop where
  is : (Ev.f zv).den = z.den
instance : ZeroOf boolEn false (.one (.b false)) := ⟨rfl⟩
instance {k : IntKind} : ZeroOf (intEn k) 0 (.one (.i k 0)) := ⟨rfl⟩
instance : ZeroOf strEn ⟨#[]⟩ (.one (.s ⟨#[]⟩)) := ⟨rfl⟩
instance : ZeroOf hashEn hz (.agg [.hash hz]) := ⟨rfl⟩
instance (priority := low) {P : Program} {kt : TypeId} [h : HashT P kt] : KeyT P kt hashEn := ⟨h.key.ok⟩
theorem getD_map {Ev : En ν} {zv : ν} {z : SV} (h : (Ev.f zv).den = z.den) (o : Option ν) : (o.map (kdn Ev)).getD z.den = (Ev.f (o.getD zv)).den := by
  cases o
  · exact h.symm
  · rfl
theorem r_lookup1 {kt et : TypeId} {i g c : Nat} {R : Res} {Ek : En κ} {Ev : En ν} {l : List (κ × ν × Nat)} {k : κ} {zv : ν} {agg : Bool} {sz bytes : Nat} {zz : SV} [hu : UD P T (.map kt et)] [hk : KeyT P kt Ek] [hT : TyA P et agg sz zz bytes]
    (hx : ev env x = some (vm i g) := by rfl) (hR : lk2 B L i = some R := by rfl) (hm : MapOf R g Ek Ev l c := by first | exact mapOf_mp | assumption) (hy : ev env y = some (.s (Ek.f k)) := by rfl) (hzv : ZeroOf Ev zv zz := by infer_instance) :
    Reads P ⟨dst, .lookup T x y false, ty, pos, af, gd⟩ env n B L (.s (Ev.f ((mlook l k).getD zv))) := fun a w ht hf => by
  have h1 : a.eval x = .map (some g) := ev_sound ht hx
  have h2 : a.eval y = kdn Ek k := ev_sound ht hy
  unfold execOp
  simp only [h1, h2]
  have := lookupK hk.ok hu.is (hm.m w (hf i _ hR)) hT.is k false
  simp only [Bool.false_eq_true, if_false, getD_map hzv.is] at this
  simp [Sem.run_bind, this]
  rfl
theorem r_lookup2 {kt et : TypeId} {i g c : Nat} {R : Res} {Ek : En κ} {Ev : En ν} {l : List (κ × ν × Nat)} {k : κ} {zv : ν} {agg : Bool} {sz bytes : Nat} {zz : SV} [hu : UD P T (.map kt et)] [hk : KeyT P kt Ek] [hT : TyA P et agg sz zz bytes]
    (hx : ev env x = some (vm i g) := by rfl) (hR : lk2 B L i = some R := by rfl) (hm : MapOf R g Ek Ev l c := by first | exact mapOf_mp | assumption) (hy : ev env y = some (.s (Ek.f k)) := by rfl) (hzv : ZeroOf Ev zv zz := by infer_instance) :
    Reads P ⟨dst, .lookup T x y true, ty, pos, af, gd⟩ env n B L (.tup [Ev.f ((mlook l k).getD zv), .one (.b (mhas l k))]) := fun a w ht hf => by
  have h1 : a.eval x = .map (some g) := ev_sound ht hx
  have h2 : a.eval y = kdn Ek k := ev_sound ht hy
  unfold execOp
  simp only [h1, h2]
  have := lookupK hk.ok hu.is (hm.m w (hf i _ hR)) hT.is k true
  simp only [if_true, getD_map hzv.is] at this
  simp [Sem.run_bind, this]
  rfl
theorem r_lookup1N {kt et : TypeId} {Ek : En κ} {k : κ} {agg : Bool} {sz bytes : Nat} {zz : SV} [hu : UD P T (.map kt et)] [hk : KeyT P kt Ek] [hT : TyA P et agg sz zz bytes]
    (hx : ev env x = some (.s (.one .mn)) := by rfl) (hy : ev env y = some (.s (Ek.f k)) := by rfl) :
    Reads P ⟨dst, .lookup T x y false, ty, pos, af, gd⟩ env n B L (.s zz) := fun a w ht hf => by
  have h1 : a.eval x = .map none := ev_sound ht hx
  have h2 : a.eval y = kdn Ek k := ev_sound ht hy
  unfold execOp
  simp only [h1, h2]
  have := lookupK_nil hk.ok hu.is hT.is k false w
  simp only [Bool.false_eq_true, if_false] at this
  simp [Sem.run_bind, this]
  rfl
theorem r_lookup2N {kt et : TypeId} {Ek : En κ} {k : κ} {agg : Bool} {sz bytes : Nat} {zz : SV} [hu : UD P T (.map kt et)] [hk : KeyT P kt Ek] [hT : TyA P et agg sz zz bytes]
    (hx : ev env x = some (.s (.one .mn)) := by rfl) (hy : ev env y = some (.s (Ek.f k)) := by rfl) :
    Reads P ⟨dst, .lookup T x y true, ty, pos, af, gd⟩ env n B L (.tup [zz, .one (.b false)]) := fun a w ht hf => by
  have h1 : a.eval x = .map none := ev_sound ht hx
  have h2 : a.eval y = kdn Ek k := ev_sound ht hy
  unfold execOp
  simp only [h1, h2]
  have := lookupK_nil hk.ok hu.is hT.is k true w
  simp only [if_true] at this
  simp [Sem.run_bind, this]
  rfl
theorem d_makeMap (Ek : En κ) (Ev : En ν) (hd : Nat.blt d n = true := by rfl) : Does P ⟨some d, .makeMap T none, ty, pos, af, gd⟩ env D n w0 M B L (fun g : Nat => (d, vm (10000 + d) g) :: env) (fun g => (10000 + d, Res.mp g Ek Ev [] 0) :: L) [10000 + d] :=
  ⟨fun a w K Q hs h => by
    unfold Oper.wp execOp
    have hr : (Instr.makeMap T none).run P w = .ok (.map (some w.heap.size)) (w.alloc (.map #[] 0)) := by simp [Sem.run_bind, run_makeMap]
    simp only [Option.map_none, Sem.run_bind, hr, Result.andThen_ok, Sem.run_pure]
    refine h w.heap.size _ _ ((hs.put (v := vm (10000 + d) w.heap.size) hd).to (live_new ?_))
    have := hs.st.alloc (.map #[] 0)
    unfold Res.mp Res.map mobj
    exact this, kp_one⟩
theorem d_mapUpdate {kt et : TypeId} {i g c : Nat} {Ek : En κ} {Ev : En ν} {l : List (κ × ν × Nat)} {k : κ} {v : ν} [hu : UD P T (.map kt et)] [hk : KeyT P kt Ek]
    (hx : ev env x = some (vm i g) := by rfl) (hR : lk L i = some (Res.mp g Ek Ev l c) := by rfl) (hy : ev env y = some (.s (Ek.f k)) := by rfl) (hz : ev env z = some (.s (Ev.f v)) := by rfl) :
    Does P ⟨none, .mapUpdate T x y z, ty, pos, af, gd⟩ env D n w0 M B L (fun _ : Unit => env) (fun _ => (i, Res.mp g Ek Ev (mput l c k v) (mclk l c k)) :: L) [i] :=
  ⟨fun a w K Q hs h => by
    have h1 : a.eval x = .map (some g) := ev_sound hs.tm hx
    have h2 : a.eval y = kdn Ek k := ev_sound hs.tm hy
    have h3 : a.eval z = kdn Ev v := ev_sound hs.tm hz
    have hst := live_front hs.st hR
    unfold Res.mp at hst
    have hrun := updateK (T := T) hk.ok hu.is (hst.map_get (i := 0) rfl) k v
    unfold Oper.wp execOp
    simp only [h1, h2, h3, Sem.run_bind]
    rw [hrun]
    refine h () _ _ ((hs.put0 undef).to ?_)
    rw [live_cons]
    unfold Res.mp
    exact hst.mapset (i := 0) rfl, kp_one⟩
/-! ### going through a map -/
structure MWf (l : List (κ × ν × Nat)) (c : Nat) : Prop where
  born : (l.map (·.2.2)).Nodup
  old : ∀ x ∈ l, x.2.2 < c
  keys : (l.map (·.1)).Nodup
theorem MWf.nil : MWf ([] : List (κ × ν × Nat)) 0 := ⟨List.nodup_nil, by simp, List.nodup_nil⟩
theorem mset_born (k : κ) (v : ν) : ∀ (l : List (κ × ν × Nat)), (mset l k v).map (·.2.2) = l.map (·.2.2)
  | [] => rfl
  | x :: l => by
    unfold mset
    split
    · rfl
    · simp [mset_born k v l]
theorem mset_keys (k : κ) (v : ν) : ∀ (l : List (κ × ν × Nat)), (mset l k v).map (·.1) = l.map (·.1)
  | [] => rfl
  | x :: l => by
    unfold mset
    split
    · rename_i h; simp [h]
    · simp [mset_keys k v l]
theorem mhas_keys {l : List (κ × ν × Nat)} {k : κ} : mhas l k = true ↔ k ∈ l.map (·.1) := by
  unfold mhas mlook
  rw [Option.isSome_map, List.find?_isSome]
  simp
theorem MWf.put {l : List (κ × ν × Nat)} {c : Nat} (h : MWf l c) (k : κ) (v : ν) : MWf (mput l c k v) (mclk l c k) := by
  unfold mput mclk
  cases hm : mhas l k with
  | true =>
    simp only [if_true]
    refine ⟨by rw [mset_born]; exact h.born, fun x hx => ?_, by rw [mset_keys]; exact h.keys⟩
    have : x.2.2 ∈ (mset l k v).map (·.2.2) := List.mem_map_of_mem hx
    rw [mset_born] at this
    obtain ⟨y, hy, e⟩ := List.mem_map.1 this
    rw [← e]
    exact h.old y hy
  | false =>
    simp only [Bool.false_eq_true, if_false]
    refine ⟨?_, fun x hx => ?_, ?_⟩
    · rw [List.map_append, List.nodup_append]
      refine ⟨h.born, by simp, fun a ha b hb => ?_⟩
      obtain ⟨y, hy, rfl⟩ := List.mem_map.1 ha
      simp at hb
      have := h.old y hy
      omega
    · rcases List.mem_append.1 hx with hx | hx
      · have := h.old x hx; omega
      · rw [List.mem_singleton.1 hx]; exact Nat.lt_succ_self c
    · rw [List.map_append, List.nodup_append]
      refine ⟨h.keys, by simp, fun a ha b hb => ?_⟩
      simp at hb
      rintro rfl
      subst hb
      rw [← mhas_keys] at ha
      rw [ha] at hm
      cases hm
theorem perm_same {α : Type} : ∀ {l m : List α}, l.Nodup → m.Nodup → (∀ x, x ∈ l ↔ x ∈ m) → l.Perm m
  | [], m, _, _, h => by
    cases m with
    | nil => exact .nil
    | cons x m => exact absurd ((h x).2 (List.mem_cons_self ..)) (by simp)
  | x :: l, m, hl, hm, h => by
    obtain ⟨s, t, rfl⟩ := List.append_of_mem ((h x).1 (List.mem_cons_self ..))
    refine .trans (.cons x (perm_same (m := s ++ t) (List.nodup_cons.1 hl).2 ?_ fun y => ?_)) List.perm_middle.symm
    · exact (List.nodup_cons.1 (List.perm_middle.nodup_iff.1 hm)).2
    · have h1 := (List.nodup_cons.1 hl).1
      have h2 := (List.nodup_cons.1 (List.perm_middle.nodup_iff.1 hm)).1
      have h3 := h y
      rw [List.perm_middle.mem_iff] at h3
      simp only [List.mem_cons] at h3
      constructor
      · intro hy
        rcases h3.1 (.inr hy) with rfl | h4
        · exact absurd hy h1
        · exact h4
      · intro hy
        rcases h3.2 (.inr hy) with rfl | h4
        · exact absurd hy h2
        · exact h4
theorem nodup_of_map {α β : Type} {f : α → β} {l : List α} (h : (l.map f).Nodup) : l.Nodup := by
  induction l with
  | nil => exact List.nodup_nil
  | cons x l ih =>
    rw [List.map_cons, List.nodup_cons] at h
    exact List.nodup_cons.2 ⟨fun hx => h.1 (List.mem_map_of_mem hx), ih h.2⟩
/-- A going through a map: i is the map's id, done what has come. -/
def Res.itr (i r g c : Nat) (done : List (κ × ν × Nat)) : Res := Res.blk r (.mapIter (some g) c (done.map (·.2.2)).toArray c)
theorem blk_heap {g : Nat} {o : Obj} {w : World} (h : (Res.blk g o).holds w) : w.heap[g]? = some o := by
  unfold Res.blk at h
  exact h
theorem holds_blk {g : Nat} {o : Obj} {w : World} (h : w.heap[g]? = some o) : (Res.blk g o).holds w := by
  unfold Res.blk
  exact h
theorem fp_blk {g : Nat} {o : Obj} {b : Nat} : (Res.blk g o).fp b ↔ b = g := by
  unfold Res.blk
  exact Iff.rfl
theorem itr_heap {i r g c : Nat} {done : List (κ × ν × Nat)} {w : World} (h : (Res.itr i r g c done).holds w) : w.heap[r]? = some (.mapIter (some g) c (done.map (·.2.2)).toArray c) := blk_heap h
def nextL (Ek : En κ) (Ev : En ν) : Option (κ × ν × Nat) → List SV
  | none => [.one (.b false)]
  | some e => [.one (.b true), Ek.f e.1, Ev.f e.2.1]
structure Nx (l done : List (κ × ν × Nat)) where
  o : Option (κ × ν × Nat)
  no : o = none → ∀ x ∈ l, x ∈ done
  yes : ∀ e, o = some e → e ∈ l ∧ e ∉ done
theorem d_range {kt et : TypeId} {i g c : Nat} {R : Res} {Ek : En κ} {Ev : En ν} {l : List (κ × ν × Nat)} [hu : UD P T (.map kt et)] (hd : Nat.blt d n = true := by rfl)
    (hx : ev env x = some (vm i g) := by rfl) (hR : lk2 B L i = some R := by rfl) (hm : MapOf R g Ek Ev l c := by first | exact mapOf_mp | assumption) :
    Does P ⟨some d, .range T x, ty, pos, af, gd⟩ env D n w0 M B L (fun r : Nat => (d, vp (10000 + d) ⟨r, 0, none⟩) :: env) (fun r => (10000 + d, Res.itr i r g c ([] : List (κ × ν × Nat))) :: L) [10000 + d] :=
  ⟨fun a w K Q hs h => by
    have h1 : a.eval x = .map (some g) := ev_sound hs.tm hx
    have hb := hm.m w (hs.facts i _ hR)
    have hr := run_range_map (P := P) w T kt et g _ _ hu.is hb
    unfold Oper.wp execOp
    simp only [h1, Sem.run_bind, hr, Result.andThen_ok, Sem.run_pure]
    refine h w.heap.size _ _ ((hs.put (v := vp (10000 + d) ⟨w.heap.size, 0, none⟩) hd).to (live_new ?_))
    exact hs.st.alloc (.mapIter (some g) c #[] c), kp_one⟩
theorem d_next {i j r g c : Nat} {R : Res} {Ek : En κ} {Ev : En ν} {l done : List (κ × ν × Nat)} (hx : ev env x = some (vp j ⟨r, 0, none⟩) := by rfl) (hj : lk L j = some (Res.itr i r g c done) := by rfl)
    (hR : lk2 B L i = some R := by rfl) (hm : MapOf R g Ek Ev l c := by first | exact mapOf_mp | assumption) (hw : MWf l c := by assumption) (hsub : ∀ e ∈ done, e ∈ l := by assumption) (hd : Nat.blt d n = true := by rfl) :
    Does P ⟨some d, .next x false, ty, pos, af, gd⟩ env D n w0 M B L (fun o : Nx l done => (d, .tup (nextL Ek Ev o.o)) :: env) (fun o => (j, Res.itr i r g c (done ++ o.o.toList)) :: L) [j] :=
  ⟨fun a w K Q hs h => by
    have h1 : a.eval x = .pointer (some ⟨r, 0, none⟩) := ev_sound hs.tm hx
    have hb := hm.m w (hs.facts i _ hR)
    have hst := live_front hs.st hj
    have hit : w.heap[r]? = some (.mapIter (some g) c (done.map (·.2.2)).toArray c) := itr_heap (hst.get (i := 0) rfl)
    have hseen : ∀ e : κ × ν × Nat, e ∈ l → (((done.map (·.2.2)).toArray.contains e.2.2) = true ↔ e ∈ done) := fun e he => by
      simp only [List.contains_toArray, List.contains_eq_mem, decide_eq_true_eq]
      constructor
      · intro h'
        obtain ⟨e', h2, h3⟩ := List.mem_map.1 h'
        have : e' = e := by
          obtain ⟨n1, hn1⟩ := List.getElem?_of_mem (hsub e' h2)
          obtain ⟨n2, hn2⟩ := List.getElem?_of_mem he
          have g1 : (l.map (·.2.2))[n1]? = some e.2.2 := by rw [List.getElem?_map, hn1]; exact congrArg some h3
          have g2 : (l.map (·.2.2))[n2]? = some e.2.2 := by rw [List.getElem?_map, hn2]; rfl
          have hlt := (List.getElem?_eq_some_iff.1 g1).1
          have : n1 = n2 := (List.getElem?_inj hlt hw.born).1 (g1.trans g2.symm)
          subst this
          rw [hn1] at hn2
          injection hn2
        exact this ▸ h2
      · exact fun h' => List.mem_map_of_mem h'
    unfold Oper.wp execOp
    simp only [h1, Sem.run_bind]
    rcases run_next_at (P := P) w ty r g c c _ _ c hit hb (fun e he => by
      obtain ⟨e', h2, rfl⟩ := List.mem_map.1 (show e ∈ l.map (ment (kdn Ek) (kdn Ev)) from he)
      exact hw.old e' h2) (Nat.le_refl _) with ⟨hz, hr⟩ | ⟨e, he, w1, hw1, hr⟩
    · rw [hr]
      simp only [Result.andThen_ok, Sem.run_pure]
      refine h ⟨none, fun _ e he => ?_, fun e he => by cases he⟩ _ _ ((hs.put (v := .tup (nextL Ek Ev none)) hd).to ?_)
      · rw [← hseen e he]
        have h0 : leftOf (l.map (ment (kdn Ek) (kdn Ev))).toArray (done.map (·.2.2)).toArray = #[] := Array.eq_empty_of_size_eq_zero hz
        unfold leftOf at h0
        rw [Array.filter_eq_empty_iff] at h0
        have := h0 (ment (kdn Ek) (kdn Ev) e) (by simp only [List.mem_toArray]; exact List.mem_map_of_mem he)
        simpa [ment] using this
      · rw [live_cons]
        simpa using hst
    · rw [hr]
      simp only [Result.andThen_ok, Sem.run_pure]
      unfold leftOf at he
      simp only [Array.toList_filter, List.mem_filter, List.mem_map] at he
      obtain ⟨⟨y, hy, rfl⟩, hns⟩ := he
      have hns' : y ∉ done := fun hyd => by
        have h2 := (hseen y hy).2 hyd
        have h3 : (ment (kdn Ek) (kdn Ev) y).born = y.2.2 := rfl
        rw [h3, h2] at hns
        cases hns
      refine h ⟨some y, fun h' => (by cases h'), fun e' he' => (by cases he'; exact ⟨hy, hns'⟩)⟩ _ _ ((hs.put (v := .tup (nextL Ek Ev (some y))) hd).to ?_)
      rw [live_cons]
      have hst1 : St w0 w1 M (Res.itr i r g c done :: live (del j L)) := by
        rcases hw1 with rfl | rfl
        · exact hst
        · exact hst.drew
      have e1 : (done.map (·.2.2)).toArray.push (ment (kdn Ek) (kdn Ev) y).born = ((done ++ [y]).map (·.2.2)).toArray := by simp [ment]
      rw [e1]
      have hit1 : w1.heap[r]? = some (.mapIter (some g) c (done.map (·.2.2)).toArray c) := itr_heap (hst1.get (i := 0) rfl)
      exact hst1.turn (i := 0) (r' := Res.itr i r g c (done ++ [y])) (w' := ChangeMaps.setBlock w1 r _) rfl rfl rfl rfl (by simp [ChangeMaps.setBlock]) (fun b hb' hn => Array.getElem?_setIfInBounds_ne (fun e => hn (fp_blk.2 e.symm))) (holds_blk (Array.getElem?_setIfInBounds_self_of_lt (lt_of_heap hit1))) (fun b hb' => .inl (fp_blk.2 (fp_blk.1 hb'))), kp_one⟩
theorem r_extractN {Ek : En κ} {Ev : En ν} {o : Option (κ × ν × Nat)} (hx : ev env x = some (.tup (nextL Ek Ev o)) := by rfl) : Reads P ⟨dst, .extract x 0, ty, pos, af, gd⟩ env n B L (vb o.isSome) := fun a w ht hf => by
  cases o <;> exact r_extract (l := nextL Ek Ev _) hx rfl a w ht hf
theorem r_entry {i j r g c : Nat} {R : Res} {Ek : En κ} {Ev : En ν} {l done : List (κ × ν × Nat)} {e : κ × ν × Nat} (hx : ev env x = some (vp j ⟨r, 0, none⟩) := by rfl) (hj : lk2 B L j = some (Res.itr i r g c (done ++ [e])) := by rfl)
    (hR : lk2 B L i = some R := by rfl) (hm : MapOf R g Ek Ev l c := by first | exact mapOf_mp | assumption) (hw : MWf l c := by assumption) (he : e ∈ l := by assumption) : Reads P ⟨dst, .entry x, ty, pos, af, gd⟩ env n B L (.tup [Ek.f e.1, Ev.f e.2.1]) := fun a w ht hf => by
  have h1 : a.eval x = .pointer (some ⟨r, 0, none⟩) := ev_sound ht hx
  have hb := hm.m w (hf i _ hR)
  have hit := itr_heap (hf j _ hj)
  have e1 : ((done ++ [e]).map (·.2.2)).toArray = (done.map (·.2.2)).toArray.push (ment (kdn Ek) (kdn Ev) e).born := by simp [ment]
  rw [e1] at hit
  have hr := run_entry_at (P := P) w r g c _ _ c (ment (kdn Ek) (kdn Ev) e) hit hb (by simpa using List.mem_map_of_mem he) (by
    have : (l.map (ment (kdn Ek) (kdn Ev))).toArray.toList.map (·.born) = l.map (·.2.2) := by simp [ment, Function.comp_def]
    rw [this]
    exact hw.born)
  unfold execOp
  simp only [h1, Sem.run_bind, hr, Result.andThen_ok]
  rfl
theorem l_next {ops : Array Oper} {rest : List Oper} {Q : Exit → Act → World → Prop} {i j r g c : Nat} {R : Res} {Ek : En κ} {Ev : En ν} {l done : List (κ × ν × Nat)}
    (h : ∀ o : Option (κ × ν × Nat), (o = none → ∀ x ∈ l, x ∈ done) → (∀ e, o = some e → e ∈ l ∧ e ∉ done) → Ho ((d, .tup (nextL Ek Ev o)) :: env) D n w0 M B ((j, Res.itr i r g c (done ++ o.toList)) :: L) (wpList P ops Q rest))
    (hx : ev env x = some (vp j ⟨r, 0, none⟩) := by rfl) (hj : lk L j = some (Res.itr i r g c done) := by rfl)
    (hR : lk2 B L i = some R := by rfl) (hm : MapOf R g Ek Ev l c := by first | exact mapOf_mp | assumption) (hw : MWf l c := by assumption) (hsub : ∀ e ∈ done, e ∈ l := by assumption) (hd : Nat.blt d n = true := by rfl) (hg : guarded ops env ⟨some d, .next x false, ty, pos, af, gd⟩ = some true := by rfl) :
    Ho env D n w0 M B L (wpList P ops Q (⟨some d, .next x false, ty, pos, af, gd⟩ :: rest)) :=
  l_do (d_next hx hj hR hm hw hsub hd) (fun o => h o.o o.no o.yes) hg
/-- Once all has come: what came is what is there. -/
theorem iter_perm {l done : List (κ × ν × Nat)} {c : Nat} (hw : MWf l c) (hsub : ∀ e ∈ done, e ∈ l) (hd : done.Nodup) (hall : ∀ x ∈ l, x ∈ done) : done.Perm l := perm_same hd (nodup_of_map hw.born) fun x => ⟨hsub x, hall x⟩
theorem iter_len {α : Type} {l done : List α} (hsub : ∀ e ∈ done, e ∈ l) (hd : done.Nodup) : done.length ≤ l.length := by
  induction done generalizing l with
  | nil => simp
  | cons x done ih =>
    obtain ⟨s, t, rfl⟩ := List.append_of_mem (hsub x (List.mem_cons_self ..))
    have hx := List.nodup_cons.1 hd
    have := ih (l := s ++ t) (fun e he => by
      have h1 := hsub e (List.mem_cons_of_mem _ he)
      simp only [List.mem_append, List.mem_cons] at h1 ⊢
      rcases h1 with h1 | rfl | h1
      · exact .inl h1
      · exact absurd he hx.1
      · exact .inr h1) hx.2
    simp only [List.length_append, List.length_cons] at this ⊢
    omega
theorem iter_snoc {α : Type} {l done : List α} {e : α} (hsub : ∀ e ∈ done, e ∈ l) (hd : done.Nodup) (he : e ∈ l) (hn : e ∉ done) : (∀ x ∈ done ++ [e], x ∈ l) ∧ (done ++ [e]).Nodup ∧ done.length + 1 ≤ l.length := by
  have h1 : ∀ x ∈ done ++ [e], x ∈ l := fun x hx => by
    rcases List.mem_append.1 hx with h | h
    · exact hsub x h
    · rw [List.mem_singleton.1 h]; exact he
  have h2 : (done ++ [e]).Nodup := by
    rw [List.nodup_append]
    refine ⟨hd, by simp, fun a ha b hb => ?_⟩
    rw [List.mem_singleton.1 hb]
    rintro rfl
    exact hn ha
  refine ⟨h1, h2, ?_⟩
  have := iter_len h1 h2
  simpa using this
/-- More that is borrowed: a part of what is there. -/
theorem k_part (i j : Nat) {R : Res} (r : Res) {K : Act → World → Prop} (hr : lk B i = some R := by rfl) (hv : View R r := by assumption) (h : Ho env D n w0 M ((j, r) :: B) L K) : Ho env D n w0 M B L K := fun a w hs =>
  h a w ⟨hs.tm, hs.df, hs.st, fun k q hq => by
    rw [lk_cons] at hq
    split at hq
    · injection hq with hq
      subst hq
      obtain ⟨h1, h2⟩ := hs.bo i R hr
      exact ⟨hv.h w h1, fun b hb => h2 b (hv.f b hb)⟩
    · exact hs.bo k q hq⟩
/-! ### flags, and more of strings -/
theorem eqGuard_bool (o : BinOp) (p q : Bool) (w : World) : (eqGuard o T x y (.bool p) (.bool q)).run P w = .ok () w := by
  unfold eqGuard
  cases o <;> simp
theorem r_boolOp {o : BinOp} {p q r : Bool} (hx : ev env x = some (vb p)) (hy : ev env y = some (vb q)) (h : ∀ w, (binOp o T (.bool p) (.bool q)).run P w = .ok (.bool r) w) : Reads P ⟨dst, .binOp o T x y T', ty, pos, af, gd⟩ env n B L (vb r) := fun a w ht _ => by
  unfold execOp
  have h1 : a.eval x = .bool p := ev_sound ht hx
  have h2 : a.eval y = .bool q := ev_sound ht hy
  simp only [h1, h2]
  rw [Sem.run_bind, Sem.run_bind, eqGuard_bool, Result.andThen_ok, h w]
  rfl
theorem r_eqB {p q : Bool} [hT : UD P T .bool] (hx : ev env x = some (vb p) := by rfl) (hy : ev env y = some (vb q) := by rfl) : Reads P ⟨dst, .binOp .eql T x y T', ty, pos, af, gd⟩ env n B L (vb (p == q)) := r_boolOp hx hy fun w => run_eql_bool w T p q hT.is
theorem r_neB {p q : Bool} [hT : UD P T .bool] (hx : ev env x = some (vb p) := by rfl) (hy : ev env y = some (vb q) := by rfl) : Reads P ⟨dst, .binOp .neq T x y T', ty, pos, af, gd⟩ env n B L (vb (!(p == q))) := r_boolOp hx hy fun w => run_neq_bool w T p q hT.is
theorem r_geqS {p q : ByteArray} (hx : ev env x = some (vs p) := by rfl) (hy : ev env y = some (vs q) := by rfl) : Reads P ⟨dst, .binOp .geq T x y T', ty, pos, af, gd⟩ env n B L (vb (!decide (bltS p q))) := r_strOp hx hy fun w => by simp only [binOp, Op.stringOp, toList_data, bytesLess_bcmp]; rfl
theorem cmp_or (x y : List UInt8) : (decide (bcmp x y < 0) || x == y) = !decide (bcmp y x < 0) := by
  rw [bcmp_swap x y]
  by_cases e : x = y
  · subst e
    simp [bcmp_refl]
  · have h1 : bcmp x y ≠ 0 := fun h => e (bcmp_eq h)
    have h2 : (x == y) = false := by simpa using e
    rw [h2, Bool.or_false]
    by_cases h : bcmp x y < 0
    · rw [decide_eq_true h, decide_eq_false (by omega)]
      rfl
    · rw [decide_eq_false h, decide_eq_true (by omega)]
      rfl
theorem r_gtrS {p q : ByteArray} (hx : ev env x = some (vs p) := by rfl) (hy : ev env y = some (vs q) := by rfl) : Reads P ⟨dst, .binOp .gtr T x y T', ty, pos, af, gd⟩ env n B L (vb (decide (bltS q p))) := r_strOp hx hy fun w => by
  simp only [binOp, Op.stringOp, toList_data, bytesLess_bcmp]
  rw [cmp_or, Bool.not_not]
  rfl
theorem r_leqS {p q : ByteArray} (hx : ev env x = some (vs p) := by rfl) (hy : ev env y = some (vs q) := by rfl) : Reads P ⟨dst, .binOp .leq T x y T', ty, pos, af, gd⟩ env n B L (vb (!decide (bltS q p))) := r_strOp hx hy fun w => by
  simp only [binOp, Op.stringOp, toList_data, bytesLess_bcmp]
  rw [cmp_or]
  rfl
end
end HL
end Go.Proofs.YtonbgcehgmpnkaaGreat
/- SYMBOLIC STATES: a range over a function: the iterator's side, the round's side, the statement. My own text; it names no program. -/





set_option linter.unusedVariables false
set_option linter.unusedSimpArgs false
set_option linter.unusedSectionVars false
namespace Go.Proofs.YtonbgcehgmpnkaaGreat
namespace HL
open Go Go.RowKit
/-- The fence that asks nothing, in a round or not. -/
abbrev FW (ro : Option Nat) : Fence := { fn := fun _ => True, depth := none, alive := false, round := ro }
def notDefer : Op → Bool
  | .defer _ => false
  | _ => true
section
variable {P : Program} {env : Env} {D : List Deferred} {n m : Nat} {w0 : World} {M : Nat → Prop} {B L : Hp} {ops : Array Oper} {rest : List Oper} {o : Oper} {Q : Exit → Act → World → Prop} {ro : Option Nat} {d : Nat}
theorem callsIn_free {f : FuncId} {args : Array Value} {w : World} {R : Ending → World → Prop} (h : Calls P f args w R) : CallsIn (FW ro) m P f args w R :=
  show CallsIn Fence.wide m P f args w R from callsIn_wide.2 h
theorem rowsIn_free {r : String} {args : Array Value} {w : World} {R : Value → World → Prop} (h : Rows P r args w R) : RowsIn (FW ro) m P r args w R :=
  show RowsIn Fence.wide m P r args w R from fun c cs _ => let ⟨v, w', r, s⟩ := h c cs; ⟨v, w', r, stepsIn_wide.2 s⟩
theorem upon_in {a : Act} {w : World} {K : Act → World → Prop} (hd : notDefer o.op = true) (h : o.wp P a w K Q) : o.wpIn (FW ro) m P a w K Q := by
  refine ⟨fun _ _ => trivial, ?_⟩
  rw [Oper.semAt_eq _ _ _ (fun c e => by rw [e] at hd; cases hd)]
  unfold Oper.wp at h
  generalize (execOp a.eval o).run P w = r at h
  cases r with
  | ok nx w' =>
    cases nx with
    | value v => exact h
    | skip => exact h
    | defer d => exact h
    | enter f args => exact ⟨fun e => (by cases e), callsIn_free h⟩
    | row r args => exact ⟨fun e => (by cases e), rowsIn_free h⟩
    | _ => exact h.elim
  | halt e w' =>
    cases e with
    | panic v => exact h
    | _ => exact h.elim
theorem i_rd {v : TV} {d : Nat} (hr : Reads P o env n B L v) (h : Ho ((d, v) :: env) D n w0 M B L (wpListIn (FW ro) m P ops Q rest)) (ho : o.dst = some d := by rfl) (hg : guarded ops env o = some true := by rfl) (hd : Nat.blt d n = true := by rfl) (hn : notDefer o.op = true := by rfl) : Ho env D n w0 M B L (wpListIn (FW ro) m P ops Q (o :: rest)) := fun a w hs => by
  have hr' := hr a w hs.tm hs.facts
  unfold wpListIn
  rw [if_pos (guarded_wanted hs.tm hg)]
  refine upon_in hn ?_
  unfold Oper.wp
  rw [hr']
  show wpListIn (FW ro) m P ops Q rest (a.put o.dst v.den) w
  rw [ho]
  exact h _ _ (hs.put hd)
theorem i_nil (h : Ho env D n w0 M B L (Q .normal)) : Ho env D n w0 M B L (wpListIn (FW ro) m P ops Q []) := h
/-- A region in which yield is called. -/
theorem c_regionY {id : Nat} {l : List Oper} (h : Ho env D n w0 M B L (wpListIn (FW none) 0 P l.toArray Q l)) : Ho env D n w0 M B L ((Code.region id l.toArray false).wp P Q) := fun a w hs => wpIn_wide.1 (wpIn_region_lit (F := Fence.wide) (n := 0) (h a w hs))
/-! ### yield, as an iterator meets it -/
/-- What old blocks are as they were. -/
structure Keep (w0 : World) (M : Nat → Prop) (w : World) : Prop where
  size : w0.heap.size ≤ w.heap.size
  keep : ∀ b, b < w0.heap.size → ¬ M b → w.heap[b]? = w0.heap[b]?
/-- yield (the loop's record: l): J: what stands there when these have come; G: what may come next. -/
def YSpec {α : Type} (P : Program) (l : Nat) (E : En α) (J : List α → Res → Prop) (G : List α → α → Prop) (w0 : World) (M : Nat → Prop) : Prop := ∀ m pre r x W, J pre r → G pre x → r.holds W → Keep w0 M W → (∀ b, r.fp b → M b ∨ w0.heap.size ≤ b) →
  YieldAt Fence.wide m P l #[(E.f x).den] W (Post (fun o L => o = .ret (vb true) ∧ ∃ r', J (pre ++ [x]) r' ∧ L = [r']) W r.fp)
theorem i_yield {α : Type} {l iy : Nat} {E : En α} {J : List α → Res → Prop} {G : List α → α → Prop} {pre : List α} {x : α} {r : Res} {y z : Operand} {tys : Array TypeId} {ty : TypeId} {pos : String} {af : Array Edge} {gd : Option (Nat × Bool)}
    (hY : YSpec P l E J G w0 M) (hJ : J pre r) (hG : G pre x) (h : ∀ r', J (pre ++ [x]) r' → Ho ((d, vb true) :: env) D n w0 M B ((iy, r') :: del iy L) (wpListIn (FW none) m P ops Q rest))
    (hy : ev env y = some (.s (.one (.yl l))) := by rfl) (hz : ev env z = some (.s (E.f x)) := by rfl) (hl : lk L iy = some r := by rfl) (hg : guarded ops env ⟨some d, .call { callee := .value y, args := #[z], argTypes := tys }, ty, pos, af, gd⟩ = some true := by rfl) (hd : Nat.blt d n = true := by rfl) :
    Ho env D n w0 M B L (wpListIn (FW none) m P ops Q (⟨some d, .call { callee := .value y, args := #[z], argTypes := tys }, ty, pos, af, gd⟩ :: rest)) := fun a w hs => by
  have h1 : a.eval y = .func (.yield l) #[] #[] := ev_sound hs.tm hy
  have h2 : a.eval z = (E.f x).den := ev_sound hs.tm hz
  have hst := live_front hs.st hl
  obtain ⟨fn, tmps, assign, body, hrun, hR⟩ := hY (m - 1) pre r x w hJ hG (hst.res _ (List.mem_cons_self ..)) ⟨hs.st.size, hs.st.keep⟩ (hst.own _ (List.mem_cons_self ..))
  unfold wpListIn
  rw [if_pos (guarded_wanted hs.tm hg)]
  refine ⟨fun _ _ => trivial, ?_⟩
  have hr : (Oper.semAt (FW none).round a.eval ⟨some d, .call { callee := .value y, args := #[z], argTypes := tys }, ty, pos, af, gd⟩).run P w = .ok (.round l fn tmps assign body) w := by
    rw [Oper.semAt_eq _ _ _ (fun c e => by cases e)]
    unfold execOp
    simp [resolve, h1, h2, Deferred.ofValue, Sem.run_bind, invoke, hrun]
  rw [hr]
  refine ⟨fun e => (by cases e), RoundIn.mono hR fun e w' ⟨out, Lr, he, ⟨ho, r', hJ', hL⟩, hst2⟩ => ?_⟩
  subst ho; subst hL; subst he
  have hst3 : St w0 w' M (r' :: live (del iy L)) := St.callN (Lc := [r]) (L2 := [r']) hst hst2 (fun b hb => ⟨r, List.mem_singleton.2 rfl, hb⟩)
  exact h r' hJ' _ _ ((hs.put (v := vb true) hd).to (live_new hst3))
/-! ### a round -/
variable {l : Nat}
theorem n_seq {x y : Code} (h : Ho env D n w0 M B L (x.wpIn (FW ro) m P (Exit.then (y.wpIn (FW ro) m P Q) Q))) : Ho env D n w0 M B L ((Code.seq x y).wpIn (FW ro) m P Q) := fun a w hs => wpIn_seq (h a w hs)
theorem n_block {id : Nat} {c : Code} (h : Ho env D n w0 M B L (c.wpIn (FW ro) m P (Exit.inBlock id Q))) : Ho env D n w0 M B L ((Code.block id c).wpIn (FW ro) m P Q) := fun a w hs => wpIn_block (h a w hs)
theorem n_skip (h : Ho env D n w0 M B L (Q .normal)) : Ho env D n w0 M B L (Code.skip.wpIn (FW ro) m P Q) := fun a w hs => wpIn_skip (h a w hs)
theorem n_if {c : Operand} {x y : Code} {t : Bool} (hc : ev env c = some (vb t) := by rfl) (h1 : t = true → Ho env D n w0 M B L (x.wpIn (FW ro) m P Q)) (h2 : t = false → Ho env D n w0 M B L (y.wpIn (FW ro) m P Q)) : Ho env D n w0 M B L ((Code.cond c x y).wpIn (FW ro) m P Q) := fun a w hs =>
  wpIn_cond_split (ev_sound hs.tm hc) (fun h => h1 h a w hs) (fun h => h2 h a w hs)
theorem n_true {c : Operand} {x y : Code} (hc : ev env c = some (vb true) := by rfl) (h : Ho env D n w0 M B L (x.wpIn (FW ro) m P Q)) : Ho env D n w0 M B L ((Code.cond c x y).wpIn (FW ro) m P Q) := fun a w hs => wpIn_cond_true (ev_sound hs.tm hc) (h a w hs)
theorem n_false {c : Operand} {x y : Code} (hc : ev env c = some (vb false) := by rfl) (h : Ho env D n w0 M B L (y.wpIn (FW ro) m P Q)) : Ho env D n w0 M B L ((Code.cond c x y).wpIn (FW ro) m P Q) := fun a w hs => wpIn_cond_false (ev_sound hs.tm hc) (h a w hs)
theorem wpIn_of_wpList (hq : ¬ LetsOut Q) : ∀ {l : List Oper} {a : Act} {w : World}, (l.all fun o => notDefer o.op) = true → wpList P ops Q l a w → wpListIn (FW ro) m P ops Q l a w
  | [], a, w, _, h => h
  | o :: l, a, w, hd, h => by
    rw [List.all_cons, Bool.and_eq_true] at hd
    unfold wpList at h
    unfold wpListIn
    split at h
    · rename_i hw
      rw [if_pos hw]
      rcases h with h | ⟨_, h⟩
      · refine upon_in hd.1 ?_
        unfold Oper.wp at h ⊢
        have ih := fun a w => wpIn_of_wpList hq (l := l) (a := a) (w := w) hd.2
        generalize (execOp a.eval o).run P w = r at h ⊢
        cases r with
        | ok nx w' =>
          cases nx with
          | value v => exact ih _ _ h
          | skip => exact ih _ _ h
          | defer d => exact ih _ _ h
          | enter f args =>
            refine Calls.mono h fun e w'' he => ?_
            cases e
            · exact ih _ _ he
            · exact he
            · exact he
          | row r args => exact Rows.mono h fun v w'' he => ih _ _ he
          | _ => exact h.elim
        | halt e w' =>
          cases e with
          | panic v => exact h
          | _ => exact h.elim
      · exact absurd h hq
    · rename_i hw
      rw [if_neg hw]
      exact ⟨fun _ _ => trivial, wpIn_of_wpList hq hd.2 h⟩
/-- A region of a round. -/
/- -/
theorem n_region {id : Nat} {l : List Oper} (hq : ¬ LetsOut Q) (h : Ho env D n w0 M B L (wpList P l.toArray Q l)) (hd : (l.all fun o => notDefer o.op) = true := by rfl) : Ho env D n w0 M B L ((Code.region id l.toArray false).wpIn (FW ro) m P Q) := fun a w hs => wpIn_region_lit (wpIn_of_wpList hq hd (h a w hs))
theorem lets_then {K : Act → World → Prop} (h : ¬ LetsOut Q) : ¬ LetsOut (Exit.then K Q) := fun ⟨a, w, e⟩ => h ⟨a, w, e⟩
theorem lets_in {id : Nat} (h : ¬ LetsOut Q) : ¬ LetsOut (Exit.inBlock id Q) := fun ⟨a, w, e⟩ => h ⟨a, w, e⟩
theorem lets_no {K : Act → World → Prop} : ¬ LetsOut (Exit.then K fun _ _ _ => False) := fun ⟨a, w, e⟩ => e
theorem lets_round {R : Ending → World → Prop} : ¬ LetsOut (roundPost P l R) := fun ⟨a, w, e⟩ => e
/-- A loop's record, and the block for the rounds' deferred calls. -/
def LoopR (l : Nat) (q : Loop) (st : LoopState) : Res := Res.blk l (.loop { q with state := st, pending := none })
def DefR (b : Nat) : Res := Res.blk b (.deferred (some []))
def Begins (P : Program) (l : Nat) (K : Act → World → Prop) : Act → World → Prop := fun a w => ∃ w2, (Instr.beginRound l).run P w = .ok () w2 ∧ K a w2
theorem k_begin {q : Loop} {K : Act → World → Prop} (hl : lk L 9000 = some (LoopR l q .ready) := by rfl) (h : Ho env D n w0 M B ((9000, LoopR l q .busy) :: del 9000 L) K) : Ho env D n w0 M B L (Begins P l K) := fun a w hs => by
  have hst := live_front hs.st hl
  have hb := blk_heap (hst.get (i := 0) rfl)
  refine ⟨_, run_beginRound (P := P) hb rfl, h _ _ (hs.to (live_new ?_))⟩
  exact hst.turn (i := 0) (r' := LoopR l q .busy) (w' := w.putObj l _) rfl rfl rfl rfl (by simp [World.putObj]) (fun b hb' hn => Array.getElem?_setIfInBounds_ne (fun e => hn (fp_blk.2 e.symm))) (holds_blk (Array.getElem?_setIfInBounds_self_of_lt (lt_of_heap hb))) (fun b hb' => .inl (fp_blk.2 (fp_blk.1 hb')))
/-- What stands between two rounds. -/
def Jr {α : Type} (l db : Nat) (q : Loop) (I : List α → Hp → Prop) (pre : List α) (r : Res) : Prop := ∃ H, I pre H ∧ (H.map (·.1)).Nodup ∧ r = Res.bag (LoopR l q .ready :: DefR db :: live H)
theorem k_round {α : Type} {db : Nat} {q : Loop} {I : List α → Hp → Prop} {xs : List α} (H : Hp) (hi : I xs H) (hl : InH L ((9000, LoopR l q .busy) :: (9001, DefR db) :: H)) (hn : nodupB (((9000, LoopR l q .busy) :: (9001, DefR db) :: H).map (·.1)) = true := by rfl) :
    Ho env D n w0 M B L (roundPost P l (Post (fun o L => o = .ret (vb true) ∧ ∃ r', Jr l db q I xs r' ∧ L = [r']) w0 M) .normal) := fun a w hs => by
  have hnd := nodupB_spec hn
  have hst := hl.st hnd hs.st
  rw [live_nodup hnd] at hst
  have hst' : St w0 w M (LoopR l q .busy :: DefR db :: H.map (·.2)) := hst
  have hb := blk_heap (hst'.get (i := 0) rfl)
  have hH : (H.map (·.1)).Nodup := (List.nodup_cons.1 (List.nodup_cons.1 hnd).2).2
  refine ⟨_, _, run_endRound (P := P) none hb, .ret (vb true), [Res.bag (LoopR l q .ready :: DefR db :: live H)], rfl, ⟨rfl, _, ⟨H, hi, hH, rfl⟩, rfl⟩, ?_⟩
  refine St.bag ?_
  rw [live_nodup hH, List.append_nil]
  exact hst'.turn (i := 0) (r' := LoopR l q .ready) (w' := w.putObj l _) rfl rfl rfl rfl (by simp [World.putObj]) (fun b hb' hn => Array.getElem?_setIfInBounds_ne (fun e => hn (fp_blk.2 e.symm))) (holds_blk (Array.getElem?_setIfInBounds_self_of_lt (lt_of_heap hb))) (fun b hb' => .inl (fp_blk.2 (fp_blk.1 hb')))
/-- What an iterator does: it gives xs, one behind the other, to yield. -/
def ISpec {α : Type} (P : Program) (f : FuncId) (caps : List SV) (Bc : Hp) (E : En α) (S : List α → Prop) (G : List α → α → Prop) : Prop := ∀ (w : World) (l : Nat) (J : List α → Res → Prop) (r0 : Res), J [] r0 → YSpec P l E J G w r0.fp → r0.holds w → (∀ i r, lk Bc i = some r → r.holds w) → (∀ i r, lk Bc i = some r → dis r r0) →
  Calls P f ((.one (.yl l) :: caps).map SV.den).toArray w (Post (fun o L => o = .ret (.tup []) ∧ ∃ ss r, S ss ∧ J ss r ∧ L = [r]) w r0.fp)
theorem fp_bag {rs : List Res} : (Res.bag rs).fp = fun b => ∃ r ∈ rs, r.fp b := rfl
theorem nodup_parts {X : List Nat} {H rh : Hp} (h : (X ++ (H ++ rh).map (·.1)).Nodup) : (H.map (·.1)).Nodup ∧ ((H ++ rh).map (·.1)).Nodup := by
  have h1 := (List.nodup_append.1 h).2.1
  rw [List.map_append] at h1
  exact ⟨(List.nodup_append.1 h1).1, by rw [List.map_append]; exact h1⟩
theorem c_rangeFunc {α : Type} {g : Operand} {p : Tmp} {assign body : Code} {f : FuncId} {fn : Func} {cap : List Value} {gh : List Nat} {caps : List SV} {Bc : Hp} {E : En α} {S : List α → Prop} {G : List α → α → Prop} (I : List α → Hp → Prop) (H : Hp) (hs : List Nat) (c : Nat → Nat) {rh : Hp} (hrh : keepO L hs = some rh)
    (hi : ISpec P f caps Bc E S G) (h0 : I [] H) (hf : P.funcs[f]? = some fn) (hfb : fn.body.isNone = false) (hfn : (fn.name == "runtime.NumGoroutine") = false)
    (hbody : ∀ (l db : Nat) (q : Loop) (m : Nat) (pre : List α) (x : α) (H' : Hp) (w1 : World) (M1 : Nat → Prop), I pre H' → G pre x → Ho ((p, .s (E.f x)) :: env) [] n w1 M1 (rh ++ B) ((9000, LoopR l q .ready) :: (9001, DefR db) :: H')
      (assign.wpIn (FW (some l)) m P (Exit.then (Begins P l (body.wpIn (FW (some l)) m P (roundPost P l (Post (fun o L => o = .ret (vb true) ∧ ∃ r', Jr l db q I (pre ++ [x]) r' ∧ L = [r']) w1 M1)))) (fun _ _ _ => False))))
    (hdone : ∀ db xs H', S xs → I xs H' → Ho env ({ target := .collected db, args := #[] } :: D) n w0 M B ((9001, DefR db) :: (H' ++ rh)) (Q .normal))
    (hdj : ∀ xs H', I xs H' → nodupB (9000 :: 9001 :: (H' ++ rh).map (·.1)) = true) (hl : InH L (H ++ rh))
    (hB : GotB (lk2 B rh) c Bc)
    (hg : ev env g = some (.s (.one (.fn f cap gh))) := by rfl) (hcap : caps.map SV.den = cap := by rfl) (hp : Nat.blt p n = true := by rfl) :
    Ho env D n w0 M B L ((Code.rangeFunc g #[p] assign body).wp P Q) := fun a w hsy => by
  refine (wpIn_wide (n := 0)).1 (wpIn_rangeFunc (F := Fence.wide) ?_)
  intro fnb _
  have nd : ∀ xs H', I xs H' → (9000 :: 9001 :: (H' ++ rh).map (·.1)).Nodup := fun xs H' hI => nodupB_spec (hdj xs H' hI)
  have nd0 := nodup_parts (X := [9000, 9001]) (nd [] H h0)
  have hst0 : St w0 w M (H.map (·.2) ++ rh.map (·.2)) := by
    have := hl.st nd0.2 hsy.st
    rw [live_nodup nd0.2, List.map_append] at this
    exact this
  obtain ⟨db, hdb⟩ : ∃ db, db = w.heap.size := ⟨_, rfl⟩
  obtain ⟨l, hle⟩ : ∃ l, l = w.heap.size + 1 := ⟨_, rfl⟩
  obtain ⟨q, hq⟩ : ∃ q : Loop, q = { state := .ready, pending := none, fn := fnb, tmps := a.tmps, params := #[p], assign := assign, body := body, defers := db } := ⟨_, rfl⟩
  obtain ⟨w1, hw1⟩ : ∃ w1, w1 = (w.alloc (.deferred (some []))).alloc (.loop q) := ⟨_, rfl⟩
  have hst1 : St w0 w1 M (LoopR l q .ready :: DefR db :: (H.map (·.2) ++ rh.map (·.2))) := by
    have := (hst0.alloc (.deferred (some []))).alloc (.loop q)
    rw [← hw1] at this
    have e1 : Res.blk (w.alloc (.deferred (some []))).heap.size (.loop q) = LoopR l q .ready := by
      unfold LoopR
      rw [hle]
      subst hq
      simp
    have e2 : Res.blk w.heap.size (.deferred (some [])) = DefR db := by unfold DefR; rw [hdb]
    rw [e1, e2] at this
    exact this
  have hst2 : St w0 w1 M (Res.bag (LoopR l q .ready :: DefR db :: live H) :: rh.map (·.2)) := by
    refine St.bag ?_
    rw [live_nodup nd0.1]
    simpa using hst1
  have hrhn : (rh.map (·.1)).Nodup := by
    have := nd0.2
    rw [List.map_append] at this
    exact (List.nodup_append.1 this).2.1
  have hsy1 : Sy env D n w0 M B rh a w1 := hsy.to (by
    rw [live_nodup hrhn]
    exact hst2.sub (List.sublist_cons_self ..))
  have hdis0 := List.pairwise_cons.1 hst2.dis
  have hown0 := hst2.own _ (List.mem_cons_self ..)
  -- what else there is, at a world on the way
  have other : ∀ i r, lk (rh ++ B) i = some r → r.holds w1 ∧ ∀ b, r.fp b → b < w1.heap.size ∧ ¬ (Res.bag (LoopR l q .ready :: DefR db :: live H)).fp b := fun i r hir => by
    have gen : ∀ (X : Hp), lk (X ++ B) i = some r → lk X i = some r ∨ lk B i = some r := by
      intro X
      induction X with
      | nil => exact fun h => .inr h
      | cons x X ih =>
        obtain ⟨k, v⟩ := x
        intro h
        rw [List.cons_append, lk_cons] at h
        rw [lk_cons]
        split at h
        · rename_i e
          rw [if_pos e]
          exact .inl h
        · rename_i e
          rw [if_neg e]
          exact ih h
    rcases gen rh hir with h | h
    · have hm : r ∈ rh.map (·.2) := by rw [← live_nodup hrhn]; exact lk_live h
      refine ⟨hst2.res r (List.mem_cons_of_mem _ hm), fun b hb => ⟨r.bound w1 (hst2.res r (List.mem_cons_of_mem _ hm)) b hb, fun hb2 => hdis0.1 r hm b hb2 hb⟩⟩
    · obtain ⟨h1, h2⟩ := hsy1.bo i r h
      refine ⟨h1, fun b hb => ⟨r.bound w1 h1 b hb, fun hb2 => ?_⟩⟩
      have h3 := h2 b hb
      rcases hown0 b hb2 with h4 | h4
      · exact h3.2 h4
      · omega
  have hlb : ∀ i R, lk2 B rh i = some R → lk (rh ++ B) i = some R := fun i R h => by
    have gen : ∀ (X : Hp), lk (X ++ B) i = lk2 B X i := by
      intro X
      induction X with
      | nil => rfl
      | cons x X ih =>
        obtain ⟨k, v⟩ := x
        unfold lk2 at ih ⊢
        rw [List.cons_append, lk_cons, lk_cons]
        by_cases e : k = i
        · rw [if_pos e, if_pos e]
        · rw [if_neg e, if_neg e]
          exact ih
    rw [gen]
    exact h
  have h1 : a.eval g = .func (.func f) #[] cap.toArray := ev_sound hsy.tm hg
  refine ⟨l, [{ target := .collected db, args := #[] }], w1, { target := .fn (.func f) cap.toArray, args := #[.func (.yield l) #[] #[]] }, w1, f, #[.func (.yield l) #[] #[]] ++ cap.toArray, w1, ?_, ?_, fun _ _ => trivial, ?_, fun e => (by cases e), ?_⟩
  · have := run_enterLoop_outer (P := P) (w := w) fnb a.tmps #[p] assign body
    rw [hw1, hq, hle, hdb]
    exact this
  · simp [resolve, h1, Deferred.ofValue, Sem.run_bind]
    rfl
  · simp only [invoke, callFunc, Sem.run_bind, Sem.run_pure, Result.andThen, run_program, hf, hfb, hfn]
    rfl
  · refine callsIn_wide.2 (Calls.mono (R := Post (fun o L => o = .ret (.tup []) ∧ ∃ ss r, S ss ∧ Jr l db q I ss r ∧ L = [r]) w1 (Res.bag (LoopR l q .ready :: DefR db :: live H)).fp) ?_ ?_)
    · have hc := hi w1 l (Jr l db q I) _ ⟨H, h0, nd0.1, rfl⟩ (fun m pre r x W hJ hG hr hk ho => ?_) (hst2.res _ (List.mem_cons_self ..)) (fun i r hir => (hB.lk hir).elim fun R hR => hR.2.h w1 (other _ _ (hlb _ _ hR.1)).1) (fun i r hir b hb => (hB.lk hir).elim fun R hR => ((other _ _ (hlb _ _ hR.1)).2 b (hR.2.f b hb)).2)
      · have e1 : ((.one (.yl l) :: caps).map SV.den).toArray = #[.func (.yield l) #[] #[]] ++ cap.toArray := by
          rw [← hcap]
          apply Array.toList_inj.1
          simp
          rfl
        rw [e1] at hc
        exact hc
      · obtain ⟨H', hI, hnd, rfl⟩ := hJ
        have hloop := blk_heap (hr.1 _ (List.mem_cons_self ..))
        have nd' := nd pre H' hI
        have nd9 : (((9000, LoopR l q .ready) :: (9001, DefR db) :: H' : Hp).map (·.1)).Nodup := by
          rw [List.map_append] at nd'
          exact (List.nodup_append.1 (show ([9000, 9001] ++ List.map (fun x : Nat × Res => x.1) H' ++ List.map (fun x : Nat × Res => x.1) rh).Nodup by simpa using nd')).1
        have hyl := run_yield (P := P) (args := #[(E.f x).den]) hloop (by subst hq; rfl)
        have hyl' : (Instr.yield l #[(E.f x).den]).run P W = .ok (.round l fnb (a.tmps.setIfInBounds p (E.f x).den) assign body) W := by
          rw [hyl]
          subst hq
          simp
        refine ⟨fnb, _, _, _, hyl', roundIn_of_wpIn trivial ?_⟩
        have hb := hbody l db q m pre x H' W (Res.bag (LoopR l q .ready :: DefR db :: live H')).fp hI hG { tmps := a.tmps.setIfInBounds p (E.f x).den, defers := [] } W ⟨⟨(hsy.tm.put (v := .s (E.f x)) hp).tm, (hsy.tm.put (v := .s (E.f x)) hp).sz⟩, rfl, ?_, fun i s his => ?_⟩
        · exact hb
        · rw [live_nodup nd9]
          have e3 : (LoopR l q .ready :: DefR db :: live H') = ((9000, LoopR l q .ready) :: (9001, DefR db) :: H' : Hp).map (·.2) := by rw [live_nodup hnd]; rfl
          have hr' : (Res.bag (((9000, LoopR l q .ready) :: (9001, DefR db) :: H' : Hp).map (·.2))).holds W := by rw [← e3]; exact hr
          rw [e3]
          exact St.startL hr'.1 hr'.2
        · obtain ⟨g1, g2⟩ := other i s his
          have gh : s.holds W := s.stable w1 W (fun b hb => hk.keep b (g2 b hb).1 (g2 b hb).2) g1
          refine ⟨gh, fun b hb => ⟨s.bound W gh b hb, fun hb2 => ?_⟩⟩
          rcases ho b hb2 with h4 | h4
          · exact (g2 b hb).2 h4
          · have := (g2 b hb).1
            omega
    · rintro e w' ⟨out, Lr, he, ⟨ho, ss, r, hS, ⟨H', hI, hnd, hr⟩, hL⟩, hst3⟩
      subst ho; subst hr; subst hL; subst he
      have hst4 : St w0 w' M (Res.bag (LoopR l q .ready :: DefR db :: live H') :: rh.map (·.2)) := St.callN (Lc := [Res.bag (LoopR l q .ready :: DefR db :: live H)]) (L2 := [Res.bag (LoopR l q .ready :: DefR db :: live H')]) hst2 hst3 (fun b hb => ⟨_, List.mem_singleton.2 rfl, hb⟩)
      have hst5 : St w0 w' M (LoopR l q .ready :: DefR db :: (live H' ++ rh.map (·.2))) := St.unbag hst4
      have hloop := blk_heap (hst5.get (i := 0) rfl)
      refine ⟨none, _, run_endLoop (P := P) hloop (by simp), ?_⟩
      have hst6 := hst5.turn (i := 0) (r' := Res.blk l (.loop { { q with state := .ready, pending := none } with state := .exhausted })) (w' := w'.putObj l _) rfl rfl rfl rfl (by simp [World.putObj]) (fun b hb' hn => Array.getElem?_setIfInBounds_ne (fun e => hn (fp_blk.2 e.symm))) (holds_blk (Array.getElem?_setIfInBounds_self_of_lt (lt_of_heap hloop))) (fun b hb' => .inl (fp_blk.2 (fp_blk.1 hb')))
      have nd' := (List.nodup_cons.1 (nd ss H' hI)).2
      have hsy6 : Sy env D n w0 M B ((9001, DefR db) :: (H' ++ rh)) a (w'.putObj l (.loop { { q with state := .ready, pending := none } with state := .exhausted })) := hsy.to (by
        rw [live_nodup (L := (9001, DefR db) :: (H' ++ rh)) (by simpa using nd')]
        have := hst6.sub (L' := DefR db :: (live H' ++ rh.map (·.2))) (List.sublist_cons_self ..)
        rw [live_nodup hnd] at this
        simpa using this)
      exact hdone db ss H' hS hI _ _ ⟨⟨hsy6.tm.tm, hsy6.tm.sz⟩, by rw [hsy6.df]; rfl, hsy6.st, hsy6.bo⟩
/-! ### a function in which there is a range over a function; an iterator -/
variable {fn : Func} {post : Out → List Res → Prop}
theorem k_enterM {f : FuncId} {c : Code} {args : List SV} (hf : P.funcs[f]? = some fn) (hb : fn.body = some c) (hn : fn.ntmps = n) (he : argEnv args = some env := by rfl) (hl : Nat.ble args.length n = true := by rfl)
    (h : ∀ w, Ho env [] n w (fun b => ∃ r ∈ live L, r.fp b) B L (c.wp P (bodyPostM Fence.wide 0 P fn (Post post w fun b => ∃ r ∈ live L, r.fp b)))) : CSpec P f args B L post := fun w hB hL hd hBL => by
  refine callsIn_wide.1 (callsIn_of_wp_marks (F := Fence.wide) (n := 0) hf hb trivial (wpIn_wide.2 (h w _ w ⟨⟨fun t v hv => ?_, ?_⟩, rfl, St.startL hL hd, fun i r hr => ⟨hB i r hr, fun b hb => ⟨r.bound w (hB i r hr) b hb, ?_⟩⟩⟩)))
  · obtain ⟨u, h1, rfl⟩ := argEnv_get he t v hv
    have hlt := (List.getElem?_eq_some_iff.1 h1).1
    rw [Array.getElem?_append_left (by simpa using hlt)]
    simp [h1, TV.den]
  · have := Nat.le_of_ble_eq_true hl
    simp [hn]
    omega
  · rintro ⟨s, hs, hb'⟩
    exact hBL i r hr s hs b hb hb'
theorem k_retM0 (ids : List Nat) {vs : List SV} {rs : List Res} (v : TV) (hr : RVs P env B L fn.results.toList vs) (hp : picks L ids = some rs := by rfl) (hn : ids.Nodup := by decide) (hv : v.den = (retTV vs).den := by rfl) (h : post (.ret v) rs) : Ho env [] n w0 M B L (bodyPostM Fence.wide m P fn (Post post w0 M) .ret) := fun a w hs => by
  show LeavesInM Fence.wide m P fn a.tmps (Post post w0 M) a.defers .returning w
  rw [hs.df]
  exact ⟨_, results_rvs hr hs.tm hs.facts, .ret v, rs, congrArg _ hv, h, (hs.st.picks hp hn).sub (List.sublist_append_left _ _)⟩
theorem k_retM (ids : List Nat) {db : Nat} {vs : List SV} {rs : List Res} (v : TV) (hr : RVs P env B (del 9001 L) fn.results.toList vs) (hd : lk L 9001 = some (DefR db) := by rfl) (hp : picks (del 9001 L) ids = some rs := by rfl) (hn : ids.Nodup := by decide) (hv : v.den = (retTV vs).den := by rfl) (h : post (.ret v) rs) :
    Ho env [{ target := .collected db, args := #[] }] n w0 M B L (bodyPostM Fence.wide m P fn (Post post w0 M) .ret) := fun a w hs => by
  show LeavesInM Fence.wide m P fn a.tmps (Post post w0 M) a.defers .returning w
  rw [hs.df]
  have hst := live_front hs.st hd
  have hb := blk_heap (hst.get (i := 0) rfl)
  have hst2 := (hst.turn (i := 0) (r' := Res.blk db (.deferred none)) (w' := w.putObj db _) rfl rfl rfl rfl (by simp [World.putObj]) (fun b hb' hn => Array.getElem?_setIfInBounds_ne (fun e => hn (fp_blk.2 e.symm))) (holds_blk (Array.getElem?_setIfInBounds_self_of_lt (lt_of_heap hb))) (fun b hb' => .inl (fp_blk.2 (fp_blk.1 hb')))).sub (L' := live (del 9001 L)) (List.sublist_cons_self ..)
  have hs2 : Sy env [{ target := .collected db, args := #[] }] n w0 M B (del 9001 L) a (w.putObj db (.deferred none)) := hs.to hst2
  exact ⟨by simp, .inl ⟨db, _, rfl, run_takeDeferred (P := P) hb, _, results_rvs hr hs2.tm hs2.facts, .ret v, rs, congrArg _ hv, h, (hs2.st.picks hp hn).sub (List.sublist_append_left _ _)⟩⟩
theorem k_endM (ids : List Nat) {db : Nat} {vs : List SV} {rs : List Res} (v : TV) (hr : RVs P env B (del 9001 L) fn.results.toList vs) (hd : lk L 9001 = some (DefR db) := by rfl) (hp : picks (del 9001 L) ids = some rs := by rfl) (hn : ids.Nodup := by decide) (hv : v.den = (retTV vs).den := by rfl) (h : post (.ret v) rs) :
    Ho env [{ target := .collected db, args := #[] }] n w0 M B L (bodyPostM Fence.wide m P fn (Post post w0 M) .normal) := k_retM ids v hr hd hp hn hv h
theorem k_enterY {α : Type} {f : FuncId} {c : Code} {caps : List SV} {Bc : Hp} {E : En α} {S : List α → Prop} {G : List α → α → Prop} (hf : P.funcs[f]? = some fn) (hb : fn.body = some c) (hn : fn.ntmps = n) 
    (h : ∀ (w : World) (l : Nat) (J : List α → Res → Prop) (r0 : Res), J [] r0 → YSpec P l E J G w r0.fp → ∃ env, argEnv (.one (.yl l) :: caps) = some env ∧ Ho env [] n w r0.fp Bc [(9, r0)] (c.wp P (bodyPost P fn (Post (fun o L => o = .ret (.tup []) ∧ ∃ ss r, S ss ∧ J ss r ∧ L = [r]) w r0.fp))))
    (hl : Nat.ble (caps.length + 1) n = true := by rfl) : ISpec P f caps Bc E S G := fun w l J r0 h0 hY hr hB hd => by
  obtain ⟨env, he, h⟩ := h w l J r0 h0 hY
  refine calls_of_wp hf hb (h _ w ⟨⟨fun t v hv => ?_, ?_⟩, rfl, ?_, fun i r hr => ⟨hB i r hr, fun b hb => ⟨r.bound w (hB i r hr) b hb, hd i r hr b hb⟩⟩⟩)
  · obtain ⟨u, h1, rfl⟩ := argEnv_get he t v hv
    have hlt := (List.getElem?_eq_some_iff.1 h1).1
    have h2 : ((SV.one (.yl l) :: caps).map SV.den)[t]? = some u.den := by rw [List.getElem?_map, h1]; rfl
    rw [Array.getElem?_append_left (by simpa using hlt), List.getElem?_toArray]
    exact h2
  · have := Nat.le_of_ble_eq_true hl
    simp [hn]
    omega
  · have := St.startL (w := w) (L := [r0]) (by simpa using hr) (by simp)
    have e1 : (fun b => ∃ r ∈ [r0], r.fp b) = r0.fp := by funext b; simp
    rw [e1] at this
    exact live_new (L := []) (by rw [live_nil]; exact this)
/-- An iterator's end. -/
theorem k_retY {α : Type} {S : List α → Prop} {J : List α → Res → Prop} {r : Res} (xs : List α) (hS : S xs) (hJ : J xs r) (hp : lk L 9 = some r := by rfl) (hr : fn.results.toList = [] := by rfl) : Ho env [] n w0 M B L (bodyPost P fn (Post (fun o L => o = .ret (.tup []) ∧ ∃ ss r, S ss ∧ J ss r ∧ L = [r]) w0 M) .ret) :=
  k_ret [9] (.tup []) (by rw [hr]; exact .nil) (rs := [r]) (by unfold picks; rw [hp]; rfl) (by decide) rfl ⟨rfl, xs, r, hS, hJ, rfl⟩
theorem k_endY {α : Type} {S : List α → Prop} {J : List α → Res → Prop} {r : Res} (xs : List α) (hS : S xs) (hJ : J xs r) (hp : lk L 9 = some r := by rfl) (hr : fn.results.toList = [] := by rfl) : Ho env [] n w0 M B L (bodyPost P fn (Post (fun o L => o = .ret (.tup []) ∧ ∃ ss r, S ss ∧ J ss r ∧ L = [r]) w0 M) .normal) := k_retY xs hS hJ hp hr
end
end HL
end Go.Proofs.YtonbgcehgmpnkaaGreat
/- SYMBOLIC STATES: conditions that are not split: elements and calls under a guard; loops and cuts that keep all the rest. My own text; it names no program. -/

set_option linter.unusedVariables false
set_option linter.unusedSimpArgs false
set_option linter.unusedSectionVars false
namespace Go.Proofs.YtonbgcehgmpnkaaGreat
namespace HL
open Go Go.RowKit
def ad0 : Addr := ⟨0, 0, none⟩
section
variable {P : Program} {env : List (Nat × TV)} {D : List Deferred} {n : Nat} {w0 : World} {M : Nat → Prop} {B L LF : Hp} {ops : Array Oper} {Q : Exit → Act → World → Prop} {rest : List Oper} {σ : Plan}
variable {dst : Option Tmp} {d : Nat} {ty : TypeId} {pos : String} {af : Array Edge} {gd : Option (Nat × Bool)} {x y z : Operand} {T T' : TypeId}
theorem r_indexT {α : Type} {e : TypeId} {i m c sz bytes : Nat} {A : Option Addr} {R : Res} {E : En α} {l : List α} {k : IntKind} {p : Int} {agg : Bool} {zz : SV} [hu : UD P T (.slice e)] [hT : TyA P e agg sz zz bytes] (hx : ev env x = some (vsl i A m c) := by rfl) (hy : ev env y = some (vi k p) := by rfl) (hr : lk2 B L i = some R := by rfl) (hro : RowM R A m E l := by first | exact ⟨View.row (by assumption), by first | rfl | assumption | omega⟩ | exact ⟨rowOf_rows, by first | rfl | assumption | (simp only [List.length_drop, List.length_take, List.length_append, List.length_cons, List.length_nil]; done) | (simp only [List.length_drop, List.length_take, List.length_append, List.length_cons, List.length_nil]; omega) | omega⟩ | exact ⟨rowOf_rd, by first | rfl | assumption | (simp only [List.length_drop, List.length_take, List.length_append, List.length_cons, List.length_nil]; done) | (simp only [List.length_drop, List.length_take, List.length_append, List.length_cons, List.length_nil]; omega) | omega⟩ | exact ⟨rowOf_tail rowOf_rd (by omega) (by omega), by first | rfl | assumption | (simp only [List.length_drop, List.length_take, List.length_append, List.length_cons, List.length_nil]; done) | (simp only [List.length_drop, List.length_take, List.length_append, List.length_cons, List.length_nil]; omega) | omega⟩ | exact rowM_take rowOf_rd (by omega) | exact rowM_take (rowOf_tail rowOf_rd (by omega) (by omega)) (by first | omega | (simp only [List.length_drop]; omega)) | exact ⟨rowOf_tail rowOf_rows (by omega) (by omega), by first | rfl | assumption | (simp only [List.length_drop, List.length_take, List.length_append, List.length_cons, List.length_nil]; done) | (simp only [List.length_drop, List.length_take, List.length_append, List.length_cons, List.length_nil]; omega) | omega⟩ | exact rowM_take rowOf_rows (by omega) | exact rowM_take (rowOf_tail rowOf_rows (by omega) (by omega)) (by first | omega | (simp only [List.length_drop]; omega))) (hj : 0 ≤ p ∧ p < (m : Int)) : Reads P ⟨dst, .indexAddr T x y, ty, pos, af, gd⟩ env n B L (.s (.one (.el i (A.getD ad0) sz p.toNat 0))) := fun a w ht hf => by
  obtain rfl := hro.len
  obtain ⟨ad, hA, _⟩ := rds_some (hro.is.is w (hf i _ hr)) (by omega)
  have := r_index (P := P) (T := T) (dst := dst) (ty := ty) (pos := pos) (af := af) (gd := gd) (n := n) (B := B) (L := L) hA hx hy (show p = ((p.toNat : Nat) : Int) by omega) (by omega) a w ht hf
  rw [hA]
  exact this
theorem r_loadT {α : Type} {i j off sz' : Nat} {A : Option Addr} {R : Res} {E : En α} {l : List α} {r : List At} {v : SV} {agg : Bool} {sz bytes : Nat} {z : SV} [hT : TyA P T agg sz z bytes] (hx : ev env x = some (.s (.one (.el i (A.getD ad0) sz' j off))) := by rfl) (hr : lk2 B L i = some R := by rfl) (hro : RowOf R A E l := by first | exact View.row (by assumption) | exact rowOf_rows | exact rowOf_rd | exact rowOf_tail rowOf_rd (by omega) (by omega) | exact rowOf_take rowOf_rd | exact rowOf_tail rowOf_rows (by omega) (by omega) | exact rowOf_take rowOf_rows) (hs : sz' = E.sz := by rfl) (hI : Inhabited α := by infer_instance) (hc : cutAt (E.f (l.getD j hI.default)).ats off sz = some r := by rfl) (hv : mkSV agg r = some v := by rfl) (hj : j < l.length) : Reads P ⟨dst, .load T x, ty, pos, af, gd⟩ env n B L (.s v) := fun a w ht hf => by
  subst hs
  obtain ⟨ad, hA, _⟩ := rds_some (hro.is w (hf i _ hr)) (by omega)
  subst hA
  exact load_el (P := P) (T := T) (y := l.getD j hI.default) hx (fun w hf => hro.is w (hf i _ hr)) (by rw [List.getD_eq_getElem?_getD, List.getElem?_eq_getElem hj]; rfl) hc hv a w ht hf
theorem r_convStrT {α : Type} {i j off sz' : Nat} {A : Option Addr} {R : Res} {E : En α} {l : List α} {e : TypeId} {h : Hash} [h1 : UD P T (.slice e)] [h2 : UD P e (.int .u8)] [h3 : UD P T' .string] (hx : ev env x = some (vsl i (some (((A.getD ad0).add (j * sz')).add off)) 32 32) := by rfl) (hr : lk2 B L i = some R := by rfl) (hro : RowOf R A E l := by first | exact View.row (by assumption) | exact rowOf_rows | exact rowOf_rd | exact rowOf_tail rowOf_rd (by omega) (by omega) | exact rowOf_take rowOf_rd | exact rowOf_tail rowOf_rows (by omega) (by omega) | exact rowOf_take rowOf_rows) (hs : sz' = E.sz := by rfl) (hI : Inhabited α := by infer_instance) (hc : cutAt (E.f (l.getD j hI.default)).ats off 32 = some [.hash h] := by rfl) (hj : j < l.length) : Reads P ⟨dst, .convert T T' x, ty, pos, af, gd⟩ env n B L (vs (ba h.toList)) := fun a w ht hf => by
  obtain ⟨ad, hA, _⟩ := rds_some (hro.is w (hf i _ hr)) (by omega)
  subst hA
  exact r_convStrE (P := P) (u := l.getD j hI.default) hx hr (RowEl.mk' hro rfl (by rw [List.getD_eq_getElem?_getD, List.getElem?_eq_getElem hj]; rfl)) hs hc a w ht hf
/-- A call under a guard, of a function that only tells. -/
theorem l_callG {v : SV} {f : FuncId} {fn : Func} {args all : List SV} {Bc : Hp} {post : Out → List Res → Prop} {xs : Array Operand} {tys : Array TypeId} {cap : List Value} {gh : List Nat} {g : Bool} (m : List (Nat × Nat)) (ts : List Nat) {env' : List (Nat × TV)} (hres : ResAll env g ts env')
    (hs : g = true → CSpec P f all Bc [] post) (hf : P.funcs[f]? = some fn) (hx : ev env' x = some (.s (.one (.fn f cap gh))) := by rfl) (ha : evs env' xs.toList = some args := by rfl) (hall : args.map SV.den ++ cap = all.map SV.den := by rfl)
    (hB : GotB (lk2 B L) (cid m args) Bc := by repeat (first | exact trivial | refine ⟨⟨_, rfl, by first | assumption | exact View.refl _ | exact view_rows | exact view_tail (View.refl _) (by omega) (by omega) | exact view_take (View.refl _) | exact view_tail view_rows (by omega) (by omega) | exact view_take view_rows⟩, ?_⟩))
    (hpost : ∀ o Lr, post o Lr → o = .ret (.s v) ∧ Lr = [] := by exact fun _ _ h => h)
    (h : Ho ((d, .cond g v) :: env) D n w0 M B L (wpList P ops Q rest))
    (hg : guardSym ops env ⟨some d, .call { callee := .value x, args := xs, argTypes := tys }, ty, pos, af, gd⟩ = some g := by rfl) (hd : Nat.blt d n = true := by rfl) (hb : fn.body.isNone = false := by rfl) (hn : (fn.name == "runtime.NumGoroutine") = false := by rfl) :
    Ho env D n w0 M B L (wpList P ops Q (⟨some d, .call { callee := .value x, args := xs, argTypes := tys }, ty, pos, af, gd⟩ :: rest)) := fun a w hsy => by
  unfold wpList
  rw [guardSym_wanted hsy.tm hg]
  by_cases e : g = true
  · rw [if_pos e]
    have hsy' : Sy env' D n w0 M B L a w := ⟨hres.tm e hsy.tm, hsy.df, hsy.st, hsy.bo⟩
    refine .inl (call_wp (hs e) hf hb hn (cid m args) 0 hx ha hall hB trivial rfl (by
      refine (?_ : ∀ is, noneIn [] is = true) _
      intro is
      induction is with
      | nil => rfl
      | cons i is ih => unfold noneIn; rw [ih]; rfl) rfl hsy' fun o Lr hp => ?_)
    obtain ⟨rfl, rfl⟩ := hpost o Lr hp
    exact fun w' hs' => by
      have h2 : Sy env D n w0 M B L a w' := ⟨hsy.tm, hsy.df, hs'.st, hs'.bo⟩
      have := h2.put (v := .cond g v) hd
      rw [show (TV.cond g v).den = v.den from if_pos e] at this
      exact h _ _ this
  · rw [if_neg e]
    have := hsy.put (v := .cond g v) hd
    rw [show (TV.cond g v).den = undef from if_neg e] at this
    exact h _ _ this
theorem s_callG {i : Nat} {v : SV} {f : FuncId} {fn : Func} {args all : List SV} {Bc : Hp} {post : Out → List Res → Prop} {xs : Array Operand} {tys : Array TypeId} {cap : List Value} {gh : List Nat} {g : Bool} (hi : ops.toList[i]? = some ⟨some d, .call { callee := .value x, args := xs, argTypes := tys }, ty, pos, af, gd⟩) (m : List (Nat × Nat)) (ts : List Nat) {env' : List (Nat × TV)} (hres : ResAll env g ts env')
    (hs : g = true → CSpec P f all Bc [] post) (hf : P.funcs[f]? = some fn) (hx : ev env' x = some (.s (.one (.fn f cap gh))) := by rfl) (ha : evs env' xs.toList = some args := by rfl) (hall : args.map SV.den ++ cap = all.map SV.den := by rfl)
    (hB : GotB (lk2 B L) (cid m args) Bc := by repeat (first | exact trivial | refine ⟨⟨_, rfl, by first | assumption | exact View.refl _ | exact view_rows | exact view_tail (View.refl _) (by omega) (by omega) | exact view_take (View.refl _) | exact view_tail view_rows (by omega) (by omega) | exact view_take view_rows⟩, ?_⟩))
    (hpost : ∀ o Lr, post o Lr → o = .ret (.s v) ∧ Lr = [] := by exact fun _ _ h => h)
    (h : HoC LF ((d, .cond g v) :: env) D n w0 M B L (wpSched P ops Q (Facts B LF) σ))
    (hg : guardSym ops env ⟨some d, .call { callee := .value x, args := xs, argTypes := tys }, ty, pos, af, gd⟩ = some g := by rfl) (hd : Nat.blt d n = true := by rfl) (hb : fn.body.isNone = false := by rfl) (hn : (fn.name == "runtime.NumGoroutine") = false := by rfl) :
    HoC LF env D n w0 M B L (wpSched P ops Q (Facts B LF) (.s i σ)) := fun hc a w hsy => by
  by_cases e : g = true
  · refine sched_s hi (by rw [guardSym_wanted hsy.tm hg]; exact e) ?_
    have hsy' : Sy env' D n w0 M B L a w := ⟨hres.tm e hsy.tm, hsy.df, hsy.st, hsy.bo⟩
    refine call_wp (hs e) hf hb hn (cid m args) 0 hx ha hall hB trivial rfl (by
      refine (?_ : ∀ is, noneIn [] is = true) _
      intro is
      induction is with
      | nil => rfl
      | cons i is ih => unfold noneIn; rw [ih]; rfl) rfl hsy' fun o Lr hp => ?_
    obtain ⟨rfl, rfl⟩ := hpost o Lr hp
    exact fun w' hs' => by
      have h2 : Sy env D n w0 M B L a w' := ⟨hsy.tm, hsy.df, hs'.st, hs'.bo⟩
      have := h2.put (v := .cond g v) hd
      rw [show (TV.cond g v).den = v.den from if_pos e] at this
      exact ⟨facts_cov hc h2, h hc _ _ this⟩
  · refine sched_sskip hi (by rw [guardSym_wanted hsy.tm hg]; simpa using e) (facts_cov hc hsy) ?_
    have := hsy.put (v := .cond g v) hd
    rw [show (TV.cond g v).den = undef from if_neg e] at this
    exact h hc _ _ this
/-- Another number for what is there. -/
theorem k_ren (i j : Nat) {r : Res} {K : Act → World → Prop} (hr : lk L i = some r := by rfl) (h : Ho env D n w0 M B ((j, r) :: del i L) K) : Ho env D n w0 M B L K := fun a w hs => h a w ⟨hs.tm, hs.df, live_new (live_front hs.st hr), hs.bo⟩
/-! ### all the rest stays -/
def without : List Nat → Hp → Hp
  | _, [] => []
  | is, (k, r) :: l => bif memB k is then without is l else (k, r) :: without (k :: is) l
theorem memB_true {i : Nat} : ∀ {l : List Nat}, memB i l = true → i ∈ l
  | [], h => by unfold memB at h; cases h
  | j :: l, h => by
    unfold memB at h
    rcases Bool.or_eq_true _ _ ▸ h with h | h
    · have := Nat.eq_of_beq_eq_true h
      simp [this]
    · exact List.mem_cons_of_mem _ (memB_true h)
theorem without_lk : ∀ (l : Hp) (is : List Nat), (∀ k r, (k, r) ∈ without is l → lk l k = some r ∧ k ∉ is)
  | [], is, k, r, h => by unfold without at h; cases h
  | (k', r') :: l, is, k, r, h => by
    unfold without at h
    cases hm : memB k' is with
    | true =>
      rw [hm] at h
      obtain ⟨h1, h2⟩ := without_lk l is k r h
      refine ⟨?_, h2⟩
      rw [lk_cons, if_neg fun e => h2 (by rw [← e]; exact memB_true hm)]
      exact h1
    | false =>
      rw [hm] at h
      rcases List.mem_cons.1 h with h | h
      · injection h with h1 h2
        subst h1; subst h2
        exact ⟨by rw [lk_cons, if_pos rfl], memB_spec hm⟩
      · obtain ⟨h1, h2⟩ := without_lk l (k' :: is) k r h
        refine ⟨?_, fun h3 => h2 (List.mem_cons_of_mem _ h3)⟩
        rw [lk_cons, if_neg fun e => h2 (by rw [← e]; exact List.mem_cons_self ..)]
        exact h1
theorem keepO_all : ∀ {l : Hp} (r : Hp), (∀ p ∈ r, lk l p.1 = some p.2) → keepO l (r.map (·.1)) = some r
  | l, [], _ => rfl
  | l, (k, v) :: r, h => by
    show keepO l (k :: r.map (·.1)) = _
    unfold keepO
    rw [h (k, v) (List.mem_cons_self ..), keepO_all r fun p hp => h p (List.mem_cons_of_mem _ hp)]
theorem keepO_without {L : Hp} {is : List Nat} : keepO L ((without is L).map (·.1)) = some (without is L) := keepO_all _ fun p hp => (without_lk L is p.1 p.2 hp).1
theorem c_loopA {c : Code} (I : Nat → Env → Hp → Prop) (ts : List Nat) (m : Nat) (E : Env) (H : Hp) {re : Env} {rh : Hp} (hk : keepO env ts = some re := by rfl) (hh : without (H.map (·.1)) L = rh := by rfl)
    (h0 : I m E H) (he : InE env (E ++ re)) (hl : InH L (H ++ rh)) (hn : nodupB ((H ++ rh).map (·.1)) = true := by rfl)
    (hr : ∀ m E H, I m E H → Ho (E ++ re) D n w0 M B (H ++ rh) (c.wp P (Exit.then (fun a w => ∃ m' E' H', m' < m ∧ I m' E' H' ∧ Sy (E' ++ re) D n w0 M B (H' ++ rh) a w) Q))) :
    Ho env D n w0 M B L ((Code.loop c).wp P Q) := by
  subst hh
  exact c_loop I ts ((without (H.map (·.1)) L).map (·.1)) m E H hk keepO_without h0 he hl hn hr
theorem c_cutA {c : Code} (I : Env → Hp → Prop) (ts is : List Nat) {re : Env} {rh : Hp} (hk : keepO env ts = some re := by rfl) (hh : without is L = rh := by rfl)
    (h1 : Ho env D n w0 M B L (c.wp P (Exit.then (fun a w => ∃ E H, I E H ∧ Sy (E ++ re) D n w0 M B (H ++ rh) a w) Q))) (h2 : ∀ E H, I E H → Ho (E ++ re) D n w0 M B (H ++ rh) (Q .normal)) : Ho env D n w0 M B L (c.wp P Q) := by
  subst hh
  exact c_cut I ts ((without is L).map (·.1)) hk keepO_without h1 h2
end
end HL
end Go.Proofs.YtonbgcehgmpnkaaGreat
/- SYMBOLIC STATES: many resources in a bag, opened one by one; an append that keeps the elder slice; make; Bools that are known. My own text; it names no program. -/


set_option linter.unusedVariables false
set_option linter.unusedSimpArgs false
set_option linter.unusedSectionVars false
namespace Go.Proofs.YtonbgcehgmpnkaaGreat
namespace HL
open Go Go.RowKit
/-! ### lists -/
theorem flat_get {α : Type} {k : Nat} (hk : 0 < k) : ∀ (l : List (List α)) (t : Nat), (∀ v ∈ l, v.length = k) → l.flatten[t]? = (l[t / k]?).bind fun v => v[t % k]?
  | [], t, _ => by simp
  | v :: l, t, h => by
    have hv := h v (List.mem_cons_self ..)
    rw [List.flatten_cons]
    by_cases ht : t < k
    · rw [List.getElem?_append_left (by omega), Nat.div_eq_of_lt ht, Nat.mod_eq_of_lt ht]
      rfl
    · rw [List.getElem?_append_right (by omega), hv, flat_get hk l (t - k) (fun u hu => h u (List.mem_cons_of_mem _ hu))]
      have h1 : t / k = (t - k) / k + 1 := by
        have : t = (t - k) + k := by omega
        rw [this, Nat.add_div_right _ hk]
        simp
      have h2 : t % k = (t - k) % k := by
        have : t = (t - k) + k := by omega
        rw [this, Nat.add_mod_right]
        simp
      rw [h1, h2, List.getElem?_cons_succ]
theorem mapIdx_set {σ τ : Type} {ss : List σ} {F G : Nat → σ → τ} {k : Nat} {s : σ} {r : τ} (hk : ss[k]? = some s) (hr : G k s = r) (h : ∀ j x, j ≠ k → F j x = G j x) : (ss.mapIdx F).set k r = ss.mapIdx G := by
  apply List.ext_getElem?
  intro j
  rw [List.getElem?_set, List.getElem?_mapIdx, List.getElem?_mapIdx]
  by_cases e : k = j
  · subst e
    rw [if_pos rfl, if_pos (by rw [List.length_mapIdx]; exact (List.getElem?_eq_some_iff.1 hk).1), hk]
    simp [hr]
  · rw [if_neg e]
    cases ss[j]? with
    | none => rfl
    | some x => simp [h j x (fun e2 => e e2.symm)]
theorem mapIdx_get {σ τ : Type} {ss : List σ} {F : Nat → σ → τ} {k : Nat} {s : σ} {r : τ} (hk : ss[k]? = some s) (hr : F k s = r) : (ss.mapIdx F)[k]? = some r := by
  rw [List.getElem?_mapIdx, hk]
  simp [hr]
theorem mapIdx_congr {σ τ : Type} {ss : List σ} {F G : Nat → σ → τ} (h : ∀ j s, ss[j]? = some s → F j s = G j s) : ss.mapIdx F = ss.mapIdx G := by
  apply List.ext_getElem?
  intro j
  rw [List.getElem?_mapIdx, List.getElem?_mapIdx]
  cases hj : ss[j]? with
  | none => rfl
  | some x => simp [h j x hj]
theorem perm_out {α : Type} : ∀ {rs : List α} {k : Nat} {r : α}, rs[k]? = some r → rs.Perm (r :: rs.eraseIdx k)
  | [], _, _, h => by simp at h
  | x :: rs, 0, r, h => by
    simp at h
    subst h
    exact List.Perm.refl _
  | x :: rs, k + 1, r, h => by
    have := perm_out (rs := rs) (k := k) (r := r) (by simpa using h)
    exact (this.cons x).trans (List.Perm.swap _ _ _)
theorem perm_in {α : Type} {rs : List α} {k : Nat} {r : α} (hk : k < rs.length) : (rs.set k r).Perm (r :: rs.eraseIdx k) := by
  have := perm_out (rs := rs.set k r) (k := k) (r := r) (by rw [List.getElem?_set_self hk])
  rwa [List.eraseIdx_set_eq] at this
section
variable {P : Program} {env : List (Nat × TV)} {D : List Deferred} {n : Nat} {w0 : World} {M : Nat → Prop} {B L LF : Hp} {ops : Array Oper} {Q : Exit → Act → World → Prop} {rest : List Oper} {σ : Plan}
variable {dst : Option Tmp} {d : Nat} {ty : TypeId} {pos : String} {af : Array Edge} {gd : Option (Nat × Bool)} {x y z : Operand} {T T' : TypeId}
/-! ### bags -/
theorem bag_perm {rs rs' : List Res} {L : List Res} {w : World} (hp : rs.Perm rs') (h : St w0 w M (Res.bag rs :: L)) : St w0 w M (Res.bag rs' :: L) :=
  St.bag (h.unbag.perm (hp.append_right L))
/-- One of a bag, apart. -/
theorem k_out (i j k : Nat) {rs : List Res} {r : Res} {K : Act → World → Prop} (hg : rs[k]? = some r) (hr : lk L i = some (Res.bag rs) := by rfl) (h : Ho env D n w0 M B ((j, r) :: (i, Res.bag (rs.eraseIdx k)) :: del j (del i L)) K) : Ho env D n w0 M B L K := fun a w hs => h a w ⟨hs.tm, hs.df, by
  have h1 : St w0 w M (Res.bag rs :: live (del i L)) := live_front hs.st hr
  have h2 := (bag_perm (perm_out hg) h1).unbag
  rw [List.cons_append] at h2
  have h3 : St w0 w M (Res.bag (rs.eraseIdx k) :: r :: live (del i L)) := St.bag (h2.perm List.perm_middle.symm)
  have h4 : St w0 w M (r :: Res.bag (rs.eraseIdx k) :: live (del i L)) := h3.perm (List.Perm.swap _ _ _)
  have h5 : St w0 w M (r :: Res.bag (rs.eraseIdx k) :: live (del j (del i L))) := by
    cases hl : lk (del i L) j with
    | none => rw [del_same hl]; exact h4
    | some q => exact (h4.perm (((live_perm _ _ (Nat.le_refl _) hl).cons _).cons _)).sub (((List.sublist_cons_self q _).cons_cons _).cons_cons _)
  rw [live_cons, del_cons]
  by_cases e : i = j
  · rw [if_pos e]
    have e2 : del j (del j (del i L)) = del j (del i L) := by rw [del_same (by rw [lk_del, if_pos rfl])]
    rw [e2]
    exact h5.sub ((List.sublist_cons_self _ _).cons_cons _)
  · have e2 : del j (del j (del i L)) = del j (del i L) := del_same (by rw [lk_del, if_pos rfl])
    have e3 : del i (del j (del i L)) = del j (del i L) := del_same (by rw [lk_del, if_neg e, lk_del, if_pos rfl])
    rw [if_neg e, live_cons, e2, e3]
    exact h5, hs.bo⟩
/-- It goes back, as it is now. -/
theorem k_in (i j k : Nat) {rs : List Res} (rs' : List Res) {r : Res} {K : Act → World → Prop} (hk : k < rs.length) (he : rs.set k r = rs') (hr : lk L i = some (Res.bag (rs.eraseIdx k)) := by rfl) (hj : lk (del i L) j = some r := by rfl) (h : Ho env D n w0 M B ((i, Res.bag rs') :: del j (del i L)) K) : Ho env D n w0 M B L K := fun a w hs => h a w ⟨hs.tm, hs.df, by
  have h1 : St w0 w M (Res.bag (rs.eraseIdx k) :: live (del i L)) := live_front hs.st hr
  have h2 : St w0 w M (Res.bag (rs.eraseIdx k) :: r :: live (del j (del i L))) := h1.perm ((live_perm _ _ (Nat.le_refl _) hj).cons _)
  have h3 := (h2.unbag).perm (List.perm_middle)
  rw [← List.cons_append] at h3
  have h4 : St w0 w M (Res.bag (r :: rs.eraseIdx k) :: live (del j (del i L))) := St.bag h3
  rw [← he]
  exact live_new (bag_perm (perm_in hk).symm h4), hs.bo⟩
theorem bag_view {rs : List Res} {k : Nat} {r R : Res} (hg : rs[k]? = some r) (hv : View r R) : View (Res.bag rs) R :=
  ⟨fun w h => hv.h w (h.1 r (List.mem_of_getElem? hg)), fun b hb => ⟨r, List.mem_of_getElem? hg, hv.f b hb⟩⟩
theorem k_empty (i : Nat) {K : Act → World → Prop} (h : Ho env D n w0 M B ((i, Res.bag []) :: L) K) : Ho env D n w0 M B L K := fun a w hs => h a w ⟨hs.tm, hs.df, live_new (St.bag (rs := []) hs.st), hs.bo⟩
/-- One more. -/
theorem k_push (i j : Nat) {rs : List Res} {r : Res} {K : Act → World → Prop} (hr : lk L i = some (Res.bag rs) := by rfl) (hj : lk (del i L) j = some r := by rfl) (h : Ho env D n w0 M B ((i, Res.bag (rs ++ [r])) :: del j (del i L)) K) : Ho env D n w0 M B L K := fun a w hs => h a w ⟨hs.tm, hs.df, by
  have h1 : St w0 w M (Res.bag rs :: live (del i L)) := live_front hs.st hr
  have h2 : St w0 w M (Res.bag rs :: r :: live (del j (del i L))) := h1.perm ((live_perm _ _ (Nat.le_refl _) hj).cons _)
  have h3 := (h2.unbag).perm (List.perm_middle)
  rw [← List.cons_append] at h3
  have h4 : St w0 w M (Res.bag (r :: rs) :: live (del j (del i L))) := St.bag h3
  exact live_new (bag_perm (List.perm_append_singleton r rs).symm h4), hs.bo⟩
/-! ### headers of slices -/
structure Hd (α : Type) where
  A : Option Addr
  c : Nat
  l : List α
instance {α : Type} : Inhabited (Hd α) := ⟨⟨none, 0, []⟩⟩
def hdEn (α : Type) (i : Nat) : En (Hd α) := ⟨fun s => .one (.sl i s.A s.l.length s.c), false, 1, fun _ => ⟨rfl, rfl⟩, by decide⟩
def Hd.res {α : Type} (e : TypeId) (E : En α) (s : Hd α) : Res := Res.rows s.A s.c e E s.l
/-! ### an append that keeps the elder slice -/
theorem fp_rows {α : Type} {e : TypeId} {E : En α} {A : Option Addr} {c : Nat} {l : List α} {b : Nat} : (Res.rows A c e E l).fp b ↔ obl A = some b := by unfold Res.rows; exact fp_row
theorem rows_cap {α : Type} {e : TypeId} {E : En α} {A : Option Addr} {c : Nat} {l : List α} {w : World} (h : (Res.rows A c e E l).holds w) : l.length ≤ c := by
  unfold Res.rows Res.row at h
  exact h.2.1
theorem fp_rd {α : Type} {E : En α} {A : Option Addr} {l : List α} {b : Nat} : (Res.rd A E l).fp b ↔ (l ≠ [] ∧ obl A = some b) := by unfold Res.rd Res.fact; exact Iff.rfl
/-- Two slices of one's own: of one array, the one the other's beginning; or of two. -/
def Res.two {α : Type} (e : TypeId) (E : En α) (A : Option Addr) (c : Nat) (l : List α) (A' : Option Addr) (c' : Nat) (l' : List α) : Res :=
  ⟨fun b => obl A = some b ∨ obl A' = some b,
   fun w => (Res.rows A c e E l).holds w ∧ (Res.rows A' c' e E l').holds w ∧ (A' = A ∧ c' = c ∧ l <+: l' ∨ ∀ b, obl A = some b → ¬ obl A' = some b),
   fun w h b hb => hb.elim (fun hb => (Res.rows A c e E l).bound w h.1 b (fp_rows.2 hb)) (fun hb => (Res.rows A' c' e E l').bound w h.2.1 b (fp_rows.2 hb)),
   fun w w' hk h => ⟨(Res.rows A c e E l).stable w w' (fun b hb => hk b (.inl (fp_rows.1 hb))) h.1, (Res.rows A' c' e E l').stable w w' (fun b hb => hk b (.inr (fp_rows.1 hb))) h.2.1, h.2.2⟩⟩
theorem two_of {α : Type} {e : TypeId} {E : En α} {A : Option Addr} {c : Nat} {l : List α} {w : World} (h : (Res.rows A c e E l).holds w) : (Res.two e E A c l A c l).holds w := ⟨h, h, .inl ⟨rfl, rfl, List.prefix_refl l⟩⟩
theorem fp_two {α : Type} {e : TypeId} {E : En α} {A A' : Option Addr} {c c' : Nat} {l l' : List α} {b : Nat} : (Res.two e E A c l A' c' l').fp b ↔ obl A = some b ∨ obl A' = some b := Iff.rfl
theorem two_rows {α : Type} {e : TypeId} {E : En α} {A A' : Option Addr} {c c' : Nat} {l l' : List α} {w : World} (h : (Res.two e E A c l A' c' l').holds w) : (Res.rows A c e E l).holds w := h.1
theorem view_two1 {α : Type} {e : TypeId} {E : En α} {A A' : Option Addr} {c c' : Nat} {l l' : List α} : View (Res.two e E A c l A' c' l') (Res.rd A E l) := ⟨fun w h => (view_rows.h w h.1), fun b hb => .inl (fp_rd.1 hb).2⟩
theorem view_two2 {α : Type} {e : TypeId} {E : En α} {A A' : Option Addr} {c c' : Nat} {l l' : List α} : View (Res.two e E A c l A' c' l') (Res.rd A' E l') := ⟨fun w h => (view_rows.h w h.2.1), fun b hb => .inr (fp_rd.1 hb).2⟩
theorem rows_prefix {α : Type} {e : TypeId} {E : En α} {A : Option Addr} {c : Nat} {l l' : List α} {w : World} (h : (Res.rows A c e E l').holds w) (hp : l <+: l') : (Res.rows A c e E l).holds w := by
  obtain ⟨t, rfl⟩ := hp
  unfold Res.rows Res.row at h ⊢
  obtain ⟨h1, h2, h3, h4⟩ := h
  have hfl : ∀ m : List α, (flat (E.dens m)).length = m.length * E.sz := fun m => by
    rw [length_flat, szs_const (n := E.sz) (E.sizes _)]
    unfold En.dens
    rw [List.length_map]
  have hsplit : flat (E.dens (l ++ t)) = flat (E.dens l) ++ flat (E.dens t) := by
    unfold En.dens
    rw [List.map_append, flat_append]
  have hlen : (l ++ t).length = l.length + t.length := List.length_append
  refine ⟨hfl l, by omega, h3, ?_⟩
  rcases h4 with ⟨h5, h6, h7⟩ | ⟨g, off, pre, post, h5, h6, h7, h8⟩
  · exact .inl ⟨h5, by omega, h7⟩
  · refine .inr ⟨g, off, pre, flat (E.dens t) ++ post, h5, ?_, h7, ?_⟩
    · rw [h6, hsplit]; simp [List.append_assoc]
    · rw [hsplit] at h8
      simpa [List.append_assoc] using h8
theorem d_append2 {α : Type} {i j c0 c c' m m' bytes sz : Nat} {A0 A A' A2 : Option Addr} {R : Res} {e : TypeId} {E : En α} {l0 l l' : List α} {agg : Bool} {z : SV} [hu : UD P T (.slice e)] [hT : TyA P e agg sz z bytes] (hx : ev env x = some (vsl i A m c) := by rfl) (hy : ev env y = some (vsl j A' m' c') := by rfl) (hr : lk L i = some (Res.two e E A0 c0 l0 A2 c l) := by rfl) (hA : A2 = A := by rfl) (hr' : lk2 B L j = some R := by rfl) (hro : RowM R A' m' E l' := by first | exact ⟨View.row (by assumption), by first | rfl | assumption | omega⟩ | exact ⟨rowOf_rows, by first | rfl | assumption | (simp only [List.length_drop, List.length_take, List.length_append, List.length_cons, List.length_nil]; done) | (simp only [List.length_drop, List.length_take, List.length_append, List.length_cons, List.length_nil]; omega) | omega⟩ | exact ⟨rowOf_rd, by first | rfl | assumption | (simp only [List.length_drop, List.length_take, List.length_append, List.length_cons, List.length_nil]; done) | (simp only [List.length_drop, List.length_take, List.length_append, List.length_cons, List.length_nil]; omega) | omega⟩ | exact ⟨rowOf_tail rowOf_rd (by omega) (by omega), by first | rfl | assumption | (simp only [List.length_drop, List.length_take, List.length_append, List.length_cons, List.length_nil]; done) | (simp only [List.length_drop, List.length_take, List.length_append, List.length_cons, List.length_nil]; omega) | omega⟩ | exact rowM_take rowOf_rd (by omega) | exact rowM_take (rowOf_tail rowOf_rd (by omega) (by omega)) (by first | omega | (simp only [List.length_drop]; omega)) | exact ⟨rowOf_tail rowOf_rows (by omega) (by omega), by first | rfl | assumption | (simp only [List.length_drop, List.length_take, List.length_append, List.length_cons, List.length_nil]; done) | (simp only [List.length_drop, List.length_take, List.length_append, List.length_cons, List.length_nil]; omega) | omega⟩ | exact rowM_take rowOf_rows (by omega) | exact rowM_take (rowOf_tail rowOf_rows (by omega) (by omega)) (by first | omega | (simp only [List.length_drop]; omega))) (hz : sz = E.sz := by rfl) (hm : m = l.length := by first | rfl | assumption | (simp only [List.length_append, List.length_cons, List.length_nil]; omega))
    (hb : (l.length + l'.length) * bytes ≤ 140737488355328 ∧ l.length + l'.length ≤ 140737488355328 := by first | omega | (simp only [List.length_append, List.length_cons, List.length_nil, List.length_drop, List.length_take]; omega)) (hd : Nat.blt d n = true := by rfl) :
    Does P ⟨some d, .call { callee := .builtin .append, args := #[x, y], argTypes := #[T, T] }, ty, pos, af, gd⟩ env D n w0 M B L (fun p : Option Addr × Nat => (d, vsl i p.1 (l ++ l').length p.2) :: env) (fun p => (i, Res.two e E A0 c0 l0 p.1 p.2 (l ++ l')) :: L) [i] :=
  ⟨fun a w K Q hs hk => by
    subst hA
    subst hm
    obtain rfl := hro.len
    subst hz
    have h1 : a.eval x = .slice A2 l.length c := ev_sound hs.tm hx
    have h2 : a.eval y = .slice A' l'.length c' := ev_sound hs.tm hy
    have hf := live_front hs.st hr
    have htwo : (Res.two e E A0 c0 l0 A2 c l).holds w := hf.res _ (List.mem_cons_self ..)
    obtain ⟨hr0, hr1, hpre⟩ := htwo
    have hrow : seg w e E.sz A2 l.length c (flat (E.dens l)) := by
      have := hr1
      unfold Res.rows Res.row at this
      exact this
    have hzs : z.den.cells.size = E.sz := by rw [z.sz_den, hT.zs]
    obtain ⟨Bn, c2, w', hrun, q1, q2, q3, q4, q5, qd, q6, q7, q8⟩ := run_appendS (ty := ty) (c' := c') hu.is hT.is E.pos hzs hrow (src_of (hro.is.is w (hs.facts j _ hr'))) hb.1 hb.2
    have hdens : flat (E.dens (l ++ l')) = flat (E.dens l) ++ flat (E.dens l') := by unfold En.dens; rw [List.map_append, flat_append]
    have hnew : (Res.rows Bn c2 e E (l ++ l')).holds w' := by
      unfold Res.rows Res.row
      rw [hdens, List.length_append]
      exact q1
    have hall : (Res.two e E A0 c0 l0 Bn c2 (l ++ l')).holds w' := by
      refine ⟨?_, hnew, ?_⟩
      · rcases q8 with ⟨rfl, rfl⟩ | ⟨hk2, _⟩
        · rcases hpre with ⟨rfl, rfl, hp⟩ | hp
          · exact rows_prefix hnew (hp.trans (List.prefix_append l l'))
          · exact (Res.rows A0 c0 e E l0).stable w w' (fun b hb => q6 b ((Res.rows A0 c0 e E l0).bound w hr0 b hb) (hp b (fp_rows.1 hb))) hr0
        · exact (Res.rows A0 c0 e E l0).stable w w' (fun b hb => hk2 b ((Res.rows A0 c0 e E l0).bound w hr0 b hb)) hr0
      · rcases q8 with ⟨rfl, rfl⟩ | ⟨_, hnb⟩
        · rcases hpre with ⟨rfl, rfl, hp⟩ | hp
          · exact .inl ⟨rfl, rfl, hp.trans (List.prefix_append l l')⟩
          · exact .inr hp
        · refine .inr fun b hb hb2 => ?_
          have h8 := (Res.rows A0 c0 e E l0).bound w hr0 b (fp_rows.2 hb)
          have h9 := hnb b hb2
          omega
    unfold Oper.wp execOp
    simp only [resolve, invoke, builtin, Sem.run_bind, Sem.run_pure, Result.andThen_ok, List.map_toArray, List.map_cons, List.map_nil, h1, h2]
    rw [hrun]
    refine hk (Bn, c2) _ w' ?_
    have h3 := hs.put (v := vsl i Bn (l ++ l').length c2) hd
    have hden : (vsl i Bn (l ++ l').length c2).den = .slice Bn (l.length + l'.length) c2 := by rw [← List.length_append]; rfl
    rw [hden] at h3
    refine h3.to ?_
    rw [live_cons]
    refine hf.turn (i := 0) (r := Res.two e E A0 c0 l0 A2 c l) (r' := Res.two e E A0 c0 l0 Bn c2 (l ++ l')) rfl q2 q3 q4 q5 (fun b hb hn => q6 b hb fun e => hn (.inr e)) hall (fun b hb => ?_) qd
    rcases hb with hb | hb
    · exact .inl (.inl hb)
    · exact (q7 b hb).imp .inr id, kp_one⟩
/-! ### make -/
theorem made_cells {z : Array Value} (hz : 0 < z.size) (n : Nat) : (madeCells z (n * z.size)).toList = (List.replicate n z.toList).flatten := by
  apply List.ext_getElem?
  intro t
  rw [flat_get (k := z.size) hz _ _ (fun v hv => by rw [(List.mem_replicate.1 hv).2, Array.length_toList])]
  unfold madeCells
  rw [Array.getElem?_toList, Array.getElem?_map, List.getElem?_replicate]
  by_cases ht : t < n * z.size
  · have h1 : t / z.size < n := (Nat.div_lt_iff_lt_mul hz).2 ht
    have h2 : t % z.size < z.size := Nat.mod_lt _ hz
    rw [if_pos h1]
    simp [ht, h2]
  · have h1 : ¬ t / z.size < n := fun h => ht ((Nat.div_lt_iff_lt_mul hz).1 h)
    rw [if_neg h1]
    simp [ht]
theorem d_makeSlice {α : Type} {e : TypeId} {E : En α} {zv : α} {m bytes sz : Nat} {k : IntKind} {p : Int} {agg : Bool} {z z' : SV} [hu : UD P T (.slice e)] [hT : TyA P e agg sz z bytes] [hE : ElT P e E] (hZ : ZeroOf E zv z' := by infer_instance) (hzz : z'.den = z.den := by rfl) (hx : ev env x = some (vi k p) := by rfl) (hy : ev env y = some (vi k p) := by rfl) (hz : sz = E.sz := by rfl) (hp : p = (m : Int) := by first | rfl | omega) (hb : m * bytes ≤ 140737488355328 ∧ m ≤ 140737488355328 := by omega) (hd : Nat.blt d n = true := by rfl) :
    Does P ⟨some d, .makeSlice T x y, ty, pos, af, gd⟩ env D n w0 M B L (fun g : Nat => (d, vsl (10000 + d) (some ⟨g, 0, none⟩) m m) :: env) (fun g => (10000 + d, Res.rows (some ⟨g, 0, none⟩) m e E (List.replicate m zv)) :: L) [10000 + d] :=
  ⟨fun a w K Q hs hk => by
    subst hz; subst hp
    have h1 : a.eval x = .int k m := ev_sound hs.tm hx
    have h2 : a.eval y = .int k m := ev_sound hs.tm hy
    obtain ⟨i, hi, he⟩ := Option.map_eq_some_iff.1 hT.is.info
    simp only [Prod.mk.injEq] at he
    obtain ⟨hz', hisz, hib⟩ := he
    have hzsz : z.den.cells.size = E.sz := by rw [z.sz_den, hT.zs]
    have hmb : (i.bytes : Int) * (m : Int) ≤ 281474976710656 := by
      rw [hib, Int.mul_comm]
      have := hb.1
      have h3 : ((m * bytes : Nat) : Int) ≤ 281474976710656 := by omega
      rwa [Int.natCast_mul] at h3
    have hr := run_make (P := P) w T e i z.den hu.is hi hz' k k (m : Int) (m : Int) (by omega) (Int.le_refl _) hmb (by omega)
    simp only [Int.toNat_natCast] at hr
    unfold Oper.wp execOp
    simp only [h1, h2]
    rw [Sem.run_bind, hr]
    refine hk w.heap.size _ _ ?_
    have h3 := hs.put (v := vsl (10000 + d) (some ⟨w.heap.size, 0, none⟩) m m) hd
    refine h3.to (live_new ?_)
    refine hs.st.new (w' := w.alloc (.cells (madeCells z.den.cells (m * i.size)) e)) rfl rfl rfl (by simp) (fun b hb => Below.heap_alloc w _ b hb) ?_ (fun b hb => ?_)
    · have hd1 : flat (E.dens (List.replicate m zv)) = (madeCells z.den.cells (m * i.size)).toList := by
        rw [hisz, ← hzsz, made_cells (by rw [hzsz]; exact E.pos)]
        unfold En.dens flat
        rw [List.map_replicate, hZ.is, hzz, List.flatMap_replicate]
      unfold Res.rows Res.row
      refine ⟨?_, ?_, ?_, .inr ⟨w.heap.size, 0, [], [], rfl, ?_, rfl, ?_⟩⟩
      · rw [length_flat, szs_const (n := E.sz) (E.sizes _)]
        unfold En.dens
        rw [List.length_map]
      · rw [List.length_replicate]; exact Nat.le_refl _
      · have := hb.2
        simp only [maxLen]
        omega
      · rw [List.nil_append, List.append_nil, hd1]
        exact heap_alloc_new w _
      · rw [List.append_nil, hd1, Array.length_toList, size_madeCells, hisz]
        exact Nat.le_refl _
    · have := fp_row.1 hb
      simp [obl] at this
      omega, kp_one⟩
theorem d_make0 {e : TypeId} {bytes sz : Nat} {k : IntKind} {p : Int} {agg : Bool} {z : SV} [hu : UD P T (.slice e)] [hT : TyA P e agg sz z bytes] (hx : ev env x = some (vi k p) := by rfl) (hy : ev env y = some (vi k p) := by rfl) (hp : p = 0 := by rfl) (hd : Nat.blt d n = true := by rfl) :
    Does P ⟨some d, .makeSlice T x y, ty, pos, af, gd⟩ env D n w0 M B L (fun g : Nat => (d, vsl 0 (some ⟨g, 0, none⟩) 0 0) :: env) (fun _ => L) [] :=
  ⟨fun a w K Q hs hk => by
    subst hp
    have h1 : a.eval x = .int k 0 := ev_sound hs.tm hx
    have h2 : a.eval y = .int k 0 := ev_sound hs.tm hy
    obtain ⟨i, hi, he⟩ := Option.map_eq_some_iff.1 hT.is.info
    simp only [Prod.mk.injEq] at he
    obtain ⟨hz', hisz, hib⟩ := he
    have hr := run_make (P := P) w T e i z.den hu.is hi hz' k k 0 0 (Int.le_refl _) (Int.le_refl _) (by omega) (by omega)
    simp only [Int.toNat_zero] at hr
    unfold Oper.wp execOp
    simp only [h1, h2]
    rw [Sem.run_bind, hr]
    refine hk w.heap.size _ _ ?_
    exact (hs.put (v := vsl 0 (some ⟨w.heap.size, 0, none⟩) 0 0) hd).to (hs.st.garbage _), fun _ _ _ => rfl⟩
/-! ### bytes of a hash -/
def u8 (n : Int) : UInt8 := UInt8.ofNat (n % 256).toNat
theorem u8_wrap (n : Int) : IntKind.u8.wrap n = ((u8 n).toNat : Int) := by
  have h1 : (n % 256).toNat < 256 := by omega
  unfold u8
  rw [UInt8.toNat_ofNat_of_lt' (by simpa using h1)]
  simp [IntKind.wrap, IntKind.signed, IntKind.bits]
  omega
def PartsH (env : List (Nat × TV)) : List (Nat × Operand) → List (Nat × UInt8) → Prop
  | [], [] => True
  | (i, x) :: l, (j, b) :: m => i = j ∧ (∃ q, ev env x = some (vi .u8 q) ∧ q = (b.toNat : Int)) ∧ PartsH env l m
  | _, _ => False
theorem partsH_spec {a : Act} (ht : Tm env n a) : ∀ {l : List (Nat × Operand)} {m : List (Nat × UInt8)}, PartsH env l m → l.map (fun p => (p.1, a.eval p.2)) = m.map fun p => (p.1, Value.int .u8 p.2.toNat)
  | [], [], _ => rfl
  | [], _ :: _, h => h.elim
  | _ :: _, [], h => h.elim
  | (i, x) :: l, (j, b) :: m, ⟨h1, ⟨q, h2, h3⟩, h4⟩ => by
    subst h1; subst h3
    rw [List.map_cons, List.map_cons, partsH_spec ht h4]
    have : a.eval x = .int .u8 b.toNat := ev_sound ht h2
    rw [this]
theorem r_buildH {parts : Array (Nat × Operand)} {e : TypeId} {bytes b1 : Nat} {z z1 : SV} (ps : List (Nat × UInt8)) [hu : UD P T (.array 32 e)] [hT : TyA P T true 32 z bytes] [hE : TyA P e false 1 z1 b1] (hp : PartsH env parts.toList ps) (hz : z.den = hval hz := by rfl) (hl : ∀ p ∈ ps, p.1 < 32 := by first | decide | simp) : Reads P ⟨dst, .build T parts, ty, pos, af, gd⟩ env n B L (vh (hset HL.hz ps)) := fun a w ht _ => by
  have h1 : (parts.map fun p => (p.1, a.eval p.2)).toList = ps.map fun p => (p.1, Value.int .u8 p.2.toNat) := by
    rw [Array.toList_map]
    exact partsH_spec ht hp
  have hparts : (parts.map fun x => (x.1, a.eval x.2)) = (ps.map fun p => (p.1, Value.int .u8 p.2.toNat)).toArray := Array.toList_inj.1 h1
  have hrun : (Instr.build T (ps.map fun p => (p.1, Value.int .u8 p.2.toNat)).toArray).run P w = .ok (hval (hset HL.hz ps)) w := by
    obtain ⟨i, hi, hi2⟩ := Option.map_eq_some_iff.1 hT.is.info
    obtain ⟨j, hj, hj2⟩ := Option.map_eq_some_iff.1 hE.is.info
    simp only [Prod.mk.injEq] at hi2 hj2
    have := fill_hash ps HL.hz hl
    have h2 := run_build (P := P) w T (ps.map fun p => (p.1, Value.int .u8 p.2.toNat)).toArray (hcells (hset HL.hz ps)).toArray (by
      simp only [Program.built, hi, hu.is, hi2.1, hj, hj2.2.1, hz]
      unfold hval
      exact this)
    unfold hval
    exact h2
  unfold execOp
  simp only [Sem.run_bind]
  rw [hparts, hrun]
  rfl
/-! ### a loop that has no round -/
theorem c_loop0 {c : Code} (v : Nat) (ts : List Nat) {re : Env} {rh : Hp} (hk : keepO env ts = some re := by rfl) (hh : without [] L = rh := by rfl)
    (he : InE env ([(v, vint (0 : Nat))] ++ re) := by repeat (first | exact trivial | refine ⟨⟨_, rfl, rfl⟩, ?_⟩)) (hl : InH L ([] ++ rh) := by repeat (first | exact trivial | refine ⟨rfl, ?_⟩)) (hn : nodupB ((([] : Hp) ++ rh).map (·.1)) = true := by rfl)
    (h : Ho ([(v, vint (0 : Nat))] ++ re) D n w0 M B rh (c.wp P (Exit.then (fun _ _ => False) Q))) : Ho env D n w0 M B L ((Code.loop c).wp P Q) :=
  c_loopA (fun m E H => E = [(v, vint (0 : Nat))] ∧ H = []) ts 0 [(v, vint (0 : Nat))] [] hk hh ⟨rfl, rfl⟩ he hl hn (fun m E H hI => by
    obtain ⟨rfl, rfl⟩ := hI
    exact fun a w hs => wp_mono (h a w hs) fun e a' w' hq => by
      cases e with
      | normal => exact hq.elim
      | exit id => exact hq
      | goto l => exact hq
      | ret => exact hq
      | panic ch => exact hq
      | outgrown => exact hq)
/-! ### what is known -/
theorem k_know (t : Nat) (b : Bool) {x : Bool} {K : Act → World → Prop} (ht : lk env t = some (vb x) := by rfl) (hb : x = b) (h : Ho ((t, vb b) :: env) D n w0 M B L K) : Ho env D n w0 M B L K := by
  subst hb
  exact k_val t (vb x) ht rfl h
theorem k_knowC (t : Nat) (b : Bool) {x : Bool} {K : Act → World → Prop} (ht : lk env t = some (vb x) := by rfl) (hb : x = b) (h : HoC LF ((t, vb b) :: env) D n w0 M B L K) : HoC LF env D n w0 M B L K := fun hc => k_know t b ht hb (h hc)
theorem k_valC (t : Nat) {u : TV} (v : TV) {K : Act → World → Prop} (ht : lk env t = some u := by rfl) (hv : u.den = v.den := by rfl) (h : HoC LF ((t, v) :: env) D n w0 M B L K) : HoC LF env D n w0 M B L K := fun hc => k_val t v ht hv (h hc)
end
end HL
end Go.Proofs.YtonbgcehgmpnkaaGreat
/- SYMBOLIC STATES: structs held against each other. My own text; it names no program. -/


set_option linter.unusedVariables false
set_option linter.unusedSimpArgs false
set_option linter.unusedSectionVars false
namespace Go.Proofs.YtonbgcehgmpnkaaGreat
namespace HL
open Go Go.RowKit
/-- Equality of values of a type. -/
structure EqV (P : Program) (T : TypeId) {α : Type} [DecidableEq α] (enc : α → Value) (n : Nat) : Prop where
  eq : ∀ d, n ≤ d → ∀ (x y : α) (w : World), (Op.equalIn d T (enc x) (enc y)).run P w = .ok (decide (x = y)) w
theorem EqTy.v {P : Program} {T : TypeId} {α : Type} [DecidableEq α] {enc : α → Value} {n : Nat} (h : EqTy P T enc n) : EqV P T enc n := ⟨h.eq⟩
theorem run_partV {P : Program} {off ft k : Nat} {vs : List Value} {v : Value} (hf : Fits P ft v) (hv : vs[k]? = some v) (ho : szs (vs.take k) = off) (w : World) : (part ft (flat vs).toArray off).run P w = .ok v w := by
  obtain ⟨agg, sz, z, bytes, ht, ha, hs⟩ := hf.ex
  obtain ⟨e1, _⟩ := flat_set (v := v) hv
  unfold part
  rw [Sem.run_bind, ht.isAgg w]
  simp only [Result.andThen_ok]
  have hlen : (flat (vs.take k)).length = off := by rw [length_flat]; exact ho
  cases agg with
  | true =>
    obtain ⟨cs, rfl⟩ : ∃ cs, v = .agg cs := by cases v <;> simp_all [isAggV]
    simp only [if_true, Sem.run_bind, ht.size w, Result.andThen_ok, Sem.run_pure]
    congr 2
    apply Array.toList_inj.1
    simp only [Array.toList_extract, List.extract_eq_take_drop, Nat.add_sub_cancel_left]
    rw [e1, ← hlen, List.append_assoc, List.drop_left, ← hs, ← Array.length_toList, List.take_left]
    rfl
  | false =>
    have hc : v.cells = #[v] := by cases v <;> first | rfl | simp_all [isAggV]
    have : (flat vs).toArray[off]? = some v := by
      rw [List.getElem?_toArray, e1, ← hlen, hc, List.append_assoc, List.getElem?_append_right (Nat.le_refl _), Nat.sub_self]
      rfl
    simp [this]
/-- A field of a struct that is held against another's. -/
structure FE (P : Program) (α : Type) where
  β : Type
  dec : DecidableEq β
  enc : β → Value
  n : Nat
  proj : α → β
  ft : TypeId
  sz : Nat
  eq : EqV P ft enc n
  fits : ∀ b, Fits P ft (enc b)
  size : ∀ b, (enc b).cells.size = sz
def FE.vals {P : Program} {α : Type} (L : List (FE P α)) (x : α) : List Value := L.map fun F => F.enc (F.proj x)
def FE.offs {P : Program} {α : Type} : Nat → List (FE P α) → List (TypeId × Nat)
  | _, [] => []
  | o, F :: L => (F.ft, o) :: FE.offs (o + F.sz) L
def FE.same {P : Program} {α : Type} : List (FE P α) → α → α → Bool
  | [], _, _ => true
  | F :: L, x, y => (@decide (F.proj x = F.proj y) (F.dec _ _)) && FE.same L x y
theorem szs_app (a b : List Value) : szs (a ++ b) = szs a + szs b := szs_append a b
theorem run_eqFields {P : Program} {α : Type} {d : Nat} (x y : α) (w : World) : ∀ (L : List (FE P α)) (fs : List Field) (px py : List Value) (o : Nat), fs.map (fun f => (f.type, f.offset)) = FE.offs o L → (∀ f ∈ fs, f.name ≠ "_") → (∀ F ∈ L, F.n ≤ d) → szs px = o → szs py = o →
    (Op.eqFields d (flat (px ++ FE.vals L x)).toArray (flat (py ++ FE.vals L y)).toArray fs).run P w = .ok (FE.same L x y) w
  | [], [], px, py, o, _, _, _, _, _ => rfl
  | [], f :: fs, _, _, _, h, _, _, _, _ => by cases h
  | F :: L, [], _, _, _, h, _, _, _, _ => by cases h
  | F :: L, f :: fs, px, py, o, h, hn, hd, hx, hy => by
    have h' : (f.type, f.offset) :: fs.map (fun f => (f.type, f.offset)) = (F.ft, o) :: FE.offs (o + F.sz) L := h
    injection h' with h1 h2
    injection h1 with h1 h3
    have gx : (px ++ FE.vals (F :: L) x)[px.length]? = some (F.enc (F.proj x)) := by
      rw [List.getElem?_append_right (Nat.le_refl _), Nat.sub_self]; rfl
    have gy : (py ++ FE.vals (F :: L) y)[py.length]? = some (F.enc (F.proj y)) := by
      rw [List.getElem?_append_right (Nat.le_refl _), Nat.sub_self]; rfl
    letI := F.dec
    have r1 := run_partV (P := P) (off := o) (F.fits (F.proj x)) gx (by rw [List.take_left]; exact hx) w
    have r2 := run_partV (P := P) (off := o) (F.fits (F.proj y)) gy (by rw [List.take_left]; exact hy) w
    have r3 := F.eq.eq d (hd F (List.mem_cons_self ..)) (F.proj x) (F.proj y) w
    have ex : px ++ FE.vals (F :: L) x = (px ++ [F.enc (F.proj x)]) ++ FE.vals L x := by rw [List.append_assoc]; rfl
    have ey : py ++ FE.vals (F :: L) y = (py ++ [F.enc (F.proj y)]) ++ FE.vals L y := by rw [List.append_assoc]; rfl
    have s1 : ∀ v : Value, szs [v] = v.cells.size := fun v => by simp [szs]
    have ih := run_eqFields x y w L fs (px ++ [F.enc (F.proj x)]) (py ++ [F.enc (F.proj y)]) (o + F.sz) h2 (fun f hf => hn f (List.mem_cons_of_mem _ hf)) (fun F hF => hd F (List.mem_cons_of_mem _ hF)) (by rw [szs_app, hx, s1, F.size]) (by rw [szs_app, hy, s1, F.size])
    rw [← ex, ← ey] at ih
    unfold Op.eqFields
    rw [if_pos (hn f (List.mem_cons_self ..)), h1, h3]
    simp only [Sem.run_bind, r1, r2, r3, Result.andThen_ok]
    unfold FE.same
    cases hdec : @decide (F.proj x = F.proj y) (F.dec _ _) with
    | false => simp
    | true => simpa using ih
theorem eqV_struct {P : Program} {T : TypeId} {α : Type} [DecidableEq α] (L : List (FE P α)) {enc : α → Value} {n : Nat} {fs : Array Field} (hu : P.underlying T = some (.struct fs)) (hp : P.stoodInHeld T = false) (ho : fs.toList.map (fun f => (f.type, f.offset)) = FE.offs 0 L) (hn : (fs.toList.all fun f => f.name != "_") = true) (hd : ∀ F ∈ L, F.n ≤ n) (he : ∀ x, enc x = mkS (FE.vals L x)) (hs : ∀ x y, FE.same L x y = decide (x = y)) : EqV P T enc (n + 1) := ⟨fun d hd' x y w => by
  obtain ⟨m, rfl⟩ : ∃ m, d = m + 1 := ⟨d - 1, by omega⟩
  have hf : P.fieldsOf T = fs := by unfold Program.fieldsOf; rw [hu]
  rw [he, he]
  unfold mkS
  rw [run_equalIn_struct w m T _ _ (by rw [hf]; exact hu) hp, hf]
  have := run_eqFields (P := P) (d := m) x y w L fs.toList [] [] 0 ho (fun f hf => by have := List.all_eq_true.1 hn f hf; simpa using this) (fun F hF => Nat.le_trans (hd F hF) (by omega)) rfl rfl
  rw [List.nil_append, List.nil_append] at this
  rw [this, hs]⟩
class EqE (P : Program) (T : TypeId) {α : outParam Type} [DecidableEq α] (E : outParam (En α)) : Prop where
  eq : ∃ n, n ≤ 10000 ∧ EqV P T (fun x => (E.f x).den) n
  g : P.eqGuardType P.depth T = false
  ag : E.agg = true
section
variable {P : Program} {env : List (Nat × TV)} {n : Nat} {B L : List (Nat × Res)}
variable {dst : Option Tmp} {ty : TypeId} {pos : String} {af : Array Edge} {gd : Option (Nat × Bool)} {x y : Operand} {T T' : TypeId}
theorem en_agg {α : Type} {E : En α} (h : E.agg = true) (u : α) : ∃ c, (E.f u).den = .agg c := by
  have h1 := (E.f u).isAgg_den
  rw [(E.ok u).1, h] at h1
  cases hc : (E.f u).den <;> simp_all [isAggV]
theorem r_eqSt {α : Type} [DecidableEq α] {E : En α} {u v : α} {X Y : SV} [h : EqE P T E] (hx : ev env x = some (.s X) := by rfl) (hy : ev env y = some (.s Y) := by rfl) (hX : X = E.f u := by rfl) (hY : Y = E.f v := by rfl) : Reads P ⟨dst, .binOp .eql T x y T', ty, pos, af, gd⟩ env n B L (vb (decide (u = v))) := fun a w ht _ => by
  subst hX; subst hY
  have h1 : a.eval x = (E.f u).den := ev_sound ht hx
  have h2 : a.eval y = (E.f v).den := ev_sound ht hy
  obtain ⟨m, hm, hq⟩ := h.eq
  obtain ⟨c1, e1⟩ := en_agg h.ag u
  obtain ⟨c2, e2⟩ := en_agg h.ag v
  have := hq.eq 10000 hm u v w
  rw [e1, e2] at this
  unfold execOp
  simp only [h1, h2, e1, e2]
  simp only [Sem.run_bind, run_eqGuard_agg w .eql T x y c1 c2 h.g, Result.andThen_ok, run_eql_struct, this]
  rfl
theorem r_neSt {α : Type} [DecidableEq α] {E : En α} {u v : α} {X Y : SV} [h : EqE P T E] (hx : ev env x = some (.s X) := by rfl) (hy : ev env y = some (.s Y) := by rfl) (hX : X = E.f u := by rfl) (hY : Y = E.f v := by rfl) : Reads P ⟨dst, .binOp .neq T x y T', ty, pos, af, gd⟩ env n B L (vb (!decide (u = v))) := fun a w ht _ => by
  subst hX; subst hY
  have h1 : a.eval x = (E.f u).den := ev_sound ht hx
  have h2 : a.eval y = (E.f v).den := ev_sound ht hy
  obtain ⟨m, hm, hq⟩ := h.eq
  obtain ⟨c1, e1⟩ := en_agg h.ag u
  obtain ⟨c2, e2⟩ := en_agg h.ag v
  have := hq.eq 10000 hm u v w
  rw [e1, e2] at this
  unfold execOp
  simp only [h1, h2, e1, e2]
  simp only [Sem.run_bind, run_eqGuard_agg w .neq T x y c1 c2 h.g, Result.andThen_ok, run_neq_struct, this]
  rfl
end
end HL
end Go.Proofs.YtonbgcehgmpnkaaGreat
