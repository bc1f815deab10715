/- SYMBOLIC STATES: code, loops, calls, regions that draw their order. My own text; it names no program. -/
import Derived.Test.YtonbgcehgmpnkaaK3
set_option linter.unusedVariables false
set_option linter.unusedSimpArgs false
set_option linter.unusedSectionVars false
namespace Go.Proofs.Ytonbgcehgmpnkaa
namespace HL
open Go Go.RowKit
/-- How a call ends. -/
inductive Out where
  | ret (v : TV)
  | pan (c : List PanicEntry)
def Out.den : Out → Ending
  | .ret v => .returned v.den
  | .pan c => .panicked c
def Post (post : Out → List Res → Prop) (w0 : World) (M : Nat → Prop) (e : Ending) (w' : World) : Prop := ∃ o L, o.den = e ∧ post o L ∧ St w0 w' M L
def memB (i : Nat) : List Nat → Bool
  | [] => false
  | j :: js => bif Nat.beq i j then true else memB i js
def nodupB : List Nat → Bool
  | [] => true
  | i :: is => bif memB i is then false else nodupB is
theorem memB_spec {i : Nat} : ∀ {l : List Nat}, memB i l = false → i ∉ l
  | [], _ => by simp
  | j :: js, h => by
    unfold memB at h
    cases hb : Nat.beq i j with
    | true => rw [hb] at h; cases h
    | false =>
      rw [hb] at h
      intro hm
      rcases List.mem_cons.1 hm with e | hm
      · subst e; rw [Nat.beq_refl] at hb; cases hb
      · exact memB_spec h hm
theorem nodupB_spec : ∀ {l : List Nat}, nodupB l = true → l.Nodup
  | [], _ => List.nodup_nil
  | i :: is, h => by
    unfold nodupB at h
    cases hb : memB i is with
    | true => rw [hb] at h; cases h
    | false => rw [hb] at h; exact List.nodup_cons.2 ⟨memB_spec hb, nodupB_spec h⟩
def picks (L : Hp) : List Nat → Option (List Res)
  | [] => some []
  | i :: is => match lk L i with
    | some r => match picks L is with
      | some rs => some (r :: rs)
      | none => none
    | none => none
theorem picks_cons {L : Hp} {i : Nat} {is : List Nat} {rs : List Res} (h : picks L (i :: is) = some rs) : ∃ r rs', lk L i = some r ∧ picks L is = some rs' ∧ rs = r :: rs' := by
  unfold picks at h
  split at h
  · rename_i r hr
    split at h
    · rename_i rs' hrs
      injection h with h
      exact ⟨r, rs', hr, hrs, h.symm⟩
    · cases h
  · cases h
theorem picks_del {L : Hp} {k : Nat} : ∀ {is : List Nat} {rs : List Res}, k ∉ is → picks L is = some rs → picks (del k L) is = some rs
  | [], rs, _, h => h
  | i :: is, rs, hk, h => by
    obtain ⟨r, rs', h1, h2, rfl⟩ := picks_cons h
    simp only [List.mem_cons, not_or] at hk
    unfold picks
    rw [lk_del, if_neg (fun e => hk.1 e.symm), h1, picks_del hk.2 h2]
def dels {α : Type _} (is : List Nat) (L : List (Nat × α)) : List (Nat × α) := is.foldl (fun L i => del i L) L
theorem St.picks {w0 w : World} {M : Nat → Prop} : ∀ {is : List Nat} {L : Hp} {rs : List Res}, St w0 w M (live L) → picks L is = some rs → is.Nodup → St w0 w M (rs ++ live (dels is L))
  | [], L, rs, h, hp, _ => by
    unfold HL.picks at hp
    injection hp with hp
    subst hp
    exact h
  | i :: is, L, rs, h, hp, hn => by
    obtain ⟨r, rs', h1, h2, rfl⟩ := picks_cons hp
    have hn' := List.nodup_cons.1 hn
    have hf := live_front h h1
    -- the rest, with r aside
    have gen : ∀ {is : List Nat} {L : Hp} {rs : List Res} {X : List Res}, St w0 w M (X ++ live L) → HL.picks L is = some rs → is.Nodup → St w0 w M (X ++ (rs ++ live (dels is L))) := by
      intro is
      induction is with
      | nil => intro L rs X h hp _; unfold HL.picks at hp; injection hp with hp; subst hp; exact h
      | cons i is ih =>
        intro L rs X h hp hn
        obtain ⟨r, rs', h1, h2, rfl⟩ := picks_cons hp
        have hn' := List.nodup_cons.1 hn
        have hperm : (X ++ live L).Perm ((X ++ [r]) ++ live (del i L)) := by
          rw [List.append_assoc]
          exact (live_perm _ L (Nat.le_refl _) h1).append_left X
        have := ih (h.perm hperm) (picks_del hn'.1 h2) hn'.2
        rw [List.append_assoc] at this
        exact this
    have := gen (X := [r]) hf (picks_del hn'.1 h2) hn'.2
    exact this
section
variable {P : Program} {Q : Exit → Act → World → Prop}
variable {env env' : Env} {D : List Deferred} {n : Nat} {w0 : World} {M : Nat → Prop} {B L L' : Hp} {K : Act → World → Prop}
/-! ### code -/
theorem c_seq {x y : Code} (h : Ho env D n w0 M B L (x.wp P (Exit.then (y.wp P Q) Q))) : Ho env D n w0 M B L ((Code.seq x y).wp P Q) := fun a w hs => wp_seq (h a w hs)
theorem c_block {id : Nat} {c : Code} (h : Ho env D n w0 M B L (c.wp P (Exit.inBlock id Q))) : Ho env D n w0 M B L ((Code.block id c).wp P Q) := fun a w hs => wp_block (h a w hs)
theorem c_skip (h : Ho env D n w0 M B L (Q .normal)) : Ho env D n w0 M B L (Code.skip.wp P Q) := fun a w hs => wp_skip (h a w hs)
theorem c_exit {id : Nat} (h : Ho env D n w0 M B L (Q (.exit id))) : Ho env D n w0 M B L ((Code.exit id).wp P Q) := fun a w hs => wp_exit (h a w hs)
theorem c_ret (h : Ho env D n w0 M B L (Q .ret)) : Ho env D n w0 M B L (Code.ret.wp P Q) := fun a w hs => wp_ret (h a w hs)
theorem c_region {id : Nat} {l : List Oper} (h : Ho env D n w0 M B L (wpList P l.toArray Q l)) : Ho env D n w0 M B L ((Code.region id l.toArray false).wp P Q) := fun a w hs => wp_region_lit (h a w hs)
theorem c_if {c : Operand} {x y : Code} {t : Bool} (hc : ev env c = some (vb t) := by rfl) (h1 : t = true → Ho env D n w0 M B L (x.wp P Q)) (h2 : t = false → Ho env D n w0 M B L (y.wp P Q)) : Ho env D n w0 M B L ((Code.cond c x y).wp P Q) := fun a w hs =>
  wp_cond_split (ev_sound hs.tm hc) (fun h => h1 h a w hs) (fun h => h2 h a w hs)
theorem c_ifd {c : Operand} {x y : Code} {p : Prop} [Decidable p] (hc : ev env c = some (vb (decide p)) := by rfl) (h1 : p → Ho env D n w0 M B L (x.wp P Q)) (h2 : ¬ p → Ho env D n w0 M B L (y.wp P Q)) : Ho env D n w0 M B L ((Code.cond c x y).wp P Q) :=
  c_if hc (fun h => h1 (of_decide_eq_true h)) (fun h => h2 (of_decide_eq_false h))
theorem c_ifn {c : Operand} {x y : Code} {p : Prop} [Decidable p] (hc : ev env c = some (vb (!decide p)) := by rfl) (h1 : ¬ p → Ho env D n w0 M B L (x.wp P Q)) (h2 : p → Ho env D n w0 M B L (y.wp P Q)) : Ho env D n w0 M B L ((Code.cond c x y).wp P Q) :=
  c_if hc (fun h => h1 (by simpa using h)) (fun h => h2 (by simpa using h))
theorem c_true {c : Operand} {x y : Code} (hc : ev env c = some (vb true) := by rfl) (h : Ho env D n w0 M B L (x.wp P Q)) : Ho env D n w0 M B L ((Code.cond c x y).wp P Q) := fun a w hs => wp_cond_true (ev_sound hs.tm hc) (h a w hs)
theorem c_false {c : Operand} {x y : Code} (hc : ev env c = some (vb false) := by rfl) (h : Ho env D n w0 M B L (y.wp P Q)) : Ho env D n w0 M B L ((Code.cond c x y).wp P Q) := fun a w hs => wp_cond_false (ev_sound hs.tm hc) (h a w hs)
theorem x_then (h : Ho env D n w0 M B L K) : Ho env D n w0 M B L (Exit.then K Q .normal) := h
theorem x_thenE {id : Nat} (h : Ho env D n w0 M B L (Q (.exit id))) : Ho env D n w0 M B L (Exit.then K Q (.exit id)) := h
theorem x_thenR (h : Ho env D n w0 M B L (Q .ret)) : Ho env D n w0 M B L (Exit.then K Q .ret) := h
theorem x_thenP {c : List PanicEntry} (h : Ho env D n w0 M B L (Q (.panic c))) : Ho env D n w0 M B L (Exit.then K Q (.panic c)) := h
theorem x_in {id : Nat} (h : Ho env D n w0 M B L (Q .normal)) : Ho env D n w0 M B L (Exit.inBlock id Q .normal) := h
theorem x_inE {id : Nat} (h : Ho env D n w0 M B L (Q .normal)) : Ho env D n w0 M B L (Exit.inBlock id Q (.exit id)) := fun a w hs => by
  simp only [Exit.inBlock, if_true]
  exact h a w hs
theorem x_inO {id id' : Nat} (h : Ho env D n w0 M B L (Q (.exit id'))) (hne : Nat.beq id' id = false := by rfl) : Ho env D n w0 M B L (Exit.inBlock id Q (.exit id')) := fun a w hs => by
  have : ¬ id' = id := fun e => by subst e; rw [Nat.beq_refl] at hne; cases hne
  simp only [Exit.inBlock, this, if_false]
  exact h a w hs
theorem x_inR {id : Nat} (h : Ho env D n w0 M B L (Q .ret)) : Ho env D n w0 M B L (Exit.inBlock id Q .ret) := h
theorem x_inP {id : Nat} {c : List PanicEntry} (h : Ho env D n w0 M B L (Q (.panic c))) : Ho env D n w0 M B L (Exit.inBlock id Q (.panic c)) := h
/-! ### the state, told otherwise -/
/-- Values that are there. -/
def InE (env : Env) : Env → Prop
  | [] => True
  | (t, v) :: r => (∃ u, lk env t = some u ∧ u.den = v.den) ∧ InE env r
theorem InE.lk {env : Env} : ∀ {env' : Env}, InE env env' → ∀ {t : Nat} {v : TV}, lk env' t = some v → ∃ u, HL.lk env t = some u ∧ u.den = v.den
  | [], _, t, v, h => by cases h
  | (k, x) :: r, hi, t, v, h => by
    rw [lk_cons] at h
    by_cases e : k = t
    · rw [if_pos e] at h
      injection h with h
      subst h
      subst e
      exact hi.1
    · rw [if_neg e] at h
      exact hi.2.lk h
theorem InE.tm {a : Act} (h : InE env env') (ht : Tm env n a) : Tm env' n a := ⟨fun t v hv => by
  obtain ⟨u, h1, h2⟩ := h.lk hv
  rw [ht.tm t u h1, h2], ht.sz⟩
/-- Resources that are there. -/
def InH (L : Hp) : Hp → Prop
  | [] => True
  | (i, r) :: t => HL.lk L i = some r ∧ InH L t
theorem InH.picks : ∀ {L' : Hp}, InH L L' → HL.picks L (L'.map (·.1)) = some (L'.map (·.2))
  | [], _ => rfl
  | (i, r) :: t, h => by
    show HL.picks L (i :: t.map (·.1)) = _
    unfold HL.picks
    rw [h.1, InH.picks h.2]
    rfl
theorem live_nodup : ∀ {L : Hp}, (L.map (·.1)).Nodup → live L = L.map (·.2)
  | [], _ => live_nil
  | (i, r) :: t, h => by
    have h' := List.nodup_cons.1 h
    have hn : lk t i = none := by
      cases hl : lk t i with
      | none => rfl
      | some q =>
        exfalso
        refine h'.1 ?_
        have gen : ∀ (t : Hp), lk t i = some q → i ∈ t.map (·.1) := by
          intro t
          induction t with
          | nil => intro h; cases h
          | cons x t ih =>
            obtain ⟨k, v⟩ := x
            intro h
            rw [lk_cons] at h
            by_cases e : k = i
            · simp [e]
            · rw [if_neg e] at h
              exact List.mem_cons_of_mem _ (ih h)
        exact gen t hl
    rw [live_cons, del_same hn, live_nodup h'.2]
    rfl
theorem InH.st {w : World} (h : InH L L') (hn : (L'.map (·.1)).Nodup) (hs : St w0 w M (live L)) : St w0 w M (live L') := by
  have := hs.picks h.picks hn
  rw [live_nodup hn]
  exact this.sub (List.sublist_append_left _ _)
theorem k_sub (he : InE env env') (hl : InH L L') (hn : nodupB (L'.map (·.1)) = true := by rfl) (h : Ho env' D n w0 M B L' K) : Ho env D n w0 M B L K := fun a w hs => h a w ⟨he.tm hs.tm, hs.df, hl.st (nodupB_spec hn) hs.st, hs.bo⟩
/-- The first entries of these numbers, each once. -/
def keepO {α : Type _} (l : List (Nat × α)) : List Nat → Option (List (Nat × α))
  | [] => some []
  | t :: ts => match lk l t with
    | some v => match keepO l ts with
      | some r => some ((t, v) :: r)
      | none => none
    | none => keepO l ts
theorem keepO_in : ∀ {ts : List Nat} {e' : Env}, keepO env ts = some e' → InE env e'
  | [], e', h => by unfold keepO at h; injection h with h; subst h; trivial
  | t :: ts, e', h => by
    unfold keepO at h
    split at h
    · rename_i v hv
      split at h
      · rename_i r hr
        injection h with h
        subst h
        exact ⟨⟨v, hv, rfl⟩, keepO_in hr⟩
      · cases h
    · exact keepO_in h
theorem keepO_inH : ∀ {ts : List Nat} {e' : Hp}, keepO L ts = some e' → InH L e'
  | [], e', h => by unfold keepO at h; injection h with h; subst h; trivial
  | t :: ts, e', h => by
    unfold keepO at h
    split at h
    · rename_i v hv
      split at h
      · rename_i r hr
        injection h with h
        subst h
        exact ⟨hv, keepO_inH hr⟩
      · cases h
    · exact keepO_inH h
/-- Only these temporaries are remembered. -/
theorem k_env (ts : List Nat) (hk : keepO env ts = some env' := by rfl) (h : Ho env' D n w0 M B L K) : Ho env D n w0 M B L K := fun a w hs => h a w ⟨(keepO_in hk).tm hs.tm, hs.df, hs.st, hs.bo⟩
/-- Only these resources are. -/
theorem k_heap (ts : List Nat) (hk : keepO L ts = some L' := by rfl) (hn : nodupB (L'.map (·.1)) = true := by rfl) (h : Ho env D n w0 M B L' K) : Ho env D n w0 M B L K := fun a w hs => h a w ⟨hs.tm, hs.df, (keepO_inH hk).st (nodupB_spec hn) hs.st, hs.bo⟩
/-- A value, spelled otherwise. -/
theorem k_val (t : Nat) {u : TV} (v : TV) (ht : lk env t = some u := by rfl) (hv : u.den = v.den := by rfl) (h : Ho ((t, v) :: env) D n w0 M B L K) : Ho env D n w0 M B L K := fun a w hs => h a w ⟨⟨fun q x hq => by
  rw [lk_cons] at hq
  by_cases e : t = q
  · rw [if_pos e] at hq
    injection hq with hq
    rw [← hq, ← hv, ← e]
    exact hs.tm.tm t u ht
  · rw [if_neg e] at hq
    exact hs.tm.tm q x hq, hs.tm.sz⟩, hs.df, hs.st, hs.bo⟩
/-- A resource, told otherwise. -/
theorem k_res (i : Nat) {r : Res} (r' : Res) (hr : lk L i = some r := by rfl) (he : r = r') (h : Ho env D n w0 M B ((i, r') :: L) K) : Ho env D n w0 M B L K := fun a w hs => h a w ⟨hs.tm, hs.df, by rw [live_cons, ← he]; exact live_front hs.st hr, hs.bo⟩
/-- A nil slice as a row. -/
theorem k_nil {α : Type} (i : Nat) (e : TypeId) (E : En α) (h : Ho env D n w0 M B ((i, Res.rows none 0 e E []) :: L) K) : Ho env D n w0 M B L K := fun a w hs => h a w ⟨hs.tm, hs.df, live_new (by
  have := hs.st.nilrow e E.sz
  unfold Res.rows En.dens
  rw [List.map_nil, flat_nil]
  exact this), hs.bo⟩
/-- A fact of the heap, in hand. -/
theorem k_fact {p : Prop} (hp : ∀ w, Facts B L w → p) (h : p → Ho env D n w0 M B L K) : Ho env D n w0 M B L K := fun a w hs => h (hp w hs.facts) a w hs
/-! ### the end -/
/-- What a result is. -/
inductive RV (P : Program) (env : Env) (B L : Hp) : ResultVar → SV → Prop where
  | tmp {t : Nat} {v : SV} (h : HL.lk env t = some (.s v)) : RV P env B L (.tmp t) v
  | cell {t i g off : Nat} {T e : TypeId} {as r : List At} {v : SV} {agg : Bool} {sz bytes : Nat} {z : SV} (hT : TyA P T agg sz z bytes) (hx : HL.lk env t = some (vp i ⟨g, off, none⟩)) (hr : lk2 B L i = some (Res.va g e as)) (hc : cutAt as off sz = some r) (hv : mkSV agg r = some v) : RV P env B L (.cell t T) v
inductive RVs (P : Program) (env : Env) (B L : Hp) : List ResultVar → List SV → Prop where
  | nil : RVs P env B L [] []
  | cons {x : ResultVar} {v : SV} {xs : List ResultVar} {vs : List SV} (h : RV P env B L x v) (hs : RVs P env B L xs vs) : RVs P env B L (x :: xs) (v :: vs)
def retTV : List SV → TV
  | [v] => .s v
  | vs => .tup vs
def rvF (tmps : Array Value) : ResultVar → Sem Value
  | .tmp t => pure (tmps.getD t undef)
  | .cell c t => do loadVar t (← asAddr (tmps.getD c undef))
theorem rv_run {r : ResultVar} {v : SV} {a : Act} {w : World} (h : RV P env B L r v) (ht : Tm env n a) (hf : Facts B L w) : (rvF a.tmps r).run P w = .ok v.den w := by
  cases h with
  | tmp h =>
    have := ht.tm _ _ h
    simp only [rvF, Sem.run_pure]
    simp [Array.getD_eq_getD_getElem?, this]
    rfl
  | cell hT hx hr hc hv =>
    rename_i t i g off T e as r agg sz bytes z
    obtain ⟨h2, h3⟩ := mkSV_spec hv
    obtain ⟨_, _, _, _, h4⟩ := cutAt_spec as off sz hc
    have hcells : CellsAt w ⟨g, off, none⟩ v.den.cells.toList := by
      have := (va_cells (hf i _ hr)).cut hc
      rw [add_lit0, Nat.zero_add] at this
      rw [SV.cells_den, h2]
      exact this
    have h1 : a.tmps.getD t undef = .pointer (some ⟨g, off, none⟩) := by
      have := ht.tm _ _ hx
      simp [Array.getD_eq_getD_getElem?, this]
      rfl
    simp only [rvF, h1, asAddr, Sem.run_bind, Sem.run_pure, Result.andThen_ok]
    exact run_loadVar (fits_sv (P := P) (T := T) h3 (by rw [h2]; exact h4)) hcells
theorem rvs_run {a : Act} {w : World} (ht : Tm env n a) (hf : Facts B L w) {xs : List ResultVar} {vs : List SV} (h : RVs P env B L xs vs) : (xs.mapM (rvF a.tmps)).run P w = .ok (vs.map SV.den) w := by
  induction h with
  | nil => rfl
  | cons h hs ih =>
    rw [List.mapM_cons, Sem.run_bind, rv_run h ht hf]
    simp only [Result.andThen_ok, Sem.run_bind, ih]
    rfl
theorem results_rvs {fn : Func} {vs : List SV} {a : Act} {w : World} (h : RVs P env B L fn.results.toList vs) (ht : Tm env n a) (hf : Facts B L w) : (results fn a.tmps).run P w = .ok (retTV vs).den w := by
  have e : results fn a.tmps = (do
      let vs ← fn.results.mapM (rvF a.tmps)
      pure (if h : vs.size = 1 then vs[0] else .tuple vs)) := by
    unfold results
    congr 1
  rw [e, Sem.run_bind, Array.mapM_eq_mapM_toList]
  have h1 : (List.toArray <$> (fn.results.toList.mapM (rvF a.tmps))).run P w = .ok (vs.map SV.den).toArray w := by
    rw [show (List.toArray <$> (fn.results.toList.mapM (rvF a.tmps)) : Sem (Array Value)) = (fn.results.toList.mapM (rvF a.tmps) >>= fun l => pure l.toArray) from rfl, Sem.run_bind, rvs_run ht hf h]
    rfl
  rw [h1]
  simp only [Result.andThen_ok, Sem.run_pure]
  match vs with
  | [] => rfl
  | [v] => rfl
  | v :: u :: r => simp [retTV, TV.den]
variable {post : Out → List Res → Prop} {fn : Func}
theorem k_ret (ids : List Nat) {vs : List SV} {rs : List Res} (v : TV) (hr : RVs P env B L fn.results.toList vs) (hp : picks L ids = some rs := by rfl) (hn : ids.Nodup := by decide) (hv : v.den = (retTV vs).den := by rfl) (h : post (.ret v) rs) : Ho env [] n w0 M B L (bodyPost P fn (Post post w0 M) .ret) := fun a w hs => by
  refine ⟨hs.df, _, results_rvs hr hs.tm hs.facts, .ret v, rs, congrArg _ hv, h, ?_⟩
  exact (hs.st.picks hp hn).sub (List.sublist_append_left _ _)
theorem k_end (ids : List Nat) {vs : List SV} {rs : List Res} (v : TV) (hr : RVs P env B L fn.results.toList vs) (hp : picks L ids = some rs := by rfl) (hn : ids.Nodup := by decide) (hv : v.den = (retTV vs).den := by rfl) (h : post (.ret v) rs) : Ho env [] n w0 M B L (bodyPost P fn (Post post w0 M) .normal) := k_ret ids v hr hp hn hv h
theorem k_pan (ids : List Nat) {c : List PanicEntry} {rs : List Res} (hp : picks L ids = some rs := by rfl) (hn : ids.Nodup := by decide) (h : post (.pan c) rs) : Ho env [] n w0 M B L (bodyPost P fn (Post post w0 M) (.panic c)) := fun a w hs =>
  ⟨hs.df, .pan c, rs, rfl, h, (hs.st.picks hp hn).sub (List.sublist_append_left _ _)⟩
/-! ### calls -/
def dis (r s : Res) : Prop := ∀ b, r.fp b → ¬ s.fp b
/-- What a call does: of what it reads (B) and may turn (L), what it hands back, and what is there then. -/
def CSpec (P : Program) (f : FuncId) (args : List SV) (B L : Hp) (post : Out → List Res → Prop) : Prop := ∀ w, (∀ i r, lk B i = some r → r.holds w) → (∀ r ∈ live L, r.holds w) → (live L).Pairwise dis → (∀ i r, lk B i = some r → ∀ s ∈ live L, dis r s) →
  Calls P f (args.map SV.den).toArray w (Post post w fun b => ∃ r ∈ live L, r.fp b)
def argEnv : List SV → Option Env
  | [] => some []
  | [a] => some [(0, .s a)]
  | [a, b] => some [(0, .s a), (1, .s b)]
  | [a, b, c] => some [(0, .s a), (1, .s b), (2, .s c)]
  | [a, b, c, d] => some [(0, .s a), (1, .s b), (2, .s c), (3, .s d)]
  | [a, b, c, d, e] => some [(0, .s a), (1, .s b), (2, .s c), (3, .s d), (4, .s e)]
  | [a, b, c, d, e, f] => some [(0, .s a), (1, .s b), (2, .s c), (3, .s d), (4, .s e), (5, .s f)]
  | [a, b, c, d, e, f, g] => some [(0, .s a), (1, .s b), (2, .s c), (3, .s d), (4, .s e), (5, .s f), (6, .s g)]
  | [a, b, c, d, e, f, g, h] => some [(0, .s a), (1, .s b), (2, .s c), (3, .s d), (4, .s e), (5, .s f), (6, .s g), (7, .s h)]
  | _ => none
theorem argEnv_get {args : List SV} {e : Env} (h : argEnv args = some e) : ∀ t v, lk e t = some v → ∃ u, args[t]? = some u ∧ v = .s u := by
  intro t v hv
  unfold argEnv at h
  split at h <;> first
    | (injection h with h; subst h; cases hv; done)
    | (injection h with h; subst h; simp only [lk_cons] at hv; (repeat' split at hv) <;> first | (rename_i e1; subst e1; injection hv with hv; subst hv; exact ⟨_, rfl, rfl⟩) | cases hv)
    | cases h
theorem k_enter {f : FuncId} {c : Code} {args : List SV} (hf : P.funcs[f]? = some fn) (hb : fn.body = some c) (hn : fn.ntmps = n) (he : argEnv args = some env := by rfl) (hl : Nat.ble args.length n = true := by rfl)
    (h : ∀ w, Ho env [] n w (fun b => ∃ r ∈ live L, r.fp b) B L (c.wp P (bodyPost P fn (Post post w fun b => ∃ r ∈ live L, r.fp b)))) : CSpec P f args B L post := fun w hB hL hd hBL => by
  refine calls_of_wp hf hb (h w _ w ⟨⟨fun t v hv => ?_, ?_⟩, rfl, St.startL hL hd, fun i r hr => ⟨hB i r hr, fun b hb => ⟨r.bound w (hB i r hr) b hb, ?_⟩⟩⟩)
  · obtain ⟨u, h1, rfl⟩ := argEnv_get he t v hv
    have hlt := (List.getElem?_eq_some_iff.1 h1).1
    rw [Array.getElem?_append_left (by simpa using hlt)]
    simp [h1, TV.den]
  · have := Nat.le_of_ble_eq_true hl
    simp [hn]
    omega
  · rintro ⟨s, hs, hb'⟩
    exact hBL i r hr s hs b hb hb'
end
end HL
end Go.Proofs.Ytonbgcehgmpnkaa
