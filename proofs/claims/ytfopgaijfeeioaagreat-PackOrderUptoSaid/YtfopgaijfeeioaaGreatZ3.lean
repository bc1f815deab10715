/- Lemmas and walks: VK, VL, VM, VP, VQ, VR. -/
import Derived.Test.YtfopgaijfeeioaaGreatZ2
import Derived.Defers
import Derived.Recover
/- SYMBOLIC STATES, COMPUTED: going through code. My own text; it names no program. -/

set_option linter.unusedVariables false
set_option linter.unusedSimpArgs false
set_option linter.unusedSectionVars false
namespace Go.Proofs.YtfopgaijfeeioaaGreat
namespace HL
open Go Go.RowKit
inductive Fr where
  | seq (c : Code)
  | blk (id : Nat)
  | lp (K : Act → World → Prop)
def Fr.den (P : Program) : List Fr → (Exit → Act → World → Prop) → Exit → Act → World → Prop
  | [], Q => Q
  | .seq c :: s, Q => Exit.then (c.wp P (Fr.den P s Q)) (Fr.den P s Q)
  | .blk id :: s, Q => Exit.inBlock id (Fr.den P s Q)
  | .lp K :: s, Q => Exit.then K (Fr.den P s Q)
inductive Fo : Type 1 where
  | code (c : Code)
  | ops (all : Array Oper) (l : List Oper)
  | ex (e : Exit)
  | sch (all : Array Oper) (σ : Plan) (RF : Hs)
@[reducible] def Gl (P : Program) (D : List Deferred) (n : Nat) (w0 : World) (M : Nat → Prop) (RB : Hs) (env : Env) (R : Hs) (f : Fo) (s : List Fr) (Q : Exit → Act → World → Prop) : Prop :=
  match f with
  | .code c => Ho env D n w0 M (dens RB) (dens R) (c.wp P (Fr.den P s Q))
  | .ops all l => Ho env D n w0 M (dens RB) (dens R) (wpList P all (Fr.den P s Q) l)
  | .ex e => Ho env D n w0 M (dens RB) (dens R) (Fr.den P s Q e)
  | .sch all σ RF => HoC (dens RF) env D n w0 M (dens RB) (dens R) (wpSched P all (Fr.den P s Q) (Facts (dens RB) (dens RF)) σ)
inductive Gd where
  | yes
  | no
  | sym (g : Bool)
  | bad
def gdV (all : Array Oper) (env : Env) (o : Oper) : Gd :=
  match o.guard with
  | none => .yes
  | some (j, want) => match all[j]? with
    | some o' => match o'.dst with
      | some d => match lk env d with
        | some (.s (.one (.kb x))) => match x, want with
          | true, true => .yes
          | false, false => .yes
          | true, false => .no
          | false, true => .no
        | some (.s (.one (.b x))) => match want with
          | true => .sym x
          | false => .sym (!x)
        | some .un => .no
        | some (.cond g (.one (.b x))) => match want with
          | true => .sym (g && x)
          | false => .sym (g && !x)
        | some (.cond g (.one (.kb x))) => match x, want with
          | true, true => .sym g
          | false, false => .sym g
          | _, _ => .bad
        | _ => .bad
      | none => .bad
    | none => .bad
def Gd.says : Gd → Bool → Prop
  | .yes, b => b = true
  | .no, b => b = false
  | .sym g, b => b = g
  | .bad, _ => True
theorem gdV_says {all : Array Oper} {env : Env} {o : Oper} {n : Nat} {a : Act} (ht : Tm env n a) : (gdV all env o).says (Region.wanted o (yielded all a.tmps)) := by
  unfold gdV Region.wanted
  cases hg : o.guard with
  | none => rfl
  | some jw =>
    obtain ⟨j, want⟩ := jw
    simp only
    cases e2 : all[j]? with
    | none => trivial
    | some o' =>
      simp only
      cases e3 : o'.dst with
      | none => trivial
      | some d =>
        simp only
        cases e4 : lk env d with
        | none => trivial
        | some v =>
          have h1 := ht.tm d _ e4
          have h2 : yielded all a.tmps j = (match v.den with | .bool b => some b | _ => none) := by
            unfold yielded
            simp only [e2, e3, h1, Option.bind_some]
            cases v.den <;> rfl
          rw [h2]
          cases v with
          | un => cases want <;> rfl
          | tup l => trivial
          | s v => cases v with
            | agg xs => trivial
            | one p => cases p <;> first | trivial | (rename_i x; cases x <;> cases want <;> rfl)
          | cond g v => cases v with
            | agg xs => trivial
            | one p => cases p <;> first | trivial | (rename_i x; cases g <;> cases x <;> cases want <;> first | rfl | trivial)
def PV.kp : PV → PV
  | .sln id ks A m c => .sln id ks A m c
  | .eln id ks ad sz j off => .eln id ks ad sz j off
  | p => p.norm
theorem PV.den_kp (p : PV) : p.kp.den = p.den := by cases p <;> first | rfl | exact PV.den_norm _
theorem kp_norm {p : PV} (h : p.norm = p) : p.kp = p.norm := by
  cases p with
  | sln id ks A m c => exact PV.noConfusion (show PV.sl id A m c = PV.sln id ks A m c from h)
  | eln id ks ad sz j off => exact PV.noConfusion (show PV.el id ad sz j off = PV.eln id ks ad sz j off from h)
  | _ => rfl
def SV.kp : SV → SV
  | .one p => .one p.kp
  | .agg xs => .agg xs
theorem SV.den_kp (v : SV) : v.kp.den = v.den := by
  cases v with
  | one p => exact p.den_kp
  | agg xs => rfl
def stV (ta : Bt TA) (env : Env) (R : Hs) : Op → Option (Nat × RS × List Prop)
  | .store T x y => match ta.get T, evS env x, evS env y with
    | some a, some (.one (.ptr i ⟨g, off, none⟩), c1), some (v, c2) => match lk R i with
      | some (.va g' e xs) => match putAt xs off v.kp.ats with
        | some xs' => some (i, .va g' e xs', (g = g') :: (v.kp.isAgg = a.agg) :: (ats v.kp.ats = a.sz) :: (c1 ++ c2))
        | none => none
      | _ => none
    | _, _, _ => none
  | _ => none
inductive St1 : Type 1 where
  | ok (env : Env) (R : Hs) (cs : List Prop)
  | no
def gval : TV → Option (SV × List Prop)
  | .s v => some (v, [])
  | .cond g v => some (v, [g = true])
  | _ => none
theorem gval_spec {u : TV} {v : SV} {c : List Prop} (h : gval u = some (v, c)) (hc : allP c) : u.den = v.den := by
  unfold gval at h
  split at h
  · injection h with h; injection h with h1 h2; subst h1; rfl
  · injection h with h; injection h with h1 h2; subst h1; subst h2
    exact if_pos hc.1
  · cases h
def stepO (td : Bt TD) (ta : Bt TA) (n : Nat) (wr : List Nat) (RB R RF : Hs) (stores : Bool) (all : Array Oper) (env : Env) (o : Oper) : St1 :=
  match gdV all env o with
  | .yes => match o.dst with
    | some d => bif Nat.blt d n then (match rdo td ta (memB d wr) env RB RF o.op with
      | some (v, c) => .ok ((d, v) :: env) R c
      | none => .no) else .no
    | none => bif stores then (match stV ta env R o.op with
      | some (i, r, c) => .ok env ((i, r) :: R) c
      | none => .no) else .no
  | .no => match o.dst with
    | some d => bif Nat.blt d n then .ok ((d, .un) :: env) R [] else .no
    | none => .ok env R []
  | .sym g => match o.dst with
    | some d => bif Nat.blt d n then (match rdo td ta (memB d wr) env RB RF o.op with
      | some (u, c) => match gval u with
        | some (v, c2) => .ok ((d, .cond g v) :: env) R [g = true → allP (c2 ++ c)]
        | none => .no
      | none => .no) else .no
    | none => .no
  | .bad => .no
section
variable {P : Program} {td : Bt TD} {ta : Bt TA} {n : Nat} {wr : List Nat} {D : List Deferred} {w0 : World} {M : Nat → Prop} {RB R RF R' : Hs} {env env' : Env} {all : Array Oper} {Q : Exit → Act → World → Prop} {o : Oper} {r : List Oper} {cs : List Prop}
theorem rd_sound (hT : Tb P td ta) {w : Bool} {v : TV} (h : rdo td ta w env RB RF o.op = some (v, cs)) (hc : allP cs) : Reads P o env n (dens RB) (dens RF) v := rdo_sound hT (dst := o.dst) (ty := o.type) (pos := o.pos) (af := o.after) (gd := o.guard) h hc
theorem tm_res {a : Act} (h : Tm (res env) n a) : Tm env n a := ⟨fun t v hv => by
  have := h.tm t v.res (by rw [lk_res, hv]; rfl)
  rw [this, v.den_res], h.sz⟩
theorem st_sound (hT : Tb P td ta) {i : Nat} {x : RS} (h : stV ta env R o.op = some (i, x, cs)) (hc : allP cs) (hd : o.dst = none) : Does P o env D n w0 M (dens RB) (dens R) (fun _ : Unit => env) (fun _ => (i, x.den) :: dens R) [i] := by
  obtain ⟨dst, op, ty, pos, af, gd⟩ := o
  simp only at hd h
  subst hd
  unfold stV at h
  split at h
  · rename_i T x0 y0
    split at h
    · rename_i a j g off c1 v c2 ha hx hy
      have hTa : TyA P T a.agg a.sz a.z a.bytes := hT.a.get ha
      split at h
      · rename_i g' e xs hr
        split at h
        · rename_i xs' hp
          injection h with h; injection h with h1 h2; injection h2 with h2 h3; subst h1; subst h2; subst h3
          obtain ⟨hg, hag, hsz, hc⟩ := hc
          obtain ⟨hc1, hc2⟩ := allP_append.1 hc
          subst hg
          have hr' : lk (dens R) j = some (Res.va g e xs) := by rw [lk_dens, hr]; rfl
          refine ⟨fun a' w K Q' hs hk => ?_, kp_one⟩
          -- y's value, as it is stored
          have key : ∃ E : Env, (∀ a : Act, Tm env n a → Tm E n a) ∧ (∀ a : Act, Tm E n a → Tm env n a) ∧ ev E y0 = some (.s v.kp) ∧ ev E x0 = some (vp j ⟨g, off, none⟩) := by
            have hxr := evS_res hx hc1
            have hyr := evS_res hy hc2
            have fin : v.kp = v.norm → ∃ E : Env, (∀ a : Act, Tm env n a → Tm E n a) ∧ (∀ a : Act, Tm E n a → Tm env n a) ∧ ev E y0 = some (.s v.kp) ∧ ev E x0 = some (vp j ⟨g, off, none⟩) := fun e => ⟨res env, fun a h => res_tm h, fun a h => tm_res h, by rw [e]; exact hyr, hxr⟩
            cases y0 with
            | tmp t =>
              refine ⟨(t, .s v.kp) :: res env, fun a h => ?_, fun a h => ?_, ?_, ?_⟩
              · have hr := res_tm h
                refine ⟨fun q u hq => ?_, hr.sz⟩
                rw [lk_cons] at hq
                by_cases e : t = q
                · rw [if_pos e] at hq
                  injection hq with hq
                  subst hq
                  subst e
                  have := hr.tm t _ hyr
                  rw [this]
                  show some v.norm.den = some v.kp.den
                  rw [v.den_norm, v.den_kp]
                · rw [if_neg e] at hq
                  exact hr.tm q u hq
              · refine tm_res ⟨fun q u hq => ?_, h.sz⟩
                by_cases e : t = q
                · subst e
                  have h1 : lk (res env) t = some (.s v.norm) := hyr
                  rw [h1] at hq
                  injection hq with hq
                  subst hq
                  have := h.tm t (.s v.kp) (by rw [lk_cons, if_pos rfl])
                  rw [this]
                  show some v.kp.den = some v.norm.den
                  rw [v.den_norm, v.den_kp]
                · exact h.tm q u (by rw [lk_cons, if_neg e]; exact hq)
              · show lk ((t, .s v.kp) :: res env) t = _
                rw [lk_cons, if_pos rfl]
              · cases x0 with
                | tmp q =>
                  show lk ((t, .s v.kp) :: res env) q = _
                  rw [lk_cons]
                  by_cases e : t = q
                  · subst e
                    rw [hx] at hy
                    injection hy with hy
                    injection hy with hy1 hy2
                    rw [if_pos rfl, ← hy1]
                    rfl
                  · rw [if_neg e]
                    exact hxr
                | const u => exact (ev_const u).trans hxr
                | global g => exact hxr
                | func f => exact hxr
            | const u =>
              refine fin ?_
              unfold evS at hy
              rcases evV_cases env u with e | ⟨k, m, rfl, e⟩ | ⟨b, rfl, e⟩
              · rw [e] at hy
                cases hz : ev env (.const u) with
                | none => rw [hz] at hy; cases hy
                | some z =>
                  obtain ⟨p, rfl, hpn⟩ := ev_const_one hz
                  rw [hz] at hy
                  injection hy with hy
                  injection hy with h1 h2
                  subst h1
                  show SV.one p.kp = SV.one p.norm
                  rw [kp_norm hpn]
              · rw [e] at hy
                injection hy with hy
                injection hy with h1 h2
                subst h1
                rfl
              · rw [e] at hy
                injection hy with hy
                injection hy with h1 h2
                subst h1
                rfl
            | global q =>
              refine fin ?_
              injection hy with hy
              injection hy with h1 h2
              subst h1
              rfl
            | func f =>
              refine fin ?_
              injection hy with hy
              injection hy with h1 h2
              subst h1
              rfl
          obtain ⟨E, hE1, hE2, hyE, hxE⟩ := key
          have hs' : Sy E D n w0 M (dens RB) (dens R) a' w := ⟨hE1 a' hs.tm, hs.df, hs.st, hs.bo⟩
          refine (d_store (hT := hTa) hxE hyE hr' hp hag hsz).go a' w K Q' hs' fun x a2 w2 h2 => ?_
          exact hk () a2 w2 ⟨hE2 a2 h2.tm, h2.df, h2.st, h2.bo⟩
        · cases h
      · cases h
    · cases h
  · cases h
theorem step_list (hT : Tb P td ta) (h : stepO td ta n wr RB R R true all env o = .ok env' R' cs) (hc : allP cs) (hk : Ho env' D n w0 M (dens RB) (dens R') (wpList P all Q r)) : Ho env D n w0 M (dens RB) (dens R) (wpList P all Q (o :: r)) := fun a w hs => by
  have hsay := gdV_says (all := all) (o := o) hs.tm
  unfold stepO at h
  unfold wpList
  cases hg : gdV all env o with
  | yes =>
    rw [hg] at h hsay
    have hsay' : Region.wanted o (yielded all a.tmps) = true := hsay
    rw [if_pos hsay']
    refine .inl ?_
    simp only at h
    cases hd : o.dst with
    | some d =>
      rw [hd] at h
      simp only at h
      cases hb : Nat.blt d n with
      | false => rw [hb] at h; cases h
      | true =>
        rw [hb] at h
        simp only [cond_true] at h
        split at h
        · rename_i v c hr
          injection h with h1 h2 h3
          subst h1; subst h2; subst h3
          unfold Oper.wp
          rw [rd_sound hT hr hc a w hs.tm hs.facts]
          show wpList P all Q r (a.put o.dst v.den) w
          rw [hd]
          exact hk _ _ (hs.put hb)
        · cases h
    | none =>
      rw [hd] at h
      simp only [cond_true] at h
      split at h
      · rename_i i x c hr
        injection h with h1 h2 h3
        subst h1; subst h2; subst h3
        exact (st_sound hT hr hc hd).go a w _ _ hs fun _ a' w' hs' => hk a' w' hs'
      · cases h
  | no =>
    rw [hg] at h hsay
    have hsay' : Region.wanted o (yielded all a.tmps) = false := hsay
    rw [if_neg (by rw [hsay']; simp)]
    simp only at h
    cases hd : o.dst with
    | some d =>
      rw [hd] at h
      simp only at h
      cases hb : Nat.blt d n with
      | false => rw [hb] at h; cases h
      | true =>
        rw [hb] at h
        injection h with h1 h2 h3
        subst h1; subst h2; subst h3
        exact hk _ _ (hs.put (v := .un) hb)
    | none =>
      rw [hd] at h
      injection h with h1 h2 h3
      subst h1; subst h2; subst h3
      exact hk _ _ (hs.put0 _)
  | sym g =>
    rw [hg] at h hsay
    have hsay' : Region.wanted o (yielded all a.tmps) = g := hsay
    rw [hsay']
    simp only at h
    cases hd : o.dst with
    | none => rw [hd] at h; cases h
    | some d =>
      rw [hd] at h
      simp only at h
      cases hb : Nat.blt d n with
      | false => rw [hb] at h; cases h
      | true =>
        rw [hb] at h
        simp only [cond_true] at h
        split at h
        · rename_i u c hr
          split at h
          · rename_i v c2 hv
            injection h with h1 h2 h3
            subst h1; subst h2; subst h3
            by_cases e : g = true
            · rw [if_pos e]
              refine .inl ?_
              obtain ⟨hc2, hc⟩ := allP_append.1 (hc.1 e)
              unfold Oper.wp
              rw [rd_sound hT hr hc a w hs.tm hs.facts]
              show wpList P all Q r (a.put o.dst u.den) w
              rw [hd, gval_spec hv hc2]
              have := hs.put (v := .cond g v) hb
              rw [show (TV.cond g v).den = v.den from if_pos e] at this
              exact hk _ _ this
            · rw [if_neg e]
              have := hs.put (v := .cond g v) hb
              rw [show (TV.cond g v).den = undef from if_neg e] at this
              exact hk _ _ this
          · cases h
        · cases h
  | bad => rw [hg] at h; cases h
theorem step_q (hT : Tb P td ta) {i : Nat} {σ : Plan} (hi : all.toList[i]? = some o) (h : stepO td ta n wr RB R RF false all env o = .ok env' R' cs) (hc : allP cs) (hk : HoC (dens RF) env' D n w0 M (dens RB) (dens R') (wpSched P all Q (Facts (dens RB) (dens RF)) σ)) : HoC (dens RF) env D n w0 M (dens RB) (dens R) (wpSched P all Q (Facts (dens RB) (dens RF)) (.q i σ)) := fun hcov a w hs => by
  have hsay := gdV_says (all := all) (o := o) hs.tm
  unfold stepO at h
  cases hg : gdV all env o with
  | yes =>
    rw [hg] at h hsay
    simp only at h
    cases hd : o.dst with
    | some d =>
      rw [hd] at h
      simp only at h
      cases hb : Nat.blt d n with
      | false => rw [hb] at h; cases h
      | true =>
        rw [hb] at h
        simp only [cond_true] at h
        split at h
        · rename_i v c hr
          injection h with h1 h2 h3
          subst h1; subst h2; subst h3
          refine sched_r (v := v.den) hi hsay (facts_cov hcov hs) (fun w' hw' => rd_sound hT hr hc a w' hs.tm hw') ?_
          rw [hd]
          exact hk hcov _ _ (hs.put hb)
        · cases h
    | none => rw [hd] at h; cases h
  | no =>
    rw [hg] at h hsay
    have hsay' : Region.wanted o (yielded all a.tmps) = false := hsay
    refine sched_skip hi hsay' (facts_cov hcov hs) ?_
    simp only at h
    cases hd : o.dst with
    | some d =>
      rw [hd] at h
      simp only at h
      cases hb : Nat.blt d n with
      | false => rw [hb] at h; cases h
      | true =>
        rw [hb] at h
        injection h with h1 h2 h3
        subst h1; subst h2; subst h3
        exact hk hcov _ _ (hs.put (v := .un) hb)
    | none =>
      rw [hd] at h
      injection h with h1 h2 h3
      subst h1; subst h2; subst h3
      exact hk hcov _ _ (hs.put0 _)
  | sym g =>
    rw [hg] at h hsay
    have hsay' : Region.wanted o (yielded all a.tmps) = g := hsay
    simp only at h
    cases hd : o.dst with
    | none => rw [hd] at h; cases h
    | some d =>
      rw [hd] at h
      simp only at h
      cases hb : Nat.blt d n with
      | false => rw [hb] at h; cases h
      | true =>
        rw [hb] at h
        simp only [cond_true] at h
        split at h
        · rename_i u c hr
          split at h
          · rename_i v c2 hv
            injection h with h1 h2 h3
            subst h1; subst h2; subst h3
            by_cases e : g = true
            · obtain ⟨hc2, hc⟩ := allP_append.1 (hc.1 e)
              refine sched_r (v := u.den) hi (by rw [hsay']; exact e) (facts_cov hcov hs) (fun w' hw' => rd_sound hT hr hc a w' hs.tm hw') ?_
              rw [hd, gval_spec hv hc2]
              have := hs.put (v := .cond g v) hb
              rw [show (TV.cond g v).den = v.den from if_pos e] at this
              exact hk hcov _ _ this
            · refine sched_skip hi (by rw [hsay']; simpa using e) (facts_cov hcov hs) ?_
              rw [hd]
              have := hs.put (v := .cond g v) hb
              rw [show (TV.cond g v).den = undef from if_neg e] at this
              exact hk hcov _ _ this
          · cases h
        · cases h
  | bad => rw [hg] at h; cases h
theorem step_s (hT : Tb P td ta) {i : Nat} {σ : Plan} (hi : all.toList[i]? = some o) (h : stepO td ta n wr RB R R false all env o = .ok env' R' cs) (hc : allP cs) (hk : HoC (dens RF) env' D n w0 M (dens RB) (dens R') (wpSched P all Q (Facts (dens RB) (dens RF)) σ)) : HoC (dens RF) env D n w0 M (dens RB) (dens R) (wpSched P all Q (Facts (dens RB) (dens RF)) (.s i σ)) := fun hcov a w hs => by
  have hsay := gdV_says (all := all) (o := o) hs.tm
  unfold stepO at h
  cases hg : gdV all env o with
  | yes =>
    rw [hg] at h hsay
    simp only at h
    refine sched_s hi hsay ?_
    cases hd : o.dst with
    | some d =>
      rw [hd] at h
      simp only at h
      cases hb : Nat.blt d n with
      | false => rw [hb] at h; cases h
      | true =>
        rw [hb] at h
        simp only [cond_true] at h
        split at h
        · rename_i v c hr
          injection h with h1 h2 h3
          subst h1; subst h2; subst h3
          unfold Oper.wp
          rw [rd_sound hT hr hc a w hs.tm hs.facts]
          show _ ∧ _
          rw [hd]
          exact ⟨facts_cov hcov hs, hk hcov _ _ (hs.put hb)⟩
        · cases h
    | none => rw [hd] at h; cases h
  | no =>
    rw [hg] at h hsay
    have hsay' : Region.wanted o (yielded all a.tmps) = false := hsay
    refine sched_sskip hi hsay' (facts_cov hcov hs) ?_
    simp only at h
    cases hd : o.dst with
    | some d =>
      rw [hd] at h
      simp only at h
      cases hb : Nat.blt d n with
      | false => rw [hb] at h; cases h
      | true =>
        rw [hb] at h
        injection h with h1 h2 h3
        subst h1; subst h2; subst h3
        exact hk hcov _ _ (hs.put (v := .un) hb)
    | none =>
      rw [hd] at h
      injection h with h1 h2 h3
      subst h1; subst h2; subst h3
      exact hk hcov _ _ (hs.put0 _)
  | sym g =>
    rw [hg] at h hsay
    have hsay' : Region.wanted o (yielded all a.tmps) = g := hsay
    simp only at h
    cases hd : o.dst with
    | none => rw [hd] at h; cases h
    | some d =>
      rw [hd] at h
      simp only at h
      cases hb : Nat.blt d n with
      | false => rw [hb] at h; cases h
      | true =>
        rw [hb] at h
        simp only [cond_true] at h
        split at h
        · rename_i u c hr
          split at h
          · rename_i v c2 hv
            injection h with h1 h2 h3
            subst h1; subst h2; subst h3
            by_cases e : g = true
            · obtain ⟨hc2, hc⟩ := allP_append.1 (hc.1 e)
              refine sched_s hi (by rw [hsay']; exact e) ?_
              unfold Oper.wp
              rw [rd_sound hT hr hc a w hs.tm hs.facts]
              show _ ∧ _
              rw [hd, gval_spec hv hc2]
              have := hs.put (v := .cond g v) hb
              rw [show (TV.cond g v).den = v.den from if_pos e] at this
              exact ⟨facts_cov hcov hs, hk hcov _ _ this⟩
            · refine sched_sskip hi (by rw [hsay']; simpa using e) (facts_cov hcov hs) ?_
              rw [hd]
              have := hs.put (v := .cond g v) hb
              rw [show (TV.cond g v).den = undef from if_neg e] at this
              exact hk hcov _ _ this
          · cases h
        · cases h
  | bad => rw [hg] at h; cases h
theorem step_sst (hT : Tb P td ta) {i j : Nat} {x : RS} {σ : Plan} (hi : all.toList[i]? = some o) (hgy : gdV all env o = .yes) (hd : o.dst = none) (hst : stV ta env R o.op = some (j, x, cs)) (hF : memB j (RF.map (·.1)) = false) (hc : allP cs) (hk : HoC (dens RF) env D n w0 M (dens RB) (dens ((j, x) :: R)) (wpSched P all Q (Facts (dens RB) (dens RF)) σ)) : HoC (dens RF) env D n w0 M (dens RB) (dens R) (wpSched P all Q (Facts (dens RB) (dens RF)) (.s i σ)) := fun hcov a w hs => by
  have hsay := gdV_says (all := all) (o := o) hs.tm
  rw [hgy] at hsay
  refine sched_s hi hsay ?_
  refine (st_sound hT hst hc hd).go a w _ _ hs fun _ a' w' hs' => ?_
  have hcov' : Cov (dens RF) (dens ((j, x) :: R)) := ⟨fun q r hq => by
    show lk ((j, x.den) :: dens R) q = some r
    rw [lk_cons, if_neg]
    · exact hcov.go q r hq
    · rintro rfl
      have hm : j ∈ RF.map (·.1) := by
        rw [lk_dens] at hq
        obtain ⟨y, hy, _⟩ := Option.map_eq_some_iff.1 hq
        have gen : ∀ (H : Hs), lk H j = some y → j ∈ H.map (·.1) := by
          intro H
          induction H with
          | nil => intro h; cases h
          | cons z t ih =>
            obtain ⟨k, v⟩ := z
            intro h
            rw [lk_cons] at h
            by_cases e : k = j
            · simp [e]
            · rw [if_neg e] at h
              exact List.mem_cons_of_mem _ (ih h)
        exact gen RF hy
      exact memB_spec hF hm⟩
  exact ⟨facts_cov hcov' hs', hk hcov' a' w' hs'⟩
end
end HL
end Go.Proofs.YtfopgaijfeeioaaGreat
/- SYMBOLIC STATES, COMPUTED: as far as nothing is to be said. My own text; it names no program. -/

set_option linter.unusedVariables false
set_option linter.unusedSimpArgs false
set_option linter.unusedSectionVars false
namespace Go.Proofs.YtfopgaijfeeioaaGreat
namespace HL
open Go Go.RowKit
inductive Rn : Type 1 where
  | mk (cs : List Prop) (env : Env) (R : Hs) (f : Fo) (s : List Fr)
def kn (env : Env) (x : Operand) : Option Bool :=
  match evV env x with
  | some (.s (.one (.kb b))) => match b with
    | true => some true
    | false => some false
  | _ => none
def run (td : Bt TD) (ta : Bt TA) (n : Nat) (wr : List Nat) (RB : Hs) : Nat → List Prop → Env → Hs → Fo → List Fr → Rn
  | 0, cs, env, R, f, s => .mk cs env R f s
  | m + 1, cs, env, R, f, s => match f with
    | .code c => match c with
      | .seq a b => run td ta n wr RB m cs env R (.code a) (.seq b :: s)
      | .block id b => run td ta n wr RB m cs env R (.code b) (.blk id :: s)
      | .skip => run td ta n wr RB m cs env R (.ex .normal) s
      | .exit id => run td ta n wr RB m cs env R (.ex (.exit id)) s
      | .ret => run td ta n wr RB m cs env R (.ex .ret) s
      | .region id ops false => run td ta n wr RB m cs env R (.ops ops ops.toList) s
      | .cond x a b => match kn env x with
        | some true => run td ta n wr RB m cs env R (.code a) s
        | some false => run td ta n wr RB m cs env R (.code b) s
        | none => .mk cs env R f s
      | _ => .mk cs env R f s
    | .ops all l => match l with
      | [] => run td ta n wr RB m cs env R (.ex .normal) s
      | o :: r => match stepO td ta n wr RB R R true all env o with
        | .ok env' R' c => run td ta n wr RB m (c ++ cs) env' R' (.ops all r) s
        | .no => .mk cs env R f s
    | .ex e => match s with
      | [] => .mk cs env R f s
      | .seq c :: s' => match e with
        | .normal => run td ta n wr RB m cs env R (.code c) s'
        | e => run td ta n wr RB m cs env R (.ex e) s'
      | .blk id :: s' => match e with
        | .exit id' => bif Nat.beq id' id then run td ta n wr RB m cs env R (.ex .normal) s' else run td ta n wr RB m cs env R (.ex (.exit id')) s'
        | e => run td ta n wr RB m cs env R (.ex e) s'
      | .lp K :: s' => match e with
        | .normal => .mk cs env R f s
        | e => run td ta n wr RB m cs env R (.ex e) s'
    | .sch all σ RF => match σ with
      | .nil => run td ta n wr RB m cs env R (.ex .normal) s
      | .q i τ => match all.toList[i]? with
        | some o => match stepO td ta n wr RB R RF false all env o with
          | .ok env' R' c => run td ta n wr RB m (c ++ cs) env' R' (.sch all τ RF) s
          | .no => .mk cs env R f s
        | none => .mk cs env R f s
      | .s i τ => match all.toList[i]? with
        | some o => match stepO td ta n wr RB R R false all env o with
          | .ok env' R' c => run td ta n wr RB m (c ++ cs) env' R' (.sch all τ RF) s
          | .no => match gdV all env o, o.dst with
            | .yes, none => match stV ta env R o.op with
              | some (j, x, c) => bif memB j (RF.map (·.1)) then .mk cs env R f s else run td ta n wr RB m (c ++ cs) env ((j, x) :: R) (.sch all τ RF) s
              | none => .mk cs env R f s
            | _, _ => .mk cs env R f s
        | none => .mk cs env R f s
      | .s2 _ _ _ _ => .mk cs env R f s
      | .s3 _ _ _ _ _ _ => .mk cs env R f s
section
variable {P : Program} {td : Bt TD} {ta : Bt TA} {n : Nat} {wr : List Nat} {D : List Deferred} {w0 : World} {M : Nat → Prop} {RB : Hs} {Q : Exit → Act → World → Prop}
theorem exit_then {K : Act → World → Prop} {Q : Exit → Act → World → Prop} {e : Exit} (h : e ≠ .normal) : Exit.then K Q e = Q e := by
  cases e <;> first | rfl | exact absurd rfl h
theorem exit_block {id : Nat} {Q : Exit → Act → World → Prop} {e : Exit} (h : ∀ id', e ≠ .exit id') : Exit.inBlock id Q e = Q e := by
  cases e <;> first | rfl | exact absurd rfl (h _)
theorem kn_spec {env : Env} {x : Operand} {b : Bool} (h : kn env x = some b) {a : Act} (ht : Tm env n a) : a.eval x = .bool b := by
  unfold kn at h
  split at h
  · rename_i b' hv
    have := evV_sound ht hv
    split at h <;> injection h with h <;> subst h <;> exact this
  · cases h
theorem run_sound (hT : Tb P td ta) : ∀ (m : Nat) {cs cs' : List Prop} {env env' : Env} {R R' : Hs} {f f' : Fo} {s s' : List Fr}, run td ta n wr RB m cs env R f s = .mk cs' env' R' f' s' → allP cs' → allP cs ∧ (Gl P D n w0 M RB env' R' f' s' Q → Gl P D n w0 M RB env R f s Q) := by
  intro m
  induction m with
  | zero =>
    intro cs cs' env env' R R' f f' s s' h hc
    unfold run at h
    injection h with h1 h2 h3 h4 h5
    subst h1; subst h2; subst h3; subst h4; subst h5
    exact ⟨hc, id⟩
  | succ m ih =>
    intro cs cs' env env' R R' f f' s s' h hc
    have stop : ∀ {f : Fo} {s : List Fr}, Rn.mk cs env R f s = .mk cs' env' R' f' s' → allP cs ∧ (Gl P D n w0 M RB env' R' f' s' Q → Gl P D n w0 M RB env R f s Q) := fun {f s} h => by
      injection h with h1 h2 h3 h4 h5
      subst h1; subst h2; subst h3; subst h4; subst h5
      exact ⟨hc, id⟩
    unfold run at h
    cases f with
    | code c =>
      simp only at h
      cases c with
      | seq a b => exact ⟨(ih h hc).1, fun g => c_seq ((ih h hc).2 g)⟩
      | block id b => exact ⟨(ih h hc).1, fun g => c_block ((ih h hc).2 g)⟩
      | skip => exact ⟨(ih h hc).1, fun g => c_skip ((ih h hc).2 g)⟩
      | exit id => exact ⟨(ih h hc).1, fun g => c_exit ((ih h hc).2 g)⟩
      | ret => exact ⟨(ih h hc).1, fun g => c_ret ((ih h hc).2 g)⟩
      | region id ops draw =>
        cases draw with
        | true => exact stop h
        | false => exact ⟨(ih h hc).1, fun g => by
            have := (ih h hc).2 g
            show Ho env D n w0 M (dens RB) (dens R) ((Code.region id ops false).wp P (Fr.den P s Q))
            have e : ops = ops.toList.toArray := by simp
            rw [e]
            refine c_region ?_
            rw [← e]
            exact this⟩
      | cond x a b =>
        simp only at h
        split at h
        · rename_i hk
          exact ⟨(ih h hc).1, fun g a' w hs => wp_cond_true (kn_spec hk hs.tm) ((ih h hc).2 g a' w hs)⟩
        · rename_i hk
          exact ⟨(ih h hc).1, fun g a' w hs => wp_cond_false (kn_spec hk hs.tm) ((ih h hc).2 g a' w hs)⟩
        · exact stop h
      | _ => exact stop h
    | ops all l =>
      simp only at h
      cases l with
      | nil => exact ⟨(ih h hc).1, fun g => l_nil ((ih h hc).2 g)⟩
      | cons o r =>
        simp only at h
        split at h
        · rename_i env1 R1 c hst
          have h1 := ih h hc
          have h2 := allP_append.1 h1.1
          exact ⟨h2.2, fun g => step_list hT hst h2.1 (h1.2 g)⟩
        · exact stop h
    | ex e =>
      simp only at h
      cases s with
      | nil => exact stop h
      | cons x s1 =>
        cases x with
        | seq c =>
          simp only at h
          split at h
          · exact ⟨(ih h hc).1, fun g => (ih h hc).2 g⟩
          · rename_i hne
            exact ⟨(ih h hc).1, fun g => by
              have := (ih h hc).2 g
              show Ho env D n w0 M (dens RB) (dens R) (Exit.then _ _ e)
              rw [exit_then hne]
              exact this⟩
        | blk id =>
          simp only at h
          split at h
          · rename_i id'
            cases hb : Nat.beq id' id with
            | true =>
              rw [hb] at h
              obtain rfl := Nat.eq_of_beq_eq_true hb
              exact ⟨(ih h hc).1, fun g => x_inE ((ih h hc).2 g)⟩
            | false =>
              rw [hb] at h
              exact ⟨(ih h hc).1, fun g => x_inO ((ih h hc).2 g) hb⟩
          · rename_i hne
            exact ⟨(ih h hc).1, fun g => by
              have := (ih h hc).2 g
              show Ho env D n w0 M (dens RB) (dens R) (Exit.inBlock _ _ e)
              rw [exit_block hne]
              exact this⟩
        | lp K =>
          simp only at h
          split at h
          · exact stop h
          · rename_i hne
            exact ⟨(ih h hc).1, fun g => by
              have := (ih h hc).2 g
              show Ho env D n w0 M (dens RB) (dens R) (Exit.then _ _ e)
              rw [exit_then hne]
              exact this⟩
    | sch all σ RF =>
      simp only at h
      cases σ with
      | nil => exact ⟨(ih h hc).1, fun g => s_nil ((ih h hc).2 g)⟩
      | q i τ =>
        simp only at h
        split at h
        · rename_i o hi
          split at h
          · rename_i env1 R1 c hst
            have h1 := ih h hc
            have h2 := allP_append.1 h1.1
            exact ⟨h2.2, fun g => step_q hT hi hst h2.1 (h1.2 g)⟩
          · exact stop h
        · exact stop h
      | s i τ =>
        simp only at h
        split at h
        · rename_i o hi
          split at h
          · rename_i env1 R1 c hst
            have h1 := ih h hc
            have h2 := allP_append.1 h1.1
            exact ⟨h2.2, fun g => step_s hT hi hst h2.1 (h1.2 g)⟩
          · split at h
            · rename_i hgy hd
              split at h
              · rename_i j x c hst
                cases hm : memB j (RF.map (·.1)) with
                | true => rw [hm] at h; exact stop h
                | false =>
                  rw [hm] at h
                  have h1 := ih h hc
                  have h2 := allP_append.1 h1.1
                  exact ⟨h2.2, fun g => step_sst hT hi hgy hd hst hm h2.1 (h1.2 g)⟩
              · exact stop h
            · exact stop h
        · exact stop h
      | s2 i σ j τ => exact stop h
      | s3 i σ j τ k ρ => exact stop h
variable {env env' : Env} {B L : Hp} {R R' : Hs} {f' : Fo} {s s' : List Fr} {cs' : List Prop} {c : Code} {all : Array Oper} {l : List Oper}
theorem gl_of [hB : Rf B RB] [hL : Rf L R] {K : Act → World → Prop} (h : Ho env D n w0 M (dens RB) (dens R) K) : Ho env D n w0 M B L K := by rw [← hB.eq, ← hL.eq]; exact h
theorem g_code (wr : List Nat) [hT : Tb P td ta] [hB : Rf B RB] [hL : Rf L R] (h : run td ta n wr RB 100000 [] env R (.code c) s = .mk cs' env' R' f' s' := by rfl) (hc : allP cs') (hk : Gl P D n w0 M RB env' R' f' s' Q) : Ho env D n w0 M B L (c.wp P (Fr.den P s Q)) := gl_of ((run_sound hT _ h hc).2 hk)
theorem g_ops (wr : List Nat) [hT : Tb P td ta] [hB : Rf B RB] [hL : Rf L R] (h : run td ta n wr RB 100000 [] env R (.ops all l) s = .mk cs' env' R' f' s' := by rfl) (hc : allP cs') (hk : Gl P D n w0 M RB env' R' f' s' Q) : Ho env D n w0 M B L (wpList P all (Fr.den P s Q) l) := gl_of ((run_sound hT _ h hc).2 hk)
theorem g_ex (wr : List Nat) {e : Exit} [hT : Tb P td ta] [hB : Rf B RB] [hL : Rf L R] (h : run td ta n wr RB 100000 [] env R (.ex e) s = .mk cs' env' R' f' s' := by rfl) (hc : allP cs') (hk : Gl P D n w0 M RB env' R' f' s' Q) : Ho env D n w0 M B L (Fr.den P s Q e) := gl_of ((run_sound hT _ h hc).2 hk)
theorem g_sch (wr : List Nat) {σ : Plan} {RF : Hs} {LF : Hp} [hT : Tb P td ta] [hB : Rf B RB] [hL : Rf L R] [hF : Rf LF RF] (h : run td ta n wr RB 100000 [] env R (.sch all σ RF) s = .mk cs' env' R' f' s' := by rfl) (hc : allP cs') (hk : Gl P D n w0 M RB env' R' f' s' Q) : HoC LF env D n w0 M B L (wpSched P all (Fr.den P s Q) (Facts B LF) σ) := by
  have := (run_sound (Q := Q) hT _ h hc).2 hk
  rw [← hB.eq, ← hL.eq, ← hF.eq]
  exact this
end
def fsOk (P : Program) (T : Nat) : Nat → List (Nat × Nat) → Prop
  | _, [] => True
  | k, (ft, off) :: r => (fieldFact P T k = some off ∧ fieldTy P T k = some (ft, off)) ∧ fsOk P T (k + 1) r
theorem fsOk_get {P : Program} {T : Nat} : ∀ {fs : List (Nat × Nat)} {b : Nat}, fsOk P T b fs → ∀ k ft off, fs[k]? = some (ft, off) → fieldFact P T (b + k) = some off ∧ fieldTy P T (b + k) = some (ft, off)
  | [], b, _, k, ft, off, h => by simp at h
  | (ft', off') :: r, b, hf, k, ft, off, h => by
    cases k with
    | zero =>
      simp only [List.getElem?_cons_zero, Option.some.injEq, Prod.mk.injEq] at h
      obtain ⟨rfl, rfl⟩ := h
      exact hf.1
    | succ k =>
      simp only [List.getElem?_cons_succ] at h
      have := fsOk_get hf.2 k ft off h
      rwa [Nat.add_assoc, Nat.add_comm 1 k] at this
theorem TD.St.mk' {P : Program} {T : Nat} {fs : List (Nat × Nat)} {fz : List SV} (h : fsOk P T 0 fs) (hz : structPlaces P T = some (placesOf (fz.map SV.den) 0)) : TD.St P T fs fz := ⟨fun k ft off hk => by
  have := fsOk_get h k ft off hk
  rwa [Nat.zero_add] at this, hz⟩
end HL
end Go.Proofs.YtfopgaijfeeioaaGreat
/- SYMBOLIC STATES, COMPUTED: the rules that say something, before what stands behind. My own text; it names no program. -/

set_option linter.unusedVariables false
set_option linter.unusedSimpArgs false
set_option linter.unusedSectionVars false
namespace Go.Proofs.YtfopgaijfeeioaaGreat
namespace HL
open Go Go.RowKit
def TV.out : TV → TV
  | .s v => .s v.norm
  | .tup l => .tup (l.map SV.norm)
  | v => v
theorem TV.den_out (v : TV) : v.out.den = v.den := by
  cases v with
  | s v => exact v.den_norm
  | tup l =>
    show Value.tuple ((l.map SV.norm).map SV.den).toArray = Value.tuple (l.map SV.den).toArray
    rw [List.map_map]
    congr 2
    exact List.map_congr_left fun a _ => a.den_norm
  | un => rfl
  | cond g v => rfl
section
variable {P : Program} {td : Bt TD} {ta : Bt TA} {n : Nat} {D : List Deferred} {w0 : World} {M : Nat → Prop} {RB : Hs} {Q : Exit → Act → World → Prop}
variable {env env' : Env} {B L : Hp} {R R' : Hs} {f' : Fo} {s s' : List Fr} {cs' : List Prop} {c : Code} {all : Array Oper} {l : List Oper}
theorem v_enter {fn : Func} {f : FuncId} {args : List SV} {post : Out → List Res → Prop} (hf : P.funcs[f]? = some fn) (hb : fn.body = some c := by rfl) (hn : fn.ntmps = n := by rfl) (he : argEnv args = some env := by rfl) (hl : Nat.ble args.length n = true := by rfl)
    (h : ∀ w, Ho env [] n w (fun b => ∃ r ∈ live L, r.fp b) B L (c.wp P (Fr.den P [] (bodyPost P fn (Post post w fun b => ∃ r ∈ live L, r.fp b))))) : CSpec P f args B L post := k_enter hf hb hn he hl h
theorem v_code [hT : Tb P td ta] [hB : Rf B RB] [hL : Rf L R] (wr : List Nat) (h : run td ta n wr RB 100000 [] env R (.code c) s = .mk cs' env' R' f' s' := by rfl) (hc : allP cs' := by (repeat' (first | exact True.intro | refine And.intro ?_ ?_ | intro hg)) <;> first | rfl | assumption | omega | ((try simp only [Bool.and_eq_true, Bool.or_eq_true, Bool.not_eq_true', decide_eq_true_eq, decide_eq_false_iff_not, Bool.and_eq_false_imp, Bool.or_eq_false_iff, Bool.not_eq_false'] at *); first | omega | assumption | (simp_all; done))) (hk : Gl P D n w0 M RB env' R' f' s' Q) : Ho env D n w0 M B L (c.wp P (Fr.den P s Q)) := g_code wr h hc hk
theorem v_ops [hT : Tb P td ta] [hB : Rf B RB] [hL : Rf L R] (wr : List Nat) (h : run td ta n wr RB 100000 [] env R (.ops all l) s = .mk cs' env' R' f' s' := by rfl) (hc : allP cs' := by (repeat' (first | exact True.intro | refine And.intro ?_ ?_ | intro hg)) <;> first | rfl | assumption | omega | ((try simp only [Bool.and_eq_true, Bool.or_eq_true, Bool.not_eq_true', decide_eq_true_eq, decide_eq_false_iff_not, Bool.and_eq_false_imp, Bool.or_eq_false_iff, Bool.not_eq_false'] at *); first | omega | assumption | (simp_all; done))) (hk : Gl P D n w0 M RB env' R' f' s' Q) : Ho env D n w0 M B L (wpList P all (Fr.den P s Q) l) := g_ops wr h hc hk
theorem v_ex {e : Exit} [hT : Tb P td ta] [hB : Rf B RB] [hL : Rf L R] (wr : List Nat) (h : run td ta n wr RB 100000 [] env R (.ex e) s = .mk cs' env' R' f' s' := by rfl) (hc : allP cs' := by (repeat' (first | exact True.intro | refine And.intro ?_ ?_ | intro hg)) <;> first | rfl | assumption | omega | ((try simp only [Bool.and_eq_true, Bool.or_eq_true, Bool.not_eq_true', decide_eq_true_eq, decide_eq_false_iff_not, Bool.and_eq_false_imp, Bool.or_eq_false_iff, Bool.not_eq_false'] at *); first | omega | assumption | (simp_all; done))) (hk : Gl P D n w0 M RB env' R' f' s' Q) : Ho env D n w0 M B L (Fr.den P s Q e) := g_ex wr h hc hk
theorem v_sch {σ : Plan} {RF : Hs} {LF : Hp} [hT : Tb P td ta] [hB : Rf B RB] [hL : Rf L R] [hF : Rf LF RF] (wr : List Nat) (h : run td ta n wr RB 100000 [] env R (.sch all σ RF) s = .mk cs' env' R' f' s' := by rfl) (hc : allP cs' := by (repeat' (first | exact True.intro | refine And.intro ?_ ?_ | intro hg)) <;> first | rfl | assumption | omega | ((try simp only [Bool.and_eq_true, Bool.or_eq_true, Bool.not_eq_true', decide_eq_true_eq, decide_eq_false_iff_not, Bool.and_eq_false_imp, Bool.or_eq_false_iff, Bool.not_eq_false'] at *); first | omega | assumption | (simp_all; done))) (hk : Gl P D n w0 M RB env' R' f' s' Q) : HoC LF env D n w0 M B L (wpSched P all (Fr.den P s Q) (Facts B LF) σ) := g_sch wr h hc hk
theorem v_loop (I : Nat → Env → Hp → Prop) (ts : List Nat) (m : Nat) (E : Env) (H : Hp) {re : Env} {rh : Hp} (hk : keepO env ts = some re := by rfl) (hh : keepO L ((without (H.map (·.1)) L).map (·.1)) = some rh := by rfl)
    (h0 : I m E H) (he : InE env (E ++ re) := by repeat (first | exact trivial | refine ⟨⟨_, rfl, (by first | rfl | exact den_int (by omega))⟩, ?_⟩)) (hl : InH L (H ++ rh) := by repeat (first | exact trivial | refine ⟨rfl, ?_⟩)) (hn : nodupB ((H ++ rh).map (·.1)) = true := by rfl)
    (hr : ∀ m E H, I m E H → Ho (E ++ re) D n w0 M B (H ++ rh) (c.wp P (Fr.den P (.lp (fun a w => ∃ m' E' H', m' < m ∧ I m' E' H' ∧ Sy (E' ++ re) D n w0 M B (H' ++ rh) a w) :: s) Q))) :
    Ho env D n w0 M B L ((Code.loop c).wp P (Fr.den P s Q)) := c_loop I ts ((without (H.map (·.1)) L).map (·.1)) m E H hk hh h0 he hl hn hr
theorem v_again {I : Nat → Env → Hp → Prop} {m : Nat} {re : Env} {rh : Hp} (m' : Nat) {E' : Env} {H' : Hp} (hi : I m' E' H') (hm : m' < m := by omega) (he : InE env (E' ++ re) := by repeat (first | exact trivial | refine ⟨⟨_, rfl, (by first | rfl | exact den_int (by omega))⟩, ?_⟩)) (hl : InH L (H' ++ rh) := by repeat (first | exact trivial | refine ⟨rfl, ?_⟩)) (hn : nodupB ((H' ++ rh).map (·.1)) = true := by rfl) :
    Ho env D n w0 M B L (Fr.den P (.lp (fun a w => ∃ m' E' H', m' < m ∧ I m' E' H' ∧ Sy (E' ++ re) D n w0 M B (H' ++ rh) a w) :: s) Q .normal) := k_again m' hi hm he hl hn
theorem v_cut (I : Env → Hp → Prop) (ts is : List Nat) {re : Env} {rh : Hp} (hk : keepO env ts = some re := by rfl) (hh : keepO L ((without is L).map (·.1)) = some rh := by rfl)
    (h1 : Ho env D n w0 M B L (c.wp P (Fr.den P (.lp (fun a w => ∃ E H, I E H ∧ Sy (E ++ re) D n w0 M B (H ++ rh) a w) :: s) Q))) (h2 : ∀ E H, I E H → Ho (E ++ re) D n w0 M B (H ++ rh) (Fr.den P s Q .normal)) : Ho env D n w0 M B L (c.wp P (Fr.den P s Q)) := c_cut I ts ((without is L).map (·.1)) hk hh h1 h2
theorem v_join {I : Env → Hp → Prop} {re : Env} {rh : Hp} {E' : Env} {H' : Hp} (hi : I E' H') (he : InE env (E' ++ re) := by repeat (first | exact trivial | refine ⟨⟨_, rfl, (by first | rfl | exact den_int (by omega))⟩, ?_⟩)) (hl : InH L (H' ++ rh) := by repeat (first | exact trivial | refine ⟨rfl, ?_⟩)) (hn : nodupB ((H' ++ rh).map (·.1)) = true := by rfl) :
    Ho env D n w0 M B L (Fr.den P (.lp (fun a w => ∃ E H, I E H ∧ Sy (E ++ re) D n w0 M B (H ++ rh) a w) :: s) Q .normal) := k_join hi he hl hn
theorem v_draw {id : Nat} {l : List Oper} (σ : Plan) (F : List Nat) {LF : Hp} (hF : keepO L F = some LF := by rfl) (hm : P.follows .mixedOrders = true) (hs : Region.noSelect l.toArray = true) (hk : schedOk .any l.toArray σ (Array.replicate l.length false) = true) (hl : Nat.ble σ.len l.length = true := by rfl)
    (hQ : ∀ (d : Option Tmp) v c a w, Fr.den P s Q (.panic c) (a.put d v) w → Fr.den P s Q (.panic c) a w := by intro d v c a w h; cases d <;> exact h) (h : HoC LF env D n w0 M B L (wpSched P l.toArray (Fr.den P s Q) (Facts B LF) σ)) : Ho env D n w0 M B L ((Code.region id l.toArray true).wp P (Fr.den P s Q)) := c_draw σ F hF hm hs hk hl hQ h
theorem v_know (t : Nat) (b : Bool) {x : Bool} {K : Act → World → Prop} (ht : lk env t = some (vb x) := by rfl) (hb : x = b) (h : Ho ((t, vk b) :: env) D n w0 M B L K) : Ho env D n w0 M B L K := k_val t (vk b) ht (by subst hb; rfl) h
theorem v_knowC {LF : Hp} (t : Nat) (b : Bool) {x : Bool} {K : Act → World → Prop} (ht : lk env t = some (vb x) := by rfl) (hb : x = b) (h : HoC LF ((t, vk b) :: env) D n w0 M B L K) : HoC LF env D n w0 M B L K := fun hc => v_know t b ht hb (h hc)
theorem v_case (t : Nat) {x : Bool} {K : Act → World → Prop} (ht : lk env t = some (vb x) := by rfl) (h1 : x = true → Ho ((t, vk true) :: env) D n w0 M B L K) (h2 : x = false → Ho ((t, vk false) :: env) D n w0 M B L K) : Ho env D n w0 M B L K := by
  cases hx : x with
  | true => exact v_know t true ht hx (h1 hx)
  | false => exact v_know t false ht hx (h2 hx)
theorem v_caseC {LF : Hp} (t : Nat) {x : Bool} {K : Act → World → Prop} (ht : lk env t = some (vb x) := by rfl) (h1 : x = true → HoC LF ((t, vk true) :: env) D n w0 M B L K) (h2 : x = false → HoC LF ((t, vk false) :: env) D n w0 M B L K) : HoC LF env D n w0 M B L K := fun hc => v_case t ht (fun h => h1 h hc) (fun h => h2 h hc)
theorem v_ret {fn : Func} {post : Out → List Res → Prop} {e : Exit} (he : (match e with | .normal => true | .ret => true | _ => false) = true := by rfl) (ids : List Nat) {vs : List SV} {rs : List Res} (hr : RVs P env B L fn.results.toList vs) (hp : picks L ids = some rs := by rfl) (hn : ids.Nodup := by decide) (h : post (.ret (retTV vs).out) rs) : Ho env [] n w0 M B L (bodyPost P fn (Post post w0 M) e) := by
  cases e <;> first | exact k_ret ids _ hr hp hn ((retTV vs).den_out) h | exact k_end ids _ hr hp hn ((retTV vs).den_out) h | cases he
end
end HL
end Go.Proofs.YtfopgaijfeeioaaGreat
/- SYMBOLIC STATES, COMPUTED: deferred calls, what is recovered. My own text; it names no program. -/



set_option linter.unusedVariables false
set_option linter.unusedSimpArgs false
set_option linter.unusedSectionVars false
namespace Go.Proofs.YtfopgaijfeeioaaGreat
namespace HL
open Go Go.RowKit
def CSpecD (P : Program) (f : FuncId) (args : List SV) (B L : Hp) (u : FrameMode) (post : Out → FrameMode → List Res → Prop) : Prop := ∀ w, (∀ i r, lk B i = some r → r.holds w) → (∀ r ∈ live L, r.holds w) → (live L).Pairwise dis → (∀ i r, lk B i = some r → ∀ s ∈ live L, dis r s) →
  CallsD P f (args.map SV.den).toArray u w fun e u' w' => ∃ o Lr, o.den = e ∧ post o u' Lr ∧ St w w' (fun b => ∃ r ∈ live L, r.fp b) Lr
section
variable {P : Program} {td : Bt TD} {ta : Bt TA} {n : Nat} {D : List Deferred} {w0 : World} {M : Nat → Prop} {RB : Hs} {Q : Exit → Act → World → Prop}
variable {env env' : Env} {B L : Hp} {R R' : Hs} {f' : Fo} {s s' : List Fr} {cs' : List Prop} {c : Code} {all : Array Oper} {l : List Oper} {fn : Func} {post : Out → List Res → Prop}
theorem v_enterD {f : FuncId} {args : List SV} (hf : P.funcs[f]? = some fn) (hb : fn.body = some c := by rfl) (hn : fn.ntmps = n := by rfl) (he : argEnv args = some env := by rfl) (hl : Nat.ble args.length n = true := by rfl)
    (h : ∀ w, Ho env [] n w (fun b => ∃ r ∈ live L, r.fp b) B L (c.wp P (Fr.den P [] (bodyPostD P fn (Post post w fun b => ∃ r ∈ live L, r.fp b))))) : CSpec P f args B L post := fun w hB hL hd hBL => by
  refine calls_of_wp_defers hf hb (h w _ w ⟨⟨fun t v hv => ?_, ?_⟩, rfl, St.startL hL hd, fun i r hr => ⟨hB i r hr, fun b hb => ⟨r.bound w (hB i r hr) b hb, ?_⟩⟩⟩)
  · obtain ⟨u, h1, rfl⟩ := argEnv_get he t v hv
    have hlt := (List.getElem?_eq_some_iff.1 h1).1
    rw [Array.getElem?_append_left (by simpa using hlt)]
    simp [h1, TV.den]
  · have := Nat.le_of_ble_eq_true hl
    simp [hn]
    omega
  · rintro ⟨s, hs, hb'⟩
    exact hBL i r hr s hs b hb hb'
theorem l_defer {f : FuncId} {args : List SV} {cap : List Value} {gh : List Nat} {xs : Array Operand} {tys : Array TypeId} {x : Operand} {ty : TypeId} {pos : String} {af : Array Edge} {rest : List Oper} (hx : ev env x = some (.s (.one (.fn f cap gh))) := by rfl) (ha : evs env xs.toList = some args := by rfl)
    (h : Ho env ({ target := .fn (.func f) cap.toArray, args := (args.map SV.den).toArray } :: D) n w0 M B L (wpList P all Q rest)) :
    Ho env D n w0 M B L (wpList P all Q (⟨none, .defer { callee := .value x, args := xs, argTypes := tys }, ty, pos, af, none⟩ :: rest)) := fun a w hs => by
  unfold wpList
  rw [if_pos (guarded_wanted (t := true) hs.tm rfl)]
  refine .inl ?_
  have h1 : a.eval x = .func (.func f) #[] cap.toArray := ev_sound hs.tm hx
  have h2 := evs_sound hs.tm ha
  have e1 : xs.map a.eval = (args.map SV.den).toArray := by
    apply Array.toList_inj.1
    simp [h2]
  unfold Oper.wp execOp
  simp only [resolve, h1, Deferred.ofValue, Sem.run_bind, Sem.run_pure, Result.andThen]
  show wpList P all Q rest _ w
  simp only [Act.put, Array.empty_append, e1]
  refine h _ w ⟨⟨hs.tm.tm, hs.tm.sz⟩, ?_, hs.st, hs.bo⟩
  show _ :: a.defers = _
  rw [hs.df]
def leftK (P : Program) (fn : Func) (post : Out → List Res → Prop) (w0 : World) (M : Nat → Prop) (D : List Deferred) (u : FrameMode) (a : Act) (w : World) : Prop := Leaves P fn a.tmps (Post post w0 M) D u w
theorem v_leave {e : Exit} (u : FrameMode) (hu : (match e with | .normal => some FrameMode.returning | .ret => some .returning | .panic ch => some (.panicking ch) | _ => none) = some u := by rfl) (h : Ho env D n w0 M B L (leftK P fn post w0 M D u)) : Ho env D n w0 M B L (bodyPostD P fn (Post post w0 M) e) := fun a w hs => by
  have := h a w hs
  unfold leftK at this
  rw [← hs.df] at this
  cases e <;> first | (cases hu; exact this) | cases hu
theorem v_defers {f : FuncId} {fd : Func} {args all : List SV} {cap dargs : Array Value} {Bc Lc : Hp} {postD : Out → FrameMode → List Res → Prop} {u : FrameMode} (b : Nat) (c : Nat → Nat)
    (hs : CSpecD P f all Bc Lc u postD) (hf : P.funcs[f]? = some fd) (hall : (dargs ++ cap).toList = all.map SV.den := by rfl)
    (hB : GotB (lk2 B L) c Bc := by repeat (first | exact trivial | refine ⟨⟨_, rfl, by first | assumption | exact View.refl _ | exact view_rows⟩, ?_⟩)) (hL : Got (lk L) c Lc := by repeat (first | exact trivial | refine ⟨rfl, ?_⟩))
    (hnd : nodupB (ids c Lc) = true := by rfl) (hbl : noneIn (ids c Lc) (ids c Bc) = true := by rfl) (hnk : nodupB (Lc.map (·.1)) = true := by rfl)
    (h : ∀ o u' Lr, postD o u' Lr → match o with
      | .ret _ => Ho env D n w0 M B (num b Lr ++ dels (ids c Lc) L) (leftK P fn post w0 M D (settle u'))
      | .pan ch => Ho env D n w0 M B (num b Lr ++ dels (ids c Lc) L) (leftK P fn post w0 M D (raised u' ch)))
    (hu : u ≠ .run := by simp) (hb : fd.body.isNone = false := by rfl) (hn : (fd.name == "runtime.NumGoroutine") = false := by rfl) :
    Ho env ({ target := .fn (.func f) cap, args := dargs } :: D) n w0 M B L (leftK P fn post w0 M ({ target := .fn (.func f) cap, args := dargs } :: D) u) := fun a w hsy => by
  have hp := hL.picks
  have hst : St w0 w M (Lc.map (·.2) ++ live (dels (ids c Lc) L)) := hsy.st.picks hp (nodupB_spec hnd)
  have elive : live Lc = Lc.map (·.2) := live_nodup (nodupB_spec hnk)
  have hdis := List.pairwise_append.1 hst.dis
  have hc := hs w (fun i r hi => (hB.lk hi).elim fun R hR => hR.2.h w (hsy.facts _ _ hR.1)) (fun r hr => hst.res r (List.mem_append_left _ (by rw [← elive]; exact hr))) (by rw [elive]; exact hdis.1) (fun i r hi s hs => by
    rw [elive] at hs
    obtain ⟨R, hg, hview⟩ := hB.lk hi
    unfold lk2 at hg
    cases hl : lk L (c i) with
    | none =>
      rw [hl] at hg
      intro b' hb' hb2
      have h8 := (hsy.bo _ _ hg).2 b' (hview.f b' hb')
      rcases hst.own s (List.mem_append_left _ hs) b' hb2 with h7 | h7
      · exact h8.2 h7
      · omega
    | some q =>
      rw [hl] at hg
      injection hg with hg
      subst hg
      have hmem : q ∈ live (dels (ids c Lc) L) := lk_live (by rw [lk_dels (noneIn_spec hbl _ (ids_mem hi))]; exact hl)
      exact fun b' hb' hb2 => hdis.2.2 s hs q hmem b' hb2 (hview.f b' hb'))
  have e1 : dargs ++ cap = (all.map SV.den).toArray := by apply Array.toList_inj.1; simpa using hall
  unfold leftK
  refine leaves_cons hu (f := f) (args := dargs ++ cap) ?_ ?_
  · simp only [invoke, callFunc, Sem.run_bind, run_program, Result.andThen, hf, hn, hb]
    rfl
  · rw [e1]
    refine hc.mono fun e u' w' ⟨out, Lr, he, hpost, hst2⟩ => ?_
    have hst3 : St w0 w' M (Lr ++ live (dels (ids c Lc) L)) := hst.callN hst2 (fun b hb => by
      obtain ⟨r, hr, hb⟩ := hb
      exact ⟨r, by rw [← elive]; exact hr, hb⟩)
    have hsy2 := hsy.to (L' := num b Lr ++ dels (ids c Lc) L) (w' := w') (St.append_live hst3)
    have h9 := h out u' Lr hpost
    have hsy3 : Sy env D n w0 M B (num b Lr ++ dels (ids c Lc) L) { a with defers := D } w' := ⟨⟨hsy2.tm.tm, hsy2.tm.sz⟩, rfl, hsy2.st, hsy2.bo⟩
    cases out with
    | ret v => subst he; exact (h9 { a with defers := D } w' hsy3 : _)
    | pan ch => subst he; exact (h9 { a with defers := D } w' hsy3 : _)
theorem v_left (ids : List Nat) {vs : List SV} {rs : List Res} (v : TV) (hr : RVs P env B L fn.results.toList vs) (hp : picks L ids = some rs := by rfl) (hn : ids.Nodup := by decide) (hv : v.den = (retTV vs).den := by rfl) (h : post (.ret v) rs) : Ho env [] n w0 M B L (leftK P fn post w0 M [] .returning) := fun a w hs => by
  show ∃ v, (results fn a.tmps).run P w = .ok v w ∧ Post post w0 M (.returned v) w
  exact ⟨_, results_rvs hr hs.tm hs.facts, .ret v, rs, congrArg _ hv, h, (hs.st.picks hp hn).sub (List.sublist_append_left _ _)⟩
def FrS (P : Program) : List Code → (Exit → Act → List Frame → World → Prop) → Exit → Act → List Frame → World → Prop
  | [], Q => Q
  | y :: s, Q => Exit.thenS (y.wpS P (FrS P s Q)) (FrS P s Q)
theorem frS_of {Q : Exit → Act → List Frame → World → Prop} {cs : List Frame} : ∀ {s : List Code} {e : Exit} {a : Act} {w : World}, Fr.den P (s.map Fr.seq) (fun e a w => Q e a cs w) e a w → FrS P s Q e a cs w
  | [], e, a, w, h => h
  | y :: s, e, a, w, h => by
    cases e with
    | normal =>
      show y.wpS P (FrS P s Q) a cs w
      refine wpS_of_wp ?_
      refine wp_mono (show y.wp P (Fr.den P (s.map Fr.seq) fun e a w => Q e a cs w) a w from h) fun e a' w' hq => frS_of hq
    | exit id => exact frS_of (s := s) (e := .exit id) h
    | goto l => exact frS_of (s := s) (e := .goto l) h
    | ret => exact frS_of (s := s) (e := .ret) h
    | panic ch => exact frS_of (s := s) (e := .panic ch) h
    | outgrown => exact frS_of (s := s) (e := .outgrown) h
def HoS (env : Env) (D : List Deferred) (n : Nat) (w0 : World) (M : Nat → Prop) (B L : Hp) (cs : List Frame) (K : Act → List Frame → World → Prop) : Prop := ∀ a w, Sy env D n w0 M B L a w → K a cs w
def wpListS (P : Program) (ops : Array Oper) (Q : Exit → Act → List Frame → World → Prop) : List Oper → Act → List Frame → World → Prop
  | [], a, cs, w => Q .normal a cs w
  | o :: rest, a, cs, w =>
    if Region.wanted o (yielded ops a.tmps) then
      match (execOp a.eval o).run P w with
      | .ok .recover w' =>
        match recoverD cs with
        | some (v, cs') => wpListS P ops Q rest (a.put o.dst v) cs' w'
        | none => wpListS P ops Q rest (a.put o.dst .nilIface) cs w'
      | r => o.upon P a (fun a' w' => wpListS P ops Q rest a' cs w') (fun e a' w' => Q e a' cs w') r
    else wpListS P ops Q rest (a.put o.dst undef) cs w
theorem wpListS_of (ops : Array Oper) {Q : Exit → Act → List Frame → World → Prop} : ∀ (l : List Oper) (k : Nat), ops.toList.drop k = l → ∀ {a : Act} {cs : List Frame} {w : World}, wpListS P ops Q l a cs w → wpOpsS P ops Q (List.range' k l.length) a cs w
  | [], k, _, a, cs, w, h => h
  | o :: l, k, hk, a, cs, w, h => by
    have ho : ops[k]? = some o := by
      have := congrArg (·[0]?) hk
      simp only [List.getElem?_drop, List.getElem?_cons_zero, Nat.add_zero] at this
      rw [← this, Array.getElem?_toList]
    have hl : ops.toList.drop (k + 1) = l := by
      have := congrArg List.tail hk
      rwa [List.tail_drop] at this
    rw [List.length_cons, List.range'_succ]
    unfold wpOpsS
    rw [ho]
    unfold wpListS at h
    simp only
    split
    · rename_i hw
      rw [if_pos hw] at h
      split
      · rename_i w' hr
        rw [hr] at h
        simp only at h
        split
        · rename_i v cs' hrec
          rw [hrec] at h
          exact wpListS_of ops l (k + 1) hl h
        · rename_i hrec
          rw [hrec] at h
          exact wpListS_of ops l (k + 1) hl h
      · rename_i r hnot
        generalize hr : (execOp a.eval o).run P w = r' at h hnot
        split at h
        · rename_i w'
          exact absurd rfl (hnot w')
        · unfold Oper.upon at h ⊢
          split at h
          · exact wpListS_of ops l (k + 1) hl h
          · exact wpListS_of ops l (k + 1) hl h
          · exact wpListS_of ops l (k + 1) hl h
          · refine h.mono fun e w'' hq => ?_
            cases e with
            | returned v => exact wpListS_of ops l (k + 1) hl hq
            | panicked ch => exact hq
            | outgrown => exact hq
          · exact h.mono fun v w'' hq => wpListS_of ops l (k + 1) hl hq
          · exact h
          · exact h.elim
    · rename_i hw
      rw [if_neg hw] at h
      exact wpListS_of ops l (k + 1) hl h
theorem wpListS_of_wpList {ops : Array Oper} {Qa : Exit → Act → World → Prop} {QS : Exit → Act → List Frame → World → Prop} {cs : List Frame} (hQ : ∀ e a w, Qa e a w → QS e a cs w) (hL : ¬ LetsOut Qa) : ∀ {l : List Oper} {a : Act} {w : World}, wpList P ops Qa l a w → wpListS P ops QS l a cs w
  | [], a, w, h => hQ _ _ _ h
  | o :: l, a, w, h => by
    unfold wpList at h
    unfold wpListS
    split
    · rename_i hw
      rw [if_pos hw] at h
      rcases h with h | ⟨_, h⟩
      · unfold Oper.wp at h
        generalize (execOp a.eval o).run P w = r at h ⊢
        split
        · exact h.elim
        · unfold Oper.upon at h ⊢
          split at h
          · exact wpListS_of_wpList hQ hL h
          · exact wpListS_of_wpList hQ hL h
          · exact wpListS_of_wpList hQ hL h
          · refine h.mono fun e w'' hq => ?_
            cases e with
            | returned v => exact wpListS_of_wpList hQ hL hq
            | panicked ch => exact hQ _ _ _ hq
            | outgrown => exact absurd hq hL
          · exact h.mono fun v w'' hq => wpListS_of_wpList hQ hL hq
          · exact hQ _ _ _ h
          · exact h.elim
      · exact absurd h hL
    · rename_i hw
      rw [if_neg hw] at h
      exact wpListS_of_wpList hQ hL h
def FrS0 (P : Program) (fn : Func) (c₀ : Frame) (cs0 : List Frame) (w0 : World) (M : Nat → Prop) (postD : Out → FrameMode → List Res → Prop) : Exit → Act → List Frame → World → Prop := bodyPostS P fn c₀ cs0 fun e u' w' => ∃ o Lr, o.den = e ∧ postD o u' Lr ∧ St w0 w' M Lr
def backK (P : Program) (fn : Func) (c₀ : Frame) (cs0 : List Frame) (w0 : World) (M : Nat → Prop) (postD : Out → FrameMode → List Res → Prop) (u' : FrameMode) : Exit → Act → World → Prop := fun e a w => FrS0 P fn c₀ cs0 w0 M postD e a ({ c₀ with mode := u' } :: cs0) w
variable {postD : Out → FrameMode → List Res → Prop} {u u' : FrameMode} {c₀ : Frame} {cs0 : List Frame} {ys : List Code}
theorem backK_out : ¬ LetsOut (Fr.den P (ys.map Fr.seq) (backK P fn c₀ cs0 w0 M postD u')) := by
  rintro ⟨a, w, h⟩
  have gen : ∀ (ys : List Code), Fr.den P (ys.map Fr.seq) (backK P fn c₀ cs0 w0 M postD u') .outgrown a w → False := by
    intro ys
    induction ys with
    | nil =>
      rintro ⟨u, o, Lr, h1, _⟩
      cases o <;> cases h1
    | cons y ys ih => exact ih
  exact gen ys h
theorem d_enter {f : FuncId} {args : List SV} (hf : P.funcs[f]? = some fn) (hb : fn.body = some c := by rfl) (hn : fn.ntmps = n := by rfl) (he : argEnv args = some env := by rfl) (hl : Nat.ble args.length n = true := by rfl)
    (h : ∀ w c₀ cs0, c₀.mode = u → HoS env [] n w (fun b => ∃ r ∈ live L, r.fp b) B L (c₀ :: cs0) (c.wpS P (FrS P [] (FrS0 P fn c₀ cs0 w (fun b => ∃ r ∈ live L, r.fp b) postD)))) : CSpecD P f args B L u postD := fun w hB hL hd hBL => by
  refine callsD_of_wpS hf hb fun c₀ cs0 hu => h w c₀ cs0 hu _ w ⟨⟨fun t v hv => ?_, ?_⟩, rfl, St.startL hL hd, fun i r hr => ⟨hB i r hr, fun b hb => ⟨r.bound w (hB i r hr) b hb, ?_⟩⟩⟩
  · obtain ⟨u, h1, rfl⟩ := argEnv_get he t v hv
    have hlt := (List.getElem?_eq_some_iff.1 h1).1
    rw [Array.getElem?_append_left (by simpa using hlt)]
    simp [h1, TV.den]
  · have := Nat.le_of_ble_eq_true hl
    simp [hn]
    omega
  · rintro ⟨s, hs, hb'⟩
    exact hBL i r hr s hs b hb hb'
theorem d_seq {x y : Code} {cs : List Frame} {QS : Exit → Act → List Frame → World → Prop} (h : HoS env D n w0 M B L cs (x.wpS P (FrS P (y :: ys) QS))) : HoS env D n w0 M B L cs ((Code.seq x y).wpS P (FrS P ys QS)) := fun a w hs => wpS_seq (h a w hs)
theorem d_region {id : Nat} {ops : Array Oper} {cs : List Frame} {QS : Exit → Act → List Frame → World → Prop} (h : HoS env D n w0 M B L cs (wpListS P ops QS ops.toList)) : HoS env D n w0 M B L cs ((Code.region id ops false).wpS P QS) := fun a w hs => wpS_region (by
  have := wpListS_of ops ops.toList 0 rfl (h a w hs)
  rwa [List.range_eq_range', ← Array.length_toList])
theorem d_recover {ty : TypeId} {pos : String} {af : Array Edge} {tys : Array TypeId} {rest : List Oper} {d : Nat} {v : Value} {older : List PanicEntry} (tv : TV) (htv : tv.den = v := by rfl) (hu : c₀.mode = .panicking ({ v := v, recovered := false } :: older))
    (h : Ho ((d, tv) :: env) D n w0 M B L (wpList P all (Fr.den P (ys.map Fr.seq) (backK P fn c₀ cs0 w0 M postD (.panicking ({ v := v, recovered := true } :: older)))) rest)) (hb : Nat.blt d n = true := by rfl) :
    HoS env D n w0 M B L (c₀ :: cs0) (wpListS P all (FrS P ys (FrS0 P fn c₀ cs0 w0 M postD)) (⟨some d, .call { callee := .builtin .recover, args := #[], argTypes := tys }, ty, pos, af, none⟩ :: rest)) := fun a w hs => by
  unfold wpListS
  rw [if_pos (show Region.wanted _ _ = true from rfl)]
  have hr : (execOp a.eval ⟨some d, .call { callee := .builtin .recover, args := #[], argTypes := tys }, ty, pos, af, none⟩).run P w = .ok .recover w := by
    unfold execOp
    simp [resolve, invoke, builtin, Sem.run_bind]
  rw [hr]
  have hrec : recoverD (c₀ :: cs0) = some (v, { c₀ with mode := .panicking ({ v := v, recovered := true } :: older) } :: cs0) := by
    simp only [recoverD, hu]
  simp only [hrec]
  refine wpListS_of_wpList (fun e a w hq => frS_of hq) backK_out (h _ w ?_)
  subst htv
  exact hs.put hb
theorem d_norecover {ty : TypeId} {pos : String} {af : Array Edge} {tys : Array TypeId} {rest : List Oper} {d : Nat} (hu : c₀.mode = .returning)
    (h : Ho ((d, .s (.one .ifn)) :: env) D n w0 M B L (wpList P all (Fr.den P (ys.map Fr.seq) (backK P fn c₀ cs0 w0 M postD .returning)) rest)) (hb : Nat.blt d n = true := by rfl) :
    HoS env D n w0 M B L (c₀ :: cs0) (wpListS P all (FrS P ys (FrS0 P fn c₀ cs0 w0 M postD)) (⟨some d, .call { callee := .builtin .recover, args := #[], argTypes := tys }, ty, pos, af, none⟩ :: rest)) := fun a w hs => by
  unfold wpListS
  rw [if_pos (show Region.wanted _ _ = true from rfl)]
  have hr : (execOp a.eval ⟨some d, .call { callee := .builtin .recover, args := #[], argTypes := tys }, ty, pos, af, none⟩).run P w = .ok .recover w := by
    unfold execOp
    simp [resolve, invoke, builtin, Sem.run_bind]
  rw [hr]
  have hrec : recoverD (c₀ :: cs0) = none := by
    simp only [recoverD, hu]
  simp only [hrec]
  have hc : ({ c₀ with mode := .returning } : Frame) = c₀ := by rw [← hu]
  have := wpListS_of_wpList (cs := c₀ :: cs0) (fun e a w hq => frS_of (by rw [show backK P fn c₀ cs0 w0 M postD .returning = (fun e a w => FrS0 P fn c₀ cs0 w0 M postD e a (c₀ :: cs0) w) from by unfold backK; rw [hc]] at hq; exact hq)) backK_out (h _ w (hs.put (v := .s (.one .ifn)) hb))
  exact this
theorem d_ret {e : Exit} (he : (match e with | .normal => true | .ret => true | _ => false) = true := by rfl) (ids : List Nat) {vs : List SV} {rs : List Res} (v : TV) (hr : RVs P env B L fn.results.toList vs) (hp : picks L ids = some rs := by rfl) (hn : ids.Nodup := by decide) (hv : v.den = (retTV vs).den := by rfl) (h : postD (.ret v) u' rs) : Ho env [] n w0 M B L (backK P fn c₀ cs0 w0 M postD u' e) := fun a w hs => by
  have := results_rvs hr hs.tm hs.facts
  cases e <;> first | exact ⟨hs.df, u', rfl, _, this, .ret v, rs, congrArg _ hv, h, (hs.st.picks hp hn).sub (List.sublist_append_left _ _)⟩ | cases he
end
def noIfc : Option TypeDesc → Bool
  | some (.interface _) => false
  | some _ => true
  | none => false
class NoI (P : Program) (T : TypeId) : Prop where
  is : noIfc (P.underlying T) = true
section
variable {P : Program} {env : Env} {n : Nat} {B L : Hp} {dst : Option Tmp} {ty : TypeId} {pos : String} {af : Array Edge} {gd : Option (Nat × Bool)} {x y z : Operand} {T T' : TypeId}
theorem r_iface {v : SV} [h : NoI P T] (hx : evS env x = some (v, []) := by rfl) : Reads P ⟨dst, .makeInterface T x, ty, pos, af, gd⟩ env n B L (.s (.one (.ifv T v.den))) := fun a w ht _ => by
  have h1 := evS_sound ht hx trivial
  unfold execOp
  simp only [h1]
  have hn := h.is
  unfold noIfc at hn
  split at hn
  · cases hn
  · rename_i d hne hd
    simp only [Instr.makeInterface, Sem.run_bind, run_underlying hd, Result.andThen]
    cases d <;> first | rfl | exact absurd rfl (hne _)
  · cases hn
theorem r_assertY {v : SV} [h : NoI P T'] (hx : ev env x = some (.s (.one (.ifv T' v.den))) := by rfl) : Reads P ⟨dst, .typeAssert x T T' true, ty, pos, af, gd⟩ env n B L (.tup [v, .one (.b true)]) := fun a w ht _ => by
  have h1 : a.eval x = .iface T' v.den := ev_sound ht hx
  unfold execOp
  simp only [h1]
  have hn := h.is
  unfold noIfc at hn
  split at hn
  · cases hn
  · rename_i d hne hd
    simp only [Instr.typeAssert, Sem.run_bind, run_underlying hd, Result.andThen]
    cases d <;> first | (simp [Sem.run_pure]; rfl) | exact absurd rfl (hne _)
  · cases hn
theorem l_panic {D : List Deferred} {w0 : World} {M : Nat → Prop} {all : Array Oper} {rest : List Oper} {Q : Exit → Act → World → Prop} {Tv : TypeId} {v : Value} (hx : ev env x = some (.s (.one (.ifv Tv v))) := by rfl) (h : Ho env D n w0 M B L (Q (.panic [{ v := .iface Tv v, recovered := false }]))) : Ho env D n w0 M B L (wpList P all Q (⟨dst, .panic x, ty, pos, af, none⟩ :: rest)) := fun a w hs => by
  unfold wpList
  rw [if_pos (show Region.wanted _ _ = true from rfl)]
  refine .inl ?_
  have h1 : a.eval x = .iface Tv v := ev_sound hs.tm hx
  unfold Oper.wp execOp
  simp only [h1, Instr.panic, goPanic, Sem.run_bind]
  exact h a w hs
end
end HL
end Go.Proofs.YtfopgaijfeeioaaGreat
/- SYMBOLIC STATES, COMPUTED: calls, what is read seen as what is asked; keys that are structs. My own text; it names no program. -/

set_option linter.unusedVariables false
set_option linter.unusedSimpArgs false
set_option linter.unusedSectionVars false
namespace Go.Proofs.YtfopgaijfeeioaaGreat
namespace HL
open Go Go.RowKit
theorem view_vaH {g off : Nat} {e : TypeId} {xs : List At} {h : Hash} (hc : cutAt xs off 32 = some [.hash h] := by rfl) : View (Res.va g e xs) (Res.rd (some ⟨g, off, none⟩) byteEn h.toList) := ⟨fun w hw => by
  have := (va_cells hw).cut hc
  rw [add_lit0, Nat.zero_add] at this
  unfold Res.rd Res.fact
  refine .inr ⟨_, rfl, ?_⟩
  rw [dens_hash]
  exact this, fun b hb => by
  have := (fp_rd.1 hb).2
  simp [obl] at this
  rw [va_def]
  unfold Res.blk
  exact this.symm⟩
theorem view_rdn {α : Type} {df : α} {A : Option Addr} {E : En α} {l : List α} {n : Nat} {S : α → Nat → RS} (k m : Nat) (hk : k < l.length) (hm : Nat.blt m n = true := by rfl) : View (RS.rdn df A E l n S).den (S (l.getD k df) m).den :=
  RS.sub_view (r := RS.rdn df A E l n S) (k := k) (m := m) (p := k < l.length) (by simp only [RS.sub, hm, cond_true]) hk
theorem view_rwn {α : Type} {df : α} {A : Option Addr} {c : Nat} {e : TypeId} {E : En α} {l : List α} {n : Nat} {S : α → Nat → RS} (k m : Nat) (hk : k < l.length) (hm : Nat.blt m n = true := by rfl) : View (RS.rwn df A c e E l n S).den (S (l.getD k df) m).den :=
  RS.sub_view (r := RS.rwn df A c e E l n S) (k := k) (m := m) (p := k < l.length) (by simp only [RS.sub, hm, cond_true]) hk
theorem view_rwn_rdn {α : Type} {df : α} {A : Option Addr} {c : Nat} {e : TypeId} {E : En α} {l : List α} {n : Nat} {S S' : α → Nat → RS} (h : ∀ x m, m < n → View (S x m).den (S' x m).den) : View (RS.rwn df A c e E l n S).den (RS.rdn df A E l n S').den := ⟨fun w hw => ⟨view_rows.h w (hw.1 _ (List.mem_cons_self ..)), fun x hx m hm => (h x m hm).h w (hw.1 _ (List.mem_cons_of_mem _ (List.mem_flatMap.2 ⟨x, hx, List.mem_map.2 ⟨m, List.mem_range.2 hm, rfl⟩⟩)))⟩, fun b hb => by
  rcases hb with hb | ⟨x, hx, m, hm, hb⟩
  · exact ⟨_, List.mem_cons_self .., view_rows.f b hb⟩
  · exact ⟨_, List.mem_cons_of_mem _ (List.mem_flatMap.2 ⟨x, hx, List.mem_map.2 ⟨m, List.mem_range.2 hm, rfl⟩⟩), (h x m hm).f b hb⟩⟩
theorem view_nil {α : Type} {R : Res} {E : En α} : View R (Res.rd none E []) := ⟨fun w _ => by
  unfold Res.rd Res.fact
  exact .inl (by unfold En.dens; exact flat_nil), fun b hb => absurd rfl (fp_rd.1 hb).1⟩
section
variable {P : Program} {all : Array Oper} {Q : Exit → Act → World → Prop} {rest : List Oper}
variable {env : Env} {D : List Deferred} {n : Nat} {w0 : World} {M : Nat → Prop} {B L LF : Hp} {σ : Plan} {i : Nat}
variable {d : Nat} {ty : TypeId} {pos : String} {af : Array Edge} {x : Operand}
theorem v_call {f : FuncId} {fn : Func} {args al : List SV} {Bc Lc : Hp} {post : Out → List Res → Prop} {xs : Array Operand} {tys : Array TypeId} {cap : List Value} {gh : List Nat} (b : Nat) (m : List (Nat × Nat))
    (hs : CSpec P f al Bc Lc post) (hf : P.funcs[f]? = some fn) (hx : ev env x = some (.s (.one (.fn f cap gh))) := by rfl) (ha : evs env xs.toList = some args := by rfl) (hall : args.map SV.den ++ cap = al.map SV.den := by rfl)
    (hB : GotB (lk2 B L) (cid m args) Bc := by repeat (first | exact trivial | refine ⟨⟨_, rfl, by first | exact View.refl _ | exact view_rows | assumption | exact view_vaH | exact view_tail (View.refl _) (by omega) (by omega) | exact view_take (View.refl _) | exact view_tail view_rows (by omega) (by omega) | exact view_take view_rows | exact view_rdn _ 0 (by omega) | exact view_rwn _ 0 (by omega) | exact view_rdn _ 1 (by omega) | exact view_rwn _ 1 (by omega) | exact view_rwn_rdn (fun x m hm => by first | exact View.refl _ | exact view_rows)⟩, ?_⟩)) (hL : Got (lk L) (cid m args) Lc := by repeat (first | exact trivial | refine ⟨rfl, ?_⟩))
    (hnd : nodupB (ids (cid m args) Lc) = true := by rfl) (hbl : noneIn (ids (cid m args) Lc) (ids (cid m args) Bc) = true := by rfl) (hnk : nodupB (Lc.map (·.1)) = true := by rfl)
    (h : ∀ o Lr, post o Lr → match o with
      | .ret v => Ho ((d, v.up b) :: env) D n w0 M B (num b Lr ++ dels (ids (cid m args) Lc) L) (wpList P all Q rest)
      | .pan ch => Ho env D n w0 M B (num b Lr ++ dels (ids (cid m args) Lc) L) (Q (.panic ch)))
    (hd : Nat.blt d n = true := by rfl) (hb : fn.body.isNone = false := by rfl) (hn : (fn.name == "runtime.NumGoroutine") = false := by rfl) :
    Ho env D n w0 M B L (wpList P all Q (⟨some d, .call { callee := .value x, args := xs, argTypes := tys }, ty, pos, af, none⟩ :: rest)) := l_call b m hs hf hx ha hall hB hL hnd hbl hnk h rfl hd hb hn
theorem v_callS {f : FuncId} {fn : Func} {args al : List SV} {Bc Lc : Hp} {post : Out → List Res → Prop} {xs : Array Operand} {tys : Array TypeId} {cap : List Value} {gh : List Nat} (hi : all.toList[i]? = some ⟨some d, .call { callee := .value x, args := xs, argTypes := tys }, ty, pos, af, none⟩) (b : Nat) (m : List (Nat × Nat))
    (hs : CSpec P f al Bc Lc post) (hf : P.funcs[f]? = some fn) (hx : ev env x = some (.s (.one (.fn f cap gh))) := by rfl) (ha : evs env xs.toList = some args := by rfl) (hall : args.map SV.den ++ cap = al.map SV.den := by rfl)
    (hB : GotB (lk2 B L) (cid m args) Bc := by repeat (first | exact trivial | refine ⟨⟨_, rfl, by first | exact View.refl _ | exact view_rows | assumption | exact view_vaH | exact view_tail (View.refl _) (by omega) (by omega) | exact view_take (View.refl _) | exact view_tail view_rows (by omega) (by omega) | exact view_take view_rows | exact view_rdn _ 0 (by omega) | exact view_rwn _ 0 (by omega) | exact view_rdn _ 1 (by omega) | exact view_rwn _ 1 (by omega) | exact view_rwn_rdn (fun x m hm => by first | exact View.refl _ | exact view_rows)⟩, ?_⟩)) (hL : Got (lk L) (cid m args) Lc := by repeat (first | exact trivial | refine ⟨rfl, ?_⟩))
    (hnd : nodupB (ids (cid m args) Lc) = true := by rfl) (hbl : noneIn (ids (cid m args) Lc) (ids (cid m args) Bc) = true := by rfl) (hnk : nodupB (Lc.map (·.1)) = true := by rfl)
    (h : ∀ o Lr, post o Lr → match o with
      | .ret v => Cov LF (num b Lr ++ dels (ids (cid m args) Lc) L) ∧ HoC LF ((d, v.up b) :: env) D n w0 M B (num b Lr ++ dels (ids (cid m args) Lc) L) (wpSched P all Q (Facts B LF) σ)
      | .pan ch => Ho env D n w0 M B (num b Lr ++ dels (ids (cid m args) Lc) L) (Q (.panic ch)))
    (hd : Nat.blt d n = true := by rfl) (hb : fn.body.isNone = false := by rfl) (hn : (fn.name == "runtime.NumGoroutine") = false := by rfl) :
    HoC LF env D n w0 M B L (wpSched P all Q (Facts B LF) (.s i σ)) := s_call hi b m hs hf hx ha hall hB hL hnd hbl hnk h rfl hd hb hn
end
theorem take_getD {α : Type} {l : List α} {k : Nat} {d : α} (h : k < l.length) : l.take (k + 1) = l.take k ++ [l.getD k d] := by
  rw [List.take_succ_eq_append_getElem h, List.getD_eq_getElem?_getD, List.getElem?_eq_getElem h]
  rfl
theorem all_takeD {α : Type} {p : α → Prop} {l : List α} {k : Nat} {d : α} (h : ∀ y ∈ l.take k, p y) (hk : k < l.length) (h1 : p (l.getD k d)) : ∀ y ∈ l.take (k + 1), p y := by
  rw [take_getD (d := d) hk]
  intro y hy
  rcases List.mem_append.1 hy with hy | hy
  · exact h y hy
  · rw [List.mem_singleton.1 hy]; exact h1
theorem take_all' {α : Type} {l : List α} {k : Nat} (h : ¬ k < l.length) : l.take k = l := List.take_of_length_le (by omega)
theorem find_atD {α : Type} {p : α → Bool} {l : List α} {k : Nat} {d : α} (hk : k < l.length) (h : ∀ y ∈ l.take k, ¬ p y = true) (h1 : p (l.getD k d) = true) : l.find? p = some (l.getD k d) :=
  find_at (k := k) (by rw [List.getD_eq_getElem?_getD, List.getElem?_eq_getElem hk]; rfl) h h1
end HL
end Go.Proofs.YtfopgaijfeeioaaGreat
/- SYMBOLIC STATES, COMPUTED: what a callee reads, put together from several resources. My own text; it names no program. -/

set_option linter.unusedVariables false
set_option linter.unusedSimpArgs false
set_option linter.unusedSectionVars false
namespace Go.Proofs.YtfopgaijfeeioaaGreat
namespace HL
open Go Go.RowKit
structure Der (B L : Hp) (S : List Nat) (r : Res) : Prop where
  h : ∀ w, Facts B L w → r.holds w
  f : ∀ b, r.fp b → ∃ j ∈ S, ∃ R, lk2 B L j = some R ∧ R.fp b
section
variable {B L : Hp}
theorem Der.vw (j : Nat) {R r : Res} (h : lk2 B L j = some R := by rfl) (hv : View R r := by first | exact View.refl _ | exact view_rows | assumption | exact view_vaH | exact view_nil) : Der B L [j] r := ⟨fun w hf => hv.h w (hf j R h), fun b hb => ⟨j, by simp, R, h, hv.f b hb⟩⟩
theorem Der.nl {α : Type} {E : En α} : Der B L [] (Res.rd none E []) := ⟨fun w _ => by
  unfold Res.rd Res.fact
  exact .inl (by unfold En.dens; exact flat_nil), fun b hb => absurd rfl (fp_rd.1 hb).1⟩
def Each {α : Type} (B L : Hp) (S : List Nat) (F : α → Res) (l : List α) : Prop := ∀ x ∈ l, Der B L S (F x)
theorem Der.mono {S S' : List Nat} {r : Res} (h : Der B L S r) (hs : ∀ j ∈ S, j ∈ S') : Der B L S' r := ⟨h.h, fun b hb => by
  obtain ⟨j, hj, q⟩ := h.f b hb
  exact ⟨j, hs j hj, q⟩⟩
theorem Each.nil {α : Type} {F : α → Res} : Each B L [] F [] := by intro x hx; cases hx
theorem Each.cons {α : Type} {S S' : List Nat} {F : α → Res} {x : α} {l : List α} (h : Der B L S (F x)) (ht : Each B L S' F l) : Each B L (S ++ S') F (x :: l) := by
  intro y hy
  rcases List.mem_cons.1 hy with rfl | hy
  · exact h.mono fun j hj => List.mem_append_left _ hj
  · exact (ht y hy).mono fun j hj => List.mem_append_right _ hj
theorem Each.rdn {α : Type} {df : α} {A : Option Addr} {E : En α} {l : List α} {S : α → Nat → RS} (j : Nat) {R : Res} (h : lk2 B L j = some R := by rfl) (hv : View R (RS.rdn df A E l 1 S).den := by first | exact View.refl _ | assumption) : Each B L [j] (fun x => (S x 0).den) l := fun x hx => ⟨fun w hf => (hv.h w (hf j R h)).2 x hx 0 (by omega), fun b hb => ⟨j, by simp, R, h, hv.f b (.inr ⟨x, hx, 0, by omega, hb⟩)⟩⟩
theorem Der.rdn {α : Type} {df : α} {A : Option Addr} {E : En α} {l : List α} {S : α → Nat → RS} {S1 S2 : List Nat} (h1 : Der B L S1 (Res.rd A E l)) (h2 : Each B L S2 (fun x => (S x 0).den) l) : Der B L (S1 ++ S2) (RS.rdn df A E l 1 S).den := ⟨fun w hf => ⟨h1.h w hf, fun x hx m hm => by
  obtain rfl : m = 0 := by omega
  exact (h2 x hx).h w hf⟩, fun b hb => by
  rcases hb with hb | ⟨x, hx, m, hm, hb⟩
  · obtain ⟨j, hj, q⟩ := h1.f b hb
    exact ⟨j, List.mem_append_left _ hj, q⟩
  · obtain rfl : m = 0 := by omega
    obtain ⟨j, hj, q⟩ := (h2 x hx).f b hb
    exact ⟨j, List.mem_append_right _ hj, q⟩⟩
def GotD (B L : Hp) (cl : List Nat) : Hp → Prop
  | [] => True
  | (k, r) :: t => (∃ S, Der B L S r ∧ noneIn cl S = true) ∧ GotD B L cl t
theorem GotD.lk {cl : List Nat} : ∀ {H : Hp}, GotD B L cl H → ∀ {i : Nat} {r : Res}, HL.lk H i = some r → ∃ S, Der B L S r ∧ noneIn cl S = true
  | [], _, i, r, h => by cases h
  | (k, x) :: t, hg, i, r, h => by
    rw [lk_cons] at h
    by_cases e : k = i
    · rw [if_pos e] at h; injection h with h; subst h; exact hg.1
    · rw [if_neg e] at h; exact hg.2.lk h
end
variable {P : Program} {all : Array Oper} {Q : Exit → Act → World → Prop} {rest ops : List Oper}
variable {env : Env} {D : List Deferred} {n : Nat} {w0 : World} {M : Nat → Prop} {B L LF : Hp} {σ : Plan} {i : Nat}
variable {d : Nat} {dst : Option Tmp} {ty : TypeId} {pos : String} {af : Array Edge} {x : Operand} {gd : Option (Nat × Bool)}
theorem call_wpD {f : FuncId} {fn : Func} {args all : List SV} {Bc Lc : Hp} {post : Out → List Res → Prop} {xs : Array Operand} {tys : Array TypeId} {cap : List Value} {gh : List Nat} {a : Act} {w : World} {K : Act → World → Prop}
    (hs : CSpec P f all Bc Lc post) (hf : P.funcs[f]? = some fn) (hb : fn.body.isNone = false) (hn : (fn.name == "runtime.NumGoroutine") = false) (c : Nat → Nat) (b : Nat)
    (hx : ev env x = some (.s (.one (.fn f cap gh)))) (ha : evs env xs.toList = some args) (hall : args.map SV.den ++ cap = all.map SV.den)
    (hB : GotD B L (ids c Lc) Bc) (hL : Got (lk L) c Lc) (hnd : nodupB (ids c Lc) = true) (hnk : nodupB (Lc.map (·.1)) = true)
    (hsy : Sy env D n w0 M B L a w)
    (h : ∀ o Lr, post o Lr → match o with
      | .ret v => ∀ w', Sy env D n w0 M B (num b Lr ++ dels (ids c Lc) L) a w' → K (a.put dst v.den) w'
      | .pan ch => ∀ w', Sy env D n w0 M B (num b Lr ++ dels (ids c Lc) L) a w' → Q (.panic ch) a w') :
    Oper.wp P ⟨dst, .call { callee := .value x, args := xs, argTypes := tys }, ty, pos, af, gd⟩ a w K Q := by
  have h1 : a.eval x = .func (.func f) #[] cap.toArray := ev_sound hsy.tm hx
  have h2 := evs_sound hsy.tm ha
  have hp := hL.picks
  have hst : St w0 w M (Lc.map (·.2) ++ live (dels (ids c Lc) L)) := hsy.st.picks hp (nodupB_spec hnd)
  have elive : live Lc = Lc.map (·.2) := live_nodup (nodupB_spec hnk)
  have e1 : (xs.map a.eval ++ cap.toArray) = (all.map SV.den).toArray := by
    rw [← hall]
    apply Array.toList_inj.1
    simp [h2]
  have hdis := List.pairwise_append.1 hst.dis
  have hc := hs w (fun i r hi => (hB.lk hi).elim fun S hS => hS.1.h w hsy.facts) (fun r hr => hst.res r (List.mem_append_left _ (by rw [← elive]; exact hr))) (by rw [elive]; exact hdis.1) (fun i r hi s hs => by
    rw [elive] at hs
    obtain ⟨S, hS, hno⟩ := hB.lk hi
    intro b' hb' hb2
    obtain ⟨j, hj, R, hg, hfp⟩ := hS.f b' hb'
    unfold lk2 at hg
    cases hl : lk L j with
    | none =>
      rw [hl] at hg
      have h8 := (hsy.bo _ _ hg).2 b' hfp
      rcases hst.own s (List.mem_append_left _ hs) b' hb2 with h7 | h7
      · exact h8.2 h7
      · omega
    | some q =>
      rw [hl] at hg
      injection hg with hg
      subst hg
      have hmem : q ∈ live (dels (ids c Lc) L) := lk_live (by rw [lk_dels (noneIn_spec hno _ hj)]; exact hl)
      exact hdis.2.2 s hs q hmem b' hb2 hfp)
  have hr : (execOp a.eval ⟨dst, .call { callee := .value x, args := xs, argTypes := tys }, ty, pos, af, gd⟩).run P w = .ok (.enter f (all.map SV.den).toArray) w := by
    unfold execOp
    simp only [resolve, h1, Deferred.ofValue, Sem.run_bind, Sem.run_pure, Result.andThen, invoke, callFunc, run_program, hf, hn, hb, Array.empty_append, e1]
    rfl
  unfold Oper.wp
  rw [hr]
  refine hc.mono fun e w' ⟨out, Lr, he, hpost, hst2⟩ => ?_
  have hst3 : St w0 w' M (Lr ++ live (dels (ids c Lc) L)) := hst.callN hst2 (fun b hb => by
    obtain ⟨r, hr, hb⟩ := hb
    exact ⟨r, by rw [← elive]; exact hr, hb⟩)
  have hsy2 := hsy.to (L' := num b Lr ++ dels (ids c Lc) L) (w' := w') (St.append_live hst3)
  have h9 := h out Lr hpost
  cases out with
  | ret v => subst he; exact h9 w' hsy2
  | pan ch => subst he; exact h9 w' hsy2
theorem v_callD {f : FuncId} {fn : Func} {args al : List SV} {Bc Lc : Hp} {post : Out → List Res → Prop} {xs : Array Operand} {tys : Array TypeId} {cap : List Value} {gh : List Nat} (b : Nat) (m : List (Nat × Nat))
    (hs : CSpec P f al Bc Lc post) (hf : P.funcs[f]? = some fn) (hx : ev env x = some (.s (.one (.fn f cap gh))) := by rfl) (ha : evs env xs.toList = some args := by rfl) (hall : args.map SV.den ++ cap = al.map SV.den := by rfl)
    (hB : GotD B L (ids (cid m args) Lc) Bc) (hL : Got (lk L) (cid m args) Lc := by repeat (first | exact trivial | refine ⟨rfl, ?_⟩))
    (hnd : nodupB (ids (cid m args) Lc) = true := by rfl) (hnk : nodupB (Lc.map (·.1)) = true := by rfl)
    (h : ∀ o Lr, post o Lr → match o with
      | .ret v => Ho ((d, v.up b) :: env) D n w0 M B (num b Lr ++ dels (ids (cid m args) Lc) L) (wpList P all Q rest)
      | .pan ch => Ho env D n w0 M B (num b Lr ++ dels (ids (cid m args) Lc) L) (Q (.panic ch)))
    (hg : guarded all env ⟨some d, .call { callee := .value x, args := xs, argTypes := tys }, ty, pos, af, gd⟩ = some true := by rfl) (hd : Nat.blt d n = true := by rfl) (hb : fn.body.isNone = false := by rfl) (hn : (fn.name == "runtime.NumGoroutine") = false := by rfl) :
    Ho env D n w0 M B L (wpList P all Q (⟨some d, .call { callee := .value x, args := xs, argTypes := tys }, ty, pos, af, gd⟩ :: rest)) := fun a w hsy => by
  unfold wpList
  rw [if_pos (guarded_wanted hsy.tm hg)]
  refine .inl (call_wpD hs hf hb hn (cid m args) b hx ha hall hB hL hnd hnk hsy fun o Lr hp => ?_)
  have h9 := h o Lr hp
  cases o with
  | ret v => exact fun w' hs' => h9 _ _ (by have := hs'.put (v := v.up b) hd; rwa [v.den_up] at this)
  | pan ch => exact fun w' hs' => h9 _ _ hs'
theorem v_callDS {f : FuncId} {fn : Func} {args al : List SV} {Bc Lc : Hp} {post : Out → List Res → Prop} {xs : Array Operand} {tys : Array TypeId} {cap : List Value} {gh : List Nat} (hi : all.toList[i]? = some ⟨some d, .call { callee := .value x, args := xs, argTypes := tys }, ty, pos, af, gd⟩) (b : Nat) (m : List (Nat × Nat))
    (hs : CSpec P f al Bc Lc post) (hf : P.funcs[f]? = some fn) (hx : ev env x = some (.s (.one (.fn f cap gh))) := by rfl) (ha : evs env xs.toList = some args := by rfl) (hall : args.map SV.den ++ cap = al.map SV.den := by rfl)
    (hB : GotD B L (ids (cid m args) Lc) Bc) (hL : Got (lk L) (cid m args) Lc := by repeat (first | exact trivial | refine ⟨rfl, ?_⟩))
    (hnd : nodupB (ids (cid m args) Lc) = true := by rfl) (hnk : nodupB (Lc.map (·.1)) = true := by rfl)
    (h : ∀ o Lr, post o Lr → match o with
      | .ret v => Cov LF (num b Lr ++ dels (ids (cid m args) Lc) L) ∧ HoC LF ((d, v.up b) :: env) D n w0 M B (num b Lr ++ dels (ids (cid m args) Lc) L) (wpSched P all Q (Facts B LF) σ)
      | .pan ch => Ho env D n w0 M B (num b Lr ++ dels (ids (cid m args) Lc) L) (Q (.panic ch)))
    (hg : guarded all env ⟨some d, .call { callee := .value x, args := xs, argTypes := tys }, ty, pos, af, gd⟩ = some true := by rfl) (hd : Nat.blt d n = true := by rfl) (hb : fn.body.isNone = false := by rfl) (hn : (fn.name == "runtime.NumGoroutine") = false := by rfl) :
    HoC LF env D n w0 M B L (wpSched P all Q (Facts B LF) (.s i σ)) := fun hc a w hsy => by
  refine sched_s hi (guarded_wanted hsy.tm hg) ?_
  refine call_wpD hs hf hb hn (cid m args) b hx ha hall hB hL hnd hnk hsy fun o Lr hp => ?_
  have h9 := h o Lr hp
  cases o with
  | ret v => exact fun w' hs' => ⟨facts_cov h9.1 hs', h9.2 h9.1 _ _ (by have := hs'.put (v := v.up b) hd; rwa [v.den_up] at this)⟩
  | pan ch => exact fun w' hs' => h9 _ _ hs'
theorem CSpec.mono {f : FuncId} {args : List SV} {B L : Hp} {post post' : Out → List Res → Prop} (h : CSpec P f args B L post) (hp : ∀ o Lr, post o Lr → post' o Lr) : CSpec P f args B L post' := fun w h1 h2 h3 h4 =>
  (h w h1 h2 h3 h4).mono fun e w' ⟨o, Lr, he, hq, hs⟩ => ⟨o, Lr, he, hp o Lr hq, hs⟩
end HL
end Go.Proofs.YtfopgaijfeeioaaGreat
