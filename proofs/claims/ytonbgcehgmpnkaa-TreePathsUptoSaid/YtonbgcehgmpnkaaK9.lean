/- SYMBOLIC STATES: a range over a function: the iterator's side, the round's side, the statement. My own text; it names no program. -/
import Derived.Test.YtonbgcehgmpnkaaK8
import Derived.RangeFuncIn
import Derived.RangeFuncRecord
import Derived.RangeFuncSeq
import Derived.RangeFuncLeaves
set_option linter.unusedVariables false
set_option linter.unusedSimpArgs false
set_option linter.unusedSectionVars false
namespace Go.Proofs.Ytonbgcehgmpnkaa
namespace HL
open Go Go.RowKit
/-- The fence that asks nothing, in a round or not. -/
abbrev FW (ro : Option Nat) : Fence := { fn := fun _ => True, depth := none, alive := false, round := ro }
def notDefer : Op → Bool
  | .defer _ => false
  | _ => true
section
variable {P : Program} {env : Env} {D : List Deferred} {n m : Nat} {w0 : World} {M : Nat → Prop} {B L : Hp} {ops : Array Oper} {rest : List Oper} {o : Oper} {Q : Exit → Act → World → Prop} {ro : Option Nat} {d : Nat}
theorem callsIn_free {f : FuncId} {args : Array Value} {w : World} {R : Ending → World → Prop} (h : Calls P f args w R) : CallsIn (FW ro) m P f args w R :=
  show CallsIn Fence.wide m P f args w R from callsIn_wide.2 h
theorem rowsIn_free {r : String} {args : Array Value} {w : World} {R : Value → World → Prop} (h : Rows P r args w R) : RowsIn (FW ro) m P r args w R :=
  show RowsIn Fence.wide m P r args w R from fun c cs _ => let ⟨v, w', r, s⟩ := h c cs; ⟨v, w', r, stepsIn_wide.2 s⟩
theorem upon_in {a : Act} {w : World} {K : Act → World → Prop} (hd : notDefer o.op = true) (h : o.wp P a w K Q) : o.wpIn (FW ro) m P a w K Q := by
  refine ⟨fun _ _ => trivial, ?_⟩
  rw [Oper.semAt_eq _ _ _ (fun c e => by rw [e] at hd; cases hd)]
  unfold Oper.wp at h
  generalize (execOp a.eval o).run P w = r at h
  cases r with
  | ok nx w' =>
    cases nx with
    | value v => exact h
    | skip => exact h
    | defer d => exact h
    | enter f args => exact ⟨fun e => (by cases e), callsIn_free h⟩
    | row r args => exact ⟨fun e => (by cases e), rowsIn_free h⟩
    | _ => exact h.elim
  | halt e w' =>
    cases e with
    | panic v => exact h
    | _ => exact h.elim
theorem i_rd {v : TV} {d : Nat} (hr : Reads P o env n B L v) (h : Ho ((d, v) :: env) D n w0 M B L (wpListIn (FW ro) m P ops Q rest)) (ho : o.dst = some d := by rfl) (hg : guarded ops env o = some true := by rfl) (hd : Nat.blt d n = true := by rfl) (hn : notDefer o.op = true := by rfl) : Ho env D n w0 M B L (wpListIn (FW ro) m P ops Q (o :: rest)) := fun a w hs => by
  have hr' := hr a w hs.tm hs.facts
  unfold wpListIn
  rw [if_pos (guarded_wanted hs.tm hg)]
  refine upon_in hn ?_
  unfold Oper.wp
  rw [hr']
  show wpListIn (FW ro) m P ops Q rest (a.put o.dst v.den) w
  rw [ho]
  exact h _ _ (hs.put hd)
theorem i_nil (h : Ho env D n w0 M B L (Q .normal)) : Ho env D n w0 M B L (wpListIn (FW ro) m P ops Q []) := h
/-- A region in which yield is called. -/
theorem c_regionY {id : Nat} {l : List Oper} (h : Ho env D n w0 M B L (wpListIn (FW none) 0 P l.toArray Q l)) : Ho env D n w0 M B L ((Code.region id l.toArray false).wp P Q) := fun a w hs => wpIn_wide.1 (wpIn_region_lit (F := Fence.wide) (n := 0) (h a w hs))
/-! ### yield, as an iterator meets it -/
/-- What old blocks are as they were. -/
structure Keep (w0 : World) (M : Nat → Prop) (w : World) : Prop where
  size : w0.heap.size ≤ w.heap.size
  keep : ∀ b, b < w0.heap.size → ¬ M b → w.heap[b]? = w0.heap[b]?
/-- yield (the loop's record: l): J: what stands there when these have come; G: what may come next. -/
def YSpec {α : Type} (P : Program) (l : Nat) (E : En α) (J : List α → Res → Prop) (G : List α → α → Prop) (w0 : World) (M : Nat → Prop) : Prop := ∀ m pre r x W, J pre r → G pre x → r.holds W → Keep w0 M W → (∀ b, r.fp b → M b ∨ w0.heap.size ≤ b) →
  YieldAt Fence.wide m P l #[(E.f x).den] W (Post (fun o L => o = .ret (vb true) ∧ ∃ r', J (pre ++ [x]) r' ∧ L = [r']) W r.fp)
theorem i_yield {α : Type} {l iy : Nat} {E : En α} {J : List α → Res → Prop} {G : List α → α → Prop} {pre : List α} {x : α} {r : Res} {y z : Operand} {tys : Array TypeId} {ty : TypeId} {pos : String} {af : Array Edge} {gd : Option (Nat × Bool)}
    (hY : YSpec P l E J G w0 M) (hJ : J pre r) (hG : G pre x) (h : ∀ r', J (pre ++ [x]) r' → Ho ((d, vb true) :: env) D n w0 M B ((iy, r') :: del iy L) (wpListIn (FW none) m P ops Q rest))
    (hy : ev env y = some (.s (.one (.yl l))) := by rfl) (hz : ev env z = some (.s (E.f x)) := by rfl) (hl : lk L iy = some r := by rfl) (hg : guarded ops env ⟨some d, .call { callee := .value y, args := #[z], argTypes := tys }, ty, pos, af, gd⟩ = some true := by rfl) (hd : Nat.blt d n = true := by rfl) :
    Ho env D n w0 M B L (wpListIn (FW none) m P ops Q (⟨some d, .call { callee := .value y, args := #[z], argTypes := tys }, ty, pos, af, gd⟩ :: rest)) := fun a w hs => by
  have h1 : a.eval y = .func (.yield l) #[] #[] := ev_sound hs.tm hy
  have h2 : a.eval z = (E.f x).den := ev_sound hs.tm hz
  have hst := live_front hs.st hl
  obtain ⟨fn, tmps, assign, body, hrun, hR⟩ := hY (m - 1) pre r x w hJ hG (hst.res _ (List.mem_cons_self ..)) ⟨hs.st.size, hs.st.keep⟩ (hst.own _ (List.mem_cons_self ..))
  unfold wpListIn
  rw [if_pos (guarded_wanted hs.tm hg)]
  refine ⟨fun _ _ => trivial, ?_⟩
  have hr : (Oper.semAt (FW none).round a.eval ⟨some d, .call { callee := .value y, args := #[z], argTypes := tys }, ty, pos, af, gd⟩).run P w = .ok (.round l fn tmps assign body) w := by
    rw [Oper.semAt_eq _ _ _ (fun c e => by cases e)]
    unfold execOp
    simp [resolve, h1, h2, Deferred.ofValue, Sem.run_bind, invoke, hrun]
  rw [hr]
  refine ⟨fun e => (by cases e), RoundIn.mono hR fun e w' ⟨out, Lr, he, ⟨ho, r', hJ', hL⟩, hst2⟩ => ?_⟩
  subst ho; subst hL; subst he
  have hst3 : St w0 w' M (r' :: live (del iy L)) := St.callN (Lc := [r]) (L2 := [r']) hst hst2 (fun b hb => ⟨r, List.mem_singleton.2 rfl, hb⟩)
  exact h r' hJ' _ _ ((hs.put (v := vb true) hd).to (live_new hst3))
/-! ### a round -/
variable {l : Nat}
theorem n_seq {x y : Code} (h : Ho env D n w0 M B L (x.wpIn (FW ro) m P (Exit.then (y.wpIn (FW ro) m P Q) Q))) : Ho env D n w0 M B L ((Code.seq x y).wpIn (FW ro) m P Q) := fun a w hs => wpIn_seq (h a w hs)
theorem n_block {id : Nat} {c : Code} (h : Ho env D n w0 M B L (c.wpIn (FW ro) m P (Exit.inBlock id Q))) : Ho env D n w0 M B L ((Code.block id c).wpIn (FW ro) m P Q) := fun a w hs => wpIn_block (h a w hs)
theorem n_skip (h : Ho env D n w0 M B L (Q .normal)) : Ho env D n w0 M B L (Code.skip.wpIn (FW ro) m P Q) := fun a w hs => wpIn_skip (h a w hs)
theorem n_if {c : Operand} {x y : Code} {t : Bool} (hc : ev env c = some (vb t) := by rfl) (h1 : t = true → Ho env D n w0 M B L (x.wpIn (FW ro) m P Q)) (h2 : t = false → Ho env D n w0 M B L (y.wpIn (FW ro) m P Q)) : Ho env D n w0 M B L ((Code.cond c x y).wpIn (FW ro) m P Q) := fun a w hs =>
  wpIn_cond_split (ev_sound hs.tm hc) (fun h => h1 h a w hs) (fun h => h2 h a w hs)
theorem n_true {c : Operand} {x y : Code} (hc : ev env c = some (vb true) := by rfl) (h : Ho env D n w0 M B L (x.wpIn (FW ro) m P Q)) : Ho env D n w0 M B L ((Code.cond c x y).wpIn (FW ro) m P Q) := fun a w hs => wpIn_cond_true (ev_sound hs.tm hc) (h a w hs)
theorem n_false {c : Operand} {x y : Code} (hc : ev env c = some (vb false) := by rfl) (h : Ho env D n w0 M B L (y.wpIn (FW ro) m P Q)) : Ho env D n w0 M B L ((Code.cond c x y).wpIn (FW ro) m P Q) := fun a w hs => wpIn_cond_false (ev_sound hs.tm hc) (h a w hs)
theorem wpIn_of_wpList (hq : ¬ LetsOut Q) : ∀ {l : List Oper} {a : Act} {w : World}, (l.all fun o => notDefer o.op) = true → wpList P ops Q l a w → wpListIn (FW ro) m P ops Q l a w
  | [], a, w, _, h => h
  | o :: l, a, w, hd, h => by
    rw [List.all_cons, Bool.and_eq_true] at hd
    unfold wpList at h
    unfold wpListIn
    split at h
    · rename_i hw
      rw [if_pos hw]
      rcases h with h | ⟨_, h⟩
      · refine upon_in hd.1 ?_
        unfold Oper.wp at h ⊢
        have ih := fun a w => wpIn_of_wpList hq (l := l) (a := a) (w := w) hd.2
        generalize (execOp a.eval o).run P w = r at h ⊢
        cases r with
        | ok nx w' =>
          cases nx with
          | value v => exact ih _ _ h
          | skip => exact ih _ _ h
          | defer d => exact ih _ _ h
          | enter f args =>
            refine Calls.mono h fun e w'' he => ?_
            cases e
            · exact ih _ _ he
            · exact he
            · exact he
          | row r args => exact Rows.mono h fun v w'' he => ih _ _ he
          | _ => exact h.elim
        | halt e w' =>
          cases e with
          | panic v => exact h
          | _ => exact h.elim
      · exact absurd h hq
    · rename_i hw
      rw [if_neg hw]
      exact ⟨fun _ _ => trivial, wpIn_of_wpList hq hd.2 h⟩
/-- A region of a round. -/
/- -/
theorem n_region {id : Nat} {l : List Oper} (hq : ¬ LetsOut Q) (h : Ho env D n w0 M B L (wpList P l.toArray Q l)) (hd : (l.all fun o => notDefer o.op) = true := by rfl) : Ho env D n w0 M B L ((Code.region id l.toArray false).wpIn (FW ro) m P Q) := fun a w hs => wpIn_region_lit (wpIn_of_wpList hq hd (h a w hs))
theorem lets_then {K : Act → World → Prop} (h : ¬ LetsOut Q) : ¬ LetsOut (Exit.then K Q) := fun ⟨a, w, e⟩ => h ⟨a, w, e⟩
theorem lets_in {id : Nat} (h : ¬ LetsOut Q) : ¬ LetsOut (Exit.inBlock id Q) := fun ⟨a, w, e⟩ => h ⟨a, w, e⟩
theorem lets_no {K : Act → World → Prop} : ¬ LetsOut (Exit.then K fun _ _ _ => False) := fun ⟨a, w, e⟩ => e
theorem lets_round {R : Ending → World → Prop} : ¬ LetsOut (roundPost P l R) := fun ⟨a, w, e⟩ => e
/-- A loop's record, and the block for the rounds' deferred calls. -/
def LoopR (l : Nat) (q : Loop) (st : LoopState) : Res := Res.blk l (.loop { q with state := st, pending := none })
def DefR (b : Nat) : Res := Res.blk b (.deferred (some []))
def Begins (P : Program) (l : Nat) (K : Act → World → Prop) : Act → World → Prop := fun a w => ∃ w2, (Instr.beginRound l).run P w = .ok () w2 ∧ K a w2
theorem k_begin {q : Loop} {K : Act → World → Prop} (hl : lk L 9000 = some (LoopR l q .ready) := by rfl) (h : Ho env D n w0 M B ((9000, LoopR l q .busy) :: del 9000 L) K) : Ho env D n w0 M B L (Begins P l K) := fun a w hs => by
  have hst := live_front hs.st hl
  have hb := blk_heap (hst.get (i := 0) rfl)
  refine ⟨_, run_beginRound (P := P) hb rfl, h _ _ (hs.to (live_new ?_))⟩
  exact hst.turn (i := 0) (r' := LoopR l q .busy) (w' := w.putObj l _) rfl rfl rfl rfl (by simp [World.putObj]) (fun b hb' hn => Array.getElem?_setIfInBounds_ne (fun e => hn (fp_blk.2 e.symm))) (holds_blk (Array.getElem?_setIfInBounds_self_of_lt (lt_of_heap hb))) (fun b hb' => .inl (fp_blk.2 (fp_blk.1 hb')))
/-- What stands between two rounds. -/
def Jr {α : Type} (l db : Nat) (q : Loop) (I : List α → Hp → Prop) (pre : List α) (r : Res) : Prop := ∃ H, I pre H ∧ (H.map (·.1)).Nodup ∧ r = Res.bag (LoopR l q .ready :: DefR db :: live H)
theorem k_round {α : Type} {db : Nat} {q : Loop} {I : List α → Hp → Prop} {xs : List α} (H : Hp) (hi : I xs H) (hl : InH L ((9000, LoopR l q .busy) :: (9001, DefR db) :: H)) (hn : nodupB (((9000, LoopR l q .busy) :: (9001, DefR db) :: H).map (·.1)) = true := by rfl) :
    Ho env D n w0 M B L (roundPost P l (Post (fun o L => o = .ret (vb true) ∧ ∃ r', Jr l db q I xs r' ∧ L = [r']) w0 M) .normal) := fun a w hs => by
  have hnd := nodupB_spec hn
  have hst := hl.st hnd hs.st
  rw [live_nodup hnd] at hst
  have hst' : St w0 w M (LoopR l q .busy :: DefR db :: H.map (·.2)) := hst
  have hb := blk_heap (hst'.get (i := 0) rfl)
  have hH : (H.map (·.1)).Nodup := (List.nodup_cons.1 (List.nodup_cons.1 hnd).2).2
  refine ⟨_, _, run_endRound (P := P) none hb, .ret (vb true), [Res.bag (LoopR l q .ready :: DefR db :: live H)], rfl, ⟨rfl, _, ⟨H, hi, hH, rfl⟩, rfl⟩, ?_⟩
  refine St.bag ?_
  rw [live_nodup hH, List.append_nil]
  exact hst'.turn (i := 0) (r' := LoopR l q .ready) (w' := w.putObj l _) rfl rfl rfl rfl (by simp [World.putObj]) (fun b hb' hn => Array.getElem?_setIfInBounds_ne (fun e => hn (fp_blk.2 e.symm))) (holds_blk (Array.getElem?_setIfInBounds_self_of_lt (lt_of_heap hb))) (fun b hb' => .inl (fp_blk.2 (fp_blk.1 hb')))
/-- What an iterator does: it gives xs, one behind the other, to yield. -/
def ISpec {α : Type} (P : Program) (f : FuncId) (caps : List SV) (Bc : Hp) (E : En α) (S : List α → Prop) (G : List α → α → Prop) : Prop := ∀ (w : World) (l : Nat) (J : List α → Res → Prop) (r0 : Res), J [] r0 → YSpec P l E J G w r0.fp → r0.holds w → (∀ i r, lk Bc i = some r → r.holds w) → (∀ i r, lk Bc i = some r → dis r r0) →
  Calls P f ((.one (.yl l) :: caps).map SV.den).toArray w (Post (fun o L => o = .ret (.tup []) ∧ ∃ ss r, S ss ∧ J ss r ∧ L = [r]) w r0.fp)
theorem fp_bag {rs : List Res} : (Res.bag rs).fp = fun b => ∃ r ∈ rs, r.fp b := rfl
theorem nodup_parts {X : List Nat} {H rh : Hp} (h : (X ++ (H ++ rh).map (·.1)).Nodup) : (H.map (·.1)).Nodup ∧ ((H ++ rh).map (·.1)).Nodup := by
  have h1 := (List.nodup_append.1 h).2.1
  rw [List.map_append] at h1
  exact ⟨(List.nodup_append.1 h1).1, by rw [List.map_append]; exact h1⟩
theorem c_rangeFunc {α : Type} {g : Operand} {p : Tmp} {assign body : Code} {f : FuncId} {fn : Func} {cap : List Value} {gh : List Nat} {caps : List SV} {Bc : Hp} {E : En α} {S : List α → Prop} {G : List α → α → Prop} (I : List α → Hp → Prop) (H : Hp) (hs : List Nat) (c : Nat → Nat) {rh : Hp} (hrh : keepO L hs = some rh)
    (hi : ISpec P f caps Bc E S G) (h0 : I [] H) (hf : P.funcs[f]? = some fn) (hfb : fn.body.isNone = false) (hfn : (fn.name == "runtime.NumGoroutine") = false)
    (hbody : ∀ (l db : Nat) (q : Loop) (m : Nat) (pre : List α) (x : α) (H' : Hp) (w1 : World) (M1 : Nat → Prop), I pre H' → G pre x → Ho ((p, .s (E.f x)) :: env) [] n w1 M1 (rh ++ B) ((9000, LoopR l q .ready) :: (9001, DefR db) :: H')
      (assign.wpIn (FW (some l)) m P (Exit.then (Begins P l (body.wpIn (FW (some l)) m P (roundPost P l (Post (fun o L => o = .ret (vb true) ∧ ∃ r', Jr l db q I (pre ++ [x]) r' ∧ L = [r']) w1 M1)))) (fun _ _ _ => False))))
    (hdone : ∀ db xs H', S xs → I xs H' → Ho env ({ target := .collected db, args := #[] } :: D) n w0 M B ((9001, DefR db) :: (H' ++ rh)) (Q .normal))
    (hdj : ∀ xs H', I xs H' → nodupB (9000 :: 9001 :: (H' ++ rh).map (·.1)) = true) (hl : InH L (H ++ rh))
    (hB : GotB (lk2 B rh) c Bc)
    (hg : ev env g = some (.s (.one (.fn f cap gh))) := by rfl) (hcap : caps.map SV.den = cap := by rfl) (hp : Nat.blt p n = true := by rfl) :
    Ho env D n w0 M B L ((Code.rangeFunc g #[p] assign body).wp P Q) := fun a w hsy => by
  refine (wpIn_wide (n := 0)).1 (wpIn_rangeFunc (F := Fence.wide) ?_)
  intro fnb _
  have nd : ∀ xs H', I xs H' → (9000 :: 9001 :: (H' ++ rh).map (·.1)).Nodup := fun xs H' hI => nodupB_spec (hdj xs H' hI)
  have nd0 := nodup_parts (X := [9000, 9001]) (nd [] H h0)
  have hst0 : St w0 w M (H.map (·.2) ++ rh.map (·.2)) := by
    have := hl.st nd0.2 hsy.st
    rw [live_nodup nd0.2, List.map_append] at this
    exact this
  obtain ⟨db, hdb⟩ : ∃ db, db = w.heap.size := ⟨_, rfl⟩
  obtain ⟨l, hle⟩ : ∃ l, l = w.heap.size + 1 := ⟨_, rfl⟩
  obtain ⟨q, hq⟩ : ∃ q : Loop, q = { state := .ready, pending := none, fn := fnb, tmps := a.tmps, params := #[p], assign := assign, body := body, defers := db } := ⟨_, rfl⟩
  obtain ⟨w1, hw1⟩ : ∃ w1, w1 = (w.alloc (.deferred (some []))).alloc (.loop q) := ⟨_, rfl⟩
  have hst1 : St w0 w1 M (LoopR l q .ready :: DefR db :: (H.map (·.2) ++ rh.map (·.2))) := by
    have := (hst0.alloc (.deferred (some []))).alloc (.loop q)
    rw [← hw1] at this
    have e1 : Res.blk (w.alloc (.deferred (some []))).heap.size (.loop q) = LoopR l q .ready := by
      unfold LoopR
      rw [hle]
      subst hq
      simp
    have e2 : Res.blk w.heap.size (.deferred (some [])) = DefR db := by unfold DefR; rw [hdb]
    rw [e1, e2] at this
    exact this
  have hst2 : St w0 w1 M (Res.bag (LoopR l q .ready :: DefR db :: live H) :: rh.map (·.2)) := by
    refine St.bag ?_
    rw [live_nodup nd0.1]
    simpa using hst1
  have hrhn : (rh.map (·.1)).Nodup := by
    have := nd0.2
    rw [List.map_append] at this
    exact (List.nodup_append.1 this).2.1
  have hsy1 : Sy env D n w0 M B rh a w1 := hsy.to (by
    rw [live_nodup hrhn]
    exact hst2.sub (List.sublist_cons_self ..))
  have hdis0 := List.pairwise_cons.1 hst2.dis
  have hown0 := hst2.own _ (List.mem_cons_self ..)
  -- what else there is, at a world on the way
  have other : ∀ i r, lk (rh ++ B) i = some r → r.holds w1 ∧ ∀ b, r.fp b → b < w1.heap.size ∧ ¬ (Res.bag (LoopR l q .ready :: DefR db :: live H)).fp b := fun i r hir => by
    have gen : ∀ (X : Hp), lk (X ++ B) i = some r → lk X i = some r ∨ lk B i = some r := by
      intro X
      induction X with
      | nil => exact fun h => .inr h
      | cons x X ih =>
        obtain ⟨k, v⟩ := x
        intro h
        rw [List.cons_append, lk_cons] at h
        rw [lk_cons]
        split at h
        · rename_i e
          rw [if_pos e]
          exact .inl h
        · rename_i e
          rw [if_neg e]
          exact ih h
    rcases gen rh hir with h | h
    · have hm : r ∈ rh.map (·.2) := by rw [← live_nodup hrhn]; exact lk_live h
      refine ⟨hst2.res r (List.mem_cons_of_mem _ hm), fun b hb => ⟨r.bound w1 (hst2.res r (List.mem_cons_of_mem _ hm)) b hb, fun hb2 => hdis0.1 r hm b hb2 hb⟩⟩
    · obtain ⟨h1, h2⟩ := hsy1.bo i r h
      refine ⟨h1, fun b hb => ⟨r.bound w1 h1 b hb, fun hb2 => ?_⟩⟩
      have h3 := h2 b hb
      rcases hown0 b hb2 with h4 | h4
      · exact h3.2 h4
      · omega
  have hlb : ∀ i R, lk2 B rh i = some R → lk (rh ++ B) i = some R := fun i R h => by
    have gen : ∀ (X : Hp), lk (X ++ B) i = lk2 B X i := by
      intro X
      induction X with
      | nil => rfl
      | cons x X ih =>
        obtain ⟨k, v⟩ := x
        unfold lk2 at ih ⊢
        rw [List.cons_append, lk_cons, lk_cons]
        by_cases e : k = i
        · rw [if_pos e, if_pos e]
        · rw [if_neg e, if_neg e]
          exact ih
    rw [gen]
    exact h
  have h1 : a.eval g = .func (.func f) #[] cap.toArray := ev_sound hsy.tm hg
  refine ⟨l, [{ target := .collected db, args := #[] }], w1, { target := .fn (.func f) cap.toArray, args := #[.func (.yield l) #[] #[]] }, w1, f, #[.func (.yield l) #[] #[]] ++ cap.toArray, w1, ?_, ?_, fun _ _ => trivial, ?_, fun e => (by cases e), ?_⟩
  · have := run_enterLoop_outer (P := P) (w := w) fnb a.tmps #[p] assign body
    rw [hw1, hq, hle, hdb]
    exact this
  · simp [resolve, h1, Deferred.ofValue, Sem.run_bind]
    rfl
  · simp only [invoke, callFunc, Sem.run_bind, Sem.run_pure, Result.andThen, run_program, hf, hfb, hfn]
    rfl
  · refine callsIn_wide.2 (Calls.mono (R := Post (fun o L => o = .ret (.tup []) ∧ ∃ ss r, S ss ∧ Jr l db q I ss r ∧ L = [r]) w1 (Res.bag (LoopR l q .ready :: DefR db :: live H)).fp) ?_ ?_)
    · have hc := hi w1 l (Jr l db q I) _ ⟨H, h0, nd0.1, rfl⟩ (fun m pre r x W hJ hG hr hk ho => ?_) (hst2.res _ (List.mem_cons_self ..)) (fun i r hir => (hB.lk hir).elim fun R hR => hR.2.h w1 (other _ _ (hlb _ _ hR.1)).1) (fun i r hir b hb => (hB.lk hir).elim fun R hR => ((other _ _ (hlb _ _ hR.1)).2 b (hR.2.f b hb)).2)
      · have e1 : ((.one (.yl l) :: caps).map SV.den).toArray = #[.func (.yield l) #[] #[]] ++ cap.toArray := by
          rw [← hcap]
          apply Array.toList_inj.1
          simp
          rfl
        rw [e1] at hc
        exact hc
      · obtain ⟨H', hI, hnd, rfl⟩ := hJ
        have hloop := blk_heap (hr.1 _ (List.mem_cons_self ..))
        have nd' := nd pre H' hI
        have nd9 : (((9000, LoopR l q .ready) :: (9001, DefR db) :: H' : Hp).map (·.1)).Nodup := by
          rw [List.map_append] at nd'
          exact (List.nodup_append.1 (show ([9000, 9001] ++ List.map (fun x : Nat × Res => x.1) H' ++ List.map (fun x : Nat × Res => x.1) rh).Nodup by simpa using nd')).1
        have hyl := run_yield (P := P) (args := #[(E.f x).den]) hloop (by subst hq; rfl)
        have hyl' : (Instr.yield l #[(E.f x).den]).run P W = .ok (.round l fnb (a.tmps.setIfInBounds p (E.f x).den) assign body) W := by
          rw [hyl]
          subst hq
          simp
        refine ⟨fnb, _, _, _, hyl', roundIn_of_wpIn trivial ?_⟩
        have hb := hbody l db q m pre x H' W (Res.bag (LoopR l q .ready :: DefR db :: live H')).fp hI hG { tmps := a.tmps.setIfInBounds p (E.f x).den, defers := [] } W ⟨⟨(hsy.tm.put (v := .s (E.f x)) hp).tm, (hsy.tm.put (v := .s (E.f x)) hp).sz⟩, rfl, ?_, fun i s his => ?_⟩
        · exact hb
        · rw [live_nodup nd9]
          have e3 : (LoopR l q .ready :: DefR db :: live H') = ((9000, LoopR l q .ready) :: (9001, DefR db) :: H' : Hp).map (·.2) := by rw [live_nodup hnd]; rfl
          have hr' : (Res.bag (((9000, LoopR l q .ready) :: (9001, DefR db) :: H' : Hp).map (·.2))).holds W := by rw [← e3]; exact hr
          rw [e3]
          exact St.startL hr'.1 hr'.2
        · obtain ⟨g1, g2⟩ := other i s his
          have gh : s.holds W := s.stable w1 W (fun b hb => hk.keep b (g2 b hb).1 (g2 b hb).2) g1
          refine ⟨gh, fun b hb => ⟨s.bound W gh b hb, fun hb2 => ?_⟩⟩
          rcases ho b hb2 with h4 | h4
          · exact (g2 b hb).2 h4
          · have := (g2 b hb).1
            omega
    · rintro e w' ⟨out, Lr, he, ⟨ho, ss, r, hS, ⟨H', hI, hnd, hr⟩, hL⟩, hst3⟩
      subst ho; subst hr; subst hL; subst he
      have hst4 : St w0 w' M (Res.bag (LoopR l q .ready :: DefR db :: live H') :: rh.map (·.2)) := St.callN (Lc := [Res.bag (LoopR l q .ready :: DefR db :: live H)]) (L2 := [Res.bag (LoopR l q .ready :: DefR db :: live H')]) hst2 hst3 (fun b hb => ⟨_, List.mem_singleton.2 rfl, hb⟩)
      have hst5 : St w0 w' M (LoopR l q .ready :: DefR db :: (live H' ++ rh.map (·.2))) := St.unbag hst4
      have hloop := blk_heap (hst5.get (i := 0) rfl)
      refine ⟨none, _, run_endLoop (P := P) hloop (by simp), ?_⟩
      have hst6 := hst5.turn (i := 0) (r' := Res.blk l (.loop { { q with state := .ready, pending := none } with state := .exhausted })) (w' := w'.putObj l _) rfl rfl rfl rfl (by simp [World.putObj]) (fun b hb' hn => Array.getElem?_setIfInBounds_ne (fun e => hn (fp_blk.2 e.symm))) (holds_blk (Array.getElem?_setIfInBounds_self_of_lt (lt_of_heap hloop))) (fun b hb' => .inl (fp_blk.2 (fp_blk.1 hb')))
      have nd' := (List.nodup_cons.1 (nd ss H' hI)).2
      have hsy6 : Sy env D n w0 M B ((9001, DefR db) :: (H' ++ rh)) a (w'.putObj l (.loop { { q with state := .ready, pending := none } with state := .exhausted })) := hsy.to (by
        rw [live_nodup (L := (9001, DefR db) :: (H' ++ rh)) (by simpa using nd')]
        have := hst6.sub (L' := DefR db :: (live H' ++ rh.map (·.2))) (List.sublist_cons_self ..)
        rw [live_nodup hnd] at this
        simpa using this)
      exact hdone db ss H' hS hI _ _ ⟨⟨hsy6.tm.tm, hsy6.tm.sz⟩, by rw [hsy6.df]; rfl, hsy6.st, hsy6.bo⟩
/-! ### a function in which there is a range over a function; an iterator -/
variable {fn : Func} {post : Out → List Res → Prop}
theorem k_enterM {f : FuncId} {c : Code} {args : List SV} (hf : P.funcs[f]? = some fn) (hb : fn.body = some c) (hn : fn.ntmps = n) (he : argEnv args = some env := by rfl) (hl : Nat.ble args.length n = true := by rfl)
    (h : ∀ w, Ho env [] n w (fun b => ∃ r ∈ live L, r.fp b) B L (c.wp P (bodyPostM Fence.wide 0 P fn (Post post w fun b => ∃ r ∈ live L, r.fp b)))) : CSpec P f args B L post := fun w hB hL hd hBL => by
  refine callsIn_wide.1 (callsIn_of_wp_marks (F := Fence.wide) (n := 0) hf hb trivial (wpIn_wide.2 (h w _ w ⟨⟨fun t v hv => ?_, ?_⟩, rfl, St.startL hL hd, fun i r hr => ⟨hB i r hr, fun b hb => ⟨r.bound w (hB i r hr) b hb, ?_⟩⟩⟩)))
  · obtain ⟨u, h1, rfl⟩ := argEnv_get he t v hv
    have hlt := (List.getElem?_eq_some_iff.1 h1).1
    rw [Array.getElem?_append_left (by simpa using hlt)]
    simp [h1, TV.den]
  · have := Nat.le_of_ble_eq_true hl
    simp [hn]
    omega
  · rintro ⟨s, hs, hb'⟩
    exact hBL i r hr s hs b hb hb'
theorem k_retM0 (ids : List Nat) {vs : List SV} {rs : List Res} (v : TV) (hr : RVs P env B L fn.results.toList vs) (hp : picks L ids = some rs := by rfl) (hn : ids.Nodup := by decide) (hv : v.den = (retTV vs).den := by rfl) (h : post (.ret v) rs) : Ho env [] n w0 M B L (bodyPostM Fence.wide m P fn (Post post w0 M) .ret) := fun a w hs => by
  show LeavesInM Fence.wide m P fn a.tmps (Post post w0 M) a.defers .returning w
  rw [hs.df]
  exact ⟨_, results_rvs hr hs.tm hs.facts, .ret v, rs, congrArg _ hv, h, (hs.st.picks hp hn).sub (List.sublist_append_left _ _)⟩
theorem k_retM (ids : List Nat) {db : Nat} {vs : List SV} {rs : List Res} (v : TV) (hr : RVs P env B (del 9001 L) fn.results.toList vs) (hd : lk L 9001 = some (DefR db) := by rfl) (hp : picks (del 9001 L) ids = some rs := by rfl) (hn : ids.Nodup := by decide) (hv : v.den = (retTV vs).den := by rfl) (h : post (.ret v) rs) :
    Ho env [{ target := .collected db, args := #[] }] n w0 M B L (bodyPostM Fence.wide m P fn (Post post w0 M) .ret) := fun a w hs => by
  show LeavesInM Fence.wide m P fn a.tmps (Post post w0 M) a.defers .returning w
  rw [hs.df]
  have hst := live_front hs.st hd
  have hb := blk_heap (hst.get (i := 0) rfl)
  have hst2 := (hst.turn (i := 0) (r' := Res.blk db (.deferred none)) (w' := w.putObj db _) rfl rfl rfl rfl (by simp [World.putObj]) (fun b hb' hn => Array.getElem?_setIfInBounds_ne (fun e => hn (fp_blk.2 e.symm))) (holds_blk (Array.getElem?_setIfInBounds_self_of_lt (lt_of_heap hb))) (fun b hb' => .inl (fp_blk.2 (fp_blk.1 hb')))).sub (L' := live (del 9001 L)) (List.sublist_cons_self ..)
  have hs2 : Sy env [{ target := .collected db, args := #[] }] n w0 M B (del 9001 L) a (w.putObj db (.deferred none)) := hs.to hst2
  exact ⟨by simp, .inl ⟨db, _, rfl, run_takeDeferred (P := P) hb, _, results_rvs hr hs2.tm hs2.facts, .ret v, rs, congrArg _ hv, h, (hs2.st.picks hp hn).sub (List.sublist_append_left _ _)⟩⟩
theorem k_endM (ids : List Nat) {db : Nat} {vs : List SV} {rs : List Res} (v : TV) (hr : RVs P env B (del 9001 L) fn.results.toList vs) (hd : lk L 9001 = some (DefR db) := by rfl) (hp : picks (del 9001 L) ids = some rs := by rfl) (hn : ids.Nodup := by decide) (hv : v.den = (retTV vs).den := by rfl) (h : post (.ret v) rs) :
    Ho env [{ target := .collected db, args := #[] }] n w0 M B L (bodyPostM Fence.wide m P fn (Post post w0 M) .normal) := k_retM ids v hr hd hp hn hv h
theorem k_enterY {α : Type} {f : FuncId} {c : Code} {caps : List SV} {Bc : Hp} {E : En α} {S : List α → Prop} {G : List α → α → Prop} (hf : P.funcs[f]? = some fn) (hb : fn.body = some c) (hn : fn.ntmps = n) 
    (h : ∀ (w : World) (l : Nat) (J : List α → Res → Prop) (r0 : Res), J [] r0 → YSpec P l E J G w r0.fp → ∃ env, argEnv (.one (.yl l) :: caps) = some env ∧ Ho env [] n w r0.fp Bc [(9, r0)] (c.wp P (bodyPost P fn (Post (fun o L => o = .ret (.tup []) ∧ ∃ ss r, S ss ∧ J ss r ∧ L = [r]) w r0.fp))))
    (hl : Nat.ble (caps.length + 1) n = true := by rfl) : ISpec P f caps Bc E S G := fun w l J r0 h0 hY hr hB hd => by
  obtain ⟨env, he, h⟩ := h w l J r0 h0 hY
  refine calls_of_wp hf hb (h _ w ⟨⟨fun t v hv => ?_, ?_⟩, rfl, ?_, fun i r hr => ⟨hB i r hr, fun b hb => ⟨r.bound w (hB i r hr) b hb, hd i r hr b hb⟩⟩⟩)
  · obtain ⟨u, h1, rfl⟩ := argEnv_get he t v hv
    have hlt := (List.getElem?_eq_some_iff.1 h1).1
    have h2 : ((SV.one (.yl l) :: caps).map SV.den)[t]? = some u.den := by rw [List.getElem?_map, h1]; rfl
    rw [Array.getElem?_append_left (by simpa using hlt), List.getElem?_toArray]
    exact h2
  · have := Nat.le_of_ble_eq_true hl
    simp [hn]
    omega
  · have := St.startL (w := w) (L := [r0]) (by simpa using hr) (by simp)
    have e1 : (fun b => ∃ r ∈ [r0], r.fp b) = r0.fp := by funext b; simp
    rw [e1] at this
    exact live_new (L := []) (by rw [live_nil]; exact this)
/-- An iterator's end. -/
theorem k_retY {α : Type} {S : List α → Prop} {J : List α → Res → Prop} {r : Res} (xs : List α) (hS : S xs) (hJ : J xs r) (hp : lk L 9 = some r := by rfl) (hr : fn.results.toList = [] := by rfl) : Ho env [] n w0 M B L (bodyPost P fn (Post (fun o L => o = .ret (.tup []) ∧ ∃ ss r, S ss ∧ J ss r ∧ L = [r]) w0 M) .ret) :=
  k_ret [9] (.tup []) (by rw [hr]; exact .nil) (rs := [r]) (by unfold picks; rw [hp]; rfl) (by decide) rfl ⟨rfl, xs, r, hS, hJ, rfl⟩
theorem k_endY {α : Type} {S : List α → Prop} {J : List α → Res → Prop} {r : Res} (xs : List α) (hS : S xs) (hJ : J xs r) (hp : lk L 9 = some r := by rfl) (hr : fn.results.toList = [] := by rfl) : Ho env [] n w0 M B L (bodyPost P fn (Post (fun o L => o = .ret (.tup []) ∧ ∃ ss r, S ss ∧ J ss r ∧ L = [r]) w0 M) .normal) := k_retY xs hS hJ hp hr
end
end HL
end Go.Proofs.Ytonbgcehgmpnkaa
