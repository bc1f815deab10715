/- SYMBOLIC STATES: values with ghosts, frames and heaps as short lists, read by computing; the operations that only read. My own text; it names no program. -/
import Derived.Test.YtonbgcehgmpnkaaH
set_option linter.unusedVariables false
set_option linter.unusedSimpArgs false
set_option linter.unusedSectionVars false
namespace Go.Proofs.Ytonbgcehgmpnkaa
namespace HL
open Go Go.RowKit
/-! ### values -/
/-- A value of one cell; what points into memory bears the number of a resource. -/
inductive PV where
  | i (k : IntKind) (n : Int)
  | b (x : Bool)
  | s (x : ByteArray)
  | ptr (id : Nat) (a : Addr)
  | el (id : Nat) (ad : Addr) (sz j off : Nat)
  | pn
  | sl (id : Nat) (A : Option Addr) (n c : Nat)
  | mp (id : Nat) (g : Nat)
  | mn
  | fn (f : FuncId) (cap : List Value) (gh : List Nat)
  | fnn
  | ifn
  | ifv (t : TypeId) (v : Value)
  | ifp (t : TypeId) (id : Nat) (a : Addr)
  | yl (l : Nat)
def PV.den : PV → Value
  | .i k n => .int k n
  | .b x => .bool x
  | .s x => .string x
  | .ptr _ a => .pointer (some a)
  | .el _ ad sz j off => .pointer (some ((ad.add (j * sz)).add off))
  | .pn => .pointer none
  | .sl _ A n c => .slice A n c
  | .mp _ g => .map (some g)
  | .mn => .map none
  | .fn f cap _ => .func (.func f) #[] cap.toArray
  | .fnn => .nilFunc
  | .ifn => .nilIface
  | .ifv t v => .iface t v
  | .ifp t _ a => .iface t (.pointer (some a))
  | .yl l => .func (.yield l) #[] #[]
def PV.up (n : Nat) : PV → PV
  | .ptr id a => .ptr (n + id) a
  | .el id A sz j off => .el (n + id) A sz j off
  | .sl id A k c => .sl (n + id) A k c
  | .mp id g => .mp (n + id) g
  | .ifp t id a => .ifp t (n + id) a
  | p => p
theorem PV.den_up (n : Nat) (p : PV) : (p.up n).den = p.den := by cases p <;> rfl
theorem PV.cells_den (p : PV) : p.den.cells = #[p.den] := by cases p <;> rfl
theorem PV.notAgg (p : PV) : isAggV p.den = false := by cases p <;> rfl
theorem PV.ok1 (p : PV) : Ok1 p.den := .one (by cases p <;> rfl) p.cells_den
/-- A part of what lies flat: one cell, or a hash. -/
inductive At where
  | one (p : PV)
  | hash (h : Hash)
def At.val : At → Value
  | .one p => p.den
  | .hash h => hval h
def At.sz : At → Nat
  | .one _ => 1
  | .hash _ => 32
def At.up (n : Nat) : At → At
  | .one p => .one (p.up n)
  | .hash h => .hash h
theorem At.sz_val (a : At) : a.val.cells.size = a.sz := by
  cases a with
  | one p => show p.den.cells.size = 1; rw [p.cells_den]; rfl
  | hash h => exact size_hval h
theorem At.ok1 (a : At) : Ok1 a.val := by
  cases a with
  | one p => exact p.ok1
  | hash h => exact ok1_hval h
theorem At.val_up (n : Nat) (a : At) : (a.up n).val = a.val := by
  cases a with
  | one p => exact p.den_up n
  | hash h => rfl
def vals (as : List At) : List Value := as.map At.val
def ats : List At → Nat
  | [] => 0
  | a :: as => a.sz + ats as
theorem szs_vals (as : List At) : szs (vals as) = ats as := by
  induction as with
  | nil => rfl
  | cons a as ih => show (At.val a).cells.size + szs (vals as) = _; rw [a.sz_val, ih]; rfl
theorem vals_append (as bs : List At) : vals (as ++ bs) = vals as ++ vals bs := List.map_append ..
theorem ats_append (as bs : List At) : ats (as ++ bs) = ats as + ats bs := by rw [← szs_vals, vals_append, szs_append, szs_vals, szs_vals]
/-- A value: of one cell, or of several. -/
inductive SV where
  | one (p : PV)
  | agg (as : List At)
def SV.den : SV → Value
  | .one p => p.den
  | .agg [.hash h] => hval h
  | .agg as => mkS (vals as)
theorem mkS_one (h : Hash) : mkS [hval h] = hval h := by
  unfold mkS
  rw [flat_single, cells_hval]
  unfold hval
  rfl
theorem SV.den_agg (as : List At) : (SV.agg as).den = mkS (vals as) := by
  match as with
  | [.hash h] => exact (mkS_one h).symm
  | [] => rfl
  | [.one p] => rfl
  | .one p :: b :: r => rfl
  | .hash h :: b :: r => rfl
def SV.ats : SV → List At
  | .one p => [.one p]
  | .agg as => as
def SV.up (n : Nat) : SV → SV
  | .one p => .one (p.up n)
  | .agg as => .agg (as.map (At.up n))
theorem vals_up (n : Nat) (as : List At) : vals (as.map (At.up n)) = vals as := by
  unfold vals
  rw [List.map_map]
  exact List.map_congr_left fun a _ => a.val_up n
theorem SV.den_up (n : Nat) (v : SV) : (v.up n).den = v.den := by
  cases v with
  | one p => exact p.den_up n
  | agg as => show (SV.agg (as.map (At.up n))).den = _; rw [SV.den_agg, SV.den_agg, vals_up]
def SV.isAgg : SV → Bool
  | .one _ => false
  | .agg _ => true
theorem SV.isAgg_den (v : SV) : isAggV v.den = v.isAgg := by
  cases v with
  | one p => exact p.notAgg
  | agg as => rw [SV.den_agg]; exact isAgg_mkS _
theorem SV.sz_den (v : SV) : v.den.cells.size = HL.ats v.ats := by
  cases v with
  | one p => show p.den.cells.size = _; rw [p.cells_den]; rfl
  | agg as => rw [SV.den_agg, sz_mkS, szs_vals]; rfl
theorem SV.cells_den (v : SV) : v.den.cells.toList = flat (vals v.ats) := by
  cases v with
  | one p => show p.den.cells.toList = flat [p.den]; rw [flat_single]
  | agg as => rw [SV.den_agg, cells_mkS]; rfl
theorem SV.ok1 (v : SV) : Ok1 v.den := by
  cases v with
  | one p => exact p.ok1
  | agg as =>
    rw [SV.den_agg]
    refine Ok1.mkS fun u hu => ?_
    obtain ⟨a, _, rfl⟩ := List.mem_map.1 hu
    exact a.ok1
/-- What a temporary holds. -/
inductive TV where
  | s (v : SV)
  | tup (l : List SV)
  | un
  | cond (g : Bool) (v : SV)
def TV.den : TV → Value
  | .s v => v.den
  | .tup l => .tuple (l.map SV.den).toArray
  | .un => undef
  | .cond g v => if g = true then v.den else undef
def TV.up (n : Nat) : TV → TV
  | .s v => .s (v.up n)
  | .tup l => .tup (l.map (SV.up n))
  | .un => .un
  | .cond g v => .cond g (v.up n)
theorem TV.den_up (n : Nat) (v : TV) : (v.up n).den = v.den := by
  cases v with
  | s v => exact v.den_up n
  | tup l =>
    show Value.tuple ((l.map (SV.up n)).map SV.den).toArray = Value.tuple (l.map SV.den).toArray
    rw [List.map_map]
    congr 2
    exact List.map_congr_left fun a _ => a.den_up n
  | un => rfl
  | cond g v => show (if g = true then (v.up n).den else undef) = _; rw [v.den_up]; rfl
abbrev vi (k : IntKind) (n : Int) : TV := .s (.one (.i k n))
abbrev vint (n : Int) : TV := .s (.one (.i .i64 n))
abbrev vb (x : Bool) : TV := .s (.one (.b x))
abbrev vs (x : ByteArray) : TV := .s (.one (.s x))
abbrev vh (h : Hash) : TV := .s (.agg [.hash h])
abbrev vsl (id : Nat) (A : Option Addr) (n c : Nat) : TV := .s (.one (.sl id A n c))
abbrev vp (id : Nat) (a : Addr) : TV := .s (.one (.ptr id a))
/-! ### lists that are looked up -/
def lk {α : Type _} : List (Nat × α) → Nat → Option α
  | [], _ => none
  | (k, v) :: l, t => bif Nat.beq k t then some v else lk l t
theorem lk_cons {α : Type _} (k : Nat) (v : α) (l : List (Nat × α)) (t : Nat) : lk ((k, v) :: l) t = if k = t then some v else lk l t := by
  show (bif Nat.beq k t then some v else lk l t) = _
  by_cases h : k = t
  · subst h; rw [if_pos rfl, Nat.beq_refl]; rfl
  · rw [if_neg h, show Nat.beq k t = false from Bool.eq_false_iff.2 fun e => h (Nat.eq_of_beq_eq_true e)]; rfl
def del {α : Type _} (i : Nat) : List (Nat × α) → List (Nat × α)
  | [] => []
  | (k, v) :: l => bif Nat.beq k i then del i l else (k, v) :: del i l
theorem del_cons {α : Type _} (i k : Nat) (v : α) (l : List (Nat × α)) : del i ((k, v) :: l) = if k = i then del i l else (k, v) :: del i l := by
  show (bif Nat.beq k i then del i l else (k, v) :: del i l) = _
  by_cases h : k = i
  · subst h; rw [if_pos rfl, Nat.beq_refl]; rfl
  · rw [if_neg h, show Nat.beq k i = false from Bool.eq_false_iff.2 fun e => h (Nat.eq_of_beq_eq_true e)]; rfl
theorem lk_del {α : Type _} (i t : Nat) (l : List (Nat × α)) : lk (del i l) t = if t = i then none else lk l t := by
  induction l with
  | nil => show none = _; split <;> rfl
  | cons x l ih =>
    obtain ⟨k, v⟩ := x
    rw [del_cons]
    by_cases h : k = i
    · rw [if_pos h, ih, lk_cons]
      by_cases e : t = i
      · rw [if_pos e, if_pos e]
      · rw [if_neg e, if_neg e, if_neg (fun e2 => e (e2.symm.trans h))]
    · rw [if_neg h, lk_cons, lk_cons, ih]
      by_cases e : k = t
      · rw [if_pos e, if_pos e, if_neg (fun e2 => h (e.trans e2))]
      · rw [if_neg e, if_neg e]
theorem length_del {α : Type _} (i : Nat) (l : List (Nat × α)) : (del i l).length ≤ l.length := by
  induction l with
  | nil => exact Nat.le_refl _
  | cons x l ih =>
    obtain ⟨k, v⟩ := x
    rw [del_cons]
    split
    · exact Nat.le_succ_of_le ih
    · simpa using ih
/-- What is there: of each number the first one. -/
def live {α : Type _} : List (Nat × α) → List α
  | [] => []
  | (k, v) :: l => v :: live (del k l)
termination_by l => l.length
decreasing_by simp only [List.length_cons]; have := length_del k l; omega
theorem live_cons {α : Type _} (k : Nat) (v : α) (l : List (Nat × α)) : live ((k, v) :: l) = v :: live (del k l) := by rw [live]
theorem live_nil {α : Type _} : live ([] : List (Nat × α)) = [] := by rw [live]
theorem del_comm {α : Type _} (i j : Nat) (l : List (Nat × α)) : del i (del j l) = del j (del i l) := by
  induction l with
  | nil => rfl
  | cons x l ih =>
    obtain ⟨k, v⟩ := x
    rw [del_cons, del_cons]
    by_cases h1 : k = j <;> by_cases h2 : k = i
    · rw [if_pos h1, if_pos h2, ih]
    · rw [if_pos h1, if_neg h2, del_cons, if_pos h1, ih]
    · rw [if_neg h1, if_pos h2, del_cons, if_pos h2, ih]
    · rw [if_neg h1, if_neg h2, del_cons, if_neg h2, del_cons, if_neg h1, ih]
theorem del_same {α : Type _} {i : Nat} {l : List (Nat × α)} (h : lk l i = none) : del i l = l := by
  induction l with
  | nil => rfl
  | cons x l ih =>
    obtain ⟨k, v⟩ := x
    rw [lk_cons] at h
    by_cases e : k = i
    · rw [if_pos e] at h; cases h
    · rw [if_neg e] at h
      rw [del_cons, if_neg e, ih h]
theorem live_perm {α : Type _} : ∀ (n : Nat) (l : List (Nat × α)), l.length ≤ n → ∀ {i : Nat} {r : α}, lk l i = some r → (live l).Perm (r :: live (del i l))
  | _, [], _, i, r, h => by cases h
  | 0, x :: l, hn, _, _, _ => by simp at hn
  | n + 1, (k, v) :: l, hn, i, r, h => by
    rw [lk_cons] at h
    by_cases e : k = i
    · rw [if_pos e] at h
      injection h with h
      subst h
      rw [live_cons, del_cons, if_pos e, e]
    · rw [if_neg e] at h
      rw [live_cons, del_cons, if_neg e, live_cons, del_comm k i]
      have hl := length_del k l
      have h2 : lk (del k l) i = some r := by rw [lk_del, if_neg (fun e2 => e e2.symm)]; exact h
      exact ((live_perm n (del k l) (by simp at hn; omega) h2).cons v).trans (List.Perm.swap _ _ _)
theorem lk_live {α : Type _} {l : List (Nat × α)} {i : Nat} {r : α} (h : lk l i = some r) : r ∈ live l := (live_perm _ l (Nat.le_refl _) h).mem_iff.2 (by simp)
def lk2 {α : Type _} (B L : List (Nat × α)) (i : Nat) : Option α :=
  match lk L i with
  | some r => some r
  | none => lk B i
def keep {α : Type _} (F : List Nat) (l : List (Nat × α)) : List (Nat × α) := l.filter fun x => F.contains x.1
def ev (env : List (Nat × TV)) : Operand → Option TV
  | .tmp t => lk env t
  | .const (.int k n) => some (.s (.one (.i k n)))
  | .const (.bool x) => some (.s (.one (.b x)))
  | .const (.string x) => some (.s (.one (.s x)))
  | .const (.pointer none) => some (.s (.one .pn))
  | .const (.slice none 0 0) => some (.s (.one (.sl 0 none 0 0)))
  | .const (.map none) => some (.s (.one .mn))
  | .const .nilFunc => some (.s (.one .fnn))
  | .const .nilIface => some (.s (.one .ifn))
  | .const _ => none
  | .global g => some (.s (.one (.ptr 0 ⟨g, 0, none⟩)))
  | .func f => some (.s (.one (.fn f [] [])))
/-! ### states -/
structure Tm (env : List (Nat × TV)) (n : Nat) (a : Act) : Prop where
  tm : ∀ t v, lk env t = some v → a.tmps[t]? = some v.den
  sz : a.tmps.size = n
def Facts (B L : List (Nat × Res)) (w : World) : Prop := ∀ i r, lk2 B L i = some r → r.holds w
structure Sy (env : List (Nat × TV)) (D : List Deferred) (n : Nat) (w0 : World) (M : Nat → Prop) (B L : List (Nat × Res)) (a : Act) (w : World) : Prop where
  tm : Tm env n a
  df : a.defers = D
  st : St w0 w M (live L)
  bo : ∀ i r, lk B i = some r → r.holds w ∧ ∀ b, r.fp b → b < w0.heap.size ∧ ¬ M b
theorem ev_sound {env : List (Nat × TV)} {n : Nat} {a : Act} (h : Tm env n a) {x : Operand} {v : TV} (hx : ev env x = some v) : a.eval x = v.den := by
  cases x with
  | tmp t =>
    have := h.tm t v hx
    show a.tmps.getD t undef = v.den
    simp [Array.getD_eq_getD_getElem?, this]
  | const u =>
    cases u with
    | pointer p => cases p <;> (unfold ev at hx; first | (injection hx with hx; subst hx; rfl) | cases hx)
    | map p => cases p <;> (unfold ev at hx; first | (injection hx with hx; subst hx; rfl) | cases hx)
    | slice p i c =>
      cases p with
      | some p => unfold ev at hx; cases hx
      | none =>
        cases i with
        | succ i => unfold ev at hx; cases hx
        | zero => cases c with
          | zero => unfold ev at hx; injection hx with hx; subst hx; rfl
          | succ c => unfold ev at hx; cases hx
    | _ => unfold ev at hx; first | (injection hx with hx; subst hx; rfl) | cases hx
  | global g => unfold ev at hx; injection hx with hx; subst hx; rfl
  | func f => unfold ev at hx; injection hx with hx; subst hx; rfl
theorem Tm.put {env : List (Nat × TV)} {n : Nat} {a : Act} (h : Tm env n a) {d : Nat} {v : TV} (hd : Nat.blt d n = true) : Tm ((d, v) :: env) n (a.put (some d) v.den) := by
  have hd' : d < a.tmps.size := by rw [h.sz]; simpa [Nat.blt_eq] using hd
  refine ⟨fun t u ht => ?_, by simp [Act.put, h.sz]⟩
  rw [lk_cons] at ht
  show (a.tmps.setIfInBounds d v.den)[t]? = _
  by_cases e : d = t
  · rw [if_pos e] at ht
    injection ht with ht
    subst ht
    subst e
    exact Array.getElem?_setIfInBounds_self_of_lt hd'
  · rw [if_neg e] at ht
    rw [Array.getElem?_setIfInBounds_ne e]
    exact h.tm t u ht
theorem Tm.sub {env env' : List (Nat × TV)} {n : Nat} {a : Act} (h : Tm env n a) (hs : ∀ t v, lk env' t = some v → lk env t = some v) : Tm env' n a := ⟨fun t v ht => h.tm t v (hs t v ht), h.sz⟩
section
variable {env : List (Nat × TV)} {D : List Deferred} {n : Nat} {w0 w : World} {M : Nat → Prop} {B L : List (Nat × Res)} {a : Act}
theorem Sy.facts (h : Sy env D n w0 M B L a w) : Facts B L w := fun i r hr => by
  unfold lk2 at hr
  cases hl : lk L i with
  | some r' => rw [hl] at hr; injection hr with hr; subst hr; exact h.st.res _ (lk_live hl)
  | none => rw [hl] at hr; exact (h.bo i r hr).1
theorem Sy.put (h : Sy env D n w0 M B L a w) {d : Nat} {v : TV} (hd : Nat.blt d n = true) : Sy ((d, v) :: env) D n w0 M B L (a.put (some d) v.den) w := ⟨h.tm.put hd, h.df, h.st, h.bo⟩
theorem Sy.put0 (h : Sy env D n w0 M B L a w) (v : Value) : Sy env D n w0 M B L (a.put none v) w := h
/-- The heap has turned into another one. -/
theorem Sy.turned {L' : List (Nat × Res)} {w' : World} (h : Sy env D n w0 M B L a w) (hs : St w0 w' M (live L')) (hk : ∀ b, b < w0.heap.size → ¬ M b → w'.heap[b]? = w.heap[b]?) : Sy env D n w0 M B L' a w' :=
  ⟨h.tm, h.df, hs, fun i r hr => ⟨r.stable w w' (fun b hb => hk b ((h.bo i r hr).2 b hb).1 ((h.bo i r hr).2 b hb).2) (h.bo i r hr).1, (h.bo i r hr).2⟩⟩
theorem St.both {w1 w2 : World} {L1 L2 : List Res} (h1 : St w0 w1 M L1) (h2 : St w0 w2 M L2) : ∀ b, b < w0.heap.size → ¬ M b → w2.heap[b]? = w1.heap[b]? := fun b hb hm => (h2.keep b hb hm).trans (h1.keep b hb hm).symm
theorem Sy.to {L' : List (Nat × Res)} {w' : World} (h : Sy env D n w0 M B L a w) (hs : St w0 w' M (live L')) : Sy env D n w0 M B L' a w' := h.turned hs (h.st.both hs)
theorem live_new {L : List (Nat × Res)} {r : Res} {k : Nat} (h : St w0 w M (r :: live L)) : St w0 w M (live ((k, r) :: L)) := by
  rw [live_cons]
  cases hl : lk L k with
  | none => rw [del_same hl]; exact h
  | some q => exact (h.perm ((live_perm _ L (Nat.le_refl _) hl).cons r)).sub (List.Sublist.cons_cons _ (List.sublist_cons_self _ _))
theorem live_front {L : List (Nat × Res)} {r : Res} {k : Nat} (h : St w0 w M (live L)) (hl : lk L k = some r) : St w0 w M (r :: live (del k L)) := h.perm (live_perm _ L (Nat.le_refl _) hl)
end
/-- In every state that is told, what is asked holds. -/
def Ho (env : List (Nat × TV)) (D : List Deferred) (n : Nat) (w0 : World) (M : Nat → Prop) (B L : List (Nat × Res)) (K : Act → World → Prop) : Prop := ∀ a w, Sy env D n w0 M B L a w → K a w
/-- An operation that hands a value on and does nothing else. -/
def Reads (P : Program) (o : Oper) (env : List (Nat × TV)) (n : Nat) (B L : List (Nat × Res)) (v : TV) : Prop := ∀ (a : Act) (w : World), Tm env n a → Facts B L w → (execOp a.eval o).run P w = .ok (.value v.den) w
/-- Is the guard so? -/
def guarded (ops : Array Oper) (env : List (Nat × TV)) (o : Oper) : Option Bool :=
  match o.guard with
  | none => some true
  | some (j, want) =>
    match ops[j]? with
    | some o' => match o'.dst with
      | some d => match lk env d with
        | some (.s (.one (.b x))) => some (bif x then want else !want)
        | some .un => some false
        | _ => none
      | none => none
    | none => none
theorem guarded_wanted {ops : Array Oper} {env : List (Nat × TV)} {o : Oper} {n : Nat} {a : Act} {t : Bool} (h : Tm env n a) (hg : guarded ops env o = some t) : Region.wanted o (yielded ops a.tmps) = t := by
  unfold guarded at hg
  unfold Region.wanted
  split at hg
  · rename_i e; rw [e]; injection hg
  · rename_i j want e
    rw [e]
    split at hg
    · rename_i o' e2
      split at hg
      · rename_i d e3
        split at hg
        · rename_i x e4
          have := h.tm d _ e4
          injection hg with hg
          subst hg
          simp only [yielded, e2, e3, Option.bind_some, this, TV.den, SV.den, PV.den]
          cases x <;> cases want <;> rfl
        · rename_i e4
          have := h.tm d _ e4
          injection hg with hg
          subst hg
          simp only [yielded, e2, e3, Option.bind_some, this, TV.den]
          cases want <;> rfl
        · cases hg
      · cases hg
    · cases hg
/-- A guard that is not known. -/
def guardSym (ops : Array Oper) (env : List (Nat × TV)) (o : Oper) : Option Bool :=
  match o.guard with
  | none => none
  | some (j, want) =>
    match ops[j]? with
    | some o' => match o'.dst with
      | some d => match lk env d with
        | some (.s (.one (.b x))) => some (bif want then x else !x)
        | some (.cond g (.one (.b x))) => some (g && (bif want then x else !x))
        | _ => none
      | none => none
    | none => none
theorem guardSym_wanted {ops : Array Oper} {env : List (Nat × TV)} {o : Oper} {n : Nat} {a : Act} {g : Bool} (h : Tm env n a) (hg : guardSym ops env o = some g) : Region.wanted o (yielded ops a.tmps) = g := by
  unfold guardSym at hg
  unfold Region.wanted
  split at hg
  · cases hg
  · rename_i j want e
    rw [e]
    split at hg
    · rename_i o' e2
      split at hg
      · rename_i d e3
        split at hg
        · rename_i x e4
          have := h.tm d _ e4
          injection hg with hg
          subst hg
          simp only [yielded, e2, e3, Option.bind_some, this, TV.den, SV.den, PV.den]
          cases x <;> cases want <;> rfl
        · rename_i g x e4
          have := h.tm d _ e4
          injection hg with hg
          subst hg
          simp only [yielded, e2, e3, Option.bind_some, this, TV.den, SV.den, PV.den]
          cases g <;> cases x <;> cases want <;> rfl
        · cases hg
      · cases hg
    · cases hg
/-- What was made under the same guard. -/
def ResAll (env : List (Nat × TV)) (g : Bool) : List Nat → List (Nat × TV) → Prop
  | [], e => e = env
  | t :: ts, e => ∃ u r, (∃ v, lk env t = some (.cond g v) ∧ u = .s v ∨ ∃ x, lk env t = some (.cond (g && x) v) ∧ u = .cond x v) ∧ ResAll env g ts r ∧ e = (t, u) :: r
theorem ResAll.tm {env : List (Nat × TV)} {n : Nat} {a : Act} {g : Bool} (hg : g = true) (ht : Tm env n a) : ∀ {ts : List Nat} {e : List (Nat × TV)}, ResAll env g ts e → Tm e n a
  | [], e, h => by subst h; exact ht
  | t :: ts, e, ⟨u, r, h1, h2, h3⟩ => by
    subst h3
    have hr := ResAll.tm hg ht h2
    refine ⟨fun q u' hq => ?_, hr.sz⟩
    rw [lk_cons] at hq
    by_cases e : t = q
    · rw [if_pos e] at hq
      injection hq with hq
      subst hq
      obtain ⟨v, ⟨h1, rfl⟩ | ⟨x, h1, rfl⟩⟩ := h1
      · have := ht.tm t _ h1
        rw [← e, this]
        show some (if g = true then v.den else undef) = _
        rw [if_pos hg]
        rfl
      · have := ht.tm t _ h1
        rw [← e, this]
        show some (if (g && x) = true then v.den else undef) = some (if x = true then v.den else undef)
        rw [hg, Bool.true_and]
    · rw [if_neg e] at hq
      exact hr.tm q u' hq
section
variable {P : Program} {ops : Array Oper} {Q : Exit → Act → World → Prop} {o : Oper} {rest : List Oper}
variable {env : List (Nat × TV)} {D : List Deferred} {n : Nat} {w0 : World} {M : Nat → Prop} {B L : List (Nat × Res)}
theorem l_rdG {v : SV} {d : Nat} {g : Bool} (ts : List Nat) {env' : List (Nat × TV)} (hres : ResAll env g ts env') (hr : g = true → Reads P o env' n B L (.s v)) (h : Ho ((d, .cond g v) :: env) D n w0 M B L (wpList P ops Q rest)) (ho : o.dst = some d := by rfl) (hg : guardSym ops env o = some g := by rfl) (hd : Nat.blt d n = true := by rfl) : Ho env D n w0 M B L (wpList P ops Q (o :: rest)) := fun a w hs => by
  unfold wpList
  rw [guardSym_wanted hs.tm hg, ho]
  by_cases e : g = true
  · rw [if_pos e]
    refine .inl ?_
    unfold Oper.wp
    rw [hr e a w (hres.tm e hs.tm) hs.facts]
    show wpList P ops Q rest (a.put o.dst v.den) w
    rw [ho]
    have := hs.put (v := .cond g v) hd
    rw [show (TV.cond g v).den = v.den from if_pos e] at this
    exact h _ _ this
  · rw [if_neg e]
    have := hs.put (v := .cond g v) hd
    rw [show (TV.cond g v).den = undef from if_neg e] at this
    exact h _ _ this
/-! ### in a region without a draw -/
theorem l_rd {v : TV} {d : Nat} (hr : Reads P o env n B L v) (h : Ho ((d, v) :: env) D n w0 M B L (wpList P ops Q rest)) (ho : o.dst = some d := by rfl) (hg : guarded ops env o = some true := by rfl) (hd : Nat.blt d n = true := by rfl) : Ho env D n w0 M B L (wpList P ops Q (o :: rest)) := fun a w hs => by
  unfold wpList
  rw [if_pos (guarded_wanted hs.tm hg)]
  refine .inl ?_
  unfold Oper.wp
  rw [hr a w hs.tm hs.facts]
  show wpList P ops Q rest (a.put o.dst v.den) w
  rw [ho]
  exact h _ _ (hs.put hd)
theorem l_skip {d : Nat} (h : Ho ((d, .un) :: env) D n w0 M B L (wpList P ops Q rest)) (ho : o.dst = some d := by rfl) (hg : guarded ops env o = some false := by rfl) (hd : Nat.blt d n = true := by rfl) : Ho env D n w0 M B L (wpList P ops Q (o :: rest)) := fun a w hs => by
  unfold wpList
  rw [if_neg (by rw [guarded_wanted hs.tm hg]; simp), ho]
  exact h _ _ (hs.put (v := .un) hd)
theorem l_skip0 (h : Ho env D n w0 M B L (wpList P ops Q rest)) (ho : o.dst = none := by rfl) (hg : guarded ops env o = some false := by rfl) : Ho env D n w0 M B L (wpList P ops Q (o :: rest)) := fun a w hs => by
  unfold wpList
  rw [if_neg (by rw [guarded_wanted hs.tm hg]; simp), ho]
  exact h _ _ (hs.put0 _)
theorem l_nil (h : Ho env D n w0 M B L (Q .normal)) : Ho env D n w0 M B L (wpList P ops Q []) := h
theorem lk_again {α : Type _} {l : List (Nat × α)} {t u : Nat} {x v : α} (ht : lk l t = some x) (hu : lk ((t, x) :: l) u = some v) : lk l u = some v := by
  rw [lk_cons] at hu
  by_cases e : t = u
  · rw [if_pos e] at hu; rw [← hu, ← e]; exact ht
  · rw [if_neg e] at hu; exact hu
/-- A Bool that is not known: either. -/
theorem k_case (t : Nat) {x : Bool} {K : Act → World → Prop} (ht : lk env t = some (vb x) := by rfl) (h1 : x = true → Ho ((t, vb true) :: env) D n w0 M B L K) (h2 : x = false → Ho ((t, vb false) :: env) D n w0 M B L K) : Ho env D n w0 M B L K := fun a w hs => by
  cases x with
  | true => exact h1 rfl a w ⟨hs.tm.sub (fun u v hu => lk_again ht hu), hs.df, hs.st, hs.bo⟩
  | false => exact h2 rfl a w ⟨hs.tm.sub (fun u v hu => lk_again ht hu), hs.df, hs.st, hs.bo⟩
end
end HL
end Go.Proofs.Ytonbgcehgmpnkaa
