/- Lemmas and walks: V1, V2, V3, V4, V5, V6, V7, V8, V9, VA, VB, VC, VD, VG, VH, VI, VJ. -/
import Derived.Test.YtfopgaijfeeioaaGreatZ1
import Derived.Maps.RangeRun
import Derived.RangeFuncIn
import Derived.RangeFuncRecord
import Derived.RangeFuncSeq
import Derived.RangeFuncLeaves
import Derived.Laws.MakeOwn
import Derived.Laws.StructEq
import Derived.Laws.Entries
/- SYMBOLIC STATES: values with ghosts, frames and heaps as short lists, read by computing; the operations that only read. My own text; it names no program. -/


set_option linter.unusedVariables false
set_option linter.unusedSimpArgs false
set_option linter.unusedSectionVars false
namespace Go.Proofs.YtfopgaijfeeioaaGreat
namespace HL
open Go Go.RowKit
inductive PV where
  | i (k : IntKind) (n : Int)
  | b (x : Bool)
  | s (x : ByteArray)
  | ptr (id : Nat) (a : Addr)
  | el (id : Nat) (ad : Addr) (sz j off : Nat)
  | pn
  | sl (id : Nat) (A : Option Addr) (n c : Nat)
  | mp (id : Nat) (g : Nat)
  | mn
  | fn (f : FuncId) (cap : List Value) (gh : List Nat)
  | fnn
  | ifn
  | ifv (t : TypeId) (v : Value)
  | ifp (t : TypeId) (id : Nat) (a : Addr)
  | yl (l : Nat)
  | nat (k : IntKind) (a : Nat)
  | kb (x : Bool)
  | stl (id : Nat) (A : Option Addr) (c0 sz o m c : Nat)
  | sar (id : Nat) (ad : Addr) (sz j off m : Nat)
  | sln (id : Nat) (ks : List (Nat × Nat)) (A : Option Addr) (m c : Nat)
  | eln (id : Nat) (ks : List (Nat × Nat)) (ad : Addr) (sz j off : Nat)
  | fl (q : Nat)
  | fnb (f : FuncId) (fst : List Value)
def PV.den : PV → Value
  | .i k n => .int k n
  | .b x => .bool x
  | .s x => .string x
  | .ptr _ a => .pointer (some a)
  | .el _ ad sz j off => .pointer (some ((ad.add (j * sz)).add off))
  | .pn => .pointer none
  | .sl _ A n c => .slice A n c
  | .mp _ g => .map (some g)
  | .mn => .map none
  | .fn f cap _ => .func (.func f) #[] cap.toArray
  | .fnn => .nilFunc
  | .ifn => .nilIface
  | .ifv t v => .iface t v
  | .ifp t _ a => .iface t (.pointer (some a))
  | .yl l => .func (.yield l) #[] #[]
  | .nat k a => .int k (a : Int)
  | .kb x => .bool x
  | .stl _ A c0 sz o m c => .slice (tailA A c0 o sz) m c
  | .sar _ ad sz j off m => .slice (some ((ad.add (j * sz)).add off)) m m
  | .sln _ _ A m c => .slice A m c
  | .eln _ _ ad sz j off => .pointer (some ((ad.add (j * sz)).add off))
  | .fl q => .float .f64 q
  | .fnb f fst => .func (.func f) fst.toArray #[]
def PV.up (n : Nat) : PV → PV
  | .ptr id a => .ptr (n + id) a
  | .el id A sz j off => .el (n + id) A sz j off
  | .sl id A k c => .sl (n + id) A k c
  | .mp id g => .mp (n + id) g
  | .ifp t id a => .ifp t (n + id) a
  | .stl id A c0 sz o m c => .stl (n + id) A c0 sz o m c
  | .sar id ad sz j off m => .sar (n + id) ad sz j off m
  | .sln id ks A m c => .sln (n + id) ks A m c
  | .eln id ks ad sz j off => .eln (n + id) ks ad sz j off
  | p => p
theorem PV.den_up (n : Nat) (p : PV) : (p.up n).den = p.den := by cases p <;> rfl
theorem PV.cells_den (p : PV) : p.den.cells = #[p.den] := by cases p <;> rfl
theorem PV.notAgg (p : PV) : isAggV p.den = false := by cases p <;> rfl
theorem PV.ok1 (p : PV) : Ok1 p.den := .one (by cases p <;> rfl) p.cells_den
inductive At where
  | one (p : PV)
  | hash (h : Hash)
def At.val : At → Value
  | .one p => p.den
  | .hash h => hval h
def At.sz : At → Nat
  | .one _ => 1
  | .hash _ => 32
def At.up (n : Nat) : At → At
  | .one p => .one (p.up n)
  | .hash h => .hash h
theorem At.sz_val (a : At) : a.val.cells.size = a.sz := by
  cases a with
  | one p => show p.den.cells.size = 1; rw [p.cells_den]; rfl
  | hash h => exact size_hval h
theorem At.ok1 (a : At) : Ok1 a.val := by
  cases a with
  | one p => exact p.ok1
  | hash h => exact ok1_hval h
theorem At.val_up (n : Nat) (a : At) : (a.up n).val = a.val := by
  cases a with
  | one p => exact p.den_up n
  | hash h => rfl
def vals (as : List At) : List Value := as.map At.val
def ats : List At → Nat
  | [] => 0
  | a :: as => a.sz + ats as
theorem szs_vals (as : List At) : szs (vals as) = ats as := by
  induction as with
  | nil => rfl
  | cons a as ih => show (At.val a).cells.size + szs (vals as) = _; rw [a.sz_val, ih]; rfl
theorem vals_append (as bs : List At) : vals (as ++ bs) = vals as ++ vals bs := List.map_append ..
inductive SV where
  | one (p : PV)
  | agg (as : List At)
def SV.den : SV → Value
  | .one p => p.den
  | .agg [.hash h] => hval h
  | .agg as => mkS (vals as)
theorem mkS_one (h : Hash) : mkS [hval h] = hval h := by
  unfold mkS
  rw [flat_single, cells_hval]
  unfold hval
  rfl
theorem SV.den_agg (as : List At) : (SV.agg as).den = mkS (vals as) := by
  match as with
  | [.hash h] => exact (mkS_one h).symm
  | [] => rfl
  | [.one p] => rfl
  | .one p :: b :: r => rfl
  | .hash h :: b :: r => rfl
def SV.ats : SV → List At
  | .one p => [.one p]
  | .agg as => as
def SV.up (n : Nat) : SV → SV
  | .one p => .one (p.up n)
  | .agg as => .agg (as.map (At.up n))
theorem vals_up (n : Nat) (as : List At) : vals (as.map (At.up n)) = vals as := by
  unfold vals
  rw [List.map_map]
  exact List.map_congr_left fun a _ => a.val_up n
theorem SV.den_up (n : Nat) (v : SV) : (v.up n).den = v.den := by
  cases v with
  | one p => exact p.den_up n
  | agg as => show (SV.agg (as.map (At.up n))).den = _; rw [SV.den_agg, SV.den_agg, vals_up]
def SV.isAgg : SV → Bool
  | .one _ => false
  | .agg _ => true
theorem SV.isAgg_den (v : SV) : isAggV v.den = v.isAgg := by
  cases v with
  | one p => exact p.notAgg
  | agg as => rw [SV.den_agg]; exact isAgg_mkS _
theorem SV.sz_den (v : SV) : v.den.cells.size = HL.ats v.ats := by
  cases v with
  | one p => show p.den.cells.size = _; rw [p.cells_den]; rfl
  | agg as => rw [SV.den_agg, sz_mkS, szs_vals]; rfl
theorem SV.cells_den (v : SV) : v.den.cells.toList = flat (vals v.ats) := by
  cases v with
  | one p => show p.den.cells.toList = flat [p.den]; rw [flat_single]
  | agg as => rw [SV.den_agg, cells_mkS]; rfl
theorem SV.ok1 (v : SV) : Ok1 v.den := by
  cases v with
  | one p => exact p.ok1
  | agg as =>
    rw [SV.den_agg]
    refine Ok1.mkS fun u hu => ?_
    obtain ⟨a, _, rfl⟩ := List.mem_map.1 hu
    exact a.ok1
inductive TV where
  | s (v : SV)
  | tup (l : List SV)
  | un
  | cond (g : Bool) (v : SV)
def TV.den : TV → Value
  | .s v => v.den
  | .tup l => .tuple (l.map SV.den).toArray
  | .un => undef
  | .cond g v => if g = true then v.den else undef
def TV.up (n : Nat) : TV → TV
  | .s v => .s (v.up n)
  | .tup l => .tup (l.map (SV.up n))
  | .un => .un
  | .cond g v => .cond g (v.up n)
theorem TV.den_up (n : Nat) (v : TV) : (v.up n).den = v.den := by
  cases v with
  | s v => exact v.den_up n
  | tup l =>
    show Value.tuple ((l.map (SV.up n)).map SV.den).toArray = Value.tuple (l.map SV.den).toArray
    rw [List.map_map]
    congr 2
    exact List.map_congr_left fun a _ => a.den_up n
  | un => rfl
  | cond g v => show (if g = true then (v.up n).den else undef) = _; rw [v.den_up]; rfl
abbrev vi (k : IntKind) (n : Int) : TV := .s (.one (.i k n))
abbrev vnk (k : IntKind) (n : Nat) : TV := .s (.one (.nat k n))
abbrev vn (n : Nat) : TV := .s (.one (.nat .i64 n))
abbrev vk (x : Bool) : TV := .s (.one (.kb x))
abbrev vint (n : Int) : TV := .s (.one (.i .i64 n))
abbrev vb (x : Bool) : TV := .s (.one (.b x))
abbrev vs (x : ByteArray) : TV := .s (.one (.s x))
abbrev vh (h : Hash) : TV := .s (.agg [.hash h])
abbrev vsl (id : Nat) (A : Option Addr) (n c : Nat) : TV := .s (.one (.sl id A n c))
abbrev vp (id : Nat) (a : Addr) : TV := .s (.one (.ptr id a))
def lk {α : Type _} : List (Nat × α) → Nat → Option α
  | [], _ => none
  | (k, v) :: l, t => bif Nat.beq k t then some v else lk l t
theorem lk_cons {α : Type _} (k : Nat) (v : α) (l : List (Nat × α)) (t : Nat) : lk ((k, v) :: l) t = if k = t then some v else lk l t := by
  show (bif Nat.beq k t then some v else lk l t) = _
  by_cases h : k = t
  · subst h; rw [if_pos rfl, Nat.beq_refl]; rfl
  · rw [if_neg h, show Nat.beq k t = false from Bool.eq_false_iff.2 fun e => h (Nat.eq_of_beq_eq_true e)]; rfl
def del {α : Type _} (i : Nat) : List (Nat × α) → List (Nat × α)
  | [] => []
  | (k, v) :: l => bif Nat.beq k i then del i l else (k, v) :: del i l
theorem del_cons {α : Type _} (i k : Nat) (v : α) (l : List (Nat × α)) : del i ((k, v) :: l) = if k = i then del i l else (k, v) :: del i l := by
  show (bif Nat.beq k i then del i l else (k, v) :: del i l) = _
  by_cases h : k = i
  · subst h; rw [if_pos rfl, Nat.beq_refl]; rfl
  · rw [if_neg h, show Nat.beq k i = false from Bool.eq_false_iff.2 fun e => h (Nat.eq_of_beq_eq_true e)]; rfl
theorem lk_del {α : Type _} (i t : Nat) (l : List (Nat × α)) : lk (del i l) t = if t = i then none else lk l t := by
  induction l with
  | nil => show none = _; split <;> rfl
  | cons x l ih =>
    obtain ⟨k, v⟩ := x
    rw [del_cons]
    by_cases h : k = i
    · rw [if_pos h, ih, lk_cons]
      by_cases e : t = i
      · rw [if_pos e, if_pos e]
      · rw [if_neg e, if_neg e, if_neg (fun e2 => e (e2.symm.trans h))]
    · rw [if_neg h, lk_cons, lk_cons, ih]
      by_cases e : k = t
      · rw [if_pos e, if_pos e, if_neg (fun e2 => h (e.trans e2))]
      · rw [if_neg e, if_neg e]
theorem length_del {α : Type _} (i : Nat) (l : List (Nat × α)) : (del i l).length ≤ l.length := by
  induction l with
  | nil => exact Nat.le_refl _
  | cons x l ih =>
    obtain ⟨k, v⟩ := x
    rw [del_cons]
    split
    · exact Nat.le_succ_of_le ih
    · simpa using ih
def live {α : Type _} : List (Nat × α) → List α
  | [] => []
  | (k, v) :: l => v :: live (del k l)
termination_by l => l.length
decreasing_by simp only [List.length_cons]; have := length_del k l; omega
theorem live_cons {α : Type _} (k : Nat) (v : α) (l : List (Nat × α)) : live ((k, v) :: l) = v :: live (del k l) := by rw [live]
theorem live_nil {α : Type _} : live ([] : List (Nat × α)) = [] := by rw [live]
theorem del_comm {α : Type _} (i j : Nat) (l : List (Nat × α)) : del i (del j l) = del j (del i l) := by
  induction l with
  | nil => rfl
  | cons x l ih =>
    obtain ⟨k, v⟩ := x
    rw [del_cons, del_cons]
    by_cases h1 : k = j <;> by_cases h2 : k = i
    · rw [if_pos h1, if_pos h2, ih]
    · rw [if_pos h1, if_neg h2, del_cons, if_pos h1, ih]
    · rw [if_neg h1, if_pos h2, del_cons, if_pos h2, ih]
    · rw [if_neg h1, if_neg h2, del_cons, if_neg h2, del_cons, if_neg h1, ih]
theorem del_same {α : Type _} {i : Nat} {l : List (Nat × α)} (h : lk l i = none) : del i l = l := by
  induction l with
  | nil => rfl
  | cons x l ih =>
    obtain ⟨k, v⟩ := x
    rw [lk_cons] at h
    by_cases e : k = i
    · rw [if_pos e] at h; cases h
    · rw [if_neg e] at h
      rw [del_cons, if_neg e, ih h]
theorem live_perm {α : Type _} : ∀ (n : Nat) (l : List (Nat × α)), l.length ≤ n → ∀ {i : Nat} {r : α}, lk l i = some r → (live l).Perm (r :: live (del i l))
  | _, [], _, i, r, h => by cases h
  | 0, x :: l, hn, _, _, _ => by simp at hn
  | n + 1, (k, v) :: l, hn, i, r, h => by
    rw [lk_cons] at h
    by_cases e : k = i
    · rw [if_pos e] at h
      injection h with h
      subst h
      rw [live_cons, del_cons, if_pos e, e]
    · rw [if_neg e] at h
      rw [live_cons, del_cons, if_neg e, live_cons, del_comm k i]
      have hl := length_del k l
      have h2 : lk (del k l) i = some r := by rw [lk_del, if_neg (fun e2 => e e2.symm)]; exact h
      exact ((live_perm n (del k l) (by simp at hn; omega) h2).cons v).trans (List.Perm.swap _ _ _)
theorem lk_live {α : Type _} {l : List (Nat × α)} {i : Nat} {r : α} (h : lk l i = some r) : r ∈ live l := (live_perm _ l (Nat.le_refl _) h).mem_iff.2 (by simp)
def lk2 {α : Type _} (B L : List (Nat × α)) (i : Nat) : Option α :=
  match lk L i with
  | some r => some r
  | none => lk B i
def keep {α : Type _} (F : List Nat) (l : List (Nat × α)) : List (Nat × α) := l.filter fun x => F.contains x.1
def ev (env : List (Nat × TV)) : Operand → Option TV
  | .tmp t => lk env t
  | .const (.int k n) => some (.s (.one (.i k n)))
  | .const (.bool x) => some (.s (.one (.b x)))
  | .const (.string x) => some (.s (.one (.s x)))
  | .const (.pointer none) => some (.s (.one .pn))
  | .const (.slice none 0 0) => some (.s (.one (.sl 0 none 0 0)))
  | .const (.map none) => some (.s (.one .mn))
  | .const .nilFunc => some (.s (.one .fnn))
  | .const .nilIface => some (.s (.one .ifn))
  | .const _ => none
  | .global g => some (.s (.one (.ptr 0 ⟨g, 0, none⟩)))
  | .func f => some (.s (.one (.fn f [] [])))
structure Tm (env : List (Nat × TV)) (n : Nat) (a : Act) : Prop where
  tm : ∀ t v, lk env t = some v → a.tmps[t]? = some v.den
  sz : a.tmps.size = n
def Facts (B L : List (Nat × Res)) (w : World) : Prop := ∀ i r, lk2 B L i = some r → r.holds w
structure Sy (env : List (Nat × TV)) (D : List Deferred) (n : Nat) (w0 : World) (M : Nat → Prop) (B L : List (Nat × Res)) (a : Act) (w : World) : Prop where
  tm : Tm env n a
  df : a.defers = D
  st : St w0 w M (live L)
  bo : ∀ i r, lk B i = some r → r.holds w ∧ ∀ b, r.fp b → b < w0.heap.size ∧ ¬ M b
theorem ev_sound {env : List (Nat × TV)} {n : Nat} {a : Act} (h : Tm env n a) {x : Operand} {v : TV} (hx : ev env x = some v) : a.eval x = v.den := by
  cases x with
  | tmp t =>
    have := h.tm t v hx
    show a.tmps.getD t undef = v.den
    simp [Array.getD_eq_getD_getElem?, this]
  | const u =>
    cases u with
    | pointer p => cases p <;> (unfold ev at hx; first | (injection hx with hx; subst hx; rfl) | cases hx)
    | map p => cases p <;> (unfold ev at hx; first | (injection hx with hx; subst hx; rfl) | cases hx)
    | slice p i c =>
      cases p with
      | some p => unfold ev at hx; cases hx
      | none =>
        cases i with
        | succ i => unfold ev at hx; cases hx
        | zero => cases c with
          | zero => unfold ev at hx; injection hx with hx; subst hx; rfl
          | succ c => unfold ev at hx; cases hx
    | _ => unfold ev at hx; first | (injection hx with hx; subst hx; rfl) | cases hx
  | global g => unfold ev at hx; injection hx with hx; subst hx; rfl
  | func f => unfold ev at hx; injection hx with hx; subst hx; rfl
theorem Tm.put {env : List (Nat × TV)} {n : Nat} {a : Act} (h : Tm env n a) {d : Nat} {v : TV} (hd : Nat.blt d n = true) : Tm ((d, v) :: env) n (a.put (some d) v.den) := by
  have hd' : d < a.tmps.size := by rw [h.sz]; simpa [Nat.blt_eq] using hd
  refine ⟨fun t u ht => ?_, by simp [Act.put, h.sz]⟩
  rw [lk_cons] at ht
  show (a.tmps.setIfInBounds d v.den)[t]? = _
  by_cases e : d = t
  · rw [if_pos e] at ht
    injection ht with ht
    subst ht
    subst e
    exact Array.getElem?_setIfInBounds_self_of_lt hd'
  · rw [if_neg e] at ht
    rw [Array.getElem?_setIfInBounds_ne e]
    exact h.tm t u ht
theorem Tm.sub {env env' : List (Nat × TV)} {n : Nat} {a : Act} (h : Tm env n a) (hs : ∀ t v, lk env' t = some v → lk env t = some v) : Tm env' n a := ⟨fun t v ht => h.tm t v (hs t v ht), h.sz⟩
section
variable {env : List (Nat × TV)} {D : List Deferred} {n : Nat} {w0 w : World} {M : Nat → Prop} {B L : List (Nat × Res)} {a : Act}
theorem Sy.facts (h : Sy env D n w0 M B L a w) : Facts B L w := fun i r hr => by
  unfold lk2 at hr
  cases hl : lk L i with
  | some r' => rw [hl] at hr; injection hr with hr; subst hr; exact h.st.res _ (lk_live hl)
  | none => rw [hl] at hr; exact (h.bo i r hr).1
theorem Sy.put (h : Sy env D n w0 M B L a w) {d : Nat} {v : TV} (hd : Nat.blt d n = true) : Sy ((d, v) :: env) D n w0 M B L (a.put (some d) v.den) w := ⟨h.tm.put hd, h.df, h.st, h.bo⟩
theorem Sy.put0 (h : Sy env D n w0 M B L a w) (v : Value) : Sy env D n w0 M B L (a.put none v) w := h
theorem Sy.turned {L' : List (Nat × Res)} {w' : World} (h : Sy env D n w0 M B L a w) (hs : St w0 w' M (live L')) (hk : ∀ b, b < w0.heap.size → ¬ M b → w'.heap[b]? = w.heap[b]?) : Sy env D n w0 M B L' a w' :=
  ⟨h.tm, h.df, hs, fun i r hr => ⟨r.stable w w' (fun b hb => hk b ((h.bo i r hr).2 b hb).1 ((h.bo i r hr).2 b hb).2) (h.bo i r hr).1, (h.bo i r hr).2⟩⟩
theorem St.both {w1 w2 : World} {L1 L2 : List Res} (h1 : St w0 w1 M L1) (h2 : St w0 w2 M L2) : ∀ b, b < w0.heap.size → ¬ M b → w2.heap[b]? = w1.heap[b]? := fun b hb hm => (h2.keep b hb hm).trans (h1.keep b hb hm).symm
theorem Sy.to {L' : List (Nat × Res)} {w' : World} (h : Sy env D n w0 M B L a w) (hs : St w0 w' M (live L')) : Sy env D n w0 M B L' a w' := h.turned hs (h.st.both hs)
theorem live_new {L : List (Nat × Res)} {r : Res} {k : Nat} (h : St w0 w M (r :: live L)) : St w0 w M (live ((k, r) :: L)) := by
  rw [live_cons]
  cases hl : lk L k with
  | none => rw [del_same hl]; exact h
  | some q => exact (h.perm ((live_perm _ L (Nat.le_refl _) hl).cons r)).sub (List.Sublist.cons_cons _ (List.sublist_cons_self _ _))
theorem live_front {L : List (Nat × Res)} {r : Res} {k : Nat} (h : St w0 w M (live L)) (hl : lk L k = some r) : St w0 w M (r :: live (del k L)) := h.perm (live_perm _ L (Nat.le_refl _) hl)
end
def Ho (env : List (Nat × TV)) (D : List Deferred) (n : Nat) (w0 : World) (M : Nat → Prop) (B L : List (Nat × Res)) (K : Act → World → Prop) : Prop := ∀ a w, Sy env D n w0 M B L a w → K a w
def Reads (P : Program) (o : Oper) (env : List (Nat × TV)) (n : Nat) (B L : List (Nat × Res)) (v : TV) : Prop := ∀ (a : Act) (w : World), Tm env n a → Facts B L w → (execOp a.eval o).run P w = .ok (.value v.den) w
def guarded (ops : Array Oper) (env : List (Nat × TV)) (o : Oper) : Option Bool :=
  match o.guard with
  | none => some true
  | some (j, want) =>
    match ops[j]? with
    | some o' => match o'.dst with
      | some d => match lk env d with
        | some (.s (.one (.b x))) => some (bif x then want else !want)
        | some .un => some false
        | _ => none
      | none => none
    | none => none
theorem guarded_wanted {ops : Array Oper} {env : List (Nat × TV)} {o : Oper} {n : Nat} {a : Act} {t : Bool} (h : Tm env n a) (hg : guarded ops env o = some t) : Region.wanted o (yielded ops a.tmps) = t := by
  unfold guarded at hg
  unfold Region.wanted
  split at hg
  · rename_i e; rw [e]; injection hg
  · rename_i j want e
    rw [e]
    split at hg
    · rename_i o' e2
      split at hg
      · rename_i d e3
        split at hg
        · rename_i x e4
          have := h.tm d _ e4
          injection hg with hg
          subst hg
          simp only [yielded, e2, e3, Option.bind_some, this, TV.den, SV.den, PV.den]
          cases x <;> cases want <;> rfl
        · rename_i e4
          have := h.tm d _ e4
          injection hg with hg
          subst hg
          simp only [yielded, e2, e3, Option.bind_some, this, TV.den]
          cases want <;> rfl
        · cases hg
      · cases hg
    · cases hg
def guardSym (ops : Array Oper) (env : List (Nat × TV)) (o : Oper) : Option Bool :=
  match o.guard with
  | none => none
  | some (j, want) =>
    match ops[j]? with
    | some o' => match o'.dst with
      | some d => match lk env d with
        | some (.s (.one (.b x))) => some (bif want then x else !x)
        | some (.cond g (.one (.b x))) => some (g && (bif want then x else !x))
        | _ => none
      | none => none
    | none => none
theorem guardSym_wanted {ops : Array Oper} {env : List (Nat × TV)} {o : Oper} {n : Nat} {a : Act} {g : Bool} (h : Tm env n a) (hg : guardSym ops env o = some g) : Region.wanted o (yielded ops a.tmps) = g := by
  unfold guardSym at hg
  unfold Region.wanted
  split at hg
  · cases hg
  · rename_i j want e
    rw [e]
    split at hg
    · rename_i o' e2
      split at hg
      · rename_i d e3
        split at hg
        · rename_i x e4
          have := h.tm d _ e4
          injection hg with hg
          subst hg
          simp only [yielded, e2, e3, Option.bind_some, this, TV.den, SV.den, PV.den]
          cases x <;> cases want <;> rfl
        · rename_i g x e4
          have := h.tm d _ e4
          injection hg with hg
          subst hg
          simp only [yielded, e2, e3, Option.bind_some, this, TV.den, SV.den, PV.den]
          cases g <;> cases x <;> cases want <;> rfl
        · cases hg
      · cases hg
    · cases hg
def ResAll (env : List (Nat × TV)) (g : Bool) : List Nat → List (Nat × TV) → Prop
  | [], e => e = env
  | t :: ts, e => ∃ u r, (∃ v, lk env t = some (.cond g v) ∧ u = .s v ∨ ∃ x, lk env t = some (.cond (g && x) v) ∧ u = .cond x v) ∧ ResAll env g ts r ∧ e = (t, u) :: r
theorem ResAll.tm {env : List (Nat × TV)} {n : Nat} {a : Act} {g : Bool} (hg : g = true) (ht : Tm env n a) : ∀ {ts : List Nat} {e : List (Nat × TV)}, ResAll env g ts e → Tm e n a
  | [], e, h => by subst h; exact ht
  | t :: ts, e, ⟨u, r, h1, h2, h3⟩ => by
    subst h3
    have hr := ResAll.tm hg ht h2
    refine ⟨fun q u' hq => ?_, hr.sz⟩
    rw [lk_cons] at hq
    by_cases e : t = q
    · rw [if_pos e] at hq
      injection hq with hq
      subst hq
      obtain ⟨v, ⟨h1, rfl⟩ | ⟨x, h1, rfl⟩⟩ := h1
      · have := ht.tm t _ h1
        rw [← e, this]
        show some (if g = true then v.den else undef) = _
        rw [if_pos hg]
        rfl
      · have := ht.tm t _ h1
        rw [← e, this]
        show some (if (g && x) = true then v.den else undef) = some (if x = true then v.den else undef)
        rw [hg, Bool.true_and]
    · rw [if_neg e] at hq
      exact hr.tm q u' hq
section
variable {P : Program} {ops : Array Oper} {Q : Exit → Act → World → Prop} {o : Oper} {rest : List Oper}
variable {env : List (Nat × TV)} {D : List Deferred} {n : Nat} {w0 : World} {M : Nat → Prop} {B L : List (Nat × Res)}
theorem l_rdG {v : SV} {d : Nat} {g : Bool} (ts : List Nat) {env' : List (Nat × TV)} (hres : ResAll env g ts env') (hr : g = true → Reads P o env' n B L (.s v)) (h : Ho ((d, .cond g v) :: env) D n w0 M B L (wpList P ops Q rest)) (ho : o.dst = some d := by rfl) (hg : guardSym ops env o = some g := by rfl) (hd : Nat.blt d n = true := by rfl) : Ho env D n w0 M B L (wpList P ops Q (o :: rest)) := fun a w hs => by
  unfold wpList
  rw [guardSym_wanted hs.tm hg, ho]
  by_cases e : g = true
  · rw [if_pos e]
    refine .inl ?_
    unfold Oper.wp
    rw [hr e a w (hres.tm e hs.tm) hs.facts]
    show wpList P ops Q rest (a.put o.dst v.den) w
    rw [ho]
    have := hs.put (v := .cond g v) hd
    rw [show (TV.cond g v).den = v.den from if_pos e] at this
    exact h _ _ this
  · rw [if_neg e]
    have := hs.put (v := .cond g v) hd
    rw [show (TV.cond g v).den = undef from if_neg e] at this
    exact h _ _ this
theorem l_rd {v : TV} {d : Nat} (hr : Reads P o env n B L v) (h : Ho ((d, v) :: env) D n w0 M B L (wpList P ops Q rest)) (ho : o.dst = some d := by rfl) (hg : guarded ops env o = some true := by rfl) (hd : Nat.blt d n = true := by rfl) : Ho env D n w0 M B L (wpList P ops Q (o :: rest)) := fun a w hs => by
  unfold wpList
  rw [if_pos (guarded_wanted hs.tm hg)]
  refine .inl ?_
  unfold Oper.wp
  rw [hr a w hs.tm hs.facts]
  show wpList P ops Q rest (a.put o.dst v.den) w
  rw [ho]
  exact h _ _ (hs.put hd)
theorem l_nil (h : Ho env D n w0 M B L (Q .normal)) : Ho env D n w0 M B L (wpList P ops Q []) := h
end
end HL
end Go.Proofs.YtfopgaijfeeioaaGreat
/- SYMBOLIC STATES: types, parts of what lies flat, rows; the operations that only read. My own text; it names no program. -/


set_option linter.unusedVariables false
set_option linter.unusedSimpArgs false
set_option linter.unusedSectionVars false
namespace Go.Proofs.YtfopgaijfeeioaaGreat
namespace HL
open Go Go.RowKit
class TyA (P : Program) (T : TypeId) (agg : outParam Bool) (sz : outParam Nat) (z : outParam SV) (bytes : outParam Nat) : Prop where
  is : TyIs P T agg sz z.den bytes
  zs : ats z.ats = sz
  za : z.isAgg = agg
class UD (P : Program) (T : TypeId) (d : outParam TypeDesc) : Prop where
  is : P.underlying T = some d
class FA (P : Program) (T : TypeId) (k : Nat) (off : outParam Nat) : Prop where
  is : fieldFact P T k = some off
class FT (P : Program) (T : TypeId) (k : Nat) (ft : outParam TypeId) (off : outParam Nat) : Prop where
  is : fieldTy P T k = some (ft, off)
def takeSz : List At → Nat → Option (List At)
  | _, 0 => some []
  | [], _ + 1 => none
  | a :: as, n + 1 => bif Nat.ble a.sz (n + 1) then (match takeSz as (n + 1 - a.sz) with | some r => some (a :: r) | none => none) else none
def cutAt : List At → Nat → Nat → Option (List At)
  | as, 0, sz => takeSz as sz
  | [], _ + 1, _ => none
  | a :: as, off + 1, sz => bif Nat.ble a.sz (off + 1) then cutAt as (off + 1 - a.sz) sz else none
def mkSV (agg : Bool) (as : List At) : Option SV :=
  match agg, as with
  | true, as => some (.agg as)
  | false, [.one p] => some (.one p)
  | false, _ => none
theorem takeSz_spec : ∀ (as : List At) (n : Nat) {r : List At}, takeSz as n = some r → ∃ q, as = r ++ q ∧ ats r = n
  | as, 0, r, h => by
    have : r = [] := by cases as <;> (unfold takeSz at h; injection h with h; exact h.symm)
    subst this
    exact ⟨as, rfl, rfl⟩
  | [], n + 1, r, h => by unfold takeSz at h; cases h
  | a :: as, n + 1, r, h => by
    unfold takeSz at h
    cases hb : Nat.ble a.sz (n + 1) with
    | false => rw [hb] at h; cases h
    | true =>
      rw [hb] at h
      simp only [cond_true] at h
      cases ht : takeSz as (n + 1 - a.sz) with
      | none => rw [ht] at h; cases h
      | some r' =>
        rw [ht] at h
        injection h with h
        subst h
        obtain ⟨q, e1, e2⟩ := takeSz_spec as _ ht
        have := Nat.le_of_ble_eq_true hb
        refine ⟨q, by rw [e1]; rfl, ?_⟩
        show a.sz + ats r' = n + 1
        omega
theorem cutAt_spec : ∀ (as : List At) (off sz : Nat) {r : List At}, cutAt as off sz = some r → ∃ p q, as = p ++ r ++ q ∧ ats p = off ∧ ats r = sz
  | as, 0, sz, r, h => by
    have h' : takeSz as sz = some r := by cases as <;> (unfold cutAt at h; exact h)
    obtain ⟨q, e1, e2⟩ := takeSz_spec as sz h'
    exact ⟨[], q, by simpa using e1, rfl, e2⟩
  | [], off + 1, sz, r, h => by unfold cutAt at h; cases h
  | a :: as, off + 1, sz, r, h => by
    unfold cutAt at h
    cases hb : Nat.ble a.sz (off + 1) with
    | false => rw [hb] at h; cases h
    | true =>
      rw [hb] at h
      simp only [cond_true] at h
      obtain ⟨p, q, e1, e2, e3⟩ := cutAt_spec as _ sz h
      have := Nat.le_of_ble_eq_true hb
      refine ⟨a :: p, q, by rw [e1]; rfl, ?_, e3⟩
      show a.sz + ats p = off + 1
      omega
theorem mkSV_spec {agg : Bool} {as : List At} {v : SV} (h : mkSV agg as = some v) : v.ats = as ∧ v.isAgg = agg := by
  unfold mkSV at h
  split at h
  · injection h with h; subst h; exact ⟨rfl, rfl⟩
  · injection h with h; subst h; exact ⟨rfl, rfl⟩
  · cases h
theorem CellsAt.cut {w : World} {ad : Addr} {as r : List At} {off sz : Nat} (h : CellsAt w ad (flat (vals as))) (hc : cutAt as off sz = some r) : CellsAt w (ad.add off) (flat (vals r)) := by
  obtain ⟨p, q, e1, e2, e3⟩ := cutAt_spec as off sz hc
  rw [e1, vals_append, vals_append, flat_append, flat_append] at h
  exact (h.left).right (by rw [length_flat, szs_vals]; exact e2)
theorem fits_sv {P : Program} {T : TypeId} {agg : Bool} {sz bytes : Nat} {z : SV} [h : TyA P T agg sz z bytes] {v : SV} (ha : v.isAgg = agg) (hs : ats v.ats = sz) : Fits P T v.den := fits_of h.is (by rw [v.isAgg_den, ha]) (by rw [v.sz_den, hs])
def Res.va (g : Nat) (e : TypeId) (as : List At) : Res := Res.var g e (vals as)
theorem va_cells {g : Nat} {e : TypeId} {as : List At} {w : World} (h : (Res.va g e as).holds w) : CellsAt w ⟨g, 0, none⟩ (flat (vals as)) := var_cells h
structure En (α : Type) where
  f : α → SV
  agg : Bool
  sz : Nat
  ok : ∀ x, (f x).isAgg = agg ∧ ats (f x).ats = sz
  pos : 0 < sz
def En.dens {α : Type} (E : En α) (l : List α) : List Value := l.map fun x => (E.f x).den
theorem En.sizes {α : Type} (E : En α) (l : List α) : ∀ v ∈ E.dens l, v.cells.size = E.sz := fun v hv => by
  obtain ⟨x, _, rfl⟩ := List.mem_map.1 hv
  rw [SV.sz_den]
  exact (E.ok x).2
theorem En.get {α : Type} (E : En α) {l : List α} {j : Nat} {x : α} (h : l[j]? = some x) : (E.dens l)[j]? = some (E.f x).den := by
  unfold En.dens
  rw [List.getElem?_map, h]
  rfl
def Res.rows {α : Type} (A : Option Addr) (c : Nat) (e : TypeId) (E : En α) (l : List α) : Res := Res.row A l.length c e E.sz (flat (E.dens l))
def Res.rd {α : Type} (A : Option Addr) (E : En α) (l : List α) : Res := Res.fact (fun w => RdS w A (flat (E.dens l))) (fun b => l ≠ [] ∧ obl A = some b)
  (fun w h b hb => by
    rcases h with h | ⟨ad, rfl, h⟩
    · exfalso
      obtain ⟨x, hx⟩ := List.exists_mem_of_ne_nil l hb.1
      have h1 := List.flatMap_eq_nil_iff.1 (show (E.dens l).flatMap (fun v => v.cells.toList) = [] by unfold flat at h; exact h) (E.f x).den (List.mem_map.2 ⟨x, hx, rfl⟩)
      have h2 := (E.f x).sz_den
      rw [(E.ok x).2, ← Array.length_toList, h1] at h2
      have := E.pos
      simp at h2
      omega
    · have e1 : ad.block = b := by simpa [obl] using hb.2
      rw [← e1]
      refine h.lt fun h1 => ?_
      obtain ⟨x, hx⟩ := List.exists_mem_of_ne_nil l hb.1
      have h1' := List.flatMap_eq_nil_iff.1 (show (E.dens l).flatMap (fun v => v.cells.toList) = [] by unfold flat at h1; exact h1) (E.f x).den (List.mem_map.2 ⟨x, hx, rfl⟩)
      have h2 := (E.f x).sz_den
      rw [(E.ok x).2, ← Array.length_toList, h1'] at h2
      have := E.pos
      simp at h2
      omega)
  (fun w w' hb h => by
    by_cases hl : l = []
    · subst hl
      left
      unfold En.dens flat
      rfl
    · refine h.of_heap fun ad hA _ => hb _ ⟨hl, by rw [hA]; rfl⟩)
theorem rows_reads {α : Type} {A : Option Addr} {c : Nat} {e : TypeId} {E : En α} {l : List α} {w : World} (h : (Res.rows A c e E l).holds w) : RdS w A (flat (E.dens l)) := row_reads h
theorem rd_reads {α : Type} {A : Option Addr} {E : En α} {l : List α} {w : World} (h : (Res.rd A E l).holds w) : RdS w A (flat (E.dens l)) := by
  unfold Res.rd Res.fact at h
  exact h
theorem flat_pos {α : Type} {E : En α} {l : List α} (hl : 0 < l.length) : flat (E.dens l) ≠ [] := fun h => by
  obtain ⟨x, hx⟩ := List.exists_mem_of_ne_nil l (List.length_pos_iff.1 hl)
  have h1' := List.flatMap_eq_nil_iff.1 (show (E.dens l).flatMap (fun v => v.cells.toList) = [] by unfold flat at h; exact h) (E.f x).den (List.mem_map.2 ⟨x, hx, rfl⟩)
  have h2 := (E.f x).sz_den
  rw [(E.ok x).2, ← Array.length_toList, h1'] at h2
  have := E.pos
  simp at h2
  omega
theorem rds_some {α : Type} {A : Option Addr} {E : En α} {l : List α} {w : World} (h : RdS w A (flat (E.dens l))) (hl : 0 < l.length) : ∃ ad, A = some ad ∧ CellsAt w ad (flat (E.dens l)) := by
  rcases h with h | h
  · exact absurd h (flat_pos hl)
  · exact h
theorem rds_elem {α : Type} {ad : Addr} {E : En α} {l : List α} {w : World} (h : CellsAt w ad (flat (E.dens l))) {j : Nat} {x : α} (hx : l[j]? = some x) : CellsAt w (ad.add (j * E.sz)) (flat (vals (E.f x).ats)) := by
  rw [← SV.cells_den]
  exact h.elem (E.sizes l) (E.get hx)
section
variable {P : Program} {env : List (Nat × TV)} {n : Nat} {B L : List (Nat × Res)}
variable {dst : Option Tmp} {ty : TypeId} {pos : String} {af : Array Edge} {gd : Option (Nat × Bool)} {x y z : Operand} {T T' : TypeId}
theorem run_int {o : BinOp} {k : IntKind} {p q r : Int} (w : World) (h : (binOp o T (.int k p) (.int k q)).run P w = .ok (.int k r) w) (hne : o ≠ .eql ∧ o ≠ .neq) : (do eqGuard o T x y (.int k p) (.int k q); binOp o T (.int k p) (.int k q) : Sem Value).run P w = .ok (.int k r) w := by
  have : eqGuard o T x y (.int k p) (.int k q) = pure () := by
    unfold eqGuard
    cases o <;> simp_all
  rw [this]
  simpa [Sem.run_bind] using h
theorem r_arith {o : BinOp} {k : IntKind} {p q r : Int} (hne : o ≠ .eql ∧ o ≠ .neq) (hx : ev env x = some (vi k p)) (hy : ev env y = some (vi k q)) (h : ∀ w, (binOp o T (.int k p) (.int k q)).run P w = .ok (.int k r) w) : Reads P ⟨dst, .binOp o T x y T', ty, pos, af, gd⟩ env n B L (vi k r) := fun a w ht _ => by
  unfold execOp
  have h1 : a.eval x = .int k p := ev_sound ht hx
  have h2 : a.eval y = .int k q := ev_sound ht hy
  simp only [h1, h2]
  rw [Sem.run_bind, run_int w (h w) hne]
  rfl
theorem r_addW {k : IntKind} {p q : Int} (hx : ev env x = some (vi k p) := by rfl) (hy : ev env y = some (vi k q) := by rfl) : Reads P ⟨dst, .binOp .add T x y T', ty, pos, af, gd⟩ env n B L (vi k (k.wrap (p + q))) :=
  r_arith (by simp) hx hy fun w => by simp [binOp, Op.intArith]
theorem r_subW {k : IntKind} {p q : Int} (hx : ev env x = some (vi k p) := by rfl) (hy : ev env y = some (vi k q) := by rfl) : Reads P ⟨dst, .binOp .sub T x y T', ty, pos, af, gd⟩ env n B L (vi k (k.wrap (p - q))) :=
  r_arith (by simp) hx hy fun w => by simp [binOp, Op.intArith]
theorem r_mulW {k : IntKind} {p q : Int} (hx : ev env x = some (vi k p) := by rfl) (hy : ev env y = some (vi k q) := by rfl) : Reads P ⟨dst, .binOp .mul T x y T', ty, pos, af, gd⟩ env n B L (vi k (k.wrap (p * q))) :=
  r_arith (by simp) hx hy fun w => by simp [binOp, Op.intArith]
theorem wrap_id64 {p : Int} (h : -9223372036854775808 ≤ p ∧ p ≤ 9223372036854775807) : IntKind.i64.wrap p = p := by rw [IntKind.wrap_i64]; omega
theorem r_add {p q : Int} (hx : ev env x = some (vint p) := by rfl) (hy : ev env y = some (vint q) := by rfl) (h : -9223372036854775808 ≤ p + q ∧ p + q ≤ 9223372036854775807 := by omega) : Reads P ⟨dst, .binOp .add T x y T', ty, pos, af, gd⟩ env n B L (vint (p + q)) := by
  have := r_addW (P := P) (T := T) (T' := T') (dst := dst) (ty := ty) (pos := pos) (af := af) (gd := gd) (n := n) (B := B) (L := L) hx hy
  rwa [wrap_id64 h] at this
theorem r_sub {p q : Int} (hx : ev env x = some (vint p) := by rfl) (hy : ev env y = some (vint q) := by rfl) (h : -9223372036854775808 ≤ p - q ∧ p - q ≤ 9223372036854775807 := by omega) : Reads P ⟨dst, .binOp .sub T x y T', ty, pos, af, gd⟩ env n B L (vint (p - q)) := by
  have := r_subW (P := P) (T := T) (T' := T') (dst := dst) (ty := ty) (pos := pos) (af := af) (gd := gd) (n := n) (B := B) (L := L) hx hy
  rwa [wrap_id64 h] at this
theorem r_mul {p q : Int} (hx : ev env x = some (vint p) := by rfl) (hy : ev env y = some (vint q) := by rfl) (h : -9223372036854775808 ≤ p * q ∧ p * q ≤ 9223372036854775807 := by omega) : Reads P ⟨dst, .binOp .mul T x y T', ty, pos, af, gd⟩ env n B L (vint (p * q)) := by
  have := r_mulW (P := P) (T := T) (T' := T') (dst := dst) (ty := ty) (pos := pos) (af := af) (gd := gd) (n := n) (B := B) (L := L) hx hy
  rwa [wrap_id64 h] at this
theorem r_quoT {k : IntKind} {p q : Int} (hx : ev env x = some (vi k p) := by rfl) (hy : ev env y = some (vi k q) := by rfl) (h : q ≠ 0 := by omega) : Reads P ⟨dst, .binOp .quo T x y T', ty, pos, af, gd⟩ env n B L (vi k (k.wrap (p.tdiv q))) :=
  r_arith (by simp) hx hy fun w => by simp [binOp, Op.intDiv, h]
theorem r_remT {k : IntKind} {p q : Int} (hx : ev env x = some (vi k p) := by rfl) (hy : ev env y = some (vi k q) := by rfl) (h : q ≠ 0 := by omega) : Reads P ⟨dst, .binOp .rem T x y T', ty, pos, af, gd⟩ env n B L (vi k (p.tmod q)) :=
  r_arith (by simp) hx hy fun w => by simp [binOp, Op.intDiv, h]
theorem r_quo {p q : Int} (hx : ev env x = some (vint p) := by rfl) (hy : ev env y = some (vint q) := by rfl) (h : 0 < q ∧ 0 ≤ p ∧ p ≤ 9223372036854775807 := by omega) : Reads P ⟨dst, .binOp .quo T x y T', ty, pos, af, gd⟩ env n B L (vint (p / q)) := by
  have := r_quoT (P := P) (T := T) (T' := T') (dst := dst) (ty := ty) (pos := pos) (af := af) (gd := gd) (n := n) (B := B) (L := L) hx hy (by omega)
  rwa [Int.tdiv_eq_ediv_of_nonneg h.2.1, wrap_id64 ⟨by have := Int.ediv_nonneg h.2.1 (Int.le_of_lt h.1); omega, by have := Int.ediv_le_self q h.2.1; omega⟩] at this
theorem r_rem {k : IntKind} {p q : Int} (hx : ev env x = some (vi k p) := by rfl) (hy : ev env y = some (vi k q) := by rfl) (h : 0 < q ∧ 0 ≤ p := by omega) : Reads P ⟨dst, .binOp .rem T x y T', ty, pos, af, gd⟩ env n B L (vi k (p % q)) := by
  have := r_remT (P := P) (T := T) (T' := T') (dst := dst) (ty := ty) (pos := pos) (af := af) (gd := gd) (n := n) (B := B) (L := L) hx hy (by omega)
  rwa [Int.tmod_eq_emod_of_nonneg h.2] at this
theorem r_neg {k : IntKind} {p : Int} (hx : ev env x = some (vi k p) := by rfl) : Reads P ⟨dst, .unOp .neg T x, ty, pos, af, gd⟩ env n B L (vi k (k.wrap (0 - p))) := fun a w ht _ => by
  unfold execOp
  have h1 : a.eval x = .int k p := ev_sound ht hx
  simp [h1, Op.unary, Op.intArith, TV.den, SV.den, PV.den, Sem.run_bind]
theorem r_not {p : Bool} (hx : ev env x = some (vb p) := by rfl) : Reads P ⟨dst, .unOp .not T x, ty, pos, af, gd⟩ env n B L (vb (!p)) := fun a w ht _ => by
  unfold execOp
  have h1 : a.eval x = .bool p := ev_sound ht hx
  simp [h1, Op.unary, TV.den, SV.den, PV.den, Sem.run_bind]
theorem run_cmp {o : BinOp} {k : IntKind} {p q : Int} {r : Bool} (w : World) (h : (binOp o T (.int k p) (.int k q)).run P w = .ok (.bool r) w) : (do eqGuard o T x y (.int k p) (.int k q); binOp o T (.int k p) (.int k q) : Sem Value).run P w = .ok (.bool r) w := by
  have : (eqGuard o T x y (.int k p) (.int k q)).run P w = .ok () w := by
    unfold eqGuard
    cases o <;> simp
  rw [Sem.run_bind, this]
  exact h
theorem r_cmp {o : BinOp} {k : IntKind} {p q : Int} {r : Bool} (hx : ev env x = some (vi k p)) (hy : ev env y = some (vi k q)) (h : ∀ w, (binOp o T (.int k p) (.int k q)).run P w = .ok (.bool r) w) : Reads P ⟨dst, .binOp o T x y T', ty, pos, af, gd⟩ env n B L (vb r) := fun a w ht _ => by
  unfold execOp
  have h1 : a.eval x = .int k p := ev_sound ht hx
  have h2 : a.eval y = .int k q := ev_sound ht hy
  simp only [h1, h2]
  rw [Sem.run_bind, run_cmp w (h w)]
  rfl
theorem r_lss {k : IntKind} {p q : Int} (hx : ev env x = some (vi k p) := by rfl) (hy : ev env y = some (vi k q) := by rfl) : Reads P ⟨dst, .binOp .lss T x y T', ty, pos, af, gd⟩ env n B L (vb (decide (p < q))) := r_cmp hx hy fun w => by simp [binOp, Op.intCmp]
theorem r_leq {k : IntKind} {p q : Int} (hx : ev env x = some (vi k p) := by rfl) (hy : ev env y = some (vi k q) := by rfl) : Reads P ⟨dst, .binOp .leq T x y T', ty, pos, af, gd⟩ env n B L (vb (decide (p ≤ q))) := r_cmp hx hy fun w => by simp [binOp, Op.intCmp]
theorem r_gtr {k : IntKind} {p q : Int} (hx : ev env x = some (vi k p) := by rfl) (hy : ev env y = some (vi k q) := by rfl) : Reads P ⟨dst, .binOp .gtr T x y T', ty, pos, af, gd⟩ env n B L (vb (decide (q < p))) := r_cmp hx hy fun w => by simp [binOp, Op.intCmp]
theorem r_geq {k : IntKind} {p q : Int} (hx : ev env x = some (vi k p) := by rfl) (hy : ev env y = some (vi k q) := by rfl) : Reads P ⟨dst, .binOp .geq T x y T', ty, pos, af, gd⟩ env n B L (vb (decide (q ≤ p))) := r_cmp hx hy fun w => by simp [binOp, Op.intCmp]
theorem r_eql {k : IntKind} {p q : Int} (hx : ev env x = some (vi k p) := by rfl) (hy : ev env y = some (vi k q) := by rfl) : Reads P ⟨dst, .binOp .eql T x y T', ty, pos, af, gd⟩ env n B L (vb (decide (p = q))) := r_cmp hx hy fun w => by simp [binOp, Op.intCmp]; rfl
theorem r_neq {k : IntKind} {p q : Int} (hx : ev env x = some (vi k p) := by rfl) (hy : ev env y = some (vi k q) := by rfl) : Reads P ⟨dst, .binOp .neq T x y T', ty, pos, af, gd⟩ env n B L (vb (!decide (p = q))) := r_cmp hx hy fun w => by simp [binOp, Op.intCmp, bne]; rfl
theorem r_convW {k k' : IntKind} {p : Int} [hd : UD P T' (.int k)] (hx : ev env x = some (vi k' p) := by rfl) (hs : (P.underlying T).isSome = true := by kernel_rfl) : Reads P ⟨dst, .convert T T' x, ty, pos, af, gd⟩ env n B L (vi k (k.wrap p)) := fun a w ht _ => by
  unfold execOp
  have h1 : a.eval x = .int k' p := ev_sound ht hx
  obtain ⟨d, hd'⟩ := Option.isSome_iff_exists.1 hs
  simp [h1, convert, run_underlying hd', run_underlying hd.is, Conv.intToInt, TV.den, SV.den, PV.den, Sem.run_bind]
theorem eqGuard_str (o : BinOp) (p q : ByteArray) (w : World) : (eqGuard o T x y (.string p) (.string q)).run P w = .ok () w := by
  unfold eqGuard
  cases o <;> simp
theorem r_strOp {o : BinOp} {p q : ByteArray} {r : Bool} (hx : ev env x = some (vs p)) (hy : ev env y = some (vs q)) (h : ∀ w, (binOp o T (.string p) (.string q)).run P w = .ok (.bool r) w) : Reads P ⟨dst, .binOp o T x y T', ty, pos, af, gd⟩ env n B L (vb r) := fun a w ht _ => by
  unfold execOp
  have h1 : a.eval x = .string p := ev_sound ht hx
  have h2 : a.eval y = .string q := ev_sound ht hy
  simp only [h1, h2]
  rw [Sem.run_bind, Sem.run_bind, eqGuard_str, Result.andThen_ok, h w]
  rfl
theorem toList_data (x : ByteArray) : x.toList = x.data.toList := by
  have := toList_ba x.data.toList
  rw [ba_of] at this
  exact this
theorem toList_inj {x y : ByteArray} : x.toList = y.toList ↔ x = y := by
  rw [toList_data, toList_data]
  exact ⟨fun h => ByteArray.ext (Array.toList_inj.1 h), fun h => by rw [h]⟩
theorem beq_toList (p q : ByteArray) : (p.toList == q.toList) = decide (p = q) := by
  by_cases h : p = q
  · subst h; simp
  · rw [decide_eq_false h]
    simp only [beq_eq_false_iff_ne, ne_eq]
    exact fun e => h (toList_inj.1 e)
theorem r_eqlS {p q : ByteArray} (hx : ev env x = some (vs p) := by rfl) (hy : ev env y = some (vs q) := by rfl) : Reads P ⟨dst, .binOp .eql T x y T', ty, pos, af, gd⟩ env n B L (vb (decide (p = q))) := r_strOp hx hy fun w => by simp [binOp, Op.stringOp, beq_toList]
theorem r_neqS {p q : ByteArray} (hx : ev env x = some (vs p) := by rfl) (hy : ev env y = some (vs q) := by rfl) : Reads P ⟨dst, .binOp .neq T x y T', ty, pos, af, gd⟩ env n B L (vb (!decide (p = q))) := r_strOp hx hy fun w => by simp [binOp, Op.stringOp, beq_toList]
def bltS (x y : ByteArray) : Prop := bcmp x.data.toList y.data.toList < 0
instance (x y : ByteArray) : Decidable (bltS x y) := inferInstanceAs (Decidable (_ < _))
theorem r_lssS {p q : ByteArray} (hx : ev env x = some (vs p) := by rfl) (hy : ev env y = some (vs q) := by rfl) : Reads P ⟨dst, .binOp .lss T x y T', ty, pos, af, gd⟩ env n B L (vb (decide (bltS p q))) := r_strOp hx hy fun w => by simp only [binOp, Op.stringOp, toList_data, bytesLess_bcmp]; rfl
theorem r_lenS {p : ByteArray} [hT : UD P T .string] (hx : ev env x = some (vs p) := by rfl) : Reads P ⟨dst, .call { callee := .builtin .len, args := #[x], argTypes := #[T] }, ty, pos, af, gd⟩ env n B L (vint p.size) := fun a w ht _ => by
  unfold execOp
  have h1 : a.eval x = .string p := ev_sound ht hx
  simp [resolve, invoke, builtin, Builtin.len_, h1, run_underlying hT.is, goInt, TV.den, SV.den, PV.den, Sem.run_bind]
theorem r_len {e : TypeId} {i m c : Nat} {A : Option Addr} [hT : UD P T (.slice e)] (hx : ev env x = some (vsl i A m c) := by rfl) : Reads P ⟨dst, .call { callee := .builtin .len, args := #[x], argTypes := #[T] }, ty, pos, af, gd⟩ env n B L (vint m) := fun a w ht _ => by
  unfold execOp
  have h1 : a.eval x = .slice A m c := ev_sound ht hx
  simp [resolve, invoke, builtin, Builtin.len_, h1, run_underlying hT.is, goInt, TV.den, SV.den, PV.den, Sem.run_bind]
theorem r_load {i g off : Nat} {e : TypeId} {as r : List At} {v : SV} {agg : Bool} {sz bytes : Nat} {z : SV} [hT : TyA P T agg sz z bytes] (hx : ev env x = some (vp i ⟨g, off, none⟩) := by rfl) (hr : lk2 B L i = some (Res.va g e as) := by rfl) (hc : cutAt as off sz = some r := by rfl) (hv : mkSV agg r = some v := by rfl) : Reads P ⟨dst, .load T x, ty, pos, af, gd⟩ env n B L (.s v) := fun a w ht hf => by
  obtain ⟨h2, h3⟩ := mkSV_spec hv
  obtain ⟨_, _, _, _, h4⟩ := cutAt_spec as off sz hc
  have hcells : CellsAt w ⟨g, off, none⟩ v.den.cells.toList := by
    have := (va_cells (hf i _ hr)).cut hc
    rw [add_lit0, Nat.zero_add] at this
    rw [SV.cells_den, h2]
    exact this
  unfold execOp
  have h1 : a.eval x = .pointer (some ⟨g, off, none⟩) := ev_sound ht hx
  simp [h1, Instr.loadAt, Instr.sureAddr, Sem.run_bind, run_loadVar (fits_sv (P := P) (T := T) h3 (by rw [h2]; exact h4)) hcells]
  rfl
theorem load_el {α : Type} {i j off : Nat} {ad : Addr} {E : En α} {l : List α} {y : α} {r : List At} {v : SV} {agg : Bool} {sz bytes : Nat} {z : SV} [hT : TyA P T agg sz z bytes] (hx : ev env x = some (.s (.one (.el i ad E.sz j off)))) (hr : ∀ w, Facts B L w → RdS w (some ad) (flat (E.dens l))) (hj : l[j]? = some y) (hc : cutAt (E.f y).ats off sz = some r) (hv : mkSV agg r = some v) : Reads P ⟨dst, .load T x, ty, pos, af, gd⟩ env n B L (.s v) := fun a w ht hf => by
  obtain ⟨h2, h3⟩ := mkSV_spec hv
  obtain ⟨_, _, _, _, h4⟩ := cutAt_spec _ off sz hc
  have hl : j < l.length := (List.getElem?_eq_some_iff.1 hj).1
  obtain ⟨ad', e, hcs⟩ := rds_some (hr w hf) (by omega)
  injection e with e
  subst e
  have hcells : CellsAt w ((ad.add (j * E.sz)).add off) v.den.cells.toList := by
    rw [SV.cells_den, h2]
    exact (rds_elem hcs hj).cut hc
  unfold execOp
  have h1 : a.eval x = .pointer (some ((ad.add (j * E.sz)).add off)) := ev_sound ht hx
  simp [h1, Instr.loadAt, Instr.sureAddr, Sem.run_bind, run_loadVar (fits_sv (P := P) (T := T) h3 (by rw [h2]; exact h4)) hcells]
  rfl
structure RowOf {α : Type} (r : Res) (A : Option Addr) (E : En α) (l : List α) : Prop where
  is : ∀ w, r.holds w → RdS w A (flat (E.dens l))
theorem rowOf_rows {α : Type} {A : Option Addr} {c : Nat} {e : TypeId} {E : En α} {l : List α} : RowOf (Res.rows A c e E l) A E l := ⟨fun _ h => rows_reads h⟩
theorem rowOf_rd {α : Type} {A : Option Addr} {E : En α} {l : List α} : RowOf (Res.rd A E l) A E l := ⟨fun _ h => rd_reads h⟩
structure View (R r : Res) : Prop where
  h : ∀ w, R.holds w → r.holds w
  f : ∀ b, r.fp b → R.fp b
theorem View.refl (R : Res) : View R R := ⟨fun _ h => h, fun _ h => h⟩
theorem View.row {α : Type} {R : Res} {A : Option Addr} {E : En α} {l : List α} (h : View R (Res.rd A E l)) : RowOf R A E l := ⟨fun w hw => rd_reads (h.h w hw)⟩
theorem rowOf_tail {α : Type} {r : Res} {A : Option Addr} {E : En α} {l : List α} {c k : Nat} (h : RowOf r A E l) (hc : l.length ≤ c) (hk : k ≤ l.length) : RowOf r (tailA A c k E.sz) E (l.drop k) := ⟨fun w hw => by
  have := rds_tail (n := l.length) (c := c) E.pos (E.sizes l) (h.is w hw) (by unfold En.dens; rw [List.length_map]) hc hk
  unfold En.dens at this ⊢
  rwa [List.map_drop]⟩
theorem rowOf_take {α : Type} {r : Res} {A : Option Addr} {E : En α} {l : List α} {k : Nat} (h : RowOf r A E l) : RowOf r A E (l.take k) := ⟨fun w hw => by
  have := rds_take (i := k) (h.is w hw)
  unfold En.dens at this ⊢
  rwa [List.map_take]⟩
structure RowM {α : Type} (r : Res) (A : Option Addr) (m : Nat) (E : En α) (l : List α) : Prop where
  is : RowOf r A E l
  len : m = l.length
theorem rowM_take {α : Type} {r : Res} {A : Option Addr} {m : Nat} {E : En α} {l : List α} (h : RowOf r A E l) (hm : m ≤ l.length) : RowM r A m E (l.take m) := ⟨rowOf_take h, by rw [List.length_take, Nat.min_eq_left hm]⟩
structure RowEl {α : Type} (r : Res) (ad : Addr) (E : En α) (l : List α) (j : Nat) (y : α) : Prop where
  ex : ∃ A, RowOf r A E l ∧ A = some ad ∧ l[j]? = some y
theorem RowEl.mk' {α : Type} {r : Res} {ad : Addr} {E : En α} {l : List α} {j : Nat} {y : α} {A : Option Addr} (h1 : RowOf r A E l) (h2 : A = some ad) (h3 : l[j]? = some y) : RowEl r ad E l j y := ⟨A, h1, h2, h3⟩
theorem r_field {k off i g o' : Nat} [hf : FA P T k off] (hx : ev env x = some (vp i ⟨g, o', none⟩) := by rfl) : Reads P ⟨dst, .fieldAddr T x k, ty, pos, af, gd⟩ env n B L (vp i ⟨g, o' + off, none⟩) := fun a w ht _ => by
  unfold execOp
  have h1 : a.eval x = .pointer (some ⟨g, o', none⟩) := ev_sound ht hx
  simp only [h1]
  rw [Sem.run_bind, run_fieldAt hf.is g o' w]
  rfl
theorem r_fieldE {k off i j sz o' : Nat} {ad : Addr} [hf : FA P T k off] (hx : ev env x = some (.s (.one (.el i ad sz j o'))) := by rfl) : Reads P ⟨dst, .fieldAddr T x k, ty, pos, af, gd⟩ env n B L (.s (.one (.el i ad sz j (o' + off)))) := fun a w ht _ => by
  unfold execOp
  have h1 : a.eval x = .pointer (some ((ad.add (j * sz)).add o')) := ev_sound ht hx
  simp only [h1]
  rw [Sem.run_bind, run_fieldAt' hf.is _ w]
  show _ = Result.ok (Next.value (.pointer (some ((ad.add (j * sz)).add (o' + off))))) w
  rw [← add_of_add]
  rfl
theorem run_fieldP {k off j : Nat} {ft : TypeId} {vs : List Value} {v : Value} (hft : fieldTy P T k = some (ft, off)) (hf : Fits P ft v) (hv : vs[j]? = some v) (ho : szs (vs.take j) = off) (w : World) : (Instr.field T (mkS vs) k).run P w = .ok v w := by
  unfold fieldTy at hft
  split at hft
  · rename_i fs hu
    obtain ⟨f, hk, he⟩ := Option.map_eq_some_iff.1 hft
    simp only [Prod.mk.injEq] at he
    obtain ⟨rfl, rfl⟩ := he
    obtain ⟨agg, sz, z, bytes, ht, ha, hs⟩ := hf.ex
    obtain ⟨e1, _⟩ := flat_set (v := v) hv
    unfold Instr.field
    simp only [Sem.run_bind, run_underlying hu, Result.andThen_ok, hk, mkS, asAgg, Sem.run_pure]
    unfold part
    rw [Sem.run_bind, ht.isAgg w]
    simp only [Result.andThen_ok]
    have hlen : (flat (vs.take j)).length = f.offset := by rw [length_flat]; exact ho
    cases agg with
    | true =>
      obtain ⟨cs, rfl⟩ : ∃ cs, v = .agg cs := by cases v <;> simp_all [isAggV]
      simp only [if_true, Sem.run_bind, ht.size w, Result.andThen_ok, Sem.run_pure]
      congr 2
      apply Array.toList_inj.1
      simp only [Array.toList_extract, List.extract_eq_take_drop, Nat.add_sub_cancel_left]
      rw [e1, ← hlen, List.append_assoc, List.drop_left, ← hs, ← Array.length_toList, List.take_left]
      rfl
    | false =>
      have hc : v.cells = #[v] := by cases v <;> first | rfl | simp_all [isAggV]
      have : (flat vs).toArray[f.offset]? = some v := by
        rw [List.getElem?_toArray, e1, ← hlen, hc, List.append_assoc, List.getElem?_append_right (Nat.le_refl _), Nat.sub_self]
        rfl
      simp [this]
  · cases hft
theorem r_fieldV {k off : Nat} {ft : TypeId} {as r : List At} {v : SV} {agg : Bool} {sz bytes : Nat} {z : SV} [hf : FT P T k ft off] [hT : TyA P ft agg sz z bytes] (hx : ev env x = some (.s (.agg as)) := by rfl) (hc : cutAt as off sz = some r := by rfl) (hv : mkSV agg r = some v := by rfl) : Reads P ⟨dst, .field T x k, ty, pos, af, gd⟩ env n B L (.s v) := fun a w ht _ => by
  obtain ⟨h2, h3⟩ := mkSV_spec hv
  obtain ⟨p, q, e1, e2, h4⟩ := cutAt_spec as off sz hc
  unfold execOp
  have hfl : flat (vals as) = flat [mkS (vals p), v.den, mkS (vals q)] := by
    rw [flat_cons, flat_cons, flat_single, cells_mkS, cells_mkS, SV.cells_den, h2, e1, vals_append, vals_append, flat_append, flat_append]
    simp
  have h1 : a.eval x = mkS [mkS (vals p), v.den, mkS (vals q)] := by
    have : a.eval x = (SV.agg as).den := ev_sound ht hx
    rw [this, SV.den_agg]
    unfold mkS at hfl ⊢
    rw [hfl]
  simp only [h1]
  rw [Sem.run_bind, run_fieldP (j := 1) hf.is (fits_sv (P := P) (T := ft) h3 (by rw [h2]; exact h4)) (v := v.den) rfl (by simpa [szs, szs_vals] using e2) w]
  rfl
theorem r_index {e : TypeId} {i m c j sz bytes : Nat} {A : Option Addr} {ad : Addr} {k : IntKind} {p : Int} {agg : Bool} {z : SV} [hu : UD P T (.slice e)] [hT : TyA P e agg sz z bytes] (hA : A = some ad) (hx : ev env x = some (vsl i A m c)) (hy : ev env y = some (vi k p)) (hp : p = (j : Int)) (hj : j < m) : Reads P ⟨dst, .indexAddr T x y, ty, pos, af, gd⟩ env n B L (.s (.one (.el i ad sz j 0))) := fun a w ht _ => by
  subst hA
  unfold execOp
  have h1 : a.eval x = .slice (some ad) m c := ev_sound ht hx
  have h2 : a.eval y = .int k p := ev_sound ht hy
  have he : P.elem T = e := by simp [Program.elem, hu.is]
  have hu' : P.underlying T = some (.slice (P.elem T)) := by rw [he]; exact hu.is
  have := run_indexAt_slice (P := P) w T ad m c k p hu'
  rw [if_pos ⟨by omega, by omega⟩, he, hT.is.size w] at this
  simp only [h1, h2]
  rw [Sem.run_bind, this]
  show _ = Result.ok (Next.value (.pointer (some ((ad.add (j * sz)).add 0)))) w
  rw [add_zero, hp]
  rfl
end
end HL
end Go.Proofs.YtfopgaijfeeioaaGreat
/- SYMBOLIC STATES: the operations that turn memory; code, loops, calls. My own text; it names no program. -/

set_option linter.unusedVariables false
set_option linter.unusedSimpArgs false
set_option linter.unusedSectionVars false
namespace Go.Proofs.YtfopgaijfeeioaaGreat
namespace HL
open Go Go.RowKit
abbrev Env := List (Nat × TV)
abbrev Hp := List (Nat × Res)
structure Does {γ : Type} (P : Program) (o : Oper) (env : Env) (D : List Deferred) (n : Nat) (w0 : World) (M : Nat → Prop) (B L : Hp) (env' : γ → Env) (L' : γ → Hp) (ids : List Nat) : Prop where
  go : ∀ a w K Q, Sy env D n w0 M B L a w → (∀ x a' w', Sy (env' x) D n w0 M B (L' x) a' w' → K a' w') → o.wp P a w K Q
  kp : ∀ x i, ids.contains i = false → lk (L' x) i = lk L i
theorem kp_one {γ : Type} {k : Nat} {L : Hp} {r : γ → Res} : ∀ (x : γ) (i : Nat), [k].contains i = false → lk ((k, r x) :: L) i = lk L i := fun x i h => by
  rw [lk_cons, if_neg]
  rintro rfl
  simp at h
section
variable {P : Program} {ops : Array Oper} {Q : Exit → Act → World → Prop} {o : Oper} {rest : List Oper}
variable {env : Env} {D : List Deferred} {n : Nat} {w0 : World} {M : Nat → Prop} {B L : Hp}
theorem l_do {γ : Type} {env' : γ → Env} {L' : γ → Hp} {ids : List Nat} (hr : Does P o env D n w0 M B L env' L' ids) (h : ∀ x, Ho (env' x) D n w0 M B (L' x) (wpList P ops Q rest)) (hg : guarded ops env o = some true := by rfl) : Ho env D n w0 M B L (wpList P ops Q (o :: rest)) := fun a w hs => by
  unfold wpList
  rw [if_pos (guarded_wanted hs.tm hg)]
  exact .inl (hr.go a w _ _ hs fun x a' w' hs' => h x a' w' hs')
theorem l_do1 {env' : Unit → Env} {L' : Unit → Hp} {ids : List Nat} (hr : Does P o env D n w0 M B L env' L' ids) (h : Ho (env' ()) D n w0 M B (L' ()) (wpList P ops Q rest)) (hg : guarded ops env o = some true := by rfl) : Ho env D n w0 M B L (wpList P ops Q (o :: rest)) := l_do hr (fun _ => h) hg
end
def appF : List At → List At → Option (List At)
  | [], q => some q
  | a :: r, q => match appF r q with
    | some t => some (a :: t)
    | none => none
def dropSz : List At → Nat → Option (List At)
  | as, 0 => some as
  | [], _ + 1 => none
  | a :: as, n + 1 => bif Nat.ble a.sz (n + 1) then dropSz as (n + 1 - a.sz) else none
def putAt : List At → Nat → List At → Option (List At)
  | as, 0, r => match dropSz as (ats r) with
    | some q => appF r q
    | none => none
  | [], _ + 1, _ => none
  | a :: as, off + 1, r => bif Nat.ble a.sz (off + 1) then (match putAt as (off + 1 - a.sz) r with | some q => some (a :: q) | none => none) else none
theorem appF_eq : ∀ (r q : List At), appF r q = some (r ++ q)
  | [], q => rfl
  | a :: r, q => by unfold appF; rw [appF_eq r q]; rfl
theorem dropSz_spec : ∀ (as : List At) (n : Nat) {q : List At}, dropSz as n = some q → ∃ p, as = p ++ q ∧ ats p = n
  | as, 0, q, h => by
    have : as = q := by cases as <;> (unfold dropSz at h; injection h)
    exact ⟨[], by simpa using this, rfl⟩
  | [], n + 1, q, h => by unfold dropSz at h; cases h
  | a :: as, n + 1, q, h => by
    unfold dropSz at h
    cases hb : Nat.ble a.sz (n + 1) with
    | false => rw [hb] at h; cases h
    | true =>
      rw [hb] at h
      simp only [cond_true] at h
      obtain ⟨p, e1, e2⟩ := dropSz_spec as _ h
      have := Nat.le_of_ble_eq_true hb
      refine ⟨a :: p, by rw [e1]; rfl, ?_⟩
      show a.sz + ats p = n + 1
      omega
theorem putAt_spec : ∀ (as : List At) (off : Nat) (r : List At) {as' : List At}, putAt as off r = some as' → ∃ p u q, as = p ++ u ++ q ∧ as' = p ++ r ++ q ∧ ats p = off ∧ ats u = ats r
  | as, 0, r, as', h => by
    have h' : (match dropSz as (ats r) with | some q => appF r q | none => none) = some as' := by cases as <;> (unfold putAt at h; exact h)
    cases hd : dropSz as (ats r) with
    | none => rw [hd] at h'; cases h'
    | some q =>
      rw [hd] at h'
      simp only [appF_eq, Option.some.injEq] at h'
      obtain ⟨u, e1, e2⟩ := dropSz_spec as _ hd
      exact ⟨[], u, q, by simpa using e1, by simpa using h'.symm, rfl, e2⟩
  | [], off + 1, r, as', h => by unfold putAt at h; cases h
  | a :: as, off + 1, r, as', h => by
    unfold putAt at h
    cases hb : Nat.ble a.sz (off + 1) with
    | false => rw [hb] at h; cases h
    | true =>
      rw [hb] at h
      simp only [cond_true] at h
      cases hp : putAt as (off + 1 - a.sz) r with
      | none => rw [hp] at h; cases h
      | some q' =>
        rw [hp] at h
        injection h with h
        subst h
        obtain ⟨p, u, q, e1, e2, e3, e4⟩ := putAt_spec as _ r hp
        have := Nat.le_of_ble_eq_true hb
        refine ⟨a :: p, u, q, by rw [e1]; rfl, by rw [e2]; rfl, ?_, e4⟩
        show a.sz + ats p = off + 1
        omega
section
variable {P : Program} {env : Env} {D : List Deferred} {n : Nat} {w0 : World} {M : Nat → Prop} {B L : Hp}
variable {dst : Option Tmp} {d : Nat} {ty : TypeId} {pos : String} {af : Array Edge} {gd : Option (Nat × Bool)} {x y z : Operand} {T T' : TypeId}
theorem va_def (g : Nat) (e : TypeId) (as : List At) : Res.va g e as = Res.blk g (.cells (flat (vals as)).toArray e (0, 0)) := by unfold Res.va Res.var; rfl
theorem d_alloc {agg : Bool} {sz bytes : Nat} {z : SV} [hT : TyA P T agg sz z bytes] (hd : Nat.blt d n = true := by rfl) : Does P ⟨some d, .alloc T, ty, pos, af, gd⟩ env D n w0 M B L (fun g : Nat => (d, vp (10000 + d) ⟨g, 0, none⟩) :: env) (fun g => (10000 + d, Res.va g T z.ats) :: L) [10000 + d] :=
  ⟨fun a w K Q hs h => by
    refine o_alloc (P := P) (K := K) (Q := Q) (L := live L) hT.is rfl .self hs.st fun w' g hst => h g _ w' ?_
    refine (hs.put (v := vp (10000 + d) ⟨g, 0, none⟩) hd).to (live_new ?_)
    have : Res.var g T [z.den] = Res.va g T z.ats := by
      rw [va_def]
      unfold Res.var
      rw [flat_single, SV.cells_den]
    rw [← this]
    exact hst, kp_one⟩
theorem d_box {v : SV} (hx : ev env x = some (.s v) := by rfl) (hd : Nat.blt d n = true := by rfl) : Does P ⟨some d, .box T x, ty, pos, af, gd⟩ env D n w0 M B L (fun g : Nat => (d, vp (10000 + d) ⟨g, 0, none⟩) :: env) (fun g => (10000 + d, Res.va g T v.ats) :: L) [10000 + d] :=
  ⟨fun a w K Q hs h => by
    unfold Oper.wp execOp
    have h1 : a.eval x = v.den := ev_sound hs.tm hx
    have hr : (Instr.box T v.den).run P w = .ok (.pointer (some ⟨w.heap.size, 0, none⟩)) (w.alloc (.cells v.den.cells T)) := by
      simp [Instr.box, Sem.run_bind, newVar, newRow, newObj, Sem.run]
    simp only [h1]
    rw [Sem.run_bind, hr]
    refine h w.heap.size _ _ ?_
    refine (hs.put (v := vp (10000 + d) ⟨w.heap.size, 0, none⟩) hd).to (live_new ?_)
    have h2 := hs.st.alloc (.cells v.den.cells T)
    rw [va_def]
    have e : (flat (vals v.ats)).toArray = v.den.cells := by rw [← SV.cells_den]
    rw [e]
    exact h2, kp_one⟩
theorem d_store {i g off : Nat} {e : TypeId} {as as' : List At} {v : SV} {agg : Bool} {sz bytes : Nat} {z : SV} [hT : TyA P T agg sz z bytes] (hx : ev env x = some (vp i ⟨g, off, none⟩) := by rfl) (hy : ev env y = some (.s v) := by rfl) (hr : lk L i = some (Res.va g e as) := by rfl) (hp : putAt as off v.ats = some as' := by rfl) (ha : v.isAgg = agg := by rfl) (hz : ats v.ats = sz := by rfl) : Does P ⟨none, .store T x y, ty, pos, af, gd⟩ env D n w0 M B L (fun _ : Unit => env) (fun _ => (i, Res.va g e as') :: L) [i] :=
  ⟨fun a w K Q hs h => by
    obtain ⟨p, u, q, e1, e2, e3, e4⟩ := putAt_spec as off v.ats hp
    have hst := live_front hs.st hr
    have eva : Res.va g e as = Res.var g e [mkS (vals p), mkS (vals u), mkS (vals q)] := by
      rw [va_def]
      unfold Res.var
      rw [flat_cons, flat_cons, flat_single, cells_mkS, cells_mkS, cells_mkS, e1, vals_append, vals_append, flat_append, flat_append, List.append_assoc]
    rw [eva] at hst
    have h1 : a.eval x = .pointer (some ⟨g, off, none⟩) := ev_sound hs.tm hx
    have h2 : a.eval y = v.den := ev_sound hs.tm hy
    unfold Oper.wp execOp
    have hb : w.heap[g]? = some (.cells (flat [mkS (vals p), mkS (vals u), mkS (vals q)]).toArray e (0, 0)) := by
      have := hst.get (i := 0) rfl
      unfold Res.var Res.blk at this
      exact this
    have hrun := run_storeVar (P := P) (T := T) (k := 1) (off := off) (fits_sv (P := P) (T := T) ha hz) v.ok1 hb rfl (by simpa [szs, szs_vals] using e3) (by rw [SV.sz_den, sz_mkS, szs_vals, e4])
    simp only [h1, h2, Instr.storeAt, Instr.sureAddr]
    simp only [Sem.run_bind, Sem.run_pure, Result.andThen_ok]
    rw [hrun]
    refine h () _ _ ?_
    refine (hs.put0 undef).to ?_
    rw [live_cons]
    have ev2 : Res.va g e as' = Res.blk g (.cells (flat ([mkS (vals p), mkS (vals u), mkS (vals q)].set 1 v.den)).toArray e (0, 0)) := by
      rw [va_def]
      congr 3
      simp only [List.set_cons_succ, List.set_cons_zero]
      rw [flat_cons, flat_cons, flat_single, cells_mkS, cells_mkS, SV.cells_den, e2, vals_append, vals_append, flat_append, flat_append, List.append_assoc]
    rw [ev2]
    have := hst.turn (i := 0) (r := Res.var g e [mkS (vals p), mkS (vals u), mkS (vals q)]) (r' := Res.blk g (.cells (flat ([mkS (vals p), mkS (vals u), mkS (vals q)].set 1 v.den)).toArray e (0, 0))) (w' := w.setRow g (flat ([mkS (vals p), mkS (vals u), mkS (vals q)].set 1 v.den)).toArray) rfl rfl rfl rfl (by simp) (fun b hb' hn => setRow_other w g b _ (fun e => hn (fp_var.2 e))) (by unfold Res.blk; exact setRow_heap w g _ _ _ _ hb) (fun b hb' => .inl (fp_var.2 (by unfold Res.blk at hb'; exact hb')))
    exact this, kp_one⟩
end
end HL
end Go.Proofs.YtfopgaijfeeioaaGreat
/- SYMBOLIC STATES: code, loops, calls, regions that draw their order. My own text; it names no program. -/

set_option linter.unusedVariables false
set_option linter.unusedSimpArgs false
set_option linter.unusedSectionVars false
namespace Go.Proofs.YtfopgaijfeeioaaGreat
namespace HL
open Go Go.RowKit
inductive Out where
  | ret (v : TV)
  | pan (c : List PanicEntry)
def Out.den : Out → Ending
  | .ret v => .returned v.den
  | .pan c => .panicked c
def Post (post : Out → List Res → Prop) (w0 : World) (M : Nat → Prop) (e : Ending) (w' : World) : Prop := ∃ o L, o.den = e ∧ post o L ∧ St w0 w' M L
def memB (i : Nat) : List Nat → Bool
  | [] => false
  | j :: js => bif Nat.beq i j then true else memB i js
def nodupB : List Nat → Bool
  | [] => true
  | i :: is => bif memB i is then false else nodupB is
theorem memB_spec {i : Nat} : ∀ {l : List Nat}, memB i l = false → i ∉ l
  | [], _ => by simp
  | j :: js, h => by
    unfold memB at h
    cases hb : Nat.beq i j with
    | true => rw [hb] at h; cases h
    | false =>
      rw [hb] at h
      intro hm
      rcases List.mem_cons.1 hm with e | hm
      · subst e; rw [Nat.beq_refl] at hb; cases hb
      · exact memB_spec h hm
theorem nodupB_spec : ∀ {l : List Nat}, nodupB l = true → l.Nodup
  | [], _ => List.nodup_nil
  | i :: is, h => by
    unfold nodupB at h
    cases hb : memB i is with
    | true => rw [hb] at h; cases h
    | false => rw [hb] at h; exact List.nodup_cons.2 ⟨memB_spec hb, nodupB_spec h⟩
def picks (L : Hp) : List Nat → Option (List Res)
  | [] => some []
  | i :: is => match lk L i with
    | some r => match picks L is with
      | some rs => some (r :: rs)
      | none => none
    | none => none
theorem picks_cons {L : Hp} {i : Nat} {is : List Nat} {rs : List Res} (h : picks L (i :: is) = some rs) : ∃ r rs', lk L i = some r ∧ picks L is = some rs' ∧ rs = r :: rs' := by
  unfold picks at h
  split at h
  · rename_i r hr
    split at h
    · rename_i rs' hrs
      injection h with h
      exact ⟨r, rs', hr, hrs, h.symm⟩
    · cases h
  · cases h
theorem picks_del {L : Hp} {k : Nat} : ∀ {is : List Nat} {rs : List Res}, k ∉ is → picks L is = some rs → picks (del k L) is = some rs
  | [], rs, _, h => h
  | i :: is, rs, hk, h => by
    obtain ⟨r, rs', h1, h2, rfl⟩ := picks_cons h
    simp only [List.mem_cons, not_or] at hk
    unfold picks
    rw [lk_del, if_neg (fun e => hk.1 e.symm), h1, picks_del hk.2 h2]
def dels {α : Type _} (is : List Nat) (L : List (Nat × α)) : List (Nat × α) := is.foldl (fun L i => del i L) L
theorem St.picks {w0 w : World} {M : Nat → Prop} : ∀ {is : List Nat} {L : Hp} {rs : List Res}, St w0 w M (live L) → picks L is = some rs → is.Nodup → St w0 w M (rs ++ live (dels is L))
  | [], L, rs, h, hp, _ => by
    unfold HL.picks at hp
    injection hp with hp
    subst hp
    exact h
  | i :: is, L, rs, h, hp, hn => by
    obtain ⟨r, rs', h1, h2, rfl⟩ := picks_cons hp
    have hn' := List.nodup_cons.1 hn
    have hf := live_front h h1
    -- the rest, with r aside
    have gen : ∀ {is : List Nat} {L : Hp} {rs : List Res} {X : List Res}, St w0 w M (X ++ live L) → HL.picks L is = some rs → is.Nodup → St w0 w M (X ++ (rs ++ live (dels is L))) := by
      intro is
      induction is with
      | nil => intro L rs X h hp _; unfold HL.picks at hp; injection hp with hp; subst hp; exact h
      | cons i is ih =>
        intro L rs X h hp hn
        obtain ⟨r, rs', h1, h2, rfl⟩ := picks_cons hp
        have hn' := List.nodup_cons.1 hn
        have hperm : (X ++ live L).Perm ((X ++ [r]) ++ live (del i L)) := by
          rw [List.append_assoc]
          exact (live_perm _ L (Nat.le_refl _) h1).append_left X
        have := ih (h.perm hperm) (picks_del hn'.1 h2) hn'.2
        rw [List.append_assoc] at this
        exact this
    have := gen (X := [r]) hf (picks_del hn'.1 h2) hn'.2
    exact this
section
variable {P : Program} {Q : Exit → Act → World → Prop}
variable {env env' : Env} {D : List Deferred} {n : Nat} {w0 : World} {M : Nat → Prop} {B L L' : Hp} {K : Act → World → Prop}
theorem c_seq {x y : Code} (h : Ho env D n w0 M B L (x.wp P (Exit.then (y.wp P Q) Q))) : Ho env D n w0 M B L ((Code.seq x y).wp P Q) := fun a w hs => wp_seq (h a w hs)
theorem c_block {id : Nat} {c : Code} (h : Ho env D n w0 M B L (c.wp P (Exit.inBlock id Q))) : Ho env D n w0 M B L ((Code.block id c).wp P Q) := fun a w hs => wp_block (h a w hs)
theorem c_skip (h : Ho env D n w0 M B L (Q .normal)) : Ho env D n w0 M B L (Code.skip.wp P Q) := fun a w hs => wp_skip (h a w hs)
theorem c_exit {id : Nat} (h : Ho env D n w0 M B L (Q (.exit id))) : Ho env D n w0 M B L ((Code.exit id).wp P Q) := fun a w hs => wp_exit (h a w hs)
theorem c_ret (h : Ho env D n w0 M B L (Q .ret)) : Ho env D n w0 M B L (Code.ret.wp P Q) := fun a w hs => wp_ret (h a w hs)
theorem c_region {id : Nat} {l : List Oper} (h : Ho env D n w0 M B L (wpList P l.toArray Q l)) : Ho env D n w0 M B L ((Code.region id l.toArray false).wp P Q) := fun a w hs => wp_region_lit (h a w hs)
theorem c_if {c : Operand} {x y : Code} {t : Bool} (hc : ev env c = some (vb t) := by rfl) (h1 : t = true → Ho env D n w0 M B L (x.wp P Q)) (h2 : t = false → Ho env D n w0 M B L (y.wp P Q)) : Ho env D n w0 M B L ((Code.cond c x y).wp P Q) := fun a w hs =>
  wp_cond_split (ev_sound hs.tm hc) (fun h => h1 h a w hs) (fun h => h2 h a w hs)
theorem c_ifd {c : Operand} {x y : Code} {p : Prop} [Decidable p] (hc : ev env c = some (vb (decide p)) := by rfl) (h1 : p → Ho env D n w0 M B L (x.wp P Q)) (h2 : ¬ p → Ho env D n w0 M B L (y.wp P Q)) : Ho env D n w0 M B L ((Code.cond c x y).wp P Q) :=
  c_if hc (fun h => h1 (of_decide_eq_true h)) (fun h => h2 (of_decide_eq_false h))
theorem c_ifn {c : Operand} {x y : Code} {p : Prop} [Decidable p] (hc : ev env c = some (vb (!decide p)) := by rfl) (h1 : ¬ p → Ho env D n w0 M B L (x.wp P Q)) (h2 : p → Ho env D n w0 M B L (y.wp P Q)) : Ho env D n w0 M B L ((Code.cond c x y).wp P Q) :=
  c_if hc (fun h => h1 (by simpa using h)) (fun h => h2 (by simpa using h))
theorem x_inE {id : Nat} (h : Ho env D n w0 M B L (Q .normal)) : Ho env D n w0 M B L (Exit.inBlock id Q (.exit id)) := fun a w hs => by
  simp only [Exit.inBlock, if_true]
  exact h a w hs
theorem x_inO {id id' : Nat} (h : Ho env D n w0 M B L (Q (.exit id'))) (hne : Nat.beq id' id = false := by rfl) : Ho env D n w0 M B L (Exit.inBlock id Q (.exit id')) := fun a w hs => by
  have : ¬ id' = id := fun e => by subst e; rw [Nat.beq_refl] at hne; cases hne
  simp only [Exit.inBlock, this, if_false]
  exact h a w hs
def InE (env : Env) : Env → Prop
  | [] => True
  | (t, v) :: r => (∃ u, lk env t = some u ∧ u.den = v.den) ∧ InE env r
theorem InE.lk {env : Env} : ∀ {env' : Env}, InE env env' → ∀ {t : Nat} {v : TV}, lk env' t = some v → ∃ u, HL.lk env t = some u ∧ u.den = v.den
  | [], _, t, v, h => by cases h
  | (k, x) :: r, hi, t, v, h => by
    rw [lk_cons] at h
    by_cases e : k = t
    · rw [if_pos e] at h
      injection h with h
      subst h
      subst e
      exact hi.1
    · rw [if_neg e] at h
      exact hi.2.lk h
theorem InE.tm {a : Act} (h : InE env env') (ht : Tm env n a) : Tm env' n a := ⟨fun t v hv => by
  obtain ⟨u, h1, h2⟩ := h.lk hv
  rw [ht.tm t u h1, h2], ht.sz⟩
def InH (L : Hp) : Hp → Prop
  | [] => True
  | (i, r) :: t => HL.lk L i = some r ∧ InH L t
theorem InH.picks : ∀ {L' : Hp}, InH L L' → HL.picks L (L'.map (·.1)) = some (L'.map (·.2))
  | [], _ => rfl
  | (i, r) :: t, h => by
    show HL.picks L (i :: t.map (·.1)) = _
    unfold HL.picks
    rw [h.1, InH.picks h.2]
    rfl
theorem live_nodup : ∀ {L : Hp}, (L.map (·.1)).Nodup → live L = L.map (·.2)
  | [], _ => live_nil
  | (i, r) :: t, h => by
    have h' := List.nodup_cons.1 h
    have hn : lk t i = none := by
      cases hl : lk t i with
      | none => rfl
      | some q =>
        exfalso
        refine h'.1 ?_
        have gen : ∀ (t : Hp), lk t i = some q → i ∈ t.map (·.1) := by
          intro t
          induction t with
          | nil => intro h; cases h
          | cons x t ih =>
            obtain ⟨k, v⟩ := x
            intro h
            rw [lk_cons] at h
            by_cases e : k = i
            · simp [e]
            · rw [if_neg e] at h
              exact List.mem_cons_of_mem _ (ih h)
        exact gen t hl
    rw [live_cons, del_same hn, live_nodup h'.2]
    rfl
theorem InH.st {w : World} (h : InH L L') (hn : (L'.map (·.1)).Nodup) (hs : St w0 w M (live L)) : St w0 w M (live L') := by
  have := hs.picks h.picks hn
  rw [live_nodup hn]
  exact this.sub (List.sublist_append_left _ _)
def keepO {α : Type _} (l : List (Nat × α)) : List Nat → Option (List (Nat × α))
  | [] => some []
  | t :: ts => match lk l t with
    | some v => match keepO l ts with
      | some r => some ((t, v) :: r)
      | none => none
    | none => keepO l ts
theorem keepO_inH : ∀ {ts : List Nat} {e' : Hp}, keepO L ts = some e' → InH L e'
  | [], e', h => by unfold keepO at h; injection h with h; subst h; trivial
  | t :: ts, e', h => by
    unfold keepO at h
    split at h
    · rename_i v hv
      split at h
      · rename_i r hr
        injection h with h
        subst h
        exact ⟨hv, keepO_inH hr⟩
      · cases h
    · exact keepO_inH h
theorem k_val (t : Nat) {u : TV} (v : TV) (ht : lk env t = some u := by rfl) (hv : u.den = v.den := by rfl) (h : Ho ((t, v) :: env) D n w0 M B L K) : Ho env D n w0 M B L K := fun a w hs => h a w ⟨⟨fun q x hq => by
  rw [lk_cons] at hq
  by_cases e : t = q
  · rw [if_pos e] at hq
    injection hq with hq
    rw [← hq, ← hv, ← e]
    exact hs.tm.tm t u ht
  · rw [if_neg e] at hq
    exact hs.tm.tm q x hq, hs.tm.sz⟩, hs.df, hs.st, hs.bo⟩
theorem k_res (i : Nat) {r : Res} (r' : Res) (hr : lk L i = some r := by rfl) (he : r = r') (h : Ho env D n w0 M B ((i, r') :: L) K) : Ho env D n w0 M B L K := fun a w hs => h a w ⟨hs.tm, hs.df, by rw [live_cons, ← he]; exact live_front hs.st hr, hs.bo⟩
theorem k_nil {α : Type} (i : Nat) (e : TypeId) (E : En α) (h : Ho env D n w0 M B ((i, Res.rows none 0 e E []) :: L) K) : Ho env D n w0 M B L K := fun a w hs => h a w ⟨hs.tm, hs.df, live_new (by
  have := hs.st.nilrow e E.sz
  unfold Res.rows En.dens
  rw [List.map_nil, flat_nil]
  exact this), hs.bo⟩
theorem k_fact {p : Prop} (hp : ∀ w, Facts B L w → p) (h : p → Ho env D n w0 M B L K) : Ho env D n w0 M B L K := fun a w hs => h (hp w hs.facts) a w hs
inductive RV (P : Program) (env : Env) (B L : Hp) : ResultVar → SV → Prop where
  | tmp {t : Nat} {v : SV} (h : HL.lk env t = some (.s v)) : RV P env B L (.tmp t) v
  | cell {t i g off : Nat} {T e : TypeId} {as r : List At} {v : SV} {agg : Bool} {sz bytes : Nat} {z : SV} (hT : TyA P T agg sz z bytes) (hx : HL.lk env t = some (vp i ⟨g, off, none⟩)) (hr : lk2 B L i = some (Res.va g e as)) (hc : cutAt as off sz = some r) (hv : mkSV agg r = some v) : RV P env B L (.cell t T) v
inductive RVs (P : Program) (env : Env) (B L : Hp) : List ResultVar → List SV → Prop where
  | nil : RVs P env B L [] []
  | cons {x : ResultVar} {v : SV} {xs : List ResultVar} {vs : List SV} (h : RV P env B L x v) (hs : RVs P env B L xs vs) : RVs P env B L (x :: xs) (v :: vs)
def retTV : List SV → TV
  | [v] => .s v
  | vs => .tup vs
def rvF (tmps : Array Value) : ResultVar → Sem Value
  | .tmp t => pure (tmps.getD t undef)
  | .cell c t => do loadVar t (← asAddr (tmps.getD c undef))
theorem rv_run {r : ResultVar} {v : SV} {a : Act} {w : World} (h : RV P env B L r v) (ht : Tm env n a) (hf : Facts B L w) : (rvF a.tmps r).run P w = .ok v.den w := by
  cases h with
  | tmp h =>
    have := ht.tm _ _ h
    simp only [rvF, Sem.run_pure]
    simp [Array.getD_eq_getD_getElem?, this]
    rfl
  | cell hT hx hr hc hv =>
    rename_i t i g off T e as r agg sz bytes z
    obtain ⟨h2, h3⟩ := mkSV_spec hv
    obtain ⟨_, _, _, _, h4⟩ := cutAt_spec as off sz hc
    have hcells : CellsAt w ⟨g, off, none⟩ v.den.cells.toList := by
      have := (va_cells (hf i _ hr)).cut hc
      rw [add_lit0, Nat.zero_add] at this
      rw [SV.cells_den, h2]
      exact this
    have h1 : a.tmps.getD t undef = .pointer (some ⟨g, off, none⟩) := by
      have := ht.tm _ _ hx
      simp [Array.getD_eq_getD_getElem?, this]
      rfl
    simp only [rvF, h1, asAddr, Sem.run_bind, Sem.run_pure, Result.andThen_ok]
    exact run_loadVar (fits_sv (P := P) (T := T) h3 (by rw [h2]; exact h4)) hcells
theorem rvs_run {a : Act} {w : World} (ht : Tm env n a) (hf : Facts B L w) {xs : List ResultVar} {vs : List SV} (h : RVs P env B L xs vs) : (xs.mapM (rvF a.tmps)).run P w = .ok (vs.map SV.den) w := by
  induction h with
  | nil => rfl
  | cons h hs ih =>
    rw [List.mapM_cons, Sem.run_bind, rv_run h ht hf]
    simp only [Result.andThen_ok, Sem.run_bind, ih]
    rfl
theorem results_rvs {fn : Func} {vs : List SV} {a : Act} {w : World} (h : RVs P env B L fn.results.toList vs) (ht : Tm env n a) (hf : Facts B L w) : (results fn a.tmps).run P w = .ok (retTV vs).den w := by
  have e : results fn a.tmps = (do
      let vs ← fn.results.mapM (rvF a.tmps)
      pure (if h : vs.size = 1 then vs[0] else .tuple vs)) := by
    unfold results
    congr 1
  rw [e, Sem.run_bind, Array.mapM_eq_mapM_toList]
  have h1 : (List.toArray <$> (fn.results.toList.mapM (rvF a.tmps))).run P w = .ok (vs.map SV.den).toArray w := by
    rw [show (List.toArray <$> (fn.results.toList.mapM (rvF a.tmps)) : Sem (Array Value)) = (fn.results.toList.mapM (rvF a.tmps) >>= fun l => pure l.toArray) from rfl, Sem.run_bind, rvs_run ht hf h]
    rfl
  rw [h1]
  simp only [Result.andThen_ok, Sem.run_pure]
  match vs with
  | [] => rfl
  | [v] => rfl
  | v :: u :: r => simp [retTV, TV.den]
variable {post : Out → List Res → Prop} {fn : Func}
theorem k_ret (ids : List Nat) {vs : List SV} {rs : List Res} (v : TV) (hr : RVs P env B L fn.results.toList vs) (hp : picks L ids = some rs := by rfl) (hn : ids.Nodup := by decide) (hv : v.den = (retTV vs).den := by rfl) (h : post (.ret v) rs) : Ho env [] n w0 M B L (bodyPost P fn (Post post w0 M) .ret) := fun a w hs => by
  refine ⟨hs.df, _, results_rvs hr hs.tm hs.facts, .ret v, rs, congrArg _ hv, h, ?_⟩
  exact (hs.st.picks hp hn).sub (List.sublist_append_left _ _)
theorem k_end (ids : List Nat) {vs : List SV} {rs : List Res} (v : TV) (hr : RVs P env B L fn.results.toList vs) (hp : picks L ids = some rs := by rfl) (hn : ids.Nodup := by decide) (hv : v.den = (retTV vs).den := by rfl) (h : post (.ret v) rs) : Ho env [] n w0 M B L (bodyPost P fn (Post post w0 M) .normal) := k_ret ids v hr hp hn hv h
theorem k_pan (ids : List Nat) {c : List PanicEntry} {rs : List Res} (hp : picks L ids = some rs := by rfl) (hn : ids.Nodup := by decide) (h : post (.pan c) rs) : Ho env [] n w0 M B L (bodyPost P fn (Post post w0 M) (.panic c)) := fun a w hs =>
  ⟨hs.df, .pan c, rs, rfl, h, (hs.st.picks hp hn).sub (List.sublist_append_left _ _)⟩
def dis (r s : Res) : Prop := ∀ b, r.fp b → ¬ s.fp b
def CSpec (P : Program) (f : FuncId) (args : List SV) (B L : Hp) (post : Out → List Res → Prop) : Prop := ∀ w, (∀ i r, lk B i = some r → r.holds w) → (∀ r ∈ live L, r.holds w) → (live L).Pairwise dis → (∀ i r, lk B i = some r → ∀ s ∈ live L, dis r s) →
  Calls P f (args.map SV.den).toArray w (Post post w fun b => ∃ r ∈ live L, r.fp b)
def argEnv : List SV → Option Env
  | [] => some []
  | [a] => some [(0, .s a)]
  | [a, b] => some [(0, .s a), (1, .s b)]
  | [a, b, c] => some [(0, .s a), (1, .s b), (2, .s c)]
  | [a, b, c, d] => some [(0, .s a), (1, .s b), (2, .s c), (3, .s d)]
  | [a, b, c, d, e] => some [(0, .s a), (1, .s b), (2, .s c), (3, .s d), (4, .s e)]
  | [a, b, c, d, e, f] => some [(0, .s a), (1, .s b), (2, .s c), (3, .s d), (4, .s e), (5, .s f)]
  | [a, b, c, d, e, f, g] => some [(0, .s a), (1, .s b), (2, .s c), (3, .s d), (4, .s e), (5, .s f), (6, .s g)]
  | [a, b, c, d, e, f, g, h] => some [(0, .s a), (1, .s b), (2, .s c), (3, .s d), (4, .s e), (5, .s f), (6, .s g), (7, .s h)]
  | _ => none
theorem argEnv_get {args : List SV} {e : Env} (h : argEnv args = some e) : ∀ t v, lk e t = some v → ∃ u, args[t]? = some u ∧ v = .s u := by
  intro t v hv
  unfold argEnv at h
  split at h <;> first
    | (injection h with h; subst h; cases hv; done)
    | (injection h with h; subst h; simp only [lk_cons] at hv; (repeat' split at hv) <;> first | (rename_i e1; subst e1; injection hv with hv; subst hv; exact ⟨_, rfl, rfl⟩) | cases hv)
    | cases h
theorem k_enter {f : FuncId} {c : Code} {args : List SV} (hf : P.funcs[f]? = some fn) (hb : fn.body = some c) (hn : fn.ntmps = n) (he : argEnv args = some env := by rfl) (hl : Nat.ble args.length n = true := by rfl)
    (h : ∀ w, Ho env [] n w (fun b => ∃ r ∈ live L, r.fp b) B L (c.wp P (bodyPost P fn (Post post w fun b => ∃ r ∈ live L, r.fp b)))) : CSpec P f args B L post := fun w hB hL hd hBL => by
  refine calls_of_wp hf hb (h w _ w ⟨⟨fun t v hv => ?_, ?_⟩, rfl, St.startL hL hd, fun i r hr => ⟨hB i r hr, fun b hb => ⟨r.bound w (hB i r hr) b hb, ?_⟩⟩⟩)
  · obtain ⟨u, h1, rfl⟩ := argEnv_get he t v hv
    have hlt := (List.getElem?_eq_some_iff.1 h1).1
    rw [Array.getElem?_append_left (by simpa using hlt)]
    simp [h1, TV.den]
  · have := Nat.le_of_ble_eq_true hl
    simp [hn]
    omega
  · rintro ⟨s, hs, hb'⟩
    exact hBL i r hr s hs b hb hb'
end
end HL
end Go.Proofs.YtfopgaijfeeioaaGreat
/- SYMBOLIC STATES: calls by contract, loops, regions that draw their order. My own text; it names no program. -/

set_option linter.unusedVariables false
set_option linter.unusedSimpArgs false
set_option linter.unusedSectionVars false
namespace Go.Proofs.YtfopgaijfeeioaaGreat
namespace HL
open Go Go.RowKit
def PV.gh : PV → Nat
  | .ptr q _ => q
  | .el q _ _ _ _ => q
  | .sl q _ _ _ => q
  | .mp q _ => q
  | .ifp _ q _ => q
  | .stl q _ _ _ _ _ _ => q
  | .sar q _ _ _ _ _ => q
  | .sln q _ _ _ _ => q
  | .eln q _ _ _ _ _ => q
  | _ => 0
def At.gh : At → Nat
  | .one p => p.gh
  | .hash _ => 0
def SV.gh : SV → Nat
  | .one p => p.gh
  | .agg _ => 0
def cid (m : List (Nat × Nat)) (vs : List SV) (k : Nat) : Nat :=
  match lk m k with
  | some i => i
  | none => bif Nat.blt k 100 then (match vs[k]? with | some v => v.gh | none => 0) else (match vs[k / 100 - 1]? with | some v => (match v.ats[k % 100]? with | some a => a.gh | none => 0) | none => 0)
def Got (look : Nat → Option Res) (c : Nat → Nat) : Hp → Prop
  | [] => True
  | (k, r) :: t => look (c k) = some r ∧ Got look c t
theorem Got.lk {look : Nat → Option Res} {c : Nat → Nat} : ∀ {H : Hp}, Got look c H → ∀ {i : Nat} {r : Res}, HL.lk H i = some r → look (c i) = some r
  | [], _, i, r, h => by cases h
  | (k, x) :: t, hg, i, r, h => by
    rw [lk_cons] at h
    by_cases e : k = i
    · rw [if_pos e] at h; injection h with h; subst h; subst e; exact hg.1
    · rw [if_neg e] at h; exact hg.2.lk h
theorem Got.picks {L : Hp} {c : Nat → Nat} : ∀ {H : Hp}, Got (HL.lk L) c H → HL.picks L (H.map fun x => c x.1) = some (H.map (·.2))
  | [], _ => rfl
  | (k, r) :: t, h => by
    show HL.picks L (c k :: t.map fun x => c x.1) = _
    unfold HL.picks
    rw [h.1, Got.picks h.2]
    rfl
def num (b : Nat) : List Res → Hp
  | [] => []
  | r :: rs => (b, r) :: num (b + 1) rs
theorem view_rows {α : Type} {A : Option Addr} {c : Nat} {e : TypeId} {E : En α} {l : List α} : View (Res.rows A c e E l) (Res.rd A E l) := ⟨fun w h => by
  have := rows_reads h
  unfold Res.rd Res.fact
  exact this, fun b h => by
  have h' : l ≠ [] ∧ obl A = some b := by unfold Res.rd Res.fact at h; exact h
  exact fp_row.2 h'.2⟩
theorem view_rd {α : Type} {R : Res} {A A' : Option Addr} {E : En α} {l l' : List α} (h : View R (Res.rd A E l)) (ho : RowOf (Res.rd A E l) A' E l') (hA : obl A' = obl A) (hl : l' ≠ [] → l ≠ []) : View R (Res.rd A' E l') := ⟨fun w hw => by
  have := ho.is w (h.h w hw)
  unfold Res.rd Res.fact
  exact this, fun b hb => h.f b (by
  have h' : l' ≠ [] ∧ obl A' = some b := by unfold Res.rd Res.fact at hb; exact hb
  have : l ≠ [] ∧ obl A = some b := ⟨hl h'.1, by rw [← hA]; exact h'.2⟩
  unfold Res.rd Res.fact
  exact this)⟩
theorem view_tail {α : Type} {R : Res} {A : Option Addr} {E : En α} {l : List α} {c k : Nat} (h : View R (Res.rd A E l)) (hc : l.length ≤ c) (hk : k ≤ l.length) : View R (Res.rd (tailA A c k E.sz) E (l.drop k)) :=
  view_rd h (rowOf_tail rowOf_rd hc hk) (obl_tailA _ _ _ _) (fun h1 h2 => h1 (by rw [h2]; exact List.drop_nil))
theorem view_take {α : Type} {R : Res} {A : Option Addr} {E : En α} {l : List α} {k : Nat} (h : View R (Res.rd A E l)) : View R (Res.rd A E (l.take k)) :=
  view_rd h (rowOf_take rowOf_rd) rfl (fun h1 h2 => h1 (by rw [h2]; exact List.take_nil))
def GotB (look : Nat → Option Res) (c : Nat → Nat) : Hp → Prop
  | [] => True
  | (k, r) :: t => (∃ R, look (c k) = some R ∧ View R r) ∧ GotB look c t
theorem GotB.lk {look : Nat → Option Res} {c : Nat → Nat} : ∀ {H : Hp}, GotB look c H → ∀ {i : Nat} {r : Res}, HL.lk H i = some r → ∃ R, look (c i) = some R ∧ View R r
  | [], _, i, r, h => by cases h
  | (k, x) :: t, hg, i, r, h => by
    rw [lk_cons] at h
    by_cases e : k = i
    · rw [if_pos e] at h; injection h with h; subst h; subst e; exact hg.1
    · rw [if_neg e] at h; exact hg.2.lk h
theorem St.append_live {w0 w : World} {M : Nat → Prop} {rs : List Res} {b : Nat} {L : Hp} (h : St w0 w M (rs ++ live L)) : St w0 w M (live (num b rs ++ L)) := by
  have gen : ∀ (rs X : List Res) (b : Nat) (L : Hp), St w0 w M (X ++ (rs ++ live L)) → St w0 w M (X ++ live (num b rs ++ L)) := by
    intro rs
    induction rs with
    | nil => intro X b L h; exact h
    | cons r rs ih =>
      intro X b L h
      show St w0 w M (X ++ live ((b, r) :: (num (b + 1) rs ++ L)))
      rw [live_cons]
      have h1 := ih (X ++ [r]) (b + 1) L (by simpa using h)
      -- take away what b hides
      have sub : ∀ (H : Hp) (i : Nat), ∃ r?, (live H).Perm (r? ++ live (del i H)) := fun H i => by
        cases hl : lk H i with
        | some q => exact ⟨[q], live_perm _ H (Nat.le_refl _) hl⟩
        | none => exact ⟨[], by rw [del_same hl]; exact List.Perm.refl _⟩
      obtain ⟨q, hq⟩ := sub (num (b + 1) rs ++ L) b
      have h2 := h1.perm (hq.append_left (X ++ [r]))
      refine h2.sub ?_
      have e : X ++ r :: live (del b (num (b + 1) rs ++ L)) = (X ++ [r]) ++ live (del b (num (b + 1) rs ++ L)) := by simp
      rw [e]
      exact (List.Sublist.refl _).append (List.sublist_append_right _ _)
  have := gen rs [] b L h
  exact this
def evs (env : Env) : List Operand → Option (List SV)
  | [] => some []
  | x :: xs => match ev env x with
    | some (.s v) => match evs env xs with
      | some vs => some (v :: vs)
      | none => none
    | _ => none
theorem evs_sound {env : Env} {n : Nat} {a : Act} (h : Tm env n a) : ∀ {xs : List Operand} {vs : List SV}, evs env xs = some vs → xs.map a.eval = vs.map SV.den
  | [], vs, he => by unfold evs at he; injection he with he; subst he; rfl
  | x :: xs, vs, he => by
    unfold evs at he
    split at he
    · rename_i v hv
      split at he
      · rename_i vs' hvs
        injection he with he
        subst he
        simp only [List.map_cons, evs_sound h hvs, ev_sound h hv]
        rfl
      · cases he
    · cases he
section
variable {P : Program} {ops : Array Oper} {Q : Exit → Act → World → Prop} {o : Oper} {rest : List Oper}
variable {env : Env} {D : List Deferred} {n : Nat} {w0 : World} {M : Nat → Prop} {B L : Hp}
variable {dst : Option Tmp} {d : Nat} {ty : TypeId} {pos : String} {af : Array Edge} {gd : Option (Nat × Bool)} {x y z : Operand} {T T' : TypeId}
theorem lk_dels {α : Type _} {j : Nat} : ∀ {is : List Nat} {L : List (Nat × α)}, j ∉ is → lk (dels is L) j = lk L j
  | [], L, _ => rfl
  | i :: is, L, h => by
    simp only [List.mem_cons, not_or] at h
    show lk (dels is (del i L)) j = _
    rw [lk_dels h.2, lk_del, if_neg h.1]
def noneIn (is : List Nat) : List Nat → Bool
  | [] => true
  | j :: js => bif memB j is then false else noneIn is js
theorem noneIn_spec {is : List Nat} : ∀ {js : List Nat}, noneIn is js = true → ∀ j ∈ js, j ∉ is
  | [], _, j, h => by cases h
  | k :: js, h, j, hj => by
    unfold noneIn at h
    cases hb : memB k is with
    | true => rw [hb] at h; cases h
    | false =>
      rw [hb] at h
      rcases List.mem_cons.1 hj with e | hj
      · subst e; exact memB_spec hb
      · exact noneIn_spec h j hj
def ids (c : Nat → Nat) (H : Hp) : List Nat := H.map fun x => c x.1
theorem ids_mem {c : Nat → Nat} : ∀ {H : Hp} {i : Nat} {r : Res}, HL.lk H i = some r → c i ∈ ids c H
  | [], i, r, h => by cases h
  | (k, x) :: t, i, r, h => by
    rw [lk_cons] at h
    by_cases e : k = i
    · subst e; exact List.mem_cons_self ..
    · rw [if_neg e] at h; exact List.mem_cons_of_mem _ (ids_mem h)
theorem call_wp {f : FuncId} {fn : Func} {args all : List SV} {Bc Lc : Hp} {post : Out → List Res → Prop} {xs : Array Operand} {tys : Array TypeId} {cap : List Value} {gh : List Nat} {a : Act} {w : World} {K : Act → World → Prop}
    (hs : CSpec P f all Bc Lc post) (hf : P.funcs[f]? = some fn) (hb : fn.body.isNone = false) (hn : (fn.name == "runtime.NumGoroutine") = false) (c : Nat → Nat) (b : Nat)
    (hx : ev env x = some (.s (.one (.fn f cap gh)))) (ha : evs env xs.toList = some args) (hall : args.map SV.den ++ cap = all.map SV.den)
    (hB : GotB (lk2 B L) c Bc) (hL : Got (lk L) c Lc) (hnd : nodupB (ids c Lc) = true) (hbl : noneIn (ids c Lc) (ids c Bc) = true) (hnk : nodupB (Lc.map (·.1)) = true)
    (hsy : Sy env D n w0 M B L a w)
    (h : ∀ o Lr, post o Lr → match o with
      | .ret v => ∀ w', Sy env D n w0 M B (num b Lr ++ dels (ids c Lc) L) a w' → K (a.put dst v.den) w'
      | .pan ch => ∀ w', Sy env D n w0 M B (num b Lr ++ dels (ids c Lc) L) a w' → Q (.panic ch) a w') :
    Oper.wp P ⟨dst, .call { callee := .value x, args := xs, argTypes := tys }, ty, pos, af, gd⟩ a w K Q := by
  have h1 : a.eval x = .func (.func f) #[] cap.toArray := ev_sound hsy.tm hx
  have h2 := evs_sound hsy.tm ha
  have hp := hL.picks
  have hst : St w0 w M (Lc.map (·.2) ++ live (dels (ids c Lc) L)) := hsy.st.picks hp (nodupB_spec hnd)
  have elive : live Lc = Lc.map (·.2) := live_nodup (nodupB_spec hnk)
  have e1 : (xs.map a.eval ++ cap.toArray) = (all.map SV.den).toArray := by
    rw [← hall]
    apply Array.toList_inj.1
    simp [h2]
  have hdis := List.pairwise_append.1 hst.dis
  have hc := hs w (fun i r hi => (hB.lk hi).elim fun R hR => hR.2.h w (hsy.facts _ _ hR.1)) (fun r hr => hst.res r (List.mem_append_left _ (by rw [← elive]; exact hr))) (by rw [elive]; exact hdis.1) (fun i r hi s hs => by
    rw [elive] at hs
    obtain ⟨R, hg, hview⟩ := hB.lk hi
    unfold lk2 at hg
    cases hl : lk L (c i) with
    | none =>
      rw [hl] at hg
      intro b' hb' hb2
      have h8 := (hsy.bo _ _ hg).2 b' (hview.f b' hb')
      rcases hst.own s (List.mem_append_left _ hs) b' hb2 with h7 | h7
      · exact h8.2 h7
      · omega
    | some q =>
      rw [hl] at hg
      injection hg with hg
      subst hg
      have hmem : q ∈ live (dels (ids c Lc) L) := lk_live (by rw [lk_dels (noneIn_spec hbl _ (ids_mem hi))]; exact hl)
      exact fun b' hb' hb2 => hdis.2.2 s hs q hmem b' hb2 (hview.f b' hb'))
  have hr : (execOp a.eval ⟨dst, .call { callee := .value x, args := xs, argTypes := tys }, ty, pos, af, gd⟩).run P w = .ok (.enter f (all.map SV.den).toArray) w := by
    unfold execOp
    simp only [resolve, h1, Deferred.ofValue, Sem.run_bind, Sem.run_pure, Result.andThen, invoke, callFunc, run_program, hf, hn, hb, Array.empty_append, e1]
    rfl
  unfold Oper.wp
  rw [hr]
  refine hc.mono fun e w' ⟨out, Lr, he, hpost, hst2⟩ => ?_
  have hst3 : St w0 w' M (Lr ++ live (dels (ids c Lc) L)) := hst.callN hst2 (fun b hb => by
    obtain ⟨r, hr, hb⟩ := hb
    exact ⟨r, by rw [← elive]; exact hr, hb⟩)
  have hsy2 := hsy.to (L' := num b Lr ++ dels (ids c Lc) L) (w' := w') (St.append_live hst3)
  have h9 := h out Lr hpost
  cases out with
  | ret v => subst he; exact h9 w' hsy2
  | pan ch => subst he; exact h9 w' hsy2
theorem l_call {f : FuncId} {fn : Func} {args all : List SV} {Bc Lc : Hp} {post : Out → List Res → Prop} {xs : Array Operand} {tys : Array TypeId} {cap : List Value} {gh : List Nat} (b : Nat) (m : List (Nat × Nat))
    (hs : CSpec P f all Bc Lc post) (hf : P.funcs[f]? = some fn) (hx : ev env x = some (.s (.one (.fn f cap gh))) := by rfl) (ha : evs env xs.toList = some args := by rfl) (hall : args.map SV.den ++ cap = all.map SV.den := by rfl)
    (hB : GotB (lk2 B L) (cid m args) Bc := by repeat (first | exact trivial | refine ⟨⟨_, rfl, by first | assumption | exact View.refl _ | exact view_rows | exact view_tail (View.refl _) (by omega) (by omega) | exact view_take (View.refl _) | exact view_tail view_rows (by omega) (by omega) | exact view_take view_rows⟩, ?_⟩)) (hL : Got (lk L) (cid m args) Lc := by repeat (first | exact trivial | refine ⟨rfl, ?_⟩))
    (hnd : nodupB (ids (cid m args) Lc) = true := by rfl) (hbl : noneIn (ids (cid m args) Lc) (ids (cid m args) Bc) = true := by rfl) (hnk : nodupB (Lc.map (·.1)) = true := by rfl)
    (h : ∀ o Lr, post o Lr → match o with
      | .ret v => Ho ((d, v.up b) :: env) D n w0 M B (num b Lr ++ dels (ids (cid m args) Lc) L) (wpList P ops Q rest)
      | .pan ch => Ho env D n w0 M B (num b Lr ++ dels (ids (cid m args) Lc) L) (Q (.panic ch)))
    (hg : guarded ops env ⟨some d, .call { callee := .value x, args := xs, argTypes := tys }, ty, pos, af, gd⟩ = some true := by rfl) (hd : Nat.blt d n = true := by rfl) (hb : fn.body.isNone = false := by rfl) (hn : (fn.name == "runtime.NumGoroutine") = false := by rfl) :
    Ho env D n w0 M B L (wpList P ops Q (⟨some d, .call { callee := .value x, args := xs, argTypes := tys }, ty, pos, af, gd⟩ :: rest)) := fun a w hsy => by
  unfold wpList
  rw [if_pos (guarded_wanted hsy.tm hg)]
  refine .inl (call_wp hs hf hb hn (cid m args) b hx ha hall hB hL hnd hbl hnk hsy fun o Lr hp => ?_)
  have h9 := h o Lr hp
  cases o with
  | ret v => exact fun w' hs' => h9 _ _ (by have := hs'.put (v := v.up b) hd; rwa [v.den_up] at this)
  | pan ch => exact fun w' hs' => h9 _ _ hs'
theorem c_loop {c : Code} (I : Nat → Env → Hp → Prop) (ts : List Nat) (hs : List Nat) (m : Nat) (E : Env) (H : Hp) {re : Env} {rh : Hp} (hk : keepO env ts = some re := by rfl) (hh : keepO L hs = some rh := by rfl)
    (h0 : I m E H) (he : InE env (E ++ re)) (hl : InH L (H ++ rh)) (hn : nodupB ((H ++ rh).map (·.1)) = true := by rfl)
    (hr : ∀ m E H, I m E H → Ho (E ++ re) D n w0 M B (H ++ rh) (c.wp P (Exit.then (fun a w => ∃ m' E' H', m' < m ∧ I m' E' H' ∧ Sy (E' ++ re) D n w0 M B (H' ++ rh) a w) Q))) :
    Ho env D n w0 M B L ((Code.loop c).wp P Q) := fun a w hsy =>
  wp_loop_ghost (fun m a w => ∃ E H, I m E H ∧ Sy (E ++ re) D n w0 M B (H ++ rh) a w) m ⟨E, H, h0, he.tm hsy.tm, hsy.df, hl.st (nodupB_spec hn) hsy.st, hsy.bo⟩
    fun m a w ⟨E, H, hi, hsy⟩ => by
      refine wp_mono (hr m E H hi a w hsy) fun e a' w' hq => ?_
      cases e with
      | normal =>
        obtain ⟨m', E', H', h1, h2, h3⟩ := hq
        exact ⟨m', h1, E', H', h2, h3⟩
      | exit id => exact hq
      | goto l => exact hq
      | ret => exact hq
      | panic ch => exact hq
      | outgrown => exact hq
theorem k_again {I : Nat → Env → Hp → Prop} {m : Nat} {re : Env} {rh : Hp} (m' : Nat) {E' : Env} {H' : Hp} (hi : I m' E' H') (hm : m' < m) (he : InE env (E' ++ re)) (hl : InH L (H' ++ rh)) (hn : nodupB ((H' ++ rh).map (·.1)) = true := by rfl) :
    Ho env D n w0 M B L (fun a w => ∃ m' E' H', m' < m ∧ I m' E' H' ∧ Sy (E' ++ re) D n w0 M B (H' ++ rh) a w) := fun a w hsy =>
  ⟨m', E', H', hm, hi, he.tm hsy.tm, hsy.df, hl.st (nodupB_spec hn) hsy.st, hsy.bo⟩
theorem c_cut {c : Code} (I : Env → Hp → Prop) (ts hs : List Nat) {re : Env} {rh : Hp} (hk : keepO env ts = some re := by rfl) (hh : keepO L hs = some rh := by rfl)
    (h1 : Ho env D n w0 M B L (c.wp P (Exit.then (fun a w => ∃ E H, I E H ∧ Sy (E ++ re) D n w0 M B (H ++ rh) a w) Q))) (h2 : ∀ E H, I E H → Ho (E ++ re) D n w0 M B (H ++ rh) (Q .normal)) : Ho env D n w0 M B L (c.wp P Q) := fun a w hsy =>
  wp_mono (h1 a w hsy) fun e a' w' hq => by
    cases e with
    | normal => obtain ⟨E, H, hi, hs⟩ := hq; exact h2 E H hi a' w' hs
    | exit id => exact hq
    | goto l => exact hq
    | ret => exact hq
    | panic ch => exact hq
    | outgrown => exact hq
theorem k_join {I : Env → Hp → Prop} {re : Env} {rh : Hp} {E' : Env} {H' : Hp} (hi : I E' H') (he : InE env (E' ++ re)) (hl : InH L (H' ++ rh)) (hn : nodupB ((H' ++ rh).map (·.1)) = true := by rfl) :
    Ho env D n w0 M B L (fun a w => ∃ E H, I E H ∧ Sy (E ++ re) D n w0 M B (H ++ rh) a w) := fun a w hsy => ⟨E', H', hi, he.tm hsy.tm, hsy.df, hl.st (nodupB_spec hn) hsy.st, hsy.bo⟩
theorem keepO_lk {L : Hp} {F : List Nat} : ∀ {LF : Hp}, keepO L F = some LF → ∀ i r, lk LF i = some r → lk L i = some r := fun {LF} h i r hr => by
  have hi := keepO_inH h
  have gen : ∀ {H : Hp}, InH L H → ∀ i r, lk H i = some r → lk L i = some r := by
    intro H
    induction H with
    | nil => intro _ i r h; cases h
    | cons x t ih =>
      obtain ⟨k, q⟩ := x
      intro hi i r h
      rw [lk_cons] at h
      by_cases e : k = i
      · rw [if_pos e] at h; injection h with h; subst h; subst e; exact hi.1
      · rw [if_neg e] at h; exact ih hi.2 i r h
  exact gen hi i r hr
structure Cov (LF L : Hp) : Prop where
  go : ∀ i r, lk LF i = some r → lk L i = some r
theorem cov_of {LF L : Hp} (h : InH L LF) : Cov LF L := ⟨by
  induction LF with
  | nil => intro i r h; cases h
  | cons x t ih =>
    obtain ⟨k, q⟩ := x
    intro i r hr
    rw [lk_cons] at hr
    by_cases e : k = i
    · rw [if_pos e] at hr; injection hr with hr; subst hr; subst e; exact h.1
    · rw [if_neg e] at hr; exact ih h.2 i r hr⟩
def HoC (LF : Hp) (env : Env) (D : List Deferred) (n : Nat) (w0 : World) (M : Nat → Prop) (B L : Hp) (K : Act → World → Prop) : Prop := Cov LF L → Ho env D n w0 M B L K
theorem facts_cov {LF : Hp} {w : World} {a : Act} (hc : Cov LF L) (hs : Sy env D n w0 M B L a w) : Facts B LF w := fun i r hr => by
  unfold lk2 at hr
  cases hl : lk LF i with
  | some q => rw [hl] at hr; injection hr with hr; subst hr; exact hs.st.res _ (lk_live (hc.go i _ hl))
  | none => rw [hl] at hr; exact (hs.bo i r hr).1
variable {LF : Hp} {σ : Plan} {i : Nat}
theorem c_draw {id : Nat} {l : List Oper} (σ : Plan) (F : List Nat) {LF : Hp} (hF : keepO L F = some LF := by rfl) (hm : P.follows .mixedOrders = true) (hs : Region.noSelect l.toArray = true) (hk : schedOk .any l.toArray σ (Array.replicate l.length false) = true) (hl : Nat.ble σ.len l.length = true := by rfl)
    (hQ : ∀ (d : Option Tmp) v c a w, Q (.panic c) (a.put d v) w → Q (.panic c) a w) (h : HoC LF env D n w0 M B L (wpSched P l.toArray Q (Facts B LF) σ)) : Ho env D n w0 M B L ((Code.region id l.toArray true).wp P Q) := fun a w hsy =>
  wp_region_sched σ (Facts B LF) hm hs hk (Nat.le_of_ble_eq_true hl) hQ (h ⟨keepO_lk hF⟩ a w.drew ⟨hsy.tm, hsy.df, hsy.st.drew, fun i r hr => ⟨r.stable w w.drew (fun _ _ => rfl) (hsy.bo i r hr).1, (hsy.bo i r hr).2⟩⟩)
theorem q_rd {v : TV} {d : Nat} (hi : ops.toList[i]? = some o) (hr : Reads P o env n B LF v) (h : HoC LF ((d, v) :: env) D n w0 M B L (wpSched P ops Q (Facts B LF) σ)) (ho : o.dst = some d := by rfl) (hg : guarded ops env o = some true := by rfl) (hd : Nat.blt d n = true := by rfl) : HoC LF env D n w0 M B L (wpSched P ops Q (Facts B LF) (.q i σ)) := fun hc a w hs => by
  refine sched_r (v := v.den) hi (guarded_wanted hs.tm hg) (facts_cov hc hs) (fun w' hw' => hr a w' hs.tm hw') ?_
  rw [ho]
  exact h hc _ _ (hs.put hd)
theorem s_do {γ : Type} {env' : γ → Env} {L' : γ → Hp} {js : List Nat} (hi : ops.toList[i]? = some o) (hr : Does P o env D n w0 M B L env' L' js) (h : ∀ x, HoC LF (env' x) D n w0 M B (L' x) (wpSched P ops Q (Facts B LF) σ)) (hg : guarded ops env o = some true := by rfl) (hF : noneIn js (LF.map (·.1)) = true := by rfl) : HoC LF env D n w0 M B L (wpSched P ops Q (Facts B LF) (.s i σ)) := fun hc a w hs => by
  refine sched_s hi (guarded_wanted hs.tm hg) ?_
  refine hr.go a w _ _ hs fun x a' w' hs' => ?_
  have hc' : Cov LF (L' x) := ⟨fun j r hj => by
    rw [hr.kp x j ?_]
    · exact hc.go j r hj
    · have hm : j ∈ LF.map (·.1) := by
        have gen : ∀ (H : Hp), lk H j = some r → j ∈ H.map (·.1) := by
          intro H
          induction H with
          | nil => intro h; cases h
          | cons x t ih =>
            obtain ⟨k, v⟩ := x
            intro h
            rw [lk_cons] at h
            by_cases e : k = j
            · simp [e]
            · rw [if_neg e] at h
              exact List.mem_cons_of_mem _ (ih h)
        exact gen LF hj
      have := noneIn_spec hF j hm
      simpa using this⟩
  exact ⟨facts_cov hc' hs', h x hc' a' w' hs'⟩
theorem s_nil (h : Ho env D n w0 M B L (Q .normal)) : HoC LF env D n w0 M B L (wpSched P ops Q (Facts B LF) .nil) := fun _ => h
theorem s_two {i j : Nat} {σ τ : Plan} (h1 : HoC LF env D n w0 M B L (wpSched P ops Q (Facts B LF) (.s i σ))) (h2 : HoC LF env D n w0 M B L (wpSched P ops Q (Facts B LF) (.s j τ))) : HoC LF env D n w0 M B L (wpSched P ops Q (Facts B LF) (.s2 i σ j τ)) := fun hc a w hs => ⟨h1 hc a w hs, h2 hc a w hs⟩
theorem s_call {f : FuncId} {fn : Func} {args all : List SV} {Bc Lc : Hp} {post : Out → List Res → Prop} {xs : Array Operand} {tys : Array TypeId} {cap : List Value} {gh : List Nat} (hi : ops.toList[i]? = some ⟨some d, .call { callee := .value x, args := xs, argTypes := tys }, ty, pos, af, gd⟩) (b : Nat) (m : List (Nat × Nat))
    (hs : CSpec P f all Bc Lc post) (hf : P.funcs[f]? = some fn) (hx : ev env x = some (.s (.one (.fn f cap gh))) := by rfl) (ha : evs env xs.toList = some args := by rfl) (hall : args.map SV.den ++ cap = all.map SV.den := by rfl)
    (hB : GotB (lk2 B L) (cid m args) Bc := by repeat (first | exact trivial | refine ⟨⟨_, rfl, by first | assumption | exact View.refl _ | exact view_rows | exact view_tail (View.refl _) (by omega) (by omega) | exact view_take (View.refl _) | exact view_tail view_rows (by omega) (by omega) | exact view_take view_rows⟩, ?_⟩)) (hL : Got (lk L) (cid m args) Lc := by repeat (first | exact trivial | refine ⟨rfl, ?_⟩))
    (hnd : nodupB (ids (cid m args) Lc) = true := by rfl) (hbl : noneIn (ids (cid m args) Lc) (ids (cid m args) Bc) = true := by rfl) (hnk : nodupB (Lc.map (·.1)) = true := by rfl)
    (h : ∀ o Lr, post o Lr → match o with
      | .ret v => Cov LF (num b Lr ++ dels (ids (cid m args) Lc) L) ∧ HoC LF ((d, v.up b) :: env) D n w0 M B (num b Lr ++ dels (ids (cid m args) Lc) L) (wpSched P ops Q (Facts B LF) σ)
      | .pan ch => Ho env D n w0 M B (num b Lr ++ dels (ids (cid m args) Lc) L) (Q (.panic ch)))
    (hg : guarded ops env ⟨some d, .call { callee := .value x, args := xs, argTypes := tys }, ty, pos, af, gd⟩ = some true := by rfl) (hd : Nat.blt d n = true := by rfl) (hb : fn.body.isNone = false := by rfl) (hn : (fn.name == "runtime.NumGoroutine") = false := by rfl) :
    HoC LF env D n w0 M B L (wpSched P ops Q (Facts B LF) (.s i σ)) := fun hc a w hsy => by
  refine sched_s hi (guarded_wanted hsy.tm hg) ?_
  refine call_wp hs hf hb hn (cid m args) b hx ha hall hB hL hnd hbl hnk hsy fun o Lr hp => ?_
  have h9 := h o Lr hp
  cases o with
  | ret v => exact fun w' hs' => ⟨facts_cov h9.1 hs', h9.2 h9.1 _ _ (by have := hs'.put (v := v.up b) hd; rwa [v.den_up] at this)⟩
  | pan ch => exact fun w' hs' => h9 _ _ hs'
end
end HL
end Go.Proofs.YtfopgaijfeeioaaGreat
/- SYMBOLIC STATES: hashes, slices, append, structs put together, strings. My own text; it names no program. -/

set_option linter.unusedVariables false
set_option linter.unusedSimpArgs false
set_option linter.unusedSectionVars false
namespace Go.Proofs.YtfopgaijfeeioaaGreat
namespace HL
open Go Go.RowKit
def hashEn : En Hash := ⟨fun h => .agg [.hash h], true, 32, fun _ => ⟨rfl, rfl⟩, by decide⟩
def byteEn : En UInt8 := ⟨fun b => .one (.i .u8 b.toNat), false, 1, fun _ => ⟨rfl, rfl⟩, by decide⟩
def intEn (k : IntKind) : En Int := ⟨fun n => .one (.i k n), false, 1, fun _ => ⟨rfl, rfl⟩, by decide⟩
def strEn : En ByteArray := ⟨fun s => .one (.s s), false, 1, fun _ => ⟨rfl, rfl⟩, by decide⟩
def boolEn : En Bool := ⟨fun s => .one (.b s), false, 1, fun _ => ⟨rfl, rfl⟩, by decide⟩
class HashT (P : Program) (T : TypeId) : Prop where
  key : KeyTy P T hval 2
  eg : P.eqGuardType P.depth T = false
class ElT (P : Program) (e : TypeId) {α : outParam Type} (E : outParam (En α)) : Prop where
class PLS (P : Program) (T : TypeId) (fs : outParam (List SV)) : Prop where
  is : structPlaces P T = some (placesOf (fs.map SV.den) 0)
section
variable {P : Program} {env : Env} {D : List Deferred} {n : Nat} {w0 : World} {M : Nat → Prop} {B L : Hp}
variable {dst : Option Tmp} {d : Nat} {ty : TypeId} {pos : String} {af : Array Edge} {gd : Option (Nat × Bool)} {x y z : Operand} {T T' : TypeId}
theorem r_eqH {a b : Hash} [hT : HashT P T] (hx : ev env x = some (vh a) := by rfl) (hy : ev env y = some (vh b) := by rfl) : Reads P ⟨dst, .binOp .eql T x y T', ty, pos, af, gd⟩ env n B L (vb (decide (a = b))) := fun c w ht _ => by
  unfold execOp
  have h1 : c.eval x = hval a := ev_sound ht hx
  have h2 : c.eval y = hval b := ev_sound ht hy
  have := run_binEq hT.key.eq (by omega) isAgg_hval hT.eg a b x y w
  simp only [h1, h2]
  rw [Sem.run_bind, this]
  rfl
theorem r_neH {a b : Hash} [hT : HashT P T] (hx : ev env x = some (vh a) := by rfl) (hy : ev env y = some (vh b) := by rfl) : Reads P ⟨dst, .binOp .neq T x y T', ty, pos, af, gd⟩ env n B L (vb (!decide (a = b))) := fun c w ht _ => by
  unfold execOp
  have h1 : c.eval x = hval a := ev_sound ht hx
  have h2 : c.eval y = hval b := ev_sound ht hy
  have := run_binNe hT.key.eq (by omega) isAgg_hval hT.eg a b x y w
  simp only [h1, h2]
  rw [Sem.run_bind, this]
  rfl
theorem dens_byte (l : List UInt8) : flat (byteEn.dens l) = bcells l := by
  induction l with
  | nil => show flat [] = []; exact flat_nil
  | cons b l ih =>
    show flat (.int .u8 b.toNat :: byteEn.dens l) = .int .u8 b.toNat :: bcells l
    rw [flat_cons, ih]
    rfl
theorem dens_hash (h : Hash) : flat (byteEn.dens h.toList) = flat [hval h] := by rw [dens_byte, flat_single, cells_hval, hcells_eq]
theorem src_of {α : Type} {A : Option Addr} {E : En α} {l : List α} {w : World} (h : RdS w A (flat (E.dens l))) : Src w A l.length E.sz (flat (E.dens l)) := by
  refine ⟨?_, fun hA => ?_, h, ok1_flat fun v hv => ?_⟩
  · rw [length_flat, szs_const (E.sizes l)]
    unfold En.dens
    rw [List.length_map]
  · subst hA
    rcases h with h | ⟨ad, h, _⟩
    · cases l with
      | nil => rfl
      | cons a l => exact absurd h (flat_pos (by simp))
    · cases h
  · obtain ⟨x, _, rfl⟩ := List.mem_map.1 hv
    exact (E.f x).ok1
theorem append_wp {α : Type} {i j c c' m' bytes sz : Nat} {A A' : Option Addr} {e : TypeId} {E : En α} {l l' : List α} {agg : Bool} {z : SV} [hu : UD P T (.slice e)] [hT : TyA P e agg sz z bytes] (hx : ev env x = some (vsl i A l.length c)) (hy : ev env y = some (vsl j A' m' c')) (hr : lk L i = some (Res.rows A c e E l)) (hz : sz = E.sz) (hm : m' = l'.length)
    (hr' : ∀ w, Facts B L w → RdS w A' (flat (E.dens l'))) (hb : (l.length + l'.length) * bytes ≤ 140737488355328 ∧ l.length + l'.length ≤ 140737488355328) (hd : Nat.blt d n = true) :
    Does P ⟨some d, .call { callee := .builtin .append, args := #[x, y], argTypes := #[T, T] }, ty, pos, af, gd⟩ env D n w0 M B L (fun p : Option Addr × Nat => (d, vsl i p.1 (l ++ l').length p.2) :: env) (fun p => (i, Res.rows p.1 p.2 e E (l ++ l')) :: L) [i] :=
  ⟨fun a w K Q hs hk => by
    subst hm; subst hz
    have h1 : a.eval x = .slice A l.length c := ev_sound hs.tm hx
    have h2 : a.eval y = .slice A' l'.length c' := ev_sound hs.tm hy
    have hf := live_front hs.st hr
    have hrow : seg w e E.sz A l.length c (flat (E.dens l)) := by
      have := hf.res _ (List.mem_cons_self ..)
      unfold Res.rows Res.row at this
      exact this
    have hzs : z.den.cells.size = E.sz := by rw [z.sz_den, hT.zs]
    obtain ⟨Bn, c2, w', hrun, q1, q2, q3, q4, q5, qd, q6, q7⟩ := run_append (ty := ty) (c' := c') hu.is hT.is E.pos hzs hrow (src_of (hr' w hs.facts)) hb.1 hb.2
    unfold Oper.wp execOp
    simp only [resolve, invoke, builtin, Sem.run_bind, Sem.run_pure, Result.andThen_ok, List.map_toArray, List.map_cons, List.map_nil, h1, h2]
    rw [hrun]
    refine hk (Bn, c2) _ w' ?_
    have h3 := hs.put (v := vsl i Bn (l ++ l').length c2) hd
    have e1 : (vsl i Bn (l ++ l').length c2).den = Value.slice Bn (l.length + l'.length) c2 := by show Value.slice Bn (l ++ l').length c2 = _; rw [List.length_append]
    rw [e1] at h3
    refine h3.to ?_
    rw [live_cons]
    refine hf.turn (i := 0) rfl q2 q3 q4 q5 (fun b hb' hn => q6 b hb' (fun e => hn (fp_row.2 e))) ?_ (fun b hb' => (q7 b (fp_row.1 hb')).imp (fun e => fp_row.2 e) id) qd
    unfold Res.rows Res.row
    have e2 : E.dens (l ++ l') = E.dens l ++ E.dens l' := List.map_append ..
    rw [e2, flat_append, List.length_append]
    exact q1, kp_one⟩
theorem d_append {α : Type} {i j c c' m m' bytes sz : Nat} {A A' A2 : Option Addr} {R : Res} {e : TypeId} {E : En α} {l l' : List α} {agg : Bool} {z : SV} [hu : UD P T (.slice e)] [hT : TyA P e agg sz z bytes] (hx : ev env x = some (vsl i A m c) := by rfl) (hy : ev env y = some (vsl j A' m' c') := by rfl) (hr : lk L i = some (Res.rows A2 c e E l) := by rfl) (hA : A2 = A := by rfl) (hr' : lk2 B L j = some R := by rfl) (hro : RowM R A' m' E l' := by first | exact ⟨View.row (by assumption), by first | rfl | assumption | omega⟩ | exact ⟨rowOf_rows, by first | rfl | assumption | (simp only [List.length_drop, List.length_take, List.length_append, List.length_cons, List.length_nil]; done) | (simp only [List.length_drop, List.length_take, List.length_append, List.length_cons, List.length_nil]; omega) | omega⟩ | exact ⟨rowOf_rd, by first | rfl | assumption | (simp only [List.length_drop, List.length_take, List.length_append, List.length_cons, List.length_nil]; done) | (simp only [List.length_drop, List.length_take, List.length_append, List.length_cons, List.length_nil]; omega) | omega⟩ | exact ⟨rowOf_tail rowOf_rd (by omega) (by omega), by first | rfl | assumption | (simp only [List.length_drop, List.length_take, List.length_append, List.length_cons, List.length_nil]; done) | (simp only [List.length_drop, List.length_take, List.length_append, List.length_cons, List.length_nil]; omega) | omega⟩ | exact rowM_take rowOf_rd (by omega) | exact rowM_take (rowOf_tail rowOf_rd (by omega) (by omega)) (by first | omega | (simp only [List.length_drop]; omega)) | exact ⟨rowOf_tail rowOf_rows (by omega) (by omega), by first | rfl | assumption | (simp only [List.length_drop, List.length_take, List.length_append, List.length_cons, List.length_nil]; done) | (simp only [List.length_drop, List.length_take, List.length_append, List.length_cons, List.length_nil]; omega) | omega⟩ | exact rowM_take rowOf_rows (by omega) | exact rowM_take (rowOf_tail rowOf_rows (by omega) (by omega)) (by first | omega | (simp only [List.length_drop]; omega))) (hz : sz = E.sz := by rfl) (hm : m = l.length := by first | rfl | assumption | (simp only [List.length_append, List.length_cons, List.length_nil]; omega))
    (hb : (l.length + l'.length) * bytes ≤ 140737488355328 ∧ l.length + l'.length ≤ 140737488355328 := by first | omega | (simp only [List.length_append, List.length_cons, List.length_nil, List.length_drop, List.length_take]; omega)) (hd : Nat.blt d n = true := by rfl) :
    Does P ⟨some d, .call { callee := .builtin .append, args := #[x, y], argTypes := #[T, T] }, ty, pos, af, gd⟩ env D n w0 M B L (fun p : Option Addr × Nat => (d, vsl i p.1 (l ++ l').length p.2) :: env) (fun p => (i, Res.rows p.1 p.2 e E (l ++ l')) :: L) [i] := by
  subst hA; subst hm
  exact append_wp hx hy hr hz hro.len (fun w hf => hro.is.is w (hf j _ hr')) hb hd
theorem d_append0 {α : Type} {i j c' m' bytes sz : Nat} {A' : Option Addr} {R : Res} {e : TypeId} {E : En α} {l' : List α} {agg : Bool} {z : SV} [hu : UD P T (.slice e)] [hT : TyA P e agg sz z bytes] (hx : ev env x = some (vsl i none 0 0) := by rfl) (hy : ev env y = some (vsl j A' m' c') := by rfl) (hr' : lk2 B L j = some R := by rfl) (hro : RowM R A' m' E l' := by first | exact ⟨View.row (by assumption), by first | rfl | assumption | omega⟩ | exact ⟨rowOf_rows, by first | rfl | assumption | (simp only [List.length_drop, List.length_take, List.length_append, List.length_cons, List.length_nil]; done) | (simp only [List.length_drop, List.length_take, List.length_append, List.length_cons, List.length_nil]; omega) | omega⟩ | exact ⟨rowOf_rd, by first | rfl | assumption | (simp only [List.length_drop, List.length_take, List.length_append, List.length_cons, List.length_nil]; done) | (simp only [List.length_drop, List.length_take, List.length_append, List.length_cons, List.length_nil]; omega) | omega⟩ | exact ⟨rowOf_tail rowOf_rd (by omega) (by omega), by first | rfl | assumption | (simp only [List.length_drop, List.length_take, List.length_append, List.length_cons, List.length_nil]; done) | (simp only [List.length_drop, List.length_take, List.length_append, List.length_cons, List.length_nil]; omega) | omega⟩ | exact rowM_take rowOf_rd (by omega) | exact rowM_take (rowOf_tail rowOf_rd (by omega) (by omega)) (by first | omega | (simp only [List.length_drop]; omega)) | exact ⟨rowOf_tail rowOf_rows (by omega) (by omega), by first | rfl | assumption | (simp only [List.length_drop, List.length_take, List.length_append, List.length_cons, List.length_nil]; done) | (simp only [List.length_drop, List.length_take, List.length_append, List.length_cons, List.length_nil]; omega) | omega⟩ | exact rowM_take rowOf_rows (by omega) | exact rowM_take (rowOf_tail rowOf_rows (by omega) (by omega)) (by first | omega | (simp only [List.length_drop]; omega))) (hz : sz = E.sz := by rfl)
    (hb : l'.length * bytes ≤ 140737488355328 ∧ l'.length ≤ 140737488355328 := by first | omega | (simp only [List.length_append, List.length_cons, List.length_nil, List.length_drop, List.length_take]; omega)) (hd : Nat.blt d n = true := by rfl) :
    Does P ⟨some d, .call { callee := .builtin .append, args := #[x, y], argTypes := #[T, T] }, ty, pos, af, gd⟩ env D n w0 M B L (fun p : Option Addr × Nat => (d, vsl (10000 + d) p.1 l'.length p.2) :: env) (fun p => (10000 + d, Res.rows p.1 p.2 e E l') :: L) [10000 + d] :=
  ⟨fun a w K Q hs hk => by
    obtain rfl := hro.len
    subst hz
    have h1 : a.eval x = .slice none 0 0 := ev_sound hs.tm hx
    have h2 : a.eval y = .slice A' l'.length c' := ev_sound hs.tm hy
    have hzs : z.den.cells.size = E.sz := by rw [z.sz_den, hT.zs]
    obtain ⟨Bn, c2, w', hrun, q1, q2, q3, q4, q5, qd, q6, q7⟩ := run_append (ty := ty) (c' := c') hu.is hT.is E.pos hzs (seg_nil w e E.sz) (src_of (hro.is.is w (hs.facts j _ hr'))) (by simpa using hb.1) (by simpa using hb.2)
    simp only [Nat.zero_add, List.nil_append] at hrun q1
    unfold Oper.wp execOp
    simp only [resolve, invoke, builtin, Sem.run_bind, Sem.run_pure, Result.andThen_ok, List.map_toArray, List.map_cons, List.map_nil, h1, h2]
    rw [hrun]
    refine hk (Bn, c2) _ w' ?_
    have h3 := hs.put (v := vsl (10000 + d) Bn l'.length c2) hd
    refine h3.to (live_new ?_)
    refine hs.st.new q2 q3 q4 q5 (fun b hb' => q6 b hb' (by simp [obl])) ?_ (fun b hb' => (q7 b (fp_row.1 hb')).resolve_left (by simp [obl])) qd
    unfold Res.rows Res.row
    exact q1, kp_one⟩
def elemsIn (env : Env) : Nat → List (Nat × Operand) → Option (List SV)
  | _, [] => some []
  | k, (i, x) :: ps => bif Nat.beq i k then (match ev env x with
    | some (.s v) => match elemsIn env (k + 1) ps with
      | some vs => some (v :: vs)
      | none => none
    | _ => none) else none
theorem elemsIn_spec {a : Act} (ht : Tm env n a) : ∀ {ps : List (Nat × Operand)} {k : Nat} {vs : List SV}, elemsIn env k ps = some vs → ps.map (fun p => (p.1, a.eval p.2)) = (List.range' k vs.length).zip (vs.map SV.den)
  | [], k, vs, h => by unfold elemsIn at h; injection h with h; subst h; rfl
  | (i, x) :: ps, k, vs, h => by
    unfold elemsIn at h
    cases hb : Nat.beq i k with
    | false => rw [hb] at h; cases h
    | true =>
      rw [hb] at h
      simp only [cond_true] at h
      split at h
      · rename_i v hv
        split at h
        · rename_i vs' hvs
          injection h with h
          subst h
          have := Nat.eq_of_beq_eq_true hb
          subst this
          simp only [List.map_cons, List.length_cons, List.range'_succ, List.zip_cons_cons, elemsIn_spec ht hvs, ev_sound ht hv]
          rfl
        · cases h
      · cases h
theorem d_bslice {α : Type} (l : List α) {parts : Array (Nat × Operand)} {m bytes sz : Nat} {e : TypeId} {E : En α} {vs : List SV} {agg : Bool} {z : SV} [hu : UD P T (.slice e)] [hT : TyA P e agg sz z bytes] [hE : ElT P e E] (hp : elemsIn env 0 parts.toList = some vs := by rfl) (hv : vs.map SV.den = E.dens l := by rfl) (hz : sz = E.sz := by rfl) (hm : m = l.length := by rfl) (hbig : Nat.ble (l.length * sz) 16777216 = true := by rfl) (hd : Nat.blt d n = true := by rfl) :
    Does P ⟨some d, .buildSlice T m parts, ty, pos, af, gd⟩ env D n w0 M B L (fun A : Option Addr => (d, vsl (10000 + d) A l.length l.length) :: env) (fun A => (10000 + d, Res.rows A l.length e E l) :: L) [10000 + d] :=
  ⟨fun a w K Q hs hk => by
    subst hz; subst hm
    have hbig' := Nat.le_of_ble_eq_true hbig
    have hlen : (E.dens l).length = l.length := by unfold En.dens; rw [List.length_map]
    have hvl : vs.length = l.length := by rw [← hlen, ← hv, List.length_map]
    have hparts : (parts.map fun (i, x) => (i, a.eval x)) = ((List.range' 0 (E.dens l).length).zip (E.dens l)).toArray := by
      apply Array.toList_inj.1
      rw [Array.toList_map, hlen, ← hvl, ← hv]
      exact elemsIn_spec hs.tm hp
    have hr := run_buildSlice (P := P) (t := T) hu.is hT.is (by rw [z.sz_den, hT.zs]) (E.dens l) (E.sizes l) (by rw [hlen]; exact hbig') w
    rw [hlen] at hr hparts
    unfold Oper.wp execOp
    simp only [Sem.run_bind]
    rw [hparts, hr]
    refine hk (some ⟨w.heap.size, 0, none⟩) _ _ ?_
    have h3 := hs.put (v := vsl (10000 + d) (some ⟨w.heap.size, 0, none⟩) l.length l.length) hd
    refine h3.to (live_new ?_)
    refine hs.st.new (w' := w.alloc (.cells (flat (E.dens l)).toArray e)) rfl rfl rfl (by simp) (fun b hb => Below.heap_alloc w _ b hb) ?_ (fun b hb => ?_)
    · have hml : (E.dens l).length ≤ maxLen := by
        rw [hlen]
        have := Nat.le_mul_of_pos_right l.length E.pos
        simp only [maxLen]
        omega
      have := seg_lit w e E.sz (E.dens l) (E.sizes l) hml
      rw [hlen] at this
      unfold Res.rows Res.row
      exact this
    · have := fp_row.1 hb
      simp [obl] at this
      omega, kp_one⟩
def setF : List SV → Nat → SV → Option (List SV)
  | [], _, _ => none
  | u :: us, 0, v => bif Nat.beq (ats v.ats) (ats u.ats) then some (v :: us) else none
  | u :: us, k + 1, v => match setF us k v with
    | some r => some (u :: r)
    | none => none
def bldF (env : Env) : List SV → List (Nat × Operand) → Option (List SV)
  | fs, [] => some fs
  | fs, (i, x) :: ps => match ev env x with
    | some (.s v) => match setF fs i v with
      | some fs' => bldF env fs' ps
      | none => none
    | _ => none
def flatF : List SV → Option (List At)
  | [] => some []
  | v :: vs => match flatF vs with
    | some r => appF v.ats r
    | none => none
theorem setF_spec : ∀ {fs : List SV} {k : Nat} {v : SV} {fs' : List SV}, setF fs k v = some fs' → fs' = fs.set k v ∧ ∃ u, fs[k]? = some u ∧ ats v.ats = ats u.ats
  | [], _, _, _, h => by unfold setF at h; cases h
  | u :: us, 0, v, fs', h => by
    unfold setF at h
    cases hb : Nat.beq (ats v.ats) (ats u.ats) with
    | false => rw [hb] at h; cases h
    | true => rw [hb] at h; injection h with h; subst h; exact ⟨rfl, u, rfl, Nat.eq_of_beq_eq_true hb⟩
  | u :: us, k + 1, v, fs', h => by
    unfold setF at h
    split at h
    · rename_i r hr
      injection h with h
      subst h
      obtain ⟨h1, u', h2, h3⟩ := setF_spec hr
      exact ⟨by rw [h1]; rfl, u', h2, h3⟩
    · cases h
theorem bldF_spec {a : Act} (ht : Tm env n a) : ∀ {ps : List (Nat × Operand)} {fs fs' : List SV}, bldF env fs ps = some fs' → ∃ qs : List (Nat × Value), ps.map (fun p => (p.1, a.eval p.2)) = qs ∧ partsFit (fs.map SV.den) qs ∧ applyParts (fs.map SV.den) qs = fs'.map SV.den
  | [], fs, fs', h => by unfold bldF at h; injection h with h; subst h; exact ⟨[], rfl, trivial, rfl⟩
  | (i, x) :: ps, fs, fs', h => by
    unfold bldF at h
    split at h
    · rename_i v hv
      split at h
      · rename_i fs1 hs
        obtain ⟨e1, u, h2, h3⟩ := setF_spec hs
        obtain ⟨qs, q1, q2, q3⟩ := bldF_spec ht h
        have e2 : (fs.map SV.den).set i v.den = fs1.map SV.den := by rw [e1, List.map_set]
        refine ⟨(i, v.den) :: qs, ?_, ⟨⟨u.den, by rw [List.getElem?_map, h2]; rfl, by rw [v.sz_den, u.sz_den, h3]⟩, by rw [e2]; exact q2⟩, ?_⟩
        · rw [List.map_cons, q1, ev_sound ht hv]
          rfl
        · show applyParts ((fs.map SV.den).set i v.den) qs = _
          rw [e2]
          exact q3
      · cases h
    · cases h
theorem flatF_spec : ∀ {fs : List SV} {as : List At}, flatF fs = some as → flat (fs.map SV.den) = flat (vals as)
  | [], as, h => by unfold flatF at h; injection h with h; subst h; rfl
  | v :: vs, as, h => by
    unfold flatF at h
    split at h
    · rename_i r hr
      rw [appF_eq] at h
      injection h with h
      subst h
      rw [List.map_cons, flat_cons, flatF_spec hr, SV.cells_den, vals_append, flat_append]
    · cases h
theorem r_build {parts : Array (Nat × Operand)} {fz fs : List SV} {as : List At} {agg : Bool} {sz bytes : Nat} {z : SV} [hT : TyA P T agg sz z bytes] [hp : PLS P T fz] (hb : bldF env fz parts.toList = some fs := by rfl) (hf : flatF fs = some as := by rfl) (hz : flatF fz = some z.ats := by rfl) (ha : z.isAgg = true := by rfl) : Reads P ⟨dst, .build T parts, ty, pos, af, gd⟩ env n B L (.s (.agg as)) := fun a w ht _ => by
  obtain ⟨qs, q1, q2, q3⟩ := bldF_spec ht hb
  have hparts : (parts.map fun (i, x) => (i, a.eval x)) = qs.toArray := by
    apply Array.toList_inj.1
    rw [Array.toList_map]
    exact q1
  have hzd : z.den = mkS (fz.map SV.den) := by
    obtain ⟨zs, rfl⟩ : ∃ zs, z = .agg zs := by cases z with | one p => cases ha | agg zs => exact ⟨zs, rfl⟩
    rw [SV.den_agg]
    have h9 := flatF_spec hz
    unfold mkS
    rw [h9]
    rfl
  have hTi := hT.is
  rw [hzd] at hTi
  have hrun := run_buildS hTi hp.is qs q2 w
  rw [q3] at hrun
  unfold execOp
  simp only [Sem.run_bind]
  rw [hparts, hrun]
  have e : mkS (fs.map SV.den) = (SV.agg as).den := by
    rw [SV.den_agg]
    unfold mkS
    rw [flatF_spec hf]
  rw [e]
  rfl
def caps (env : Env) : List Operand → Option (List Value × List Nat)
  | [] => some ([], [])
  | x :: xs => match ev env x with
    | some (.s (.one (.ptr i a))) => match caps env xs with
      | some (vs, gs) => some (.pointer (some a) :: vs, i :: gs)
      | none => none
    | _ => none
theorem caps_spec {a : Act} (ht : Tm env n a) : ∀ {xs : List Operand} {vs : List Value} {gs : List Nat}, caps env xs = some (vs, gs) → xs.map a.eval = vs
  | [], vs, gs, h => by unfold caps at h; cases h; rfl
  | x :: xs, vs, gs, h => by
    unfold caps at h
    split at h
    · rename_i i ad hx
      split at h
      · rename_i vs' gs' hc
        injection h with h
        injection h with h1 h2
        subst h1
        rw [List.map_cons, caps_spec ht hc, ev_sound ht hx]
        rfl
      · cases h
    · cases h
theorem r_makeFunc {f : FuncId} {xs : Array Operand} {vs : List Value} {gs : List Nat} (hc : caps env xs.toList = some (vs, gs) := by rfl) : Reads P ⟨dst, .makeFunc (.func f) #[] xs, ty, pos, af, gd⟩ env n B L (.s (.one (.fn f vs gs))) := fun a w ht _ => by
  unfold execOp
  have h1 := caps_spec ht hc
  have h2 : xs.map a.eval = vs.toArray := by
    apply Array.toList_inj.1
    rw [Array.toList_map, h1]
  simp only [h2, Instr.makeFunc, Sem.run_bind, Sem.run_pure, Result.andThen_ok]
  have h3 : (#[] : Array Operand).map a.eval = #[] := by simp
  rw [h3]
  rfl
theorem den_int {k : IntKind} {a b : Int} (h : a = b) : (vi k a).den = (vi k b).den := by rw [h]
theorem r_sliceH {e : TypeId} {i m c j sz bytes : Nat} {A : Option Addr} {k : IntKind} {p : Int} {agg : Bool} {zz : SV} [hu : UD P T (.slice e)] [hT : TyA P e agg sz zz bytes] (hx : ev env x = some (vsl i A m c) := by rfl) (hy : ev env y = some (vi k p) := by rfl) (hp : p = (j : Int) := by first | rfl | omega) (hj : j ≤ c := by omega) : Reads P ⟨dst, .slice T x none (some y) none, ty, pos, af, gd⟩ env n B L (vsl i A j c) := fun a w ht _ => by
  have h1 : a.eval x = .slice A m c := ev_sound ht hx
  have h2 : a.eval y = .int k p := ev_sound ht hy
  have h3 := run_sliceHi (P := P) (t := T) (A := A) (n := m) (c := c) (k := k) (j := p) hu.is hT.is (by omega) (by omega) w
  unfold execOp
  simp only [h1, h2, Option.map_none, Option.map_some]
  rw [Sem.run_bind, h3, hp]
  rfl
theorem r_sliceL {e : TypeId} {i m c j sz bytes : Nat} {A : Option Addr} {k : IntKind} {p : Int} {agg : Bool} {zz : SV} [hu : UD P T (.slice e)] [hT : TyA P e agg sz zz bytes] (hx : ev env x = some (vsl i A m c) := by rfl) (hy : ev env y = some (vi k p) := by rfl) (hp : p = (j : Int) := by first | rfl | omega) (hj : j ≤ m := by omega) : Reads P ⟨dst, .slice T x (some y) none none, ty, pos, af, gd⟩ env n B L (vsl i (tailA A c j sz) (m - j) (c - j)) := fun a w ht _ => by
  have h1 : a.eval x = .slice A m c := ev_sound ht hx
  have h2 : a.eval y = .int k p := ev_sound ht hy
  have h3 := run_sliceLo (P := P) (t := T) (A := A) (n := m) (c := c) (k := k) (j := p) hu.is hT.is (by omega) (by omega) w
  unfold execOp
  simp only [h1, h2, Option.map_none, Option.map_some]
  rw [Sem.run_bind, h3, hp]
  rfl
theorem run_sliceArrA {t e : TypeId} {n : Nat} {agg : Bool} {sz bytes : Nat} {z : Value} (hu : P.underlying t = some (.array n e)) (hT : TyIs P e agg sz z bytes) (ad : Addr) (w : World) : (Instr.sliceAt t (.pointer (some ad)) none none none).run P w = .ok (.slice (some ad) n n) w := by
  have hs := hT.size w
  unfold Instr.sliceAt
  simp only [Sem.run_bind, run_underlying hu, Result.andThen]
  simp [Instr.sureAddr, Instr.sliceBounds, hs, Sem.run_bind, Result.andThen, add_zero]
theorem r_sliceArr {g i off m : Nat} {e : TypeId} {agg : Bool} {sz bytes : Nat} {zz : SV} [hu : UD P T (.array m e)] [hT : TyA P e agg sz zz bytes] (hx : ev env x = some (vp i ⟨g, off, none⟩) := by rfl) : Reads P ⟨dst, .slice T x none none none, ty, pos, af, gd⟩ env n B L (vsl i (some ⟨g, off, none⟩) m m) := fun a w ht _ => by
  have h1 : a.eval x = .pointer (some ⟨g, off, none⟩) := ev_sound ht hx
  unfold execOp
  simp only [h1, Option.map_none]
  rw [Sem.run_bind, run_sliceArrA hu.is hT.is _ w]
  rfl
theorem r_sliceArrE {i j off m sz' : Nat} {ad : Addr} {e : TypeId} {agg : Bool} {sz bytes : Nat} {zz : SV} [hu : UD P T (.array m e)] [hT : TyA P e agg sz zz bytes] (hx : ev env x = some (.s (.one (.el i ad sz' j off))) := by rfl) : Reads P ⟨dst, .slice T x none none none, ty, pos, af, gd⟩ env n B L (vsl i (some ((ad.add (j * sz')).add off)) m m) := fun a w ht _ => by
  have h1 : a.eval x = .pointer (some ((ad.add (j * sz')).add off)) := ev_sound ht hx
  unfold execOp
  simp only [h1, Option.map_none]
  rw [Sem.run_bind, run_sliceArrA hu.is hT.is _ w]
  rfl
theorem convStr_of {i m c : Nat} {A : Option Addr} {e : TypeId} {bs : List UInt8} [h1 : UD P T (.slice e)] [h2 : UD P e (.int .u8)] [h3 : UD P T' .string] (hx : ev env x = some (vsl i A m c)) (hm : m = bs.length) (hr : ∀ w, Facts B L w → RdS w A (bcells bs)) : Reads P ⟨dst, .convert T T' x, ty, pos, af, gd⟩ env n B L (vs (ba bs)) := fun a w ht hf => by
  subst hm
  have h4 : a.eval x = .slice A bs.length c := ev_sound ht hx
  unfold execOp
  simp only [h4]
  rw [Sem.run_bind, run_convStr h1.is h2.is h3.is (hr w hf)]
  rfl
theorem r_convStr {i m c : Nat} {A : Option Addr} {R : Res} {e : TypeId} {bs : List UInt8} [h1 : UD P T (.slice e)] [h2 : UD P e (.int .u8)] [h3 : UD P T' .string] (hx : ev env x = some (vsl i A m c) := by rfl) (hr : lk2 B L i = some R := by rfl) (hro : RowM R A m byteEn bs := by first | exact ⟨View.row (by assumption), by first | rfl | assumption | omega⟩ | exact ⟨rowOf_rows, by first | rfl | assumption | (simp only [List.length_drop, List.length_take, List.length_append, List.length_cons, List.length_nil]; done) | (simp only [List.length_drop, List.length_take, List.length_append, List.length_cons, List.length_nil]; omega) | omega⟩ | exact ⟨rowOf_rd, by first | rfl | assumption | (simp only [List.length_drop, List.length_take, List.length_append, List.length_cons, List.length_nil]; done) | (simp only [List.length_drop, List.length_take, List.length_append, List.length_cons, List.length_nil]; omega) | omega⟩ | exact ⟨rowOf_tail rowOf_rd (by omega) (by omega), by first | rfl | assumption | (simp only [List.length_drop, List.length_take, List.length_append, List.length_cons, List.length_nil]; done) | (simp only [List.length_drop, List.length_take, List.length_append, List.length_cons, List.length_nil]; omega) | omega⟩ | exact rowM_take rowOf_rd (by omega) | exact rowM_take (rowOf_tail rowOf_rd (by omega) (by omega)) (by first | omega | (simp only [List.length_drop]; omega)) | exact ⟨rowOf_tail rowOf_rows (by omega) (by omega), by first | rfl | assumption | (simp only [List.length_drop, List.length_take, List.length_append, List.length_cons, List.length_nil]; done) | (simp only [List.length_drop, List.length_take, List.length_append, List.length_cons, List.length_nil]; omega) | omega⟩ | exact rowM_take rowOf_rows (by omega) | exact rowM_take (rowOf_tail rowOf_rows (by omega) (by omega)) (by first | omega | (simp only [List.length_drop]; omega))) : Reads P ⟨dst, .convert T T' x, ty, pos, af, gd⟩ env n B L (vs (ba bs)) :=
  convStr_of hx hro.len fun w hf => by
    rw [← dens_byte]
    exact hro.is.is w (hf i _ hr)
theorem eqGuard_nil {o : BinOp} {u v : Value} (w : World) (h : (∀ c, u ≠ .agg c) ∧ (u ≠ .nilIface ∨ v ≠ .nilIface)) : (eqGuard o T x y u v).run P w = .ok () w := by
  unfold eqGuard
  obtain ⟨h1, h2⟩ := h
  cases o <;> cases u <;> cases v <;> simp_all
theorem run_eqNil {d1 : TypeDesc} (hu : P.underlying T = some d1) {u v : Value} {b : Bool} (w : World) (h : ∀ d, (Op.equalIn (d + 1) T u v).run P w = .ok b w) : (Op.equal T u v).run P w = .ok b w := h 9999
theorem run_equalPtr {e : TypeId} (hu : P.underlying T = some (.pointer e)) (p : Option Addr) (w : World) : (Op.equal T (.pointer p) (.pointer none)).run P w = .ok p.isNone w := run_eqNil hu w fun d => by
  cases p <;> simp [Op.equalIn, run_underlying hu, Sem.run_bind, Result.andThen]
theorem run_equalSl {e : TypeId} (hu : P.underlying T = some (.slice e)) (p : Option Addr) (k c : Nat) (w : World) : (Op.equal T (.slice p k c) (.slice none 0 0)).run P w = .ok p.isNone w := run_eqNil hu w fun d => by
  cases p <;> simp [Op.equalIn, run_underlying hu, Sem.run_bind, Result.andThen]
def isNilP : PV → Option Bool
  | .pn => some true
  | .ptr _ _ => some false
  | .el _ _ _ _ _ => some false
  | _ => none
theorem r_eqNilP {p : PV} {e : TypeId} {b : Bool} [hu : UD P T (.pointer e)] (hx : ev env x = some (.s (.one p)) := by rfl) (hy : ev env y = some (.s (.one .pn)) := by rfl) (hb : isNilP p = some b := by rfl) : Reads P ⟨dst, .binOp .eql T x y T', ty, pos, af, gd⟩ env n B L (vb b) := fun a w ht _ => by
  have h1 : a.eval x = p.den := ev_sound ht hx
  have h2 : a.eval y = .pointer none := ev_sound ht hy
  obtain ⟨q, hq, rfl⟩ : ∃ q : Option Addr, p.den = .pointer q ∧ b = q.isNone := by
    cases p <;> first | (cases hb; done) | (injection hb with hb; subst hb; exact ⟨_, rfl, rfl⟩)
  unfold execOp
  simp only [h1, h2, hq]
  rw [Sem.run_bind, Sem.run_bind, eqGuard_nil w (by simp), Result.andThen_ok]
  simp only [binOp, Sem.run_bind, run_equalPtr hu.is]
  rfl
theorem r_neNilP {p : PV} {e : TypeId} {b : Bool} [hu : UD P T (.pointer e)] (hx : ev env x = some (.s (.one p)) := by rfl) (hy : ev env y = some (.s (.one .pn)) := by rfl) (hb : isNilP p = some b := by rfl) : Reads P ⟨dst, .binOp .neq T x y T', ty, pos, af, gd⟩ env n B L (vb (!b)) := fun a w ht _ => by
  have h1 : a.eval x = p.den := ev_sound ht hx
  have h2 : a.eval y = .pointer none := ev_sound ht hy
  obtain ⟨q, hq, rfl⟩ : ∃ q : Option Addr, p.den = .pointer q ∧ b = q.isNone := by
    cases p <;> first | (cases hb; done) | (injection hb with hb; subst hb; exact ⟨_, rfl, rfl⟩)
  unfold execOp
  simp only [h1, h2, hq]
  rw [Sem.run_bind, Sem.run_bind, eqGuard_nil w (by simp), Result.andThen_ok]
  simp only [binOp, Sem.run_bind, run_equalPtr hu.is]
  rfl
theorem r_eqNilM {p : PV} {kt e : TypeId} {b : Bool} [hu : UD P T (.map kt e)] (hx : ev env x = some (.s (.one p)) := by rfl) (hy : ev env y = some (.s (.one .mn)) := by rfl) (hb : (match p with | .mn => some true | .mp _ _ => some false | _ => none) = some b := by rfl) : Reads P ⟨dst, .binOp .eql T x y T', ty, pos, af, gd⟩ env n B L (vb b) := fun a w ht _ => by
  have h1 : a.eval x = p.den := ev_sound ht hx
  have h2 : a.eval y = .map none := ev_sound ht hy
  obtain ⟨q, hq, rfl⟩ : ∃ q : Option Nat, p.den = .map q ∧ b = q.isNone := by
    cases p <;> first | (cases hb; done) | (injection hb with hb; subst hb; exact ⟨_, rfl, rfl⟩)
  unfold execOp
  simp only [h1, h2, hq]
  rw [Sem.run_bind, Sem.run_bind, eqGuard_nil w (by simp), Result.andThen_ok, run_eqMap hu.is]
  rfl
theorem r_neNilM {p : PV} {kt e : TypeId} {b : Bool} [hu : UD P T (.map kt e)] (hx : ev env x = some (.s (.one p)) := by rfl) (hy : ev env y = some (.s (.one .mn)) := by rfl) (hb : (match p with | .mn => some true | .mp _ _ => some false | _ => none) = some b := by rfl) : Reads P ⟨dst, .binOp .neq T x y T', ty, pos, af, gd⟩ env n B L (vb (!b)) := fun a w ht _ => by
  have h1 : a.eval x = p.den := ev_sound ht hx
  have h2 : a.eval y = .map none := ev_sound ht hy
  obtain ⟨q, hq, rfl⟩ : ∃ q : Option Nat, p.den = .map q ∧ b = q.isNone := by
    cases p <;> first | (cases hb; done) | (injection hb with hb; subst hb; exact ⟨_, rfl, rfl⟩)
  unfold execOp
  simp only [h1, h2, hq]
  rw [Sem.run_bind, Sem.run_bind, eqGuard_nil w (by simp), Result.andThen_ok, run_neMap hu.is]
  cases q <;> rfl
end
def Res.bag (rs : List Res) : Res := ⟨fun b => ∃ r ∈ rs, r.fp b, fun w => (∀ r ∈ rs, r.holds w) ∧ rs.Pairwise dis, fun w h b hb => by
  obtain ⟨r, hr, hb⟩ := hb
  exact r.bound w (h.1 r hr) b hb, fun w w' hb h => ⟨fun r hr => r.stable w w' (fun b hb' => hb b ⟨r, hr, hb'⟩) (h.1 r hr), h.2⟩⟩
theorem St.bag {w0 w : World} {M : Nat → Prop} {rs L : List Res} (h : St w0 w M (rs ++ L)) : St w0 w M (Res.bag rs :: L) := by
  obtain ⟨d1, d2, d3⟩ := List.pairwise_append.1 h.dis
  refine ⟨h.os, h.tape, h.output, h.drawn, h.size, h.keep, fun r hr => ?_, List.pairwise_cons.2 ⟨fun s hs b hb hb' => ?_, d2⟩, fun r hr b hb => ?_⟩
  · rcases List.mem_cons.1 hr with rfl | hr
    · exact ⟨fun r hr => h.res r (List.mem_append_left _ hr), d1⟩
    · exact h.res r (List.mem_append_right _ hr)
  · obtain ⟨r, hr, hb⟩ := hb
    exact d3 r hr s hs b hb hb'
  · rcases List.mem_cons.1 hr with rfl | hr
    · obtain ⟨q, hq, hb⟩ := hb
      exact h.own q (List.mem_append_left _ hq) b hb
    · exact h.own r (List.mem_append_right _ hr) b hb
theorem St.unbag {w0 w : World} {M : Nat → Prop} {rs L : List Res} (h : St w0 w M (Res.bag rs :: L)) : St w0 w M (rs ++ L) := by
  have hd := List.pairwise_cons.1 h.dis
  have hb := h.res _ (List.mem_cons_self ..)
  refine ⟨h.os, h.tape, h.output, h.drawn, h.size, h.keep, fun r hr => ?_, List.pairwise_append.2 ⟨hb.2, hd.2, fun r hr s hs b hb' hb2 => hd.1 s hs b ⟨r, hr, hb'⟩ hb2⟩, fun r hr b hb' => ?_⟩
  · rcases List.mem_append.1 hr with hr | hr
    · exact hb.1 r hr
    · exact h.res r (List.mem_cons_of_mem _ hr)
  · rcases List.mem_append.1 hr with hr | hr
    · exact h.own _ (List.mem_cons_self ..) b ⟨r, hr, hb'⟩
    · exact h.own r (List.mem_cons_of_mem _ hr) b hb'
end HL
end Go.Proofs.YtfopgaijfeeioaaGreat
/- Small facts of lists that walks end with. My own text; it names no program. -/

set_option linter.unusedVariables false
set_option linter.unusedSimpArgs false
namespace Go.Proofs.YtfopgaijfeeioaaGreat
namespace HL
open Go Go.RowKit
theorem find_at {α : Type} {p : α → Bool} {l : List α} {k : Nat} {x : α} (hx : l[k]? = some x) (h : ∀ y ∈ l.take k, ¬ p y = true) (h1 : p x = true) : l.find? p = some x := by
  obtain ⟨hk, rfl⟩ := List.getElem?_eq_some_iff.1 hx
  conv => lhs; rw [← List.take_append_drop k l]
  rw [List.find?_append, List.find?_eq_none.2 h, List.drop_eq_getElem_cons hk, List.find?_cons, h1]
  rfl
theorem find_no {α : Type} {p : α → Bool} {l : List α} (h : ∀ y ∈ l, ¬ p y = true) : l.find? p = none := List.find?_eq_none.2 h
end HL
end Go.Proofs.YtfopgaijfeeioaaGreat
/- SYMBOLIC STATES: maps, and going through one. My own text; it names no program. -/


set_option linter.unusedVariables false
set_option linter.unusedSimpArgs false
set_option linter.unusedSectionVars false
namespace Go.Proofs.YtfopgaijfeeioaaGreat
namespace HL
open Go Go.RowKit
abbrev vm (id g : Nat) : TV := .s (.one (.mp id g))
section
variable {κ ν : Type} [DecidableEq κ]
structure KeyOk (P : Program) (kt : TypeId) (kenc : κ → Value) : Prop where
  chk : ∀ (em : Bool) (k : κ) (w : World), (Instr.checkKey em 10000 kt (kenc k)).run P w = .ok () w
  find : ∀ {ν : Type} (venc : ν → Value) (k : κ) (w : World) (l : List (κ × ν × Nat)), (Instr.findKey kt (kenc k) (l.map (ment kenc venc))).run P w = .ok ((l.findIdx? (fun x => x.1 = k)).bind fun j => (l[j]?).map fun x => (j, venc x.2.1)) w
  stays : ∀ k w, (Instr.keyThatStays (kenc k) (kenc k)).run P w = .ok (kenc k) w
theorem KeyTy.ok {P : Program} {kt : TypeId} {kenc : κ → Value} {n : Nat} (H : KeyTy P kt kenc n) : KeyOk P kt kenc := ⟨fun em k w => H.eq.chk 10000 H.le em k w, fun venc k w l => run_findKey H k w l, fun k w => by
  unfold Instr.keyThatStays
  simp only [H.same k, if_true, Sem.run_pure]⟩
variable {P : Program} {kt et T : TypeId} {kenc : κ → Value} {venc : ν → Value} {l : List (κ × ν × Nat)} {g c : Nat} {w : World}
theorem lookupK (H : KeyOk P kt kenc) (hT : P.underlying T = some (.map kt et)) (hb : w.heap[g]? = some (mobj kenc venc l c)) {agg : Bool} {sz bytes : Nat} {z : Value} (hz : TyIs P et agg sz z bytes) (k : κ) (ok : Bool) :
    (Instr.lookup T (.map (some g)) (kenc k) ok).run P w = .ok (if ok then .tuple #[((mlook l k).map venc).getD z, .bool (mhas l k)] else ((mlook l k).map venc).getD z) w := by
  have hg : (getObj g).run P w = .ok (mobj kenc venc l c) w := by simp [getObj, Sem.run, hb, mobj]
  unfold Instr.lookup
  simp only [Sem.run_bind, run_underlying hT, Result.andThen_ok, hg, mobj, Sem.run_pure, H.chk _ k w, H.find venc k w l]
  cases hm : mlook l k with
  | none =>
    rw [idx_none hm]
    simp only [Option.bind_none, Sem.run_bind, hz.zero w, Result.andThen_ok, Sem.run_pure, Option.map_none, Option.getD_none, mhas, hm, Option.isSome_none]
  | some v =>
    obtain ⟨j, b, h1, h2⟩ := idx_some hm
    simp only [h1, Option.bind_some, h2, Option.map_some, Sem.run_bind, Result.andThen_ok, Sem.run_pure, Option.getD_some, mhas, hm, Option.isSome_some]
theorem updateK (H : KeyOk P kt kenc) (hT : P.underlying T = some (.map kt et)) (hb : w.heap[g]? = some (mobj kenc venc l c)) (k : κ) (v : ν) :
    (Instr.mapUpdate T (.map (some g)) (kenc k) (venc v)).run P w = .ok () { w with heap := w.heap.setIfInBounds g (mobj kenc venc (mput l c k v) (mclk l c k)) } := by
  have hg : (getObj g).run P w = .ok (mobj kenc venc l c) w := by simp [getObj, Sem.run, hb, mobj]
  have hs : ∀ o, (setObj g o).run P w = .ok () { w with heap := w.heap.setIfInBounds g o } := fun o => by simp [setObj, Sem.run, hb, mobj]
  unfold Instr.mapUpdate
  simp only [Sem.run_bind, run_underlying hT, Result.andThen_ok, hg, mobj, H.chk _ k w, H.find venc k w l]
  cases hm : mlook l k with
  | none =>
    rw [idx_none hm]
    simp only [Option.bind_none, hs]
    have e1 : mput l c k v = l ++ [(k, v, c)] := by simp [mput, mhas, hm]
    have e2 : mclk l c k = c + 1 := by simp [mclk, mhas, hm]
    rw [e1, e2]
    simp [ment]
  | some u =>
    obtain ⟨j, b, h1, h2⟩ := idx_some hm
    have e1 : mput l c k v = l.set j (k, v, b) := by simp only [mput, mhas, hm, Option.isSome_some, if_true]; exact mset_at v h1 h2
    have e2 : mclk l c k = c := by simp [mclk, mhas, hm]
    have h3 : (l.map (ment kenc venc))[j]? = some (ment kenc venc (k, u, b)) := by rw [List.getElem?_map, h2]; rfl
    simp only [h1, Option.bind_some, h2, Option.map_some, Sem.run_bind, List.getElem?_toArray, h3, Option.getD_some]
    have hk : (Instr.keyThatStays (ment kenc venc (k, u, b)).key (kenc k)).run P w = .ok (kenc k) w := H.stays k w
    simp only [hk, Result.andThen_ok, hs, modify_set _ _ _ _ h3]
    rw [e1, e2, List.map_set]
    rfl
end
section
variable {κ ν : Type} [DecidableEq κ]
variable {P : Program} {env : Env} {D : List Deferred} {n : Nat} {w0 : World} {M : Nat → Prop} {B L : Hp}
variable {dst : Option Tmp} {d : Nat} {ty : TypeId} {pos : String} {af : Array Edge} {gd : Option (Nat × Bool)} {x y z : Operand} {T T' : TypeId}
def kdn {κ : Type} (Ek : En κ) : κ → Value := fun k => (Ek.f k).den
def Res.mp (g : Nat) (Ek : En κ) (Ev : En ν) (l : List (κ × ν × Nat)) (c : Nat) : Res := Res.map g (kdn Ek) (kdn Ev) l c
structure MapOf (R : Res) (g : Nat) (Ek : En κ) (Ev : En ν) (l : List (κ × ν × Nat)) (c : Nat) : Prop where
  m : ∀ w, R.holds w → w.heap[g]? = some (mobj (kdn Ek) (kdn Ev) l c)
theorem mapOf_mp {g c : Nat} {Ek : En κ} {Ev : En ν} {l : List (κ × ν × Nat)} : MapOf (Res.mp g Ek Ev l c) g Ek Ev l c := ⟨fun _ h => by unfold Res.mp at h; exact map_heap h⟩
class KeyT (P : Program) (kt : TypeId) {κ : outParam Type} [DecidableEq κ] (Ek : outParam (En κ)) : Prop where
  ok : KeyOk P kt (kdn Ek)
class ZeroOf {ν : Type} (Ev : En ν) (zv : outParam ν) (z : outParam SV) : Prop where
  is : (Ev.f zv).den = z.den
instance : ZeroOf boolEn false (.one (.b false)) := ⟨rfl⟩
instance {k : IntKind} : ZeroOf (intEn k) 0 (.one (.i k 0)) := ⟨rfl⟩
instance : ZeroOf strEn ⟨#[]⟩ (.one (.s ⟨#[]⟩)) := ⟨rfl⟩
instance : ZeroOf hashEn hz (.agg [.hash hz]) := ⟨rfl⟩
instance (priority := low) {P : Program} {kt : TypeId} [h : HashT P kt] : KeyT P kt hashEn := ⟨h.key.ok⟩
theorem getD_map {Ev : En ν} {zv : ν} {z : SV} (h : (Ev.f zv).den = z.den) (o : Option ν) : (o.map (kdn Ev)).getD z.den = (Ev.f (o.getD zv)).den := by
  cases o
  · exact h.symm
  · rfl
theorem r_lookup1 {kt et : TypeId} {i g c : Nat} {R : Res} {Ek : En κ} {Ev : En ν} {l : List (κ × ν × Nat)} {k : κ} {zv : ν} {agg : Bool} {sz bytes : Nat} {zz : SV} [hu : UD P T (.map kt et)] [hk : KeyT P kt Ek] [hT : TyA P et agg sz zz bytes]
    (hx : ev env x = some (vm i g) := by rfl) (hR : lk2 B L i = some R := by rfl) (hm : MapOf R g Ek Ev l c := by first | exact mapOf_mp | assumption) (hy : ev env y = some (.s (Ek.f k)) := by rfl) (hzv : ZeroOf Ev zv zz := by infer_instance) :
    Reads P ⟨dst, .lookup T x y false, ty, pos, af, gd⟩ env n B L (.s (Ev.f ((mlook l k).getD zv))) := fun a w ht hf => by
  have h1 : a.eval x = .map (some g) := ev_sound ht hx
  have h2 : a.eval y = kdn Ek k := ev_sound ht hy
  unfold execOp
  simp only [h1, h2]
  have := lookupK hk.ok hu.is (hm.m w (hf i _ hR)) hT.is k false
  simp only [Bool.false_eq_true, if_false, getD_map hzv.is] at this
  simp [Sem.run_bind, this]
  rfl
theorem r_lookup2 {kt et : TypeId} {i g c : Nat} {R : Res} {Ek : En κ} {Ev : En ν} {l : List (κ × ν × Nat)} {k : κ} {zv : ν} {agg : Bool} {sz bytes : Nat} {zz : SV} [hu : UD P T (.map kt et)] [hk : KeyT P kt Ek] [hT : TyA P et agg sz zz bytes]
    (hx : ev env x = some (vm i g) := by rfl) (hR : lk2 B L i = some R := by rfl) (hm : MapOf R g Ek Ev l c := by first | exact mapOf_mp | assumption) (hy : ev env y = some (.s (Ek.f k)) := by rfl) (hzv : ZeroOf Ev zv zz := by infer_instance) :
    Reads P ⟨dst, .lookup T x y true, ty, pos, af, gd⟩ env n B L (.tup [Ev.f ((mlook l k).getD zv), .one (.b (mhas l k))]) := fun a w ht hf => by
  have h1 : a.eval x = .map (some g) := ev_sound ht hx
  have h2 : a.eval y = kdn Ek k := ev_sound ht hy
  unfold execOp
  simp only [h1, h2]
  have := lookupK hk.ok hu.is (hm.m w (hf i _ hR)) hT.is k true
  simp only [if_true, getD_map hzv.is] at this
  simp [Sem.run_bind, this]
  rfl
theorem d_makeMap (Ek : En κ) (Ev : En ν) (hd : Nat.blt d n = true := by rfl) : Does P ⟨some d, .makeMap T none, ty, pos, af, gd⟩ env D n w0 M B L (fun g : Nat => (d, vm (10000 + d) g) :: env) (fun g => (10000 + d, Res.mp g Ek Ev [] 0) :: L) [10000 + d] :=
  ⟨fun a w K Q hs h => by
    unfold Oper.wp execOp
    have hr : (Instr.makeMap T none).run P w = .ok (.map (some w.heap.size)) (w.alloc (.map #[] 0)) := by simp [Sem.run_bind, run_makeMap]
    simp only [Option.map_none, Sem.run_bind, hr, Result.andThen_ok, Sem.run_pure]
    refine h w.heap.size _ _ ((hs.put (v := vm (10000 + d) w.heap.size) hd).to (live_new ?_))
    have := hs.st.alloc (.map #[] 0)
    unfold Res.mp Res.map mobj
    exact this, kp_one⟩
structure MWf (l : List (κ × ν × Nat)) (c : Nat) : Prop where
  born : (l.map (·.2.2)).Nodup
  old : ∀ x ∈ l, x.2.2 < c
  keys : (l.map (·.1)).Nodup
theorem MWf.nil : MWf ([] : List (κ × ν × Nat)) 0 := ⟨List.nodup_nil, by simp, List.nodup_nil⟩
theorem mset_born (k : κ) (v : ν) : ∀ (l : List (κ × ν × Nat)), (mset l k v).map (·.2.2) = l.map (·.2.2)
  | [] => rfl
  | x :: l => by
    unfold mset
    split
    · rfl
    · simp [mset_born k v l]
theorem mset_keys (k : κ) (v : ν) : ∀ (l : List (κ × ν × Nat)), (mset l k v).map (·.1) = l.map (·.1)
  | [] => rfl
  | x :: l => by
    unfold mset
    split
    · rename_i h; simp [h]
    · simp [mset_keys k v l]
theorem mhas_keys {l : List (κ × ν × Nat)} {k : κ} : mhas l k = true ↔ k ∈ l.map (·.1) := by
  unfold mhas mlook
  rw [Option.isSome_map, List.find?_isSome]
  simp
theorem MWf.put {l : List (κ × ν × Nat)} {c : Nat} (h : MWf l c) (k : κ) (v : ν) : MWf (mput l c k v) (mclk l c k) := by
  unfold mput mclk
  cases hm : mhas l k with
  | true =>
    simp only [if_true]
    refine ⟨by rw [mset_born]; exact h.born, fun x hx => ?_, by rw [mset_keys]; exact h.keys⟩
    have : x.2.2 ∈ (mset l k v).map (·.2.2) := List.mem_map_of_mem hx
    rw [mset_born] at this
    obtain ⟨y, hy, e⟩ := List.mem_map.1 this
    rw [← e]
    exact h.old y hy
  | false =>
    simp only [Bool.false_eq_true, if_false]
    refine ⟨?_, fun x hx => ?_, ?_⟩
    · rw [List.map_append, List.nodup_append]
      refine ⟨h.born, by simp, fun a ha b hb => ?_⟩
      obtain ⟨y, hy, rfl⟩ := List.mem_map.1 ha
      simp at hb
      have := h.old y hy
      omega
    · rcases List.mem_append.1 hx with hx | hx
      · have := h.old x hx; omega
      · rw [List.mem_singleton.1 hx]; exact Nat.lt_succ_self c
    · rw [List.map_append, List.nodup_append]
      refine ⟨h.keys, by simp, fun a ha b hb => ?_⟩
      simp at hb
      rintro rfl
      subst hb
      rw [← mhas_keys] at ha
      rw [ha] at hm
      cases hm
theorem blk_heap {g : Nat} {o : Obj} {w : World} (h : (Res.blk g o).holds w) : w.heap[g]? = some o := by
  unfold Res.blk at h
  exact h
theorem holds_blk {g : Nat} {o : Obj} {w : World} (h : w.heap[g]? = some o) : (Res.blk g o).holds w := by
  unfold Res.blk
  exact h
theorem fp_blk {g : Nat} {o : Obj} {b : Nat} : (Res.blk g o).fp b ↔ b = g := by
  unfold Res.blk
  exact Iff.rfl
theorem eqGuard_bool (o : BinOp) (p q : Bool) (w : World) : (eqGuard o T x y (.bool p) (.bool q)).run P w = .ok () w := by
  unfold eqGuard
  cases o <;> simp
theorem r_boolOp {o : BinOp} {p q r : Bool} (hx : ev env x = some (vb p)) (hy : ev env y = some (vb q)) (h : ∀ w, (binOp o T (.bool p) (.bool q)).run P w = .ok (.bool r) w) : Reads P ⟨dst, .binOp o T x y T', ty, pos, af, gd⟩ env n B L (vb r) := fun a w ht _ => by
  unfold execOp
  have h1 : a.eval x = .bool p := ev_sound ht hx
  have h2 : a.eval y = .bool q := ev_sound ht hy
  simp only [h1, h2]
  rw [Sem.run_bind, Sem.run_bind, eqGuard_bool, Result.andThen_ok, h w]
  rfl
theorem r_eqB {p q : Bool} [hT : UD P T .bool] (hx : ev env x = some (vb p) := by rfl) (hy : ev env y = some (vb q) := by rfl) : Reads P ⟨dst, .binOp .eql T x y T', ty, pos, af, gd⟩ env n B L (vb (p == q)) := r_boolOp hx hy fun w => run_eql_bool w T p q hT.is
theorem r_neB {p q : Bool} [hT : UD P T .bool] (hx : ev env x = some (vb p) := by rfl) (hy : ev env y = some (vb q) := by rfl) : Reads P ⟨dst, .binOp .neq T x y T', ty, pos, af, gd⟩ env n B L (vb (!(p == q))) := r_boolOp hx hy fun w => run_neq_bool w T p q hT.is
theorem r_geqS {p q : ByteArray} (hx : ev env x = some (vs p) := by rfl) (hy : ev env y = some (vs q) := by rfl) : Reads P ⟨dst, .binOp .geq T x y T', ty, pos, af, gd⟩ env n B L (vb (!decide (bltS p q))) := r_strOp hx hy fun w => by simp only [binOp, Op.stringOp, toList_data, bytesLess_bcmp]; rfl
theorem cmp_or (x y : List UInt8) : (decide (bcmp x y < 0) || x == y) = !decide (bcmp y x < 0) := by
  rw [bcmp_swap x y]
  by_cases e : x = y
  · subst e
    simp [bcmp_refl]
  · have h1 : bcmp x y ≠ 0 := fun h => e (bcmp_eq h)
    have h2 : (x == y) = false := by simpa using e
    rw [h2, Bool.or_false]
    by_cases h : bcmp x y < 0
    · rw [decide_eq_true h, decide_eq_false (by omega)]
      rfl
    · rw [decide_eq_false h, decide_eq_true (by omega)]
      rfl
theorem r_gtrS {p q : ByteArray} (hx : ev env x = some (vs p) := by rfl) (hy : ev env y = some (vs q) := by rfl) : Reads P ⟨dst, .binOp .gtr T x y T', ty, pos, af, gd⟩ env n B L (vb (decide (bltS q p))) := r_strOp hx hy fun w => by
  simp only [binOp, Op.stringOp, toList_data, bytesLess_bcmp]
  rw [cmp_or, Bool.not_not]
  rfl
theorem r_leqS {p q : ByteArray} (hx : ev env x = some (vs p) := by rfl) (hy : ev env y = some (vs q) := by rfl) : Reads P ⟨dst, .binOp .leq T x y T', ty, pos, af, gd⟩ env n B L (vb (!decide (bltS q p))) := r_strOp hx hy fun w => by
  simp only [binOp, Op.stringOp, toList_data, bytesLess_bcmp]
  rw [cmp_or]
  rfl
end
end HL
end Go.Proofs.YtfopgaijfeeioaaGreat
/- SYMBOLIC STATES: a range over a function: the iterator's side, the round's side, the statement. My own text; it names no program. -/





set_option linter.unusedVariables false
set_option linter.unusedSimpArgs false
set_option linter.unusedSectionVars false
namespace Go.Proofs.YtfopgaijfeeioaaGreat
namespace HL
open Go Go.RowKit
section
variable {P : Program} {env : Env} {D : List Deferred} {n m : Nat} {w0 : World} {M : Nat → Prop} {B L : Hp} {ops : Array Oper} {rest : List Oper} {o : Oper} {Q : Exit → Act → World → Prop} {ro : Option Nat} {d : Nat}
variable {l : Nat}
variable {fn : Func} {post : Out → List Res → Prop}
end
end HL
end Go.Proofs.YtfopgaijfeeioaaGreat
/- SYMBOLIC STATES: conditions that are not split: elements and calls under a guard; loops and cuts that keep all the rest. My own text; it names no program. -/

set_option linter.unusedVariables false
set_option linter.unusedSimpArgs false
set_option linter.unusedSectionVars false
namespace Go.Proofs.YtfopgaijfeeioaaGreat
namespace HL
open Go Go.RowKit
def ad0 : Addr := ⟨0, 0, none⟩
section
variable {P : Program} {env : List (Nat × TV)} {D : List Deferred} {n : Nat} {w0 : World} {M : Nat → Prop} {B L LF : Hp} {ops : Array Oper} {Q : Exit → Act → World → Prop} {rest : List Oper} {σ : Plan}
variable {dst : Option Tmp} {d : Nat} {ty : TypeId} {pos : String} {af : Array Edge} {gd : Option (Nat × Bool)} {x y z : Operand} {T T' : TypeId}
theorem l_callG {v : SV} {f : FuncId} {fn : Func} {args all : List SV} {Bc : Hp} {post : Out → List Res → Prop} {xs : Array Operand} {tys : Array TypeId} {cap : List Value} {gh : List Nat} {g : Bool} (m : List (Nat × Nat)) (ts : List Nat) {env' : List (Nat × TV)} (hres : ResAll env g ts env')
    (hs : g = true → CSpec P f all Bc [] post) (hf : P.funcs[f]? = some fn) (hx : ev env' x = some (.s (.one (.fn f cap gh))) := by rfl) (ha : evs env' xs.toList = some args := by rfl) (hall : args.map SV.den ++ cap = all.map SV.den := by rfl)
    (hB : GotB (lk2 B L) (cid m args) Bc := by repeat (first | exact trivial | refine ⟨⟨_, rfl, by first | assumption | exact View.refl _ | exact view_rows | exact view_tail (View.refl _) (by omega) (by omega) | exact view_take (View.refl _) | exact view_tail view_rows (by omega) (by omega) | exact view_take view_rows⟩, ?_⟩))
    (hpost : ∀ o Lr, post o Lr → o = .ret (.s v) ∧ Lr = [] := by exact fun _ _ h => h)
    (h : Ho ((d, .cond g v) :: env) D n w0 M B L (wpList P ops Q rest))
    (hg : guardSym ops env ⟨some d, .call { callee := .value x, args := xs, argTypes := tys }, ty, pos, af, gd⟩ = some g := by rfl) (hd : Nat.blt d n = true := by rfl) (hb : fn.body.isNone = false := by rfl) (hn : (fn.name == "runtime.NumGoroutine") = false := by rfl) :
    Ho env D n w0 M B L (wpList P ops Q (⟨some d, .call { callee := .value x, args := xs, argTypes := tys }, ty, pos, af, gd⟩ :: rest)) := fun a w hsy => by
  unfold wpList
  rw [guardSym_wanted hsy.tm hg]
  by_cases e : g = true
  · rw [if_pos e]
    have hsy' : Sy env' D n w0 M B L a w := ⟨hres.tm e hsy.tm, hsy.df, hsy.st, hsy.bo⟩
    refine .inl (call_wp (hs e) hf hb hn (cid m args) 0 hx ha hall hB trivial rfl (by
      refine (?_ : ∀ is, noneIn [] is = true) _
      intro is
      induction is with
      | nil => rfl
      | cons i is ih => unfold noneIn; rw [ih]; rfl) rfl hsy' fun o Lr hp => ?_)
    obtain ⟨rfl, rfl⟩ := hpost o Lr hp
    exact fun w' hs' => by
      have h2 : Sy env D n w0 M B L a w' := ⟨hsy.tm, hsy.df, hs'.st, hs'.bo⟩
      have := h2.put (v := .cond g v) hd
      rw [show (TV.cond g v).den = v.den from if_pos e] at this
      exact h _ _ this
  · rw [if_neg e]
    have := hsy.put (v := .cond g v) hd
    rw [show (TV.cond g v).den = undef from if_neg e] at this
    exact h _ _ this
theorem s_callG {i : Nat} {v : SV} {f : FuncId} {fn : Func} {args all : List SV} {Bc : Hp} {post : Out → List Res → Prop} {xs : Array Operand} {tys : Array TypeId} {cap : List Value} {gh : List Nat} {g : Bool} (hi : ops.toList[i]? = some ⟨some d, .call { callee := .value x, args := xs, argTypes := tys }, ty, pos, af, gd⟩) (m : List (Nat × Nat)) (ts : List Nat) {env' : List (Nat × TV)} (hres : ResAll env g ts env')
    (hs : g = true → CSpec P f all Bc [] post) (hf : P.funcs[f]? = some fn) (hx : ev env' x = some (.s (.one (.fn f cap gh))) := by rfl) (ha : evs env' xs.toList = some args := by rfl) (hall : args.map SV.den ++ cap = all.map SV.den := by rfl)
    (hB : GotB (lk2 B L) (cid m args) Bc := by repeat (first | exact trivial | refine ⟨⟨_, rfl, by first | assumption | exact View.refl _ | exact view_rows | exact view_tail (View.refl _) (by omega) (by omega) | exact view_take (View.refl _) | exact view_tail view_rows (by omega) (by omega) | exact view_take view_rows⟩, ?_⟩))
    (hpost : ∀ o Lr, post o Lr → o = .ret (.s v) ∧ Lr = [] := by exact fun _ _ h => h)
    (h : HoC LF ((d, .cond g v) :: env) D n w0 M B L (wpSched P ops Q (Facts B LF) σ))
    (hg : guardSym ops env ⟨some d, .call { callee := .value x, args := xs, argTypes := tys }, ty, pos, af, gd⟩ = some g := by rfl) (hd : Nat.blt d n = true := by rfl) (hb : fn.body.isNone = false := by rfl) (hn : (fn.name == "runtime.NumGoroutine") = false := by rfl) :
    HoC LF env D n w0 M B L (wpSched P ops Q (Facts B LF) (.s i σ)) := fun hc a w hsy => by
  by_cases e : g = true
  · refine sched_s hi (by rw [guardSym_wanted hsy.tm hg]; exact e) ?_
    have hsy' : Sy env' D n w0 M B L a w := ⟨hres.tm e hsy.tm, hsy.df, hsy.st, hsy.bo⟩
    refine call_wp (hs e) hf hb hn (cid m args) 0 hx ha hall hB trivial rfl (by
      refine (?_ : ∀ is, noneIn [] is = true) _
      intro is
      induction is with
      | nil => rfl
      | cons i is ih => unfold noneIn; rw [ih]; rfl) rfl hsy' fun o Lr hp => ?_
    obtain ⟨rfl, rfl⟩ := hpost o Lr hp
    exact fun w' hs' => by
      have h2 : Sy env D n w0 M B L a w' := ⟨hsy.tm, hsy.df, hs'.st, hs'.bo⟩
      have := h2.put (v := .cond g v) hd
      rw [show (TV.cond g v).den = v.den from if_pos e] at this
      exact ⟨facts_cov hc h2, h hc _ _ this⟩
  · refine sched_sskip hi (by rw [guardSym_wanted hsy.tm hg]; simpa using e) (facts_cov hc hsy) ?_
    have := hsy.put (v := .cond g v) hd
    rw [show (TV.cond g v).den = undef from if_neg e] at this
    exact h hc _ _ this
theorem k_ren (i j : Nat) {r : Res} {K : Act → World → Prop} (hr : lk L i = some r := by rfl) (h : Ho env D n w0 M B ((j, r) :: del i L) K) : Ho env D n w0 M B L K := fun a w hs => h a w ⟨hs.tm, hs.df, live_new (live_front hs.st hr), hs.bo⟩
def without : List Nat → Hp → Hp
  | _, [] => []
  | is, (k, r) :: l => bif memB k is then without is l else (k, r) :: without (k :: is) l
end
end HL
end Go.Proofs.YtfopgaijfeeioaaGreat
/- SYMBOLIC STATES: many resources in a bag, opened one by one; an append that keeps the elder slice; make; Bools that are known. My own text; it names no program. -/


set_option linter.unusedVariables false
set_option linter.unusedSimpArgs false
set_option linter.unusedSectionVars false
namespace Go.Proofs.YtfopgaijfeeioaaGreat
namespace HL
open Go Go.RowKit
section
variable {P : Program} {env : List (Nat × TV)} {D : List Deferred} {n : Nat} {w0 : World} {M : Nat → Prop} {B L LF : Hp} {ops : Array Oper} {Q : Exit → Act → World → Prop} {rest : List Oper} {σ : Plan}
variable {dst : Option Tmp} {d : Nat} {ty : TypeId} {pos : String} {af : Array Edge} {gd : Option (Nat × Bool)} {x y z : Operand} {T T' : TypeId}
theorem bag_perm {rs rs' : List Res} {L : List Res} {w : World} (hp : rs.Perm rs') (h : St w0 w M (Res.bag rs :: L)) : St w0 w M (Res.bag rs' :: L) :=
  St.bag (h.unbag.perm (hp.append_right L))
theorem k_empty (i : Nat) {K : Act → World → Prop} (h : Ho env D n w0 M B ((i, Res.bag []) :: L) K) : Ho env D n w0 M B L K := fun a w hs => h a w ⟨hs.tm, hs.df, live_new (St.bag (rs := []) hs.st), hs.bo⟩
theorem k_push (i j : Nat) {rs : List Res} {r : Res} {K : Act → World → Prop} (hr : lk L i = some (Res.bag rs) := by rfl) (hj : lk (del i L) j = some r := by rfl) (h : Ho env D n w0 M B ((i, Res.bag (rs ++ [r])) :: del j (del i L)) K) : Ho env D n w0 M B L K := fun a w hs => h a w ⟨hs.tm, hs.df, by
  have h1 : St w0 w M (Res.bag rs :: live (del i L)) := live_front hs.st hr
  have h2 : St w0 w M (Res.bag rs :: r :: live (del j (del i L))) := h1.perm ((live_perm _ _ (Nat.le_refl _) hj).cons _)
  have h3 := (h2.unbag).perm (List.perm_middle)
  rw [← List.cons_append] at h3
  have h4 : St w0 w M (Res.bag (r :: rs) :: live (del j (del i L))) := St.bag h3
  exact live_new (bag_perm (List.perm_append_singleton r rs).symm h4), hs.bo⟩
structure Hd (α : Type) where
  A : Option Addr
  c : Nat
  l : List α
instance {α : Type} : Inhabited (Hd α) := ⟨⟨none, 0, []⟩⟩
def Hd.res {α : Type} (e : TypeId) (E : En α) (s : Hd α) : Res := Res.rows s.A s.c e E s.l
theorem fp_rd {α : Type} {E : En α} {A : Option Addr} {l : List α} {b : Nat} : (Res.rd A E l).fp b ↔ (l ≠ [] ∧ obl A = some b) := by unfold Res.rd Res.fact; exact Iff.rfl
def u8 (n : Int) : UInt8 := UInt8.ofNat (n % 256).toNat
def PartsH (env : List (Nat × TV)) : List (Nat × Operand) → List (Nat × UInt8) → Prop
  | [], [] => True
  | (i, x) :: l, (j, b) :: m => i = j ∧ (∃ q, ev env x = some (vi .u8 q) ∧ q = (b.toNat : Int)) ∧ PartsH env l m
  | _, _ => False
theorem partsH_spec {a : Act} (ht : Tm env n a) : ∀ {l : List (Nat × Operand)} {m : List (Nat × UInt8)}, PartsH env l m → l.map (fun p => (p.1, a.eval p.2)) = m.map fun p => (p.1, Value.int .u8 p.2.toNat)
  | [], [], _ => rfl
  | [], _ :: _, h => h.elim
  | _ :: _, [], h => h.elim
  | (i, x) :: l, (j, b) :: m, ⟨h1, ⟨q, h2, h3⟩, h4⟩ => by
    subst h1; subst h3
    rw [List.map_cons, List.map_cons, partsH_spec ht h4]
    have : a.eval x = .int .u8 b.toNat := ev_sound ht h2
    rw [this]
theorem r_buildH {parts : Array (Nat × Operand)} {e : TypeId} {bytes b1 : Nat} {z z1 : SV} (ps : List (Nat × UInt8)) [hu : UD P T (.array 32 e)] [hT : TyA P T true 32 z bytes] [hE : TyA P e false 1 z1 b1] (hp : PartsH env parts.toList ps) (hz : z.den = hval hz := by rfl) (hl : ∀ p ∈ ps, p.1 < 32 := by first | decide | simp) : Reads P ⟨dst, .build T parts, ty, pos, af, gd⟩ env n B L (vh (hset HL.hz ps)) := fun a w ht _ => by
  have h1 : (parts.map fun p => (p.1, a.eval p.2)).toList = ps.map fun p => (p.1, Value.int .u8 p.2.toNat) := by
    rw [Array.toList_map]
    exact partsH_spec ht hp
  have hparts : (parts.map fun x => (x.1, a.eval x.2)) = (ps.map fun p => (p.1, Value.int .u8 p.2.toNat)).toArray := Array.toList_inj.1 h1
  have hrun : (Instr.build T (ps.map fun p => (p.1, Value.int .u8 p.2.toNat)).toArray).run P w = .ok (hval (hset HL.hz ps)) w := by
    obtain ⟨i, hi, hi2⟩ := Option.map_eq_some_iff.1 hT.is.info
    obtain ⟨j, hj, hj2⟩ := Option.map_eq_some_iff.1 hE.is.info
    simp only [Prod.mk.injEq] at hi2 hj2
    have := fill_hash ps HL.hz hl
    have h2 := run_build (P := P) w T (ps.map fun p => (p.1, Value.int .u8 p.2.toNat)).toArray (hcells (hset HL.hz ps)).toArray (by
      simp only [Program.built, hi, hu.is, hi2.1, hj, hj2.2.1, hz]
      unfold hval
      exact this)
    unfold hval
    exact h2
  unfold execOp
  simp only [Sem.run_bind]
  rw [hparts, hrun]
  rfl
theorem k_valC (t : Nat) {u : TV} (v : TV) {K : Act → World → Prop} (ht : lk env t = some u := by rfl) (hv : u.den = v.den := by rfl) (h : HoC LF ((t, v) :: env) D n w0 M B L K) : HoC LF env D n w0 M B L K := fun hc => k_val t v ht hv (h hc)
end
end HL
end Go.Proofs.YtfopgaijfeeioaaGreat
/- SYMBOLIC STATES: structs held against each other. My own text; it names no program. -/


set_option linter.unusedVariables false
set_option linter.unusedSimpArgs false
set_option linter.unusedSectionVars false
namespace Go.Proofs.YtfopgaijfeeioaaGreat
namespace HL
open Go Go.RowKit
structure EqV (P : Program) (T : TypeId) {α : Type} [DecidableEq α] (enc : α → Value) (n : Nat) : Prop where
  eq : ∀ d, n ≤ d → ∀ (x y : α) (w : World), (Op.equalIn d T (enc x) (enc y)).run P w = .ok (decide (x = y)) w
theorem EqTy.v {P : Program} {T : TypeId} {α : Type} [DecidableEq α] {enc : α → Value} {n : Nat} (h : EqTy P T enc n) : EqV P T enc n := ⟨h.eq⟩
theorem run_partV {P : Program} {off ft k : Nat} {vs : List Value} {v : Value} (hf : Fits P ft v) (hv : vs[k]? = some v) (ho : szs (vs.take k) = off) (w : World) : (part ft (flat vs).toArray off).run P w = .ok v w := by
  obtain ⟨agg, sz, z, bytes, ht, ha, hs⟩ := hf.ex
  obtain ⟨e1, _⟩ := flat_set (v := v) hv
  unfold part
  rw [Sem.run_bind, ht.isAgg w]
  simp only [Result.andThen_ok]
  have hlen : (flat (vs.take k)).length = off := by rw [length_flat]; exact ho
  cases agg with
  | true =>
    obtain ⟨cs, rfl⟩ : ∃ cs, v = .agg cs := by cases v <;> simp_all [isAggV]
    simp only [if_true, Sem.run_bind, ht.size w, Result.andThen_ok, Sem.run_pure]
    congr 2
    apply Array.toList_inj.1
    simp only [Array.toList_extract, List.extract_eq_take_drop, Nat.add_sub_cancel_left]
    rw [e1, ← hlen, List.append_assoc, List.drop_left, ← hs, ← Array.length_toList, List.take_left]
    rfl
  | false =>
    have hc : v.cells = #[v] := by cases v <;> first | rfl | simp_all [isAggV]
    have : (flat vs).toArray[off]? = some v := by
      rw [List.getElem?_toArray, e1, ← hlen, hc, List.append_assoc, List.getElem?_append_right (Nat.le_refl _), Nat.sub_self]
      rfl
    simp [this]
structure FE (P : Program) (α : Type) where
  β : Type
  dec : DecidableEq β
  enc : β → Value
  n : Nat
  proj : α → β
  ft : TypeId
  sz : Nat
  eq : EqV P ft enc n
  fits : ∀ b, Fits P ft (enc b)
  size : ∀ b, (enc b).cells.size = sz
def FE.vals {P : Program} {α : Type} (L : List (FE P α)) (x : α) : List Value := L.map fun F => F.enc (F.proj x)
def FE.offs {P : Program} {α : Type} : Nat → List (FE P α) → List (TypeId × Nat)
  | _, [] => []
  | o, F :: L => (F.ft, o) :: FE.offs (o + F.sz) L
def FE.same {P : Program} {α : Type} : List (FE P α) → α → α → Bool
  | [], _, _ => true
  | F :: L, x, y => (@decide (F.proj x = F.proj y) (F.dec _ _)) && FE.same L x y
theorem szs_app (a b : List Value) : szs (a ++ b) = szs a + szs b := szs_append a b
theorem run_eqFields {P : Program} {α : Type} {d : Nat} (x y : α) (w : World) : ∀ (L : List (FE P α)) (fs : List Field) (px py : List Value) (o : Nat), fs.map (fun f => (f.type, f.offset)) = FE.offs o L → (∀ f ∈ fs, f.name ≠ "_") → (∀ F ∈ L, F.n ≤ d) → szs px = o → szs py = o →
    (Op.eqFields d (flat (px ++ FE.vals L x)).toArray (flat (py ++ FE.vals L y)).toArray fs).run P w = .ok (FE.same L x y) w
  | [], [], px, py, o, _, _, _, _, _ => rfl
  | [], f :: fs, _, _, _, h, _, _, _, _ => by cases h
  | F :: L, [], _, _, _, h, _, _, _, _ => by cases h
  | F :: L, f :: fs, px, py, o, h, hn, hd, hx, hy => by
    have h' : (f.type, f.offset) :: fs.map (fun f => (f.type, f.offset)) = (F.ft, o) :: FE.offs (o + F.sz) L := h
    injection h' with h1 h2
    injection h1 with h1 h3
    have gx : (px ++ FE.vals (F :: L) x)[px.length]? = some (F.enc (F.proj x)) := by
      rw [List.getElem?_append_right (Nat.le_refl _), Nat.sub_self]; rfl
    have gy : (py ++ FE.vals (F :: L) y)[py.length]? = some (F.enc (F.proj y)) := by
      rw [List.getElem?_append_right (Nat.le_refl _), Nat.sub_self]; rfl
    letI := F.dec
    have r1 := run_partV (P := P) (off := o) (F.fits (F.proj x)) gx (by rw [List.take_left]; exact hx) w
    have r2 := run_partV (P := P) (off := o) (F.fits (F.proj y)) gy (by rw [List.take_left]; exact hy) w
    have r3 := F.eq.eq d (hd F (List.mem_cons_self ..)) (F.proj x) (F.proj y) w
    have ex : px ++ FE.vals (F :: L) x = (px ++ [F.enc (F.proj x)]) ++ FE.vals L x := by rw [List.append_assoc]; rfl
    have ey : py ++ FE.vals (F :: L) y = (py ++ [F.enc (F.proj y)]) ++ FE.vals L y := by rw [List.append_assoc]; rfl
    have s1 : ∀ v : Value, szs [v] = v.cells.size := fun v => by simp [szs]
    have ih := run_eqFields x y w L fs (px ++ [F.enc (F.proj x)]) (py ++ [F.enc (F.proj y)]) (o + F.sz) h2 (fun f hf => hn f (List.mem_cons_of_mem _ hf)) (fun F hF => hd F (List.mem_cons_of_mem _ hF)) (by rw [szs_app, hx, s1, F.size]) (by rw [szs_app, hy, s1, F.size])
    rw [← ex, ← ey] at ih
    unfold Op.eqFields
    rw [if_pos (hn f (List.mem_cons_self ..)), h1, h3]
    simp only [Sem.run_bind, r1, r2, r3, Result.andThen_ok]
    unfold FE.same
    cases hdec : @decide (F.proj x = F.proj y) (F.dec _ _) with
    | false => simp
    | true => simpa using ih
theorem eqV_struct {P : Program} {T : TypeId} {α : Type} [DecidableEq α] (L : List (FE P α)) {enc : α → Value} {n : Nat} {fs : Array Field} (hu : P.underlying T = some (.struct fs)) (hp : P.stoodInHeld T = false) (ho : fs.toList.map (fun f => (f.type, f.offset)) = FE.offs 0 L) (hn : (fs.toList.all fun f => f.name != "_") = true) (hd : ∀ F ∈ L, F.n ≤ n) (he : ∀ x, enc x = mkS (FE.vals L x)) (hs : ∀ x y, FE.same L x y = decide (x = y)) : EqV P T enc (n + 1) := ⟨fun d hd' x y w => by
  obtain ⟨m, rfl⟩ : ∃ m, d = m + 1 := ⟨d - 1, by omega⟩
  have hf : P.fieldsOf T = fs := by unfold Program.fieldsOf; rw [hu]
  rw [he, he]
  unfold mkS
  rw [run_equalIn_struct w m T _ _ (by rw [hf]; exact hu) hp, hf]
  have := run_eqFields (P := P) (d := m) x y w L fs.toList [] [] 0 ho (fun f hf => by have := List.all_eq_true.1 hn f hf; simpa using this) (fun F hF => Nat.le_trans (hd F hF) (by omega)) rfl rfl
  rw [List.nil_append, List.nil_append] at this
  rw [this, hs]⟩
class EqE (P : Program) (T : TypeId) {α : outParam Type} [DecidableEq α] (E : outParam (En α)) : Prop where
  eq : ∃ n, n ≤ 10000 ∧ EqV P T (fun x => (E.f x).den) n
  g : P.eqGuardType P.depth T = false
  ag : E.agg = true
section
variable {P : Program} {env : List (Nat × TV)} {n : Nat} {B L : List (Nat × Res)}
variable {dst : Option Tmp} {ty : TypeId} {pos : String} {af : Array Edge} {gd : Option (Nat × Bool)} {x y : Operand} {T T' : TypeId}
theorem en_agg {α : Type} {E : En α} (h : E.agg = true) (u : α) : ∃ c, (E.f u).den = .agg c := by
  have h1 := (E.f u).isAgg_den
  rw [(E.ok u).1, h] at h1
  cases hc : (E.f u).den <;> simp_all [isAggV]
theorem r_eqSt {α : Type} [DecidableEq α] {E : En α} {u v : α} {X Y : SV} [h : EqE P T E] (hx : ev env x = some (.s X) := by rfl) (hy : ev env y = some (.s Y) := by rfl) (hX : X = E.f u := by rfl) (hY : Y = E.f v := by rfl) : Reads P ⟨dst, .binOp .eql T x y T', ty, pos, af, gd⟩ env n B L (vb (decide (u = v))) := fun a w ht _ => by
  subst hX; subst hY
  have h1 : a.eval x = (E.f u).den := ev_sound ht hx
  have h2 : a.eval y = (E.f v).den := ev_sound ht hy
  obtain ⟨m, hm, hq⟩ := h.eq
  obtain ⟨c1, e1⟩ := en_agg h.ag u
  obtain ⟨c2, e2⟩ := en_agg h.ag v
  have := hq.eq 10000 hm u v w
  rw [e1, e2] at this
  unfold execOp
  simp only [h1, h2, e1, e2]
  simp only [Sem.run_bind, run_eqGuard_agg w .eql T x y c1 c2 h.g, Result.andThen_ok, run_eql_struct, this]
  rfl
theorem r_neSt {α : Type} [DecidableEq α] {E : En α} {u v : α} {X Y : SV} [h : EqE P T E] (hx : ev env x = some (.s X) := by rfl) (hy : ev env y = some (.s Y) := by rfl) (hX : X = E.f u := by rfl) (hY : Y = E.f v := by rfl) : Reads P ⟨dst, .binOp .neq T x y T', ty, pos, af, gd⟩ env n B L (vb (!decide (u = v))) := fun a w ht _ => by
  subst hX; subst hY
  have h1 : a.eval x = (E.f u).den := ev_sound ht hx
  have h2 : a.eval y = (E.f v).den := ev_sound ht hy
  obtain ⟨m, hm, hq⟩ := h.eq
  obtain ⟨c1, e1⟩ := en_agg h.ag u
  obtain ⟨c2, e2⟩ := en_agg h.ag v
  have := hq.eq 10000 hm u v w
  rw [e1, e2] at this
  unfold execOp
  simp only [h1, h2, e1, e2]
  simp only [Sem.run_bind, run_eqGuard_agg w .neq T x y c1 c2 h.g, Result.andThen_ok, run_neq_struct, this]
  rfl
end
end HL
end Go.Proofs.YtfopgaijfeeioaaGreat
/- SYMBOLIC STATES: shifts. My own text; it names no program. -/


set_option linter.unusedVariables false
set_option linter.unusedSimpArgs false
set_option linter.unusedSectionVars false
namespace Go.Proofs.YtfopgaijfeeioaaGreat
namespace HL
open Go Go.RowKit
section
variable {P : Program} {env : List (Nat × TV)} {n : Nat} {B L : List (Nat × Res)}
variable {dst : Option Tmp} {ty : TypeId} {pos : String} {af : Array Edge} {gd : Option (Nat × Bool)} {x y : Operand} {T T' : TypeId}
theorem r_shr {k yk : IntKind} {p q : Int} (hx : ev env x = some (vi k p) := by rfl) (hy : ev env y = some (vi yk q) := by rfl) (h0 : 0 ≤ q := by omega) (h1 : q ≤ k.bits := by first | omega | decide) : Reads P ⟨dst, .binOp .shr T x y T', ty, pos, af, gd⟩ env n B L (vi k (p / 2 ^ q.toNat)) := fun a w ht _ => by
  unfold execOp
  have e1 : a.eval x = .int k p := ev_sound ht hx
  have e2 : a.eval y = .int yk q := ev_sound ht hy
  simp only [e1, e2]
  rw [Sem.run_bind]
  have : (do eqGuard .shr T x y (.int k p) (.int yk q); binOp .shr T (.int k p) (.int yk q) : Sem Value).run P w = .ok (.int k (p / 2 ^ q.toNat)) w := by
    simp only [eqGuard_shr, binOp_shr, shift_shr k yk p q h0 h1]
    rfl
  rw [this]
  rfl
end
end HL
end Go.Proofs.YtfopgaijfeeioaaGreat
/- SYMBOLIC STATES, COMPUTED: a function that goes through code as far as nothing is to be said; what it tells holds. My own text; it names no program. -/

set_option linter.unusedVariables false
set_option linter.unusedSimpArgs false
set_option linter.unusedSectionVars false
namespace Go.Proofs.YtfopgaijfeeioaaGreat
namespace HL
open Go Go.RowKit
def allP : List Prop → Prop
  | [] => True
  | c :: cs => c ∧ allP cs
theorem allP_append {a b : List Prop} : allP (a ++ b) ↔ allP a ∧ allP b := by
  induction a with
  | nil => exact ⟨fun h => ⟨trivial, h⟩, fun h => h.2⟩
  | cons c cs ih => exact ⟨fun h => ⟨⟨h.1, (ih.1 h.2).1⟩, (ih.1 h.2).2⟩, fun h => ⟨h.1.1, ih.2 ⟨h.1.2, h.2⟩⟩⟩
inductive TD where
  | int (k : IntKind)
  | bool
  | str
  | slice (e : Nat)
  | ptr (e : Nat)
  | map (k e : Nat)
  | arr (n e : Nat)
  | hash (e : Nat)
  | st (fs : List (Nat × Nat)) (fz : List SV)
  | ifc
  | oth
structure TA where
  agg : Bool
  sz : Nat
  z : SV
  bytes : Nat
inductive Bt (α : Type) where
  | l
  | n (a : Bt α) (k : Nat) (v : α) (b : Bt α)
def Bt.get {α : Type} : Bt α → Nat → Option α
  | .l, _ => none
  | .n a k v b, t => bif Nat.beq t k then some v else (bif Nat.blt t k then a.get t else b.get t)
def Bt.All {α : Type} (p : Nat → α → Prop) : Bt α → Prop
  | .l => True
  | .n a k v b => Bt.All p a ∧ p k v ∧ Bt.All p b
theorem Bt.All.get {α : Type} {p : Nat → α → Prop} : ∀ {t : Bt α}, t.All p → ∀ {k : Nat} {v : α}, t.get k = some v → p k v
  | .l, _, _, _, h => by cases h
  | .n a k' v' b, hp, k, v, h => by
    unfold Bt.get at h
    cases h1 : Nat.beq k k' with
    | true =>
      rw [h1] at h
      injection h with h
      subst h
      rw [Nat.eq_of_beq_eq_true h1]
      exact hp.2.1
    | false =>
      rw [h1] at h
      cases h2 : Nat.blt k k' with
      | true => rw [h2] at h; exact hp.1.get h
      | false => rw [h2] at h; exact hp.2.2.get h
structure TD.St (P : Program) (T : Nat) (fs : List (Nat × Nat)) (fz : List SV) : Prop where
  f : ∀ k ft off, fs[k]? = some (ft, off) → fieldFact P T k = some off ∧ fieldTy P T k = some (ft, off)
  z : structPlaces P T = some (placesOf (fz.map SV.den) 0)
def isIfc : Option TypeDesc → Bool
  | some (.interface _) => true
  | _ => false
def TD.ok (P : Program) (T : Nat) : TD → Prop
  | .int k => P.underlying T = some (.int k)
  | .bool => P.underlying T = some .bool
  | .str => P.underlying T = some .string
  | .slice e => P.underlying T = some (.slice e)
  | .ptr e => P.underlying T = some (.pointer e)
  | .map k e => P.underlying T = some (.map k e)
  | .arr n e => P.underlying T = some (.array n e)
  | .hash e => P.underlying T = some (.array 32 e) ∧ HashT P T
  | .st fs fz => TD.St P T fs fz
  | .ifc => isIfc (P.underlying T) = true
  | .oth => True
def TA.ok (P : Program) (T : Nat) (a : TA) : Prop := TyA P T a.agg a.sz a.z a.bytes
class Tb (P : Program) (td : outParam (Bt TD)) (ta : outParam (Bt TA)) : Prop where
  d : td.All (TD.ok P)
  a : ta.All (TA.ok P)
def Res.alls (n : Nat) (F : Nat → Res) : Res := ⟨fun b => ∃ m, m < n ∧ (F m).fp b, fun w => ∀ m, m < n → (F m).holds w, fun w h b ⟨m, hm, hb⟩ => (F m).bound w (h m hm) b hb, fun w w' hb h m hm => (F m).stable w w' (fun b hb' => hb b ⟨m, hm, hb'⟩) (h m hm)⟩
def Res.rdn {α : Type} (A : Option Addr) (E : En α) (l : List α) (F : α → Res) : Res := ⟨fun b => (Res.rd A E l).fp b ∨ ∃ x ∈ l, (F x).fp b, fun w => (Res.rd A E l).holds w ∧ ∀ x ∈ l, (F x).holds w, fun w h b hb => by
  rcases hb with hb | ⟨x, hx, hb⟩
  · exact (Res.rd A E l).bound w h.1 b hb
  · exact (F x).bound w (h.2 x hx) b hb, fun w w' hb h => ⟨(Res.rd A E l).stable w w' (fun b hb' => hb b (.inl hb')) h.1, fun x hx => (F x).stable w w' (fun b hb' => hb b (.inr ⟨x, hx, hb'⟩)) (h.2 x hx)⟩⟩
def Res.rwn {α : Type} (A : Option Addr) (c : Nat) (e : TypeId) (E : En α) (l : List α) (F : α → List Res) : Res := Res.bag (Res.rows A c e E l :: l.flatMap F)
inductive RS : Type 1 where
  | va (g : Nat) (e : TypeId) (xs : List At)
  | rows {α : Type} (df : α) (A : Option Addr) (c : Nat) (e : TypeId) (E : En α) (l : List α)
  | rd {α : Type} (df : α) (A : Option Addr) (E : En α) (l : List α)
  | rdn {α : Type} (df : α) (A : Option Addr) (E : En α) (l : List α) (n : Nat) (S : α → Nat → RS)
  | rwn {α : Type} (df : α) (A : Option Addr) (c : Nat) (e : TypeId) (E : En α) (l : List α) (n : Nat) (S : α → Nat → RS)
  | sem (r : Res)
def RS.den : RS → Res
  | .va g e xs => Res.va g e xs
  | .rows _ A c e E l => Res.rows A c e E l
  | .rd _ A E l => Res.rd A E l
  | .rdn _ A E l n S => Res.rdn A E l fun x => Res.alls n fun m => (S x m).den
  | .rwn _ A c e E l n S => Res.rwn A c e E l fun x => (List.range n).map fun m => (S x m).den
  | .sem r => r
structure RowX : Type 1 where
  {α : Type}
  df : α
  A : Option Addr
  E : En α
  l : List α
def RS.row : RS → Option RowX
  | .rows df A _ _ E l => some ⟨df, A, E, l⟩
  | .rd df A E l => some ⟨df, A, E, l⟩
  | .rdn df A E l _ _ => some ⟨df, A, E, l⟩
  | .rwn df A _ _ E l _ _ => some ⟨df, A, E, l⟩
  | _ => none
theorem RS.row_spec {r : RS} {x : RowX} (h : r.row = some x) : RowOf r.den x.A x.E x.l := by
  cases r with
  | rows df A c e E l => injection h with h; subst h; exact rowOf_rows
  | rd df A E l => injection h with h; subst h; exact rowOf_rd
  | rdn df A E l n S => injection h with h; subst h; exact ⟨fun w hw => rd_reads hw.1⟩
  | rwn df A c e E l n S => injection h with h; subst h; exact ⟨fun w hw => rows_reads (hw.1 _ (List.mem_cons_self ..))⟩
  | va g e xs => cases h
  | sem r => cases h
def RS.sub : RS → Nat → Nat → Option (RS × Prop)
  | .rdn df _ _ l n S, k, m => bif Nat.blt m n then some (S (l.getD k df) m, k < l.length) else none
  | .rwn df _ _ _ _ l n S, k, m => bif Nat.blt m n then some (S (l.getD k df) m, k < l.length) else none
  | _, _, _ => none
theorem getD_mem {α : Type} {l : List α} {k : Nat} {d : α} (h : k < l.length) : l.getD k d ∈ l := by
  rw [List.getD_eq_getElem?_getD, List.getElem?_eq_getElem h]
  exact List.getElem_mem h
theorem RS.sub_view {r r' : RS} {k m : Nat} {p : Prop} (h : r.sub k m = some (r', p)) (hp : p) : View r.den r'.den := by
  cases r with
  | rdn df A E l n S =>
    simp only [RS.sub] at h
    cases hb : Nat.blt m n with
    | false => rw [hb] at h; cases h
    | true =>
      rw [hb] at h
      injection h with h; injection h with h1 h2; subst h1; subst h2
      have hm : m < n := by simpa [Nat.blt_eq] using hb
      exact ⟨fun w hw => hw.2 _ (getD_mem hp) m hm, fun b hb => .inr ⟨_, getD_mem hp, m, hm, hb⟩⟩
  | rwn df A c e E l n S =>
    simp only [RS.sub] at h
    cases hb : Nat.blt m n with
    | false => rw [hb] at h; cases h
    | true =>
      rw [hb] at h
      injection h with h; injection h with h1 h2; subst h1; subst h2
      have hm : m < n := by simpa [Nat.blt_eq] using hb
      have hmem : (S (l.getD k df) m).den ∈ (Res.rows A c e E l :: l.flatMap fun x => (List.range n).map fun m => (S x m).den) := List.mem_cons_of_mem _ (List.mem_flatMap.2 ⟨_, getD_mem hp, List.mem_map.2 ⟨m, List.mem_range.2 hm, rfl⟩⟩)
      exact ⟨fun w hw => hw.1 _ hmem, fun b hb => ⟨_, hmem, hb⟩⟩
  | va g e xs => cases h
  | rows df A c e E l => cases h
  | rd df A E l => cases h
  | sem r => cases h
theorem View.trans {R S T : Res} (h1 : View R S) (h2 : View S T) : View R T := ⟨fun w hw => h2.h w (h1.h w hw), fun b hb => h1.f b (h2.f b hb)⟩
def RS.path : RS → List (Nat × Nat) → Option (RS × List Prop)
  | r, [] => some (r, [])
  | r, (k, m) :: ks => match r.sub k m with
    | some (r', p) => match RS.path r' ks with
      | some (x, cs) => some (x, p :: cs)
      | none => none
    | none => none
theorem RS.path_view : ∀ {ks : List (Nat × Nat)} {r x : RS} {cs : List Prop}, r.path ks = some (x, cs) → allP cs → View r.den x.den
  | [], r, x, cs, h, _ => by
    unfold RS.path at h
    injection h with h; injection h with h1 h2; subst h1
    exact View.refl _
  | (k, m) :: ks, r, x, cs, h, hc => by
    unfold RS.path at h
    split at h
    · rename_i r' p hs
      split at h
      · rename_i x' cs' hp
        injection h with h; injection h with h1 h2; subst h1; subst h2
        exact (RS.sub_view hs hc.1).trans (RS.path_view hp hc.2)
      · cases h
    · cases h
abbrev Hs := List (Nat × RS)
def dens : Hs → Hp
  | [] => []
  | (i, r) :: t => (i, r.den) :: dens t
theorem lk_dens (i : Nat) : ∀ (R : Hs), lk (dens R) i = (lk R i).map RS.den
  | [] => rfl
  | (k, r) :: t => by
    show lk ((k, r.den) :: dens t) i = _
    rw [lk_cons, lk_cons, lk_dens i t]
    split <;> rfl
theorem lk2_dens (RB R : Hs) (i : Nat) : lk2 (dens RB) (dens R) i = (lk2 RB R i).map RS.den := by
  unfold lk2
  rw [lk_dens, lk_dens]
  cases lk R i <;> rfl
theorem dens_append : ∀ (R S : Hs), dens (R ++ S) = dens R ++ dens S
  | [], S => rfl
  | (i, r) :: t, S => by
    show (i, r.den) :: dens (t ++ S) = _
    rw [dens_append t S]
    rfl
theorem dens_del (i : Nat) : ∀ (R : Hs), dens (del i R) = del i (dens R)
  | [] => rfl
  | (k, r) :: t => by
    show _ = del i ((k, r.den) :: dens t)
    rw [del_cons, del_cons, ← dens_del i t]
    split <;> rfl
theorem dens_dels : ∀ (is : List Nat) (R : Hs), dens (dels is R) = dels is (dens R)
  | [], R => rfl
  | i :: is, R => by
    show dens (dels is (del i R)) = dels is (del i (dens R))
    rw [dens_dels is, dens_del]
class Rr (r : Res) (x : outParam RS) : Prop where
  eq : x.den = r
class Rf (L : Hp) (R : outParam Hs) : Prop where
  eq : dens R = L
class Df (α : Type) (d : outParam α) : Prop where
instance (priority := low) {r : Res} : Rr r (.sem r) := ⟨rfl⟩
instance {g : Nat} {e : TypeId} {xs : List At} : Rr (Res.va g e xs) (.va g e xs) := ⟨rfl⟩
instance {α : Type} {d : α} [Df α d] {A : Option Addr} {c : Nat} {e : TypeId} {E : En α} {l : List α} : Rr (Res.rows A c e E l) (.rows d A c e E l) := ⟨rfl⟩
instance {α : Type} {d : α} [Df α d] {A : Option Addr} {E : En α} {l : List α} : Rr (Res.rd A E l) (.rd d A E l) := ⟨rfl⟩
instance {x : RS} : Rr x.den x := ⟨rfl⟩
instance : Rf [] [] := ⟨rfl⟩
instance {R : Hs} : Rf (dens R) R := ⟨rfl⟩
instance {i : Nat} {r : Res} {x : RS} {L : Hp} {R : Hs} [h1 : Rr r x] [h2 : Rf L R] : Rf ((i, r) :: L) ((i, x) :: R) := ⟨by rw [← h1.eq, ← h2.eq]; rfl⟩
instance {L L' : Hp} {R R' : Hs} [h1 : Rf L R] [h2 : Rf L' R'] : Rf (L ++ L') (R ++ R') := ⟨by rw [dens_append, h1.eq, h2.eq]⟩
instance {b : Nat} : Rf (num b []) [] := ⟨rfl⟩
instance {b : Nat} {r : Res} {rs : List Res} {x : RS} {R : Hs} [h1 : Rr r x] [h2 : Rf (num (b + 1) rs) R] : Rf (num b (r :: rs)) ((b, x) :: R) := ⟨by show (b, x.den) :: dens R = (b, r) :: num (b + 1) rs; rw [h1.eq, h2.eq]⟩
instance {is : List Nat} {L : Hp} {R : Hs} [h : Rf L R] : Rf (dels is L) (dels is R) := ⟨by rw [dens_dels, h.eq]⟩
instance {i : Nat} {L : Hp} {R : Hs} [h : Rf L R] : Rf (del i L) (del i R) := ⟨by rw [dens_del, h.eq]⟩
instance : Df Hash hz := ⟨⟩
instance : Df UInt8 0 := ⟨⟩
instance : Df Int 0 := ⟨⟩
instance : Df ByteArray ⟨#[]⟩ := ⟨⟩
instance : Df Bool false := ⟨⟩
def PV.norm : PV → PV
  | .nat k a => .i k (a : Int)
  | .kb x => .b x
  | .stl id A c0 sz o m c => .sl id (tailA A c0 o sz) m c
  | .sar id ad sz j off m => .sl id (some ((ad.add (j * sz)).add off)) m m
  | .sln id _ A m c => .sl id A m c
  | .eln id _ ad sz j off => .el id ad sz j off
  | p => p
theorem PV.den_norm (p : PV) : p.norm.den = p.den := by cases p <;> rfl
def SV.norm : SV → SV
  | .one p => .one p.norm
  | .agg xs => .agg xs
theorem SV.den_norm (v : SV) : v.norm.den = v.den := by
  cases v with
  | one p => exact p.den_norm
  | agg xs => rfl
def TV.res : TV → TV
  | .s v => .s v.norm
  | .tup l => .tup l
  | .un => .un
  | .cond g v => bif g then .s v.norm else .un
theorem TV.den_res (v : TV) : v.res.den = v.den := by
  cases v with
  | s v => exact v.den_norm
  | tup l => rfl
  | un => rfl
  | cond g v => cases g with
    | true => exact v.den_norm
    | false => rfl
def res : Env → Env
  | [] => []
  | (t, v) :: r => (t, v.res) :: res r
theorem lk_res (t : Nat) : ∀ (env : Env), lk (res env) t = (lk env t).map TV.res
  | [] => rfl
  | (k, v) :: r => by
    show lk ((k, v.res) :: res r) t = _
    rw [lk_cons, lk_cons, lk_res t r]
    split <;> rfl
theorem res_tm {env : Env} {n : Nat} {a : Act} (h : Tm env n a) : Tm (res env) n a := ⟨fun t v hv => by
  rw [lk_res] at hv
  obtain ⟨u, hu, rfl⟩ := Option.map_eq_some_iff.1 hv
  rw [u.den_res]
  exact h.tm t u hu, h.sz⟩
def evV (env : Env) : Operand → Option TV
  | .tmp t => lk env t
  | .const (.int k (.ofNat m)) => some (vnk k (@OfNat.ofNat Nat m (instOfNatNat m)))
  | .const (.bool x) => some (vk x)
  | o => ev env o
theorem evV_den {env : Env} {x : Operand} {v : TV} (h : evV env x = some v) : ∃ u, ev env x = some u ∧ u.den = v.den := by
  unfold evV at h
  split at h
  · exact ⟨v, h, rfl⟩
  · injection h with h
    subst h
    exact ⟨_, rfl, rfl⟩
  · injection h with h
    subst h
    exact ⟨_, rfl, rfl⟩
  · exact ⟨v, h, rfl⟩
theorem evV_sound {env : Env} {n : Nat} {a : Act} (ht : Tm env n a) {x : Operand} {v : TV} (h : evV env x = some v) : a.eval x = v.den := by
  obtain ⟨u, h1, h2⟩ := evV_den h
  rw [ev_sound ht h1, h2]
def evS (env : Env) (x : Operand) : Option (SV × List Prop) :=
  match evV env x with
  | some (.s v) => some (v, [])
  | some (.cond g v) => some (v, [g = true])
  | _ => none
theorem ev_const {e e' : Env} (u : Value) : ev e (.const u) = ev e' (.const u) := by
  cases u with
  | pointer p => cases p <;> rfl
  | map p => cases p <;> rfl
  | slice p i c => cases p <;> cases i <;> cases c <;> rfl
  | _ => rfl
theorem ev_const_one {env : Env} {u : Value} {y : TV} (h : ev env (.const u) = some y) : ∃ p : PV, y = .s (.one p) ∧ p.norm = p := by
  cases u with
  | int k z => injection h with h; exact ⟨_, h.symm, rfl⟩
  | bool x => injection h with h; exact ⟨_, h.symm, rfl⟩
  | string x => injection h with h; exact ⟨_, h.symm, rfl⟩
  | pointer p => cases p with
    | none => injection h with h; exact ⟨_, h.symm, rfl⟩
    | some p => exact nomatch (show (none : Option TV) = some y from h)
  | map p => cases p with
    | none => injection h with h; exact ⟨_, h.symm, rfl⟩
    | some p => exact nomatch (show (none : Option TV) = some y from h)
  | slice p i c => cases p with
    | some p => exact nomatch (show (none : Option TV) = some y from h)
    | none => cases i with
      | succ i => exact nomatch (show (none : Option TV) = some y from h)
      | zero => cases c with
        | succ c => exact nomatch (show (none : Option TV) = some y from h)
        | zero => injection h with h; exact ⟨_, h.symm, rfl⟩
  | nilFunc => injection h with h; exact ⟨_, h.symm, rfl⟩
  | nilIface => injection h with h; exact ⟨_, h.symm, rfl⟩
  | _ => exact nomatch (show (none : Option TV) = some y from h)
theorem evV_cases (env : Env) (u : Value) : evV env (.const u) = ev env (.const u) ∨ (∃ k m, u = .int k (.ofNat m) ∧ evV env (.const u) = some (vnk k m)) ∨ (∃ x, u = .bool x ∧ evV env (.const u) = some (vk x)) := by
  cases u with
  | int k z => cases z with
    | ofNat m => exact .inr (.inl ⟨k, m, rfl, rfl⟩)
    | negSucc m => exact .inl rfl
  | bool x => exact .inr (.inr ⟨x, rfl, rfl⟩)
  | _ => exact .inl rfl
theorem evS_res {env : Env} {x : Operand} {v : SV} {cs : List Prop} (h : evS env x = some (v, cs)) (hc : allP cs) : ev (res env) x = some (.s v.norm) := by
  unfold evS at h
  cases x with
  | tmp t =>
    show lk (res env) t = _
    rw [lk_res]
    have e : evV env (.tmp t) = lk env t := rfl
    rw [e] at h
    cases hl : lk env t with
    | none => rw [hl] at h; cases h
    | some u =>
      rw [hl] at h
      cases u with
      | s u => injection h with h; injection h with h1 h2; subst h1; rfl
      | cond g u =>
        injection h with h
        injection h with h1 h2
        subst h1
        subst h2
        have : g = true := hc.1
        subst this
        rfl
      | tup l => cases h
      | un => cases h
  | const u =>
    rw [show ev (res env) (.const u) = ev env (.const u) from ev_const u]
    rcases evV_cases env u with e | ⟨k, m, rfl, e⟩ | ⟨b, rfl, e⟩
    · rw [e] at h
      cases hy : ev env (.const u) with
      | none => rw [hy] at h; cases h
      | some y =>
        obtain ⟨p, rfl, hp⟩ := ev_const_one hy
        rw [hy] at h
        injection h with h
        injection h with h1 h2
        subst h1
        show some (TV.s (.one p)) = some (TV.s (.one p.norm))
        rw [hp]
    · rw [e] at h
      injection h with h
      injection h with h1 h2
      subst h1
      rfl
    · rw [e] at h
      injection h with h
      injection h with h1 h2
      subst h1
      rfl
  | global g =>
    injection h with h
    injection h with h1 h2
    subst h1
    rfl
  | func f =>
    injection h with h
    injection h with h1 h2
    subst h1
    rfl
end HL
end Go.Proofs.YtfopgaijfeeioaaGreat
/- SYMBOLIC STATES, COMPUTED: the operations that only read. My own text; it names no program. -/

set_option linter.unusedVariables false
set_option linter.unusedSimpArgs false
set_option linter.unusedSectionVars false
namespace Go.Proofs.YtfopgaijfeeioaaGreat
namespace HL
open Go Go.RowKit
abbrev RR := Option (TV × List Prop)
def PV.bool : PV → Option Bool
  | .b x => some x
  | .kb x => some x
  | _ => none
def rMove (env : Env) (x : Operand) : RR :=
  match evV env x with
  | some v => some (v, [])
  | none => none
def pickB (x : Bool) (p q : PV) : Option TV :=
  match p, q with
  | .kb true, q => match q.bool with
    | some w => some (vb (x || w))
    | none => none
  | p, .kb false => match p.bool with
    | some u => some (vb (x && u))
    | none => none
  | p, q => match p.bool, q.bool with
    | some u, some w => some (vb (bif x then u else w))
    | _, _ => none
def rPick (env : Env) (c y z : Operand) : RR :=
  match evS env c with
  | some (.one (.kb t), cs) => match t with
    | true => match evV env y with
      | some v => some (v, cs)
      | none => none
    | false => match evV env z with
      | some v => some (v, cs)
      | none => none
  | some (.one (.b x), cs) => match evS env y, evS env z with
    | some (.one p, c1), some (.one q, c2) => match pickB x p q with
      | some v => some (v, (x = true → allP c1) :: (x = false → allP c2) :: cs)
      | none => none
    | _, _ => none
  | _ => none
def ikn : IntKind → Nat
  | .i8 => 0 | .i16 => 1 | .i32 => 2 | .i64 => 3 | .u8 => 4 | .u16 => 5 | .u32 => 6 | .u64 => 7
theorem ikn_inj {a b : IntKind} (h : ikn a = ikn b) : a = b := by cases a <;> cases b <;> first | rfl | exact absurd h (by decide)
def ikeq (a b : IntKind) : Bool := Nat.beq (ikn a) (ikn b)
theorem ikeq_spec {a b : IntKind} (h : ikeq a b = true) : a = b := ikn_inj (Nat.eq_of_beq_eq_true h)
def exact64 (w : Bool) : IntKind → Bool
  | .i64 => !w
  | _ => false
def binI (o : BinOp) (w : Bool) (k : IntKind) (p q : Int) : RR :=
  match o with
  | .add => bif exact64 w k then some (vi k (p + q), [-9223372036854775808 ≤ p + q ∧ p + q ≤ 9223372036854775807]) else some (vi k (k.wrap (p + q)), [])
  | .sub => bif exact64 w k then some (vi k (p - q), [-9223372036854775808 ≤ p - q ∧ p - q ≤ 9223372036854775807]) else some (vi k (k.wrap (p - q)), [])
  | .mul => bif exact64 w k then some (vi k (p * q), [-9223372036854775808 ≤ p * q ∧ p * q ≤ 9223372036854775807]) else some (vi k (k.wrap (p * q)), [])
  | .quo => bif exact64 w k then some (vi k (p / q), [0 < q ∧ 0 ≤ p ∧ p ≤ 9223372036854775807]) else some (vi k (k.wrap (p.tdiv q)), [q ≠ 0])
  | .rem => bif w then some (vi k (p.tmod q), [q ≠ 0]) else some (vi k (p % q), [0 < q ∧ 0 ≤ p])
  | .lss => some (vb (decide (p < q)), [])
  | .leq => some (vb (decide (p ≤ q)), [])
  | .gtr => some (vb (decide (q < p)), [])
  | .geq => some (vb (decide (q ≤ p)), [])
  | .eql => some (vb (decide (p = q)), [])
  | .neq => some (vb (!decide (p = q)), [])
  | _ => none
def binN (o : BinOp) (w : Bool) (k : IntKind) (a b : Nat) : RR :=
  match o with
  | .add => bif exact64 w k then some (vnk k (a + b), [a + b ≤ 9223372036854775807]) else binI .add w k a b
  | .mul => bif exact64 w k then some (vnk k (a * b), [a * b ≤ 9223372036854775807]) else binI .mul w k a b
  | .quo => bif exact64 w k then some (vnk k (a / b), [0 < b ∧ a ≤ 9223372036854775807]) else binI .quo w k a b
  | .rem => bif w then binI .rem w k a b else some (vnk k (a % b), [0 < b])
  | .lss => some (vb (decide (a < b)), [])
  | .leq => some (vb (decide (a ≤ b)), [])
  | .gtr => some (vb (decide (b < a)), [])
  | .geq => some (vb (decide (b ≤ a)), [])
  | .eql => some (vb (decide (a = b)), [])
  | .neq => some (vb (!decide (a = b)), [])
  | o => binI o w k a b
def binS (o : BinOp) (x y : ByteArray) : RR :=
  match o with
  | .eql => some (vb (decide (x = y)), [])
  | .neq => some (vb (!decide (x = y)), [])
  | .lss => some (vb (decide (bltS x y)), [])
  | .gtr => some (vb (decide (bltS y x)), [])
  | .leq => some (vb (!decide (bltS y x)), [])
  | .geq => some (vb (!decide (bltS x y)), [])
  | _ => none
def binB (o : BinOp) (x y : Bool) : RR :=
  match o with
  | .eql => some (vb (x == y), [])
  | .neq => some (vb (!(x == y)), [])
  | _ => none
def eqNe (o : BinOp) (x : Bool) (lit : Option Bool) : RR :=
  match o with
  | .eql => match lit with
    | some true => some (vk true, [])
    | some false => some (vk false, [])
    | none => some (vb x, [])
  | .neq => match lit with
    | some true => some (vk false, [])
    | some false => some (vk true, [])
    | none => some (vb (!x), [])
  | _ => none
def nilLit : TD → PV → PV → Option (Option Bool × Bool)
  | .ptr _, p, .pn => match p with
    | .pn => some (some true, true)
    | .ptr _ _ => some (some false, false)
    | .el _ _ _ _ _ => some (some false, false)
    | .eln _ _ _ _ _ _ => some (some false, false)
    | _ => none
  | .map _ _, p, .mn => match p with
    | .mn => some (some true, true)
    | .mp _ _ => some (some false, false)
    | _ => none
  | .slice _, p, .sl _ none 0 0 => match p with
    | .sl _ A _ _ => some (none, A.isNone)
    | .sln _ _ A _ _ => some (none, A.isNone)
    | _ => none
  | _, _, _ => none
def addC (cs : List Prop) : RR → RR
  | some (v, c) => some (v, c ++ cs)
  | none => none
def rBin0 (td : Bt TD) (w : Bool) (env : Env) (o : BinOp) (T : Nat) (x y : Operand) : RR :=
  match evS env x, evS env y with
  | some (.one p, c1), some (.one q, c2) => addC (c1 ++ c2) (match p, q with
    | .nat k a, .nat k' b => bif ikeq k k' then binN o w k a b else none
    | .nat k a, .i k' b => bif ikeq k k' then binI o w k a b else none
    | .i k a, .nat k' b => bif ikeq k k' then binI o w k a b else none
    | .i k a, .i k' b => bif ikeq k k' then binI o w k a b else none
    | .s a, .s b => binS o a b
    | p, q => match td.get T with
      | some .bool => match p.bool, q.bool with
        | some a, some b => binB o a b
        | _, _ => none
      | some d => match nilLit d p q with
        | some (l, b) => eqNe o b l
        | none => none
      | none => none)
  | some (.agg [.hash a], c1), some (.agg [.hash b], c2) => match td.get T with
    | some (.hash _) => addC (c1 ++ c2) (match o with
      | .eql => some (vb (decide (a = b)), [])
      | .neq => some (vb (!decide (a = b)), [])
      | _ => none)
    | _ => none
  | _, _ => none
def isNilC : Operand → Bool
  | .const .nilIface => true
  | _ => false
def rIfc (td : Bt TD) (env : Env) (o : BinOp) (T : Nat) (x : Operand) : RR :=
  match td.get T, evS env x with
  | some .ifc, some (.one .ifn, cs) => addC cs (eqNe o true (some true))
  | some .ifc, some (.one (.ifv _ _), cs) => addC cs (eqNe o false (some false))
  | _, _ => none
def rBin (td : Bt TD) (w : Bool) (env : Env) (o : BinOp) (T : Nat) (x y : Operand) : RR :=
  match isNilC y with
  | true => rIfc td env o T x
  | false => rBin0 td w env o T x y
def rUn (w : Bool) (env : Env) (o : UnOp) (x : Operand) : RR :=
  match o, evS env x with
  | .not, some (.one (.kb b), cs) => match b with
    | true => some (vk false, cs)
    | false => some (vk true, cs)
  | .not, some (.one (.b b), cs) => some (vb (!b), cs)
  | .neg, some (.one (.i k p), cs) => some (vi k (k.wrap (0 - p)), cs)
  | .neg, some (.one (.nat k p), cs) => some (vi k (k.wrap (0 - p)), cs)
  | _, _ => none
def kmax : IntKind → Nat
  | .i8 => 127 | .i16 => 32767 | .i32 => 2147483647 | .i64 => 9223372036854775807 | .u8 => 255 | .u16 => 65535 | .u32 => 4294967295 | .u64 => 18446744073709551615
def kmin : IntKind → Int
  | .i8 => -128 | .i16 => -32768 | .i32 => -2147483648 | .i64 => -9223372036854775808 | _ => 0
def rConv (td : Bt TD) (w : Bool) (env : Env) (T T' : Nat) (x : Operand) : RR :=
  match td.get T, td.get T', evS env x with
  | some (.int _), some (.int k), some (.one (.nat _ a), cs) => bif w then some (vi k (k.wrap a), cs) else some (vnk k a, (a ≤ kmax k) :: cs)
  | some (.int _), some (.int k), some (.one (.i _ a), cs) => bif w then some (vi k (k.wrap a), cs) else some (vi k a, (kmin k ≤ a ∧ a ≤ kmax k) :: cs)
  | some .str, some .str, some (.one (.s a), cs) => some (vs a, cs)
  | _, _, _ => none
def rExtract (env : Env) (x : Operand) (k : Nat) : RR :=
  match evV env x with
  | some (.tup l) => match l[k]? with
    | some v => some (.s v, [])
    | none => none
  | _ => none
def rNil (env : Env) (x : Operand) : RR :=
  match evS env x with
  | some (.one (.ptr i p), cs) => some (vp i p, cs)
  | some (.one (.el i ad sz j off), cs) => some (.s (.one (.el i ad sz j off)), cs)
  | some (.one (.eln i ks ad sz j off), cs) => some (.s (.one (.eln i ks ad sz j off)), cs)
  | some (.one (.fn f cap gh), cs) => some (.s (.one (.fn f cap gh)), cs)
  | _ => none
def rowAt (RB R : Hs) (i : Nat) (ks : List (Nat × Nat)) : Option (RowX × List Prop) :=
  match lk2 RB R i with
  | some r => match r.path ks with
    | some (r', cs) => match r'.row with
      | some x => some (x, cs)
      | none => none
    | none => none
  | none => none
def appK : List (Nat × Nat) → Nat × Nat → List (Nat × Nat)
  | [], x => [x]
  | a :: r, x => a :: appK r x
def marksO (i : Nat) (ks : List (Nat × Nat)) (j : Nat) : List At → Option (List At)
  | [] => some []
  | a :: r => match marksO i ks j r with
    | some r' => match a with
      | .one (.sl m A n c) => some (.one (.sln i (appK ks (j, m)) A n c) :: r')
      | a => some (a :: r')
    | none => none
def SV.markO (i : Nat) (ks : List (Nat × Nat)) (j : Nat) : SV → Option SV
  | .one (.sl m A n c) => some (.one (.sln i (appK ks (j, m)) A n c))
  | .one p => some (.one p)
  | .agg xs => match marksO i ks j xs with
    | some r => some (.agg r)
    | none => none
def loadEl (ta : Bt TA) (RB R : Hs) (T i : Nat) (ks : List (Nat × Nat)) (ad : Addr) (sz j off : Nat) (cs : List Prop) : RR :=
  match ta.get T, rowAt RB R i ks with
  | some a, some (⟨df, A, E, l⟩, c2) => match cutAt (E.f (l.getD j df)).ats off a.sz with
    | some r => match mkSV a.agg r with
      | some u => match u.markO i ks j with
        | some u' => some (.s u', (A.getD ad0 = ad) :: (sz = E.sz) :: (j < l.length) :: (c2 ++ cs))
        | none => none
      | none => none
    | none => none
  | _, _ => none
def rLoad (ta : Bt TA) (RB R : Hs) (env : Env) (T : Nat) (x : Operand) : RR :=
  match evS env x with
  | some (.one (.ptr i ⟨g, off, none⟩), cs) => match ta.get T, lk2 RB R i with
    | some a, some (.va g' e xs) => match cutAt xs off a.sz with
      | some r => match mkSV a.agg r with
        | some u => some (.s u, (g = g') :: cs)
        | none => none
      | none => none
    | _, _ => none
  | some (.one (.el i ad sz j off), cs) => loadEl ta RB R T i [] ad sz j off cs
  | some (.one (.eln i ks ad sz j off), cs) => loadEl ta RB R T i ks ad sz j off cs
  | _ => none
def fld (td : Bt TD) (T k : Nat) : Option (Nat × Nat) :=
  match td.get T with
  | some (.st fs _) => fs[k]?
  | _ => none
def rFieldA (td : Bt TD) (env : Env) (T k : Nat) (x : Operand) : RR :=
  match fld td T k, evS env x with
  | some (_, off), some (.one (.ptr i ⟨g, o, none⟩), cs) => some (vp i ⟨g, o + off, none⟩, cs)
  | some (_, off), some (.one (.el i ad sz j o), cs) => some (.s (.one (.el i ad sz j (o + off))), cs)
  | some (_, off), some (.one (.eln i ks ad sz j o), cs) => some (.s (.one (.eln i ks ad sz j (o + off))), cs)
  | _, _ => none
def rFieldV (td : Bt TD) (ta : Bt TA) (env : Env) (T k : Nat) (x : Operand) : RR :=
  match fld td T k, evS env x with
  | some (ft, off), some (.agg xs, cs) => match ta.get ft with
    | some a => match cutAt xs off a.sz with
      | some r => match mkSV a.agg r with
        | some u => some (.s u, cs)
        | none => none
      | none => none
    | none => none
  | _, _ => none
def idx (env : Env) (y : Operand) : Option (Nat × List Prop) :=
  match evS env y with
  | some (.one (.nat _ j), cs) => some (j, cs)
  | some (.one (.i _ p), cs) => some (p.toNat, (0 ≤ p) :: cs)
  | _ => none
def rIndex (td : Bt TD) (ta : Bt TA) (RB R : Hs) (env : Env) (T : Nat) (x y : Operand) : RR :=
  match td.get T with
  | some (.slice e) => match ta.get e, evS env x, idx env y with
    | some a, some (.one (.sl i A m c), cs), some (j, c2) => match rowAt RB R i [] with
      | some (⟨df, A', E, l⟩, c3) => some (.s (.one (.el i (A'.getD ad0) a.sz j 0)), (A = A') :: (j < m) :: (m ≤ l.length) :: (c3 ++ (cs ++ c2)))
      | none => none
    | some a, some (.one (.sln i ks A m c), cs), some (j, c2) => match rowAt RB R i ks with
      | some (⟨df, A', E, l⟩, c3) => some (.s (.one (.eln i ks (A'.getD ad0) a.sz j 0)), (A = A') :: (j < m) :: (m ≤ l.length) :: (c3 ++ (cs ++ c2)))
      | none => none
    | some a, some (.one (.stl i A c0 sz o m c), cs), some (j, c2) => match rowAt RB R i [] with
      | some (⟨df, A', E, l⟩, c3) => some (.s (.one (.el i (A'.getD ad0) a.sz (o + j) 0)), (A = A') :: (j < m) :: (o + m ≤ l.length) :: (sz = a.sz) :: (m ≠ 0 → c0 ≠ o) :: (c3 ++ (cs ++ c2)))
      | none => none
    | _, _, _ => none
  | _ => none
def rLen (td : Bt TD) (env : Env) (T : Nat) (x : Operand) : RR :=
  match td.get T, evS env x with
  | some (.slice _), some (.one (.sl _ _ m _), cs) => some (vn m, cs)
  | some (.slice _), some (.one (.stl _ _ _ _ _ m _), cs) => some (vn m, cs)
  | some (.slice _), some (.one (.sar _ _ _ _ _ m), cs) => some (vn m, cs)
  | some (.slice _), some (.one (.sln _ _ _ m _), cs) => some (vn m, cs)
  | some .str, some (.one (.s a), cs) => some (vn a.size, cs)
  | _, _ => none
def rSlice (td : Bt TD) (ta : Bt TA) (env : Env) (T : Nat) (x : Operand) (lo hi mx : Option Operand) : RR :=
  match td.get T, evS env x, lo, hi, mx with
  | some (.slice e), some (.one (.sl i A m c), cs), none, some h, none => match idx env h, ta.get e with
    | some (j, c2), some a => some (vsl i A j c, (j ≤ c) :: (cs ++ c2))
    | _, _ => none
  | some (.slice e), some (.one (.sl i A m c), cs), some l, none, none => match idx env l, ta.get e with
    | some (j, c2), some a => some (.s (.one (.stl i A c a.sz j (m - j) (c - j))), (j ≤ m) :: (cs ++ c2))
    | _, _ => none
  | some (.slice e), some (.one (.sl i A m c), cs), some l, some h, none => match idx env l, idx env h, ta.get e with
    | some (j, c2), some (k, c3), some a => some (.s (.one (.stl i A c a.sz j (k - j) (c - j))), (j ≤ k) :: (k ≤ c) :: (cs ++ (c2 ++ c3)))
    | _, _, _ => none
  | some (.slice e), some (.one (.sl i A m c), cs), none, none, none => match ta.get e with
    | some a => some (vsl i A m c, (m ≤ c) :: cs)
    | none => none
  | some (.hash e), some (.one (.ptr i ⟨g, off, none⟩), cs), none, none, none => match ta.get e with
    | some a => some (vsl i (some ⟨g, off, none⟩) 32 32, cs)
    | none => none
  | some (.hash e), some (.one (.el i ad sz j off), cs), none, none, none => match ta.get e with
    | some a => some (.s (.one (.sar i ad sz j off 32)), cs)
    | none => none
  | some (.arr n e), some (.one (.ptr i ⟨g, off, none⟩), cs), none, none, none => match ta.get e with
    | some a => some (vsl i (some ⟨g, off, none⟩) n n, cs)
    | none => none
  | some (.arr n e), some (.one (.el i ad sz j off), cs), none, none, none => match ta.get e with
    | some a => some (.s (.one (.sar i ad sz j off n)), cs)
    | none => none
  | _, _, _, _, _ => none
def bldV (env : Env) : List SV → List (Nat × Operand) → Option (List SV × List Prop)
  | fs, [] => some (fs, [])
  | fs, (k, x) :: ps => match evS env x with
    | some (v, c) => match setF fs k v.norm with
      | some fs' => match bldV env fs' ps with
        | some (r, cs) => some (r, c ++ cs)
        | none => none
      | none => none
    | none => none
def rBuild (td : Bt TD) (ta : Bt TA) (env : Env) (T : Nat) (ps : List (Nat × Operand)) : RR :=
  match td.get T, ta.get T with
  | some (.st fs fz), some a => match bldV env fz ps with
    | some (r, cs) => match flatF r, a.agg with
      | some xs, true => some (.s (.agg xs), (flatF fz = some a.z.ats) :: (a.z.isAgg = true) :: cs)
      | _, _ => none
    | none => none
  | _, _ => none
def rMakeFunc (env : Env) (f : Fn) (first cap : List Operand) : RR :=
  match f, first with
  | .func f, [] => match caps env cap with
    | some (vs, gs) => some (.s (.one (.fn f vs gs)), [])
    | none => none
  | _, _ => none
def rBuiltin (td : Bt TD) (env : Env) (c : Call) : RR :=
  match c.callee, c.args.toList, c.argTypes.toList with
  | .builtin .len, [x], [T] => rLen td env T x
  | _, _, _ => none
def rdo (td : Bt TD) (ta : Bt TA) (w : Bool) (env : Env) (RB R : Hs) : Op → RR
  | .move x => rMove env x
  | .assign x => rMove env x
  | .pick c y z => rPick env c y z
  | .binOp o T x y _ => rBin td w env o T x y
  | .unOp o T x => rUn w env o x
  | .convert T T' x => rConv td w env T T' x
  | .extract x k => rExtract env x k
  | .nilCheck x => rNil env x
  | .load T x => rLoad ta RB R env T x
  | .fieldAddr T x k => rFieldA td env T k x
  | .field T x k => rFieldV td ta env T k x
  | .indexAddr T x y => rIndex td ta RB R env T x y
  | .slice T x lo hi mx => rSlice td ta env T x lo hi mx
  | .build T ps => rBuild td ta env T ps.toList
  | .makeFunc f first cap => rMakeFunc env f first.toList cap.toList
  | .call c => rBuiltin td env c
  | _ => none
end HL
end Go.Proofs.YtfopgaijfeeioaaGreat
/- SYMBOLIC STATES, COMPUTED: what is told of the operations that only read holds. My own text; it names no program. -/

set_option linter.unusedVariables false
set_option linter.unusedSimpArgs false
set_option linter.unusedSectionVars false
namespace Go.Proofs.YtfopgaijfeeioaaGreat
namespace HL
open Go Go.RowKit
section
variable {P : Program} {env : Env} {n : Nat} {B L : Hp} {td : Bt TD} {ta : Bt TA} {RB R : Hs} {w : Bool}
variable {dst : Option Tmp} {ty : TypeId} {pos : String} {af : Array Edge} {gd : Option (Nat × Bool)} {x y z : Operand} {T T' : TypeId}
theorem Reads.of_res {o : Oper} {u v : TV} (h : Reads P o (res env) n B L u) (e : u.den = v.den) : Reads P o env n B L v := fun a w ht hf => by rw [h a w (res_tm ht) hf, e]
theorem Reads.den {o : Oper} {u v : TV} (h : Reads P o env n B L u) (e : u.den = v.den) : Reads P o env n B L v := fun a w ht hf => by rw [h a w ht hf, e]
theorem evS_sound {a : Act} (ht : Tm env n a) {v : SV} {cs : List Prop} (h : evS env x = some (v, cs)) (hc : allP cs) : a.eval x = v.den := by
  have := ev_sound (res_tm ht) (evS_res h hc)
  rw [this]
  exact v.den_norm
theorem s_move {v : TV} {cs : List Prop} (h : rMove env x = some (v, cs)) : Reads P ⟨dst, .move x, ty, pos, af, gd⟩ env n B L v := fun a w ht _ => by
  unfold rMove at h
  split at h
  · rename_i u hu
    injection h with h
    injection h with h1 h2
    subst h1
    unfold execOp
    simp [evV_sound ht hu]
  · cases h
theorem s_assign {v : TV} {cs : List Prop} (h : rMove env x = some (v, cs)) : Reads P ⟨dst, .assign x, ty, pos, af, gd⟩ env n B L v := fun a w ht _ => by
  unfold rMove at h
  split at h
  · rename_i u hu
    injection h with h
    injection h with h1 h2
    subst h1
    unfold execOp
    simp [evV_sound ht hu]
  · cases h
theorem reads_pick {c : Bool} {v : TV} (hc : ∀ a, Tm env n a → a.eval x = .bool c) (hv : ∀ a, Tm env n a → (if c = true then a.eval y else a.eval z) = v.den) : Reads P ⟨dst, .pick x y z, ty, pos, af, gd⟩ env n B L v := fun a w ht _ => by
  unfold execOp
  have h1 := hc a ht
  have h2 := hv a ht
  cases c
  · simp only [Bool.false_eq_true, if_false] at h2
    simp [h1, h2, asBool, Sem.run_bind]
  · simp only [if_true] at h2
    simp [h1, h2, asBool, Sem.run_bind]
theorem PV.bool_den {p : PV} {u : Bool} (h : p.bool = some u) : p.den = .bool u := by
  cases p <;> first | (injection h with h; subst h; rfl) | cases h
theorem pickB_den {c : Bool} {p q : PV} {v : TV} (h : pickB c p q = some v) : (if c = true then p.den else q.den) = v.den := by
  unfold pickB at h
  split at h
  · split at h
    · rename_i w hw
      injection h with h
      subst h
      rw [PV.bool_den hw]
      cases c <;> rfl
    · cases h
  · split at h
    · rename_i u hu
      injection h with h
      subst h
      rw [PV.bool_den hu]
      cases c
      · rfl
      · show Value.bool u = Value.bool (true && u)
        rw [Bool.true_and]
    · cases h
  · split at h
    · rename_i u w hu hw
      injection h with h
      subst h
      rw [PV.bool_den hu, PV.bool_den hw]
      cases c <;> rfl
    · cases h
theorem s_pick {v : TV} {cs : List Prop} (h : rPick env x y z = some (v, cs)) (hc : allP cs) : Reads P ⟨dst, .pick x y z, ty, pos, af, gd⟩ env n B L v := by
  unfold rPick at h
  split at h
  · rename_i t cs' hx
    split at h
    · split at h
      · rename_i u hu
        injection h with h
        injection h with h1 h2
        subst h1; subst h2
        exact reads_pick (c := true) (fun a ht => evS_sound ht hx hc) (fun a ht => by simpa using evV_sound ht hu)
      · cases h
    · split at h
      · rename_i u hu
        injection h with h
        injection h with h1 h2
        subst h1; subst h2
        exact reads_pick (c := false) (fun a ht => evS_sound ht hx hc) (fun a ht => by simpa using evV_sound ht hu)
      · cases h
  · rename_i t cs' hx
    split at h
    · rename_i p c1 q c2 hy hz
      split at h
      · rename_i u hu
        injection h with h
        injection h with h1 h2
        subst h1; subst h2
        obtain ⟨h3, h4, h5⟩ := hc
        refine reads_pick (c := t) (fun a ht => evS_sound ht hx h5) (fun a ht => ?_)
        rw [← pickB_den hu]
        cases t with
        | true => simp only [if_true]; exact evS_sound ht hy (h3 rfl)
        | false => simp only [Bool.false_eq_true, if_false]; exact evS_sound ht hz (h4 rfl)
      · cases h
    · cases h
  · cases h
theorem exact64_spec {k : IntKind} (h : exact64 w k = true) : k = .i64 := by
  unfold exact64 at h
  split at h
  · rfl
  · cases h
theorem s_binI {o : BinOp} {k : IntKind} {p q : Int} {v : TV} {cs : List Prop} (h : binI o w k p q = some (v, cs)) (hc : allP cs) (hx : ev env x = some (vi k p)) (hy : ev env y = some (vi k q)) : Reads P ⟨dst, .binOp o T x y T', ty, pos, af, gd⟩ env n B L v := by
  unfold binI at h
  cases o <;> simp only at h
  case add =>
    cases he : exact64 w k <;> rw [he] at h <;> injection h with h <;> injection h with h1 h2 <;> subst h1 <;> subst h2
    · exact r_addW hx hy
    · obtain rfl := exact64_spec he; exact r_add hx hy hc.1
  case sub =>
    cases he : exact64 w k <;> rw [he] at h <;> injection h with h <;> injection h with h1 h2 <;> subst h1 <;> subst h2
    · exact r_subW hx hy
    · obtain rfl := exact64_spec he; exact r_sub hx hy hc.1
  case mul =>
    cases he : exact64 w k <;> rw [he] at h <;> injection h with h <;> injection h with h1 h2 <;> subst h1 <;> subst h2
    · exact r_mulW hx hy
    · obtain rfl := exact64_spec he; exact r_mul hx hy hc.1
  case quo =>
    cases he : exact64 w k <;> rw [he] at h <;> injection h with h <;> injection h with h1 h2 <;> subst h1 <;> subst h2
    · exact r_quoT hx hy hc.1
    · obtain rfl := exact64_spec he; exact r_quo hx hy hc.1
  case rem =>
    cases w <;> injection h with h <;> injection h with h1 h2 <;> subst h1 <;> subst h2
    · exact r_rem hx hy hc.1
    · exact r_remT hx hy hc.1
  case lss => injection h with h; injection h with h1 h2; subst h1; exact r_lss hx hy
  case leq => injection h with h; injection h with h1 h2; subst h1; exact r_leq hx hy
  case gtr => injection h with h; injection h with h1 h2; subst h1; exact r_gtr hx hy
  case geq => injection h with h; injection h with h1 h2; subst h1; exact r_geq hx hy
  case eql => injection h with h; injection h with h1 h2; subst h1; exact r_eql hx hy
  case neq => injection h with h; injection h with h1 h2; subst h1; exact r_neq hx hy
  all_goals cases h
theorem s_binN {o : BinOp} {k : IntKind} {p q : Nat} {v : TV} {cs : List Prop} (h : binN o w k p q = some (v, cs)) (hc : allP cs) (hx : ev env x = some (vi k p)) (hy : ev env y = some (vi k q)) : Reads P ⟨dst, .binOp o T x y T', ty, pos, af, gd⟩ env n B L v := by
  unfold binN at h
  cases o <;> simp only at h
  case add =>
    cases he : exact64 w k <;> rw [he] at h
    · exact s_binI (show binI .add w k p q = some (v, cs) from h) hc hx hy
    · injection h with h; injection h with h1 h2; subst h1; subst h2
      obtain rfl := exact64_spec he
      have := hc.1
      exact (r_add hx hy (by omega)).den (by show Value.int _ _ = Value.int _ _; rw [Int.natCast_add])
  case mul =>
    cases he : exact64 w k <;> rw [he] at h
    · exact s_binI (show binI .mul w k p q = some (v, cs) from h) hc hx hy
    · injection h with h; injection h with h1 h2; subst h1; subst h2
      obtain rfl := exact64_spec he
      have h3 : ((p * q : Nat) : Int) ≤ 9223372036854775807 := by have := hc.1; omega
      rw [Int.natCast_mul] at h3
      have h4 : (0 : Int) ≤ (p : Int) * (q : Int) := by rw [← Int.natCast_mul]; omega
      exact (r_mul hx hy (by omega)).den (by show Value.int _ _ = Value.int _ _; rw [Int.natCast_mul])
  case quo =>
    cases he : exact64 w k <;> rw [he] at h
    · exact s_binI (show binI .quo w k p q = some (v, cs) from h) hc hx hy
    · injection h with h; injection h with h1 h2; subst h1; subst h2
      obtain rfl := exact64_spec he
      have := hc.1
      exact (r_quo hx hy (by omega)).den (by show Value.int _ _ = Value.int _ _; rw [Int.natCast_ediv])
  case rem =>
    cases w
    · injection h with h; injection h with h1 h2; subst h1; subst h2
      have := hc.1
      exact (r_rem hx hy (by omega)).den (by show Value.int _ _ = Value.int _ _; rw [Int.natCast_emod])
    · exact s_binI (show binI .rem true k p q = some (v, cs) from h) hc hx hy
  case lss => injection h with h; injection h with h1 h2; subst h1; exact (r_lss hx hy).den (by show Value.bool _ = Value.bool _; congr 1; exact decide_eq_decide.2 Int.ofNat_lt)
  case leq => injection h with h; injection h with h1 h2; subst h1; exact (r_leq hx hy).den (by show Value.bool _ = Value.bool _; congr 1; exact decide_eq_decide.2 Int.ofNat_le)
  case gtr => injection h with h; injection h with h1 h2; subst h1; exact (r_gtr hx hy).den (by show Value.bool _ = Value.bool _; congr 1; exact decide_eq_decide.2 Int.ofNat_lt)
  case geq => injection h with h; injection h with h1 h2; subst h1; exact (r_geq hx hy).den (by show Value.bool _ = Value.bool _; congr 1; exact decide_eq_decide.2 Int.ofNat_le)
  case eql => injection h with h; injection h with h1 h2; subst h1; exact (r_eql hx hy).den (by show Value.bool _ = Value.bool _; congr 1; exact decide_eq_decide.2 Int.ofNat_inj)
  case neq => injection h with h; injection h with h1 h2; subst h1; exact (r_neq hx hy).den (by show Value.bool _ = Value.bool _; congr 2; exact decide_eq_decide.2 Int.ofNat_inj)
  all_goals exact s_binI h hc hx hy
theorem s_binS {o : BinOp} {p q : ByteArray} {v : TV} {cs : List Prop} (h : binS o p q = some (v, cs)) (hx : ev env x = some (vs p)) (hy : ev env y = some (vs q)) : Reads P ⟨dst, .binOp o T x y T', ty, pos, af, gd⟩ env n B L v := by
  unfold binS at h
  cases o <;> simp only at h
  case eql => injection h with h; injection h with h1 h2; subst h1; exact r_eqlS hx hy
  case neq => injection h with h; injection h with h1 h2; subst h1; exact r_neqS hx hy
  case lss => injection h with h; injection h with h1 h2; subst h1; exact r_lssS hx hy
  case gtr => injection h with h; injection h with h1 h2; subst h1; exact r_gtrS hx hy
  case leq => injection h with h; injection h with h1 h2; subst h1; exact r_leqS hx hy
  case geq => injection h with h; injection h with h1 h2; subst h1; exact r_geqS hx hy
  all_goals cases h
theorem s_binB {o : BinOp} {p q : Bool} {v : TV} {cs : List Prop} (hT : UD P T .bool) (h : binB o p q = some (v, cs)) (hx : ev env x = some (vb p)) (hy : ev env y = some (vb q)) : Reads P ⟨dst, .binOp o T x y T', ty, pos, af, gd⟩ env n B L v := by
  unfold binB at h
  cases o <;> simp only at h
  case eql => injection h with h; injection h with h1 h2; subst h1; exact r_eqB (hT := hT) hx hy
  case neq => injection h with h; injection h with h1 h2; subst h1; exact r_neB (hT := hT) hx hy
  all_goals cases h
theorem r_eqNilS {i m c : Nat} {A : Option Addr} {e : TypeId} [hu : UD P T (.slice e)] (hx : ev env x = some (vsl i A m c)) {i' : Nat} (hy : ev env y = some (vsl i' none 0 0)) : Reads P ⟨dst, .binOp .eql T x y T', ty, pos, af, gd⟩ env n B L (vb A.isNone) := fun a w ht _ => by
  have h1 : a.eval x = .slice A m c := ev_sound ht hx
  have h2 : a.eval y = .slice none 0 0 := ev_sound ht hy
  unfold execOp
  simp only [h1, h2]
  rw [Sem.run_bind, Sem.run_bind, eqGuard_nil w (by simp), Result.andThen_ok]
  simp only [binOp, Sem.run_bind, run_equalSl hu.is]
  rfl
theorem r_neNilS {i m c : Nat} {A : Option Addr} {e : TypeId} [hu : UD P T (.slice e)] (hx : ev env x = some (vsl i A m c)) {i' : Nat} (hy : ev env y = some (vsl i' none 0 0)) : Reads P ⟨dst, .binOp .neq T x y T', ty, pos, af, gd⟩ env n B L (vb (!A.isNone)) := fun a w ht _ => by
  have h1 : a.eval x = .slice A m c := ev_sound ht hx
  have h2 : a.eval y = .slice none 0 0 := ev_sound ht hy
  unfold execOp
  simp only [h1, h2]
  rw [Sem.run_bind, Sem.run_bind, eqGuard_nil w (by simp), Result.andThen_ok]
  simp only [binOp, Sem.run_bind, run_equalSl hu.is]
  rfl
theorem eqNe_eq {b : Bool} {l : Option Bool} (hl : ∀ x, l = some x → x = b) {o : BinOp} {v : TV} {cs : List Prop} (h : eqNe o b l = some (v, cs)) (h1 : Reads P ⟨dst, .binOp .eql T x y T', ty, pos, af, gd⟩ env n B L (vb b)) (h2 : Reads P ⟨dst, .binOp .neq T x y T', ty, pos, af, gd⟩ env n B L (vb (!b))) : Reads P ⟨dst, .binOp o T x y T', ty, pos, af, gd⟩ env n B L v := by
  unfold eqNe at h
  split at h
  · split at h <;> injection h with h <;> injection h with h3 h4 <;> subst h3
    · obtain rfl := hl _ rfl; exact h1
    · obtain rfl := hl _ rfl; exact h1
    · exact h1
  · split at h <;> injection h with h <;> injection h with h3 h4 <;> subst h3
    · obtain rfl := hl _ rfl; exact h2
    · obtain rfl := hl _ rfl; exact h2
    · exact h2
  · cases h
theorem s_nilcmp {d : TD} {o : BinOp} {p q : PV} {l : Option Bool} {b : Bool} {v : TV} {cs : List Prop} (hd : d.ok P T) (hn : nilLit d p q = some (l, b)) (h : eqNe o b l = some (v, cs)) (hx : ev env x = some (.s (.one p.norm))) (hy : ev env y = some (.s (.one q.norm))) : Reads P ⟨dst, .binOp o T x y T', ty, pos, af, gd⟩ env n B L v := by
  unfold nilLit at hn
  split at hn
  · have hu : UD P T _ := ⟨hd⟩
    split at hn <;> first | cases hn | skip
    · exact eqNe_eq (by rintro x ⟨⟩; rfl) h (r_eqNilP (b := true) hx hy rfl) (r_neNilP (b := true) hx hy rfl)
    · exact eqNe_eq (by rintro x ⟨⟩; rfl) h (r_eqNilP (b := false) hx hy rfl) (r_neNilP (b := false) hx hy rfl)
    · exact eqNe_eq (by rintro x ⟨⟩; rfl) h (r_eqNilP (b := false) hx hy rfl) (r_neNilP (b := false) hx hy rfl)
    · exact eqNe_eq (by rintro x ⟨⟩; rfl) h (r_eqNilP (b := false) hx hy rfl) (r_neNilP (b := false) hx hy rfl)
  · have hu : UD P T _ := ⟨hd⟩
    split at hn <;> first | cases hn | skip
    · exact eqNe_eq (by rintro x ⟨⟩; rfl) h (r_eqNilM (b := true) hx hy rfl) (r_neNilM (b := true) hx hy rfl)
    · exact eqNe_eq (by rintro x ⟨⟩; rfl) h (r_eqNilM (b := false) hx hy rfl) (r_neNilM (b := false) hx hy rfl)
  · have hu : UD P T _ := ⟨hd⟩
    split at hn <;> first | cases hn | skip
    · exact eqNe_eq (by rintro x ⟨⟩) h (r_eqNilS hx hy) (r_neNilS hx hy)
    · exact eqNe_eq (by rintro x ⟨⟩) h (r_eqNilS hx hy) (r_neNilS hx hy)
  · cases hn
theorem addC_some {r : RR} {cs : List Prop} {v : TV} {c : List Prop} (h : addC cs r = some (v, c)) : ∃ c0, r = some (v, c0) ∧ c = c0 ++ cs := by
  unfold addC at h
  split at h
  · injection h with h
    injection h with h1 h2
    subst h1; subst h2
    exact ⟨_, rfl, rfl⟩
  · cases h
theorem PV.bool_norm {p : PV} {u : Bool} (h : p.bool = some u) : p.norm = .b u := by
  cases p <;> first | (injection h with h; subst h; rfl) | cases h
theorem s_bin0 (hT : Tb P td ta) {o : BinOp} {v : TV} {cs : List Prop} (h : rBin0 td w env o T x y = some (v, cs)) (hc : allP cs) : Reads P ⟨dst, .binOp o T x y T', ty, pos, af, gd⟩ env n B L v := by
  unfold rBin0 at h
  split at h
  · rename_i p c1 q c2 hx hy
    have h9 := h; clear h
    obtain ⟨c0, h, rfl⟩ := addC_some h9
    obtain ⟨hc0, hc'⟩ := allP_append.1 hc
    obtain ⟨hc1, hc2⟩ := allP_append.1 hc'
    have hx' := evS_res hx hc1
    have hy' := evS_res hy hc2
    refine Reads.of_res (u := v) ?_ rfl
    split at h
    · rename_i k a k' b
      cases hk : ikeq k k' with
      | false => rw [hk] at h; cases h
      | true => rw [hk] at h; obtain rfl := ikeq_spec hk; exact s_binN h hc0 hx' hy'
    · rename_i k a k' b
      cases hk : ikeq k k' with
      | false => rw [hk] at h; cases h
      | true => rw [hk] at h; obtain rfl := ikeq_spec hk; exact s_binI h hc0 hx' hy'
    · rename_i k a k' b
      cases hk : ikeq k k' with
      | false => rw [hk] at h; cases h
      | true => rw [hk] at h; obtain rfl := ikeq_spec hk; exact s_binI h hc0 hx' hy'
    · rename_i k a k' b
      cases hk : ikeq k k' with
      | false => rw [hk] at h; cases h
      | true => rw [hk] at h; obtain rfl := ikeq_spec hk; exact s_binI h hc0 hx' hy'
    · exact s_binS h hx' hy'
    · split at h
      · rename_i hd
        split at h
        · rename_i a b ha hb
          have h1 := PV.bool_norm ha
          have h2 := PV.bool_norm hb
          simp only [SV.norm] at hx' hy'
          rw [h1] at hx'
          rw [h2] at hy'
          exact s_binB ⟨hT.d.get hd⟩ h hx' hy'
        · cases h
      · rename_i d _ hd
        split at h
        · rename_i l b hn
          exact s_nilcmp (hT.d.get hd) hn h hx' hy'
        · cases h
      · cases h
  · rename_i a c1 b c2 hx hy
    split at h
    · rename_i e hd
      have h9 := h; clear h
      obtain ⟨c0, h, rfl⟩ := addC_some h9
      obtain ⟨hc0, hc'⟩ := allP_append.1 hc
      obtain ⟨hc1, hc2⟩ := allP_append.1 hc'
      have hx' := evS_res hx hc1
      have hy' := evS_res hy hc2
      refine Reads.of_res (u := v) ?_ rfl
      have hH : HashT P T := (hT.d.get hd).2
      split at h
      · injection h with h; injection h with h1 h2; subst h1; exact r_eqH hx' hy'
      · injection h with h; injection h with h1 h2; subst h1; exact r_neH hx' hy'
      · cases h
    · cases h
  · cases h
theorem isIfc_spec {T : TypeId} (h : isIfc (P.underlying T) = true) : ∃ ms, P.underlying T = some (.interface ms) := by
  unfold isIfc at h
  split at h
  · rename_i ms e; exact ⟨ms, e⟩
  · cases h
theorem isNilC_spec {y : Operand} (h : isNilC y = true) : y = .const .nilIface := by
  unfold isNilC at h
  split at h
  · rfl
  · cases h
theorem run_eqIfc (hI : isIfc (P.underlying T) = true) {u : Value} {b : Bool} (hu : u = .nilIface ∧ b = true ∨ (∃ t v, u = .iface t v) ∧ b = false) (w : World) : (Op.equal T u .nilIface).run P w = .ok b w := by
  obtain ⟨ms, hd⟩ := isIfc_spec hI
  rcases hu with ⟨rfl, rfl⟩ | ⟨⟨t, v, rfl⟩, rfl⟩ <;> exact run_eqNil hd w fun d => by simp [Op.equalIn, run_underlying hd, Sem.run_bind, Result.andThen]
theorem eqGuard_ifc {o : BinOp} {u : Value} (hu : u = .nilIface ∨ ∃ t v, u = .iface t v) (w : World) : (eqGuard o T x (.const .nilIface) u .nilIface).run P w = .ok () w := by
  unfold eqGuard
  rcases hu with rfl | ⟨t, v, rfl⟩ <;> cases o <;> simp
theorem r_eqIfc {b : Bool} (hI : isIfc (P.underlying T) = true) (hu : ∀ a : Act, Tm env n a → a.eval x = .nilIface ∧ b = true ∨ (∃ t v, a.eval x = .iface t v) ∧ b = false) : Reads P ⟨dst, .binOp .eql T x (.const .nilIface) T', ty, pos, af, gd⟩ env n B L (vb b) := fun a w ht _ => by
  have h := hu a ht
  unfold execOp
  have h2 : a.eval (.const .nilIface) = .nilIface := rfl
  simp only [h2]
  rw [Sem.run_bind, Sem.run_bind, eqGuard_ifc (h.imp And.left fun h => h.1) w, Result.andThen_ok]
  rcases h with ⟨e, rfl⟩ | ⟨⟨t, v, e⟩, rfl⟩
  · rw [e]
    simp only [binOp, Sem.run_bind, run_eqIfc hI (.inl ⟨rfl, rfl⟩) w]
    rfl
  · rw [e]
    simp only [binOp, Sem.run_bind, run_eqIfc hI (.inr ⟨⟨t, v, rfl⟩, rfl⟩) w]
    rfl
theorem r_neIfc {b : Bool} (hI : isIfc (P.underlying T) = true) (hu : ∀ a : Act, Tm env n a → a.eval x = .nilIface ∧ b = true ∨ (∃ t v, a.eval x = .iface t v) ∧ b = false) : Reads P ⟨dst, .binOp .neq T x (.const .nilIface) T', ty, pos, af, gd⟩ env n B L (vb (!b)) := fun a w ht _ => by
  have h := hu a ht
  unfold execOp
  have h2 : a.eval (.const .nilIface) = .nilIface := rfl
  simp only [h2]
  rw [Sem.run_bind, Sem.run_bind, eqGuard_ifc (h.imp And.left fun h => h.1) w, Result.andThen_ok]
  rcases h with ⟨e, rfl⟩ | ⟨⟨t, v, e⟩, rfl⟩
  · rw [e]
    simp only [binOp, Sem.run_bind, run_eqIfc hI (.inl ⟨rfl, rfl⟩) w]
    rfl
  · rw [e]
    simp only [binOp, Sem.run_bind, run_eqIfc hI (.inr ⟨⟨t, v, rfl⟩, rfl⟩) w]
    rfl
theorem s_bin (hT : Tb P td ta) {o : BinOp} {v : TV} {cs : List Prop} (h : rBin td w env o T x y = some (v, cs)) (hc : allP cs) : Reads P ⟨dst, .binOp o T x y T', ty, pos, af, gd⟩ env n B L v := by
  unfold rBin at h
  cases hy : isNilC y with
  | false => rw [hy] at h; exact s_bin0 hT h hc
  | true =>
    rw [hy] at h
    obtain rfl := isNilC_spec hy
    unfold rIfc at h
    simp only at h
    split at h
    · rename_i cs' hd hx
      have h9 := h; clear h
      obtain ⟨c0, h, rfl⟩ := addC_some h9
      have hI : isIfc (P.underlying T) = true := hT.d.get hd
      have hu : ∀ a : Act, Tm env n a → a.eval x = .nilIface ∧ true = true ∨ (∃ t v, a.eval x = .iface t v) ∧ true = false := fun a ht => .inl ⟨evS_sound ht hx (allP_append.1 hc).2, rfl⟩
      exact eqNe_eq (b := true) (by rintro x ⟨⟩; rfl) h (r_eqIfc hI hu) (r_neIfc hI hu)
    · rename_i t v' cs' hd hx
      have h9 := h; clear h
      obtain ⟨c0, h, rfl⟩ := addC_some h9
      have hI : isIfc (P.underlying T) = true := hT.d.get hd
      have hu : ∀ a : Act, Tm env n a → a.eval x = .nilIface ∧ false = true ∨ (∃ t v, a.eval x = .iface t v) ∧ false = false := fun a ht => .inr ⟨⟨_, _, evS_sound ht hx (allP_append.1 hc).2⟩, rfl⟩
      exact eqNe_eq (b := false) (by rintro x ⟨⟩; rfl) h (r_eqIfc hI hu) (r_neIfc hI hu)
    · cases h
theorem s_un {o : UnOp} {v : TV} {cs : List Prop} (h : rUn w env o x = some (v, cs)) (hc : allP cs) : Reads P ⟨dst, .unOp o T x, ty, pos, af, gd⟩ env n B L v := by
  unfold rUn at h
  split at h
  · rename_i b cs' hx
    split at h <;> injection h with h <;> injection h with h1 h2 <;> subst h1 <;> subst h2
    · exact (r_not (evS_res hx hc)).of_res rfl
    · exact (r_not (evS_res hx hc)).of_res rfl
  · rename_i b cs' hx
    injection h with h; injection h with h1 h2; subst h1; subst h2
    exact (r_not (evS_res hx hc)).of_res rfl
  · rename_i k p cs' hx
    injection h with h; injection h with h1 h2; subst h1; subst h2
    exact (r_neg (evS_res hx hc)).of_res rfl
  · rename_i k p cs' hx
    injection h with h; injection h with h1 h2; subst h1; subst h2
    exact (r_neg (evS_res hx hc)).of_res rfl
  · cases h
theorem wrap_exact {k : IntKind} {p : Int} (h : kmin k ≤ p ∧ p ≤ (kmax k : Int)) : k.wrap p = p := by
  cases k <;> simp only [kmin, kmax] at h <;> simp [IntKind.wrap, IntKind.bits, IntKind.signed] <;> omega
theorem s_conv (hT : Tb P td ta) {v : TV} {cs : List Prop} (h : rConv td w env T T' x = some (v, cs)) (hc : allP cs) : Reads P ⟨dst, .convert T T' x, ty, pos, af, gd⟩ env n B L v := by
  unfold rConv at h
  split at h
  · rename_i k0 k k1 a cs' h1 h2 hx
    have hu : UD P T' (.int k) := ⟨hT.d.get h2⟩
    have hs : (P.underlying T).isSome = true := by rw [show P.underlying T = some (.int k0) from hT.d.get h1]; rfl
    cases w
    · injection h with h; injection h with h3 h4; subst h3; subst h4
      have hw : k.wrap (a : Int) = (a : Int) := wrap_exact ⟨by cases k <;> simp only [kmin] <;> omega, by have := hc.1; omega⟩
      exact (r_convW (hd := hu) (evS_res hx hc.2) hs).of_res (by show Value.int _ _ = Value.int _ _; rw [hw])
    · injection h with h; injection h with h3 h4; subst h3; subst h4
      exact (r_convW (hd := hu) (evS_res hx hc) hs).of_res rfl
  · rename_i k0 k k1 a cs' h1 h2 hx
    have hu : UD P T' (.int k) := ⟨hT.d.get h2⟩
    have hs : (P.underlying T).isSome = true := by rw [show P.underlying T = some (.int k0) from hT.d.get h1]; rfl
    cases w
    · injection h with h; injection h with h3 h4; subst h3; subst h4
      exact (r_convW (hd := hu) (evS_res hx hc.2) hs).of_res (by show Value.int _ _ = Value.int _ _; rw [wrap_exact hc.1])
    · injection h with h; injection h with h3 h4; subst h3; subst h4
      exact (r_convW (hd := hu) (evS_res hx hc) hs).of_res rfl
  · rename_i a cs' h1 h2 hx
    injection h with h; injection h with h3 h4; subst h3; subst h4
    intro a' w ht _
    have e1 := evS_sound ht hx hc
    unfold execOp
    have e1' : a'.eval x = .string a := e1
    simp only [e1']
    have hu1 : P.underlying T = some .string := hT.d.get h1
    have hu2 : P.underlying T' = some .string := hT.d.get h2
    simp [convert, run_underlying hu1, run_underlying hu2, TV.den, SV.den, PV.den, Sem.run_bind]
  · cases h
theorem s_extract {k : Nat} {v : TV} {cs : List Prop} (h : rExtract env x k = some (v, cs)) : Reads P ⟨dst, .extract x k, ty, pos, af, gd⟩ env n B L v := fun a w ht _ => by
  unfold rExtract at h
  split at h
  · rename_i l hx
    split at h
    · rename_i u hu
      injection h with h; injection h with h3 h4; subst h3
      unfold execOp
      have h1 : a.eval x = .tuple (l.map SV.den).toArray := evV_sound ht hx
      simp only [h1, Instr.extract, Sem.run_bind]
      have : (l.map SV.den).toArray[k]? = some u.den := by simp [hu]
      rw [this]
      rfl
    · cases h
  · cases h
theorem s_nilc {v : TV} {cs : List Prop} (h : rNil env x = some (v, cs)) (hc : allP cs) : Reads P ⟨dst, .nilCheck x, ty, pos, af, gd⟩ env n B L v := fun a w ht hf => by
  unfold rNil at h
  split at h <;> first | (cases h; done) | skip
  all_goals
    rename_i hx
    injection h with h; injection h with h3 h4; subst h3; subst h4
    have h1 := evS_sound ht hx hc
    unfold execOp
    simp only [h1, SV.den, PV.den]
    rfl
end
end HL
end Go.Proofs.YtfopgaijfeeioaaGreat
/- SYMBOLIC STATES, COMPUTED: what is told of the operations that read memory, slices and structs holds. My own text; it names no program. -/

set_option linter.unusedVariables false
set_option linter.unusedSimpArgs false
set_option linter.unusedSectionVars false
namespace Go.Proofs.YtfopgaijfeeioaaGreat
namespace HL
open Go Go.RowKit
section
variable {P : Program} {env : Env} {n : Nat} {B L : Hp} {td : Bt TD} {ta : Bt TA} {RB R : Hs} {w : Bool}
variable {dst : Option Tmp} {ty : TypeId} {pos : String} {af : Array Edge} {gd : Option (Nat × Bool)} {x y z : Operand} {T T' : TypeId}
theorem lk2_den {i : Nat} {r : RS} (h : lk2 RB R i = some r) : lk2 (dens RB) (dens R) i = some r.den := by rw [lk2_dens, h]; rfl
theorem load_row {α : Type} {i j off sz : Nat} {ad : Addr} {A : Option Addr} {Rr : Res} {E : En α} {l : List α} {df : α} {r : List At} {v : SV} {a : TA} (hT : TyA P T a.agg a.sz a.z a.bytes) (hx : ev env x = some (.s (.one (.el i ad sz j off)))) (hr : lk2 B L i = some Rr) (hro : RowOf Rr A E l) (hA : A.getD ad0 = ad) (hs : sz = E.sz) (hj : j < l.length)
    (hc : cutAt (E.f (l.getD j df)).ats off a.sz = some r) (hv : mkSV a.agg r = some v) : Reads P ⟨dst, .load T x, ty, pos, af, gd⟩ env n B L (.s v) := fun a' w ht hf => by
  subst hs
  obtain ⟨ad', hA', _⟩ := rds_some (hro.is w (hf i _ hr)) (by omega)
  subst hA'
  have hA'' : ad' = ad := hA
  subst hA''
  exact load_el (P := P) (T := T) (hT := hT) (y := l.getD j df) hx (fun w hf => hro.is w (hf i _ hr)) (by rw [List.getD_eq_getElem?_getD, List.getElem?_eq_getElem hj]; rfl) hc hv a' w ht hf
theorem rowAt_spec {i : Nat} {ks : List (Nat × Nat)} {x : RowX} {cs : List Prop} (h : rowAt RB R i ks = some (x, cs)) (hc : allP cs) : ∃ R0, lk2 (dens RB) (dens R) i = some R0 ∧ RowOf R0 x.A x.E x.l := by
  unfold rowAt at h
  split at h
  · rename_i r hr
    split at h
    · rename_i r' cs' hp
      split at h
      · rename_i x' hx
        injection h with h; injection h with h1 h2; subst h1; subst h2
        have hv := RS.path_view hp hc
        have hw := RS.row_spec hx
        exact ⟨_, lk2_den hr, ⟨fun w hh => hw.is w (hv.h w hh)⟩⟩
      · cases h
    · cases h
  · cases h
theorem vals_marksO {i : Nat} {ks : List (Nat × Nat)} {j : Nat} : ∀ {xs r : List At}, marksO i ks j xs = some r → vals r = vals xs
  | [], r, h => by unfold marksO at h; injection h with h; subst h; rfl
  | a :: xs, r, h => by
    unfold marksO at h
    split at h
    · rename_i r' hr
      have ih := vals_marksO hr
      split at h
      · injection h with h; subst h
        show Value.slice _ _ _ :: vals r' = Value.slice _ _ _ :: vals xs
        rw [ih]
      · injection h with h; subst h
        show a.val :: vals r' = a.val :: vals xs
        rw [ih]
    · cases h
theorem SV.den_markO {i : Nat} {ks : List (Nat × Nat)} {j : Nat} {v u : SV} (h : v.markO i ks j = some u) : u.den = v.den := by
  unfold SV.markO at h
  split at h
  · injection h with h; subst h; rfl
  · injection h with h; subst h; rfl
  · split at h
    · rename_i r hr
      injection h with h; subst h
      rw [SV.den_agg, SV.den_agg, vals_marksO hr]
    · cases h
theorem s_loadEl (hT : Tb P td ta) {i : Nat} {ks : List (Nat × Nat)} {ad : Addr} {sz j off : Nat} {cs c0 : List Prop} {v : TV} {p : PV} (h : loadEl ta RB R T i ks ad sz j off c0 = some (v, cs)) (hc : allP cs) (hx : evS env x = some (.one p, c0)) (hp : p.norm = .el i ad sz j off) : Reads P ⟨dst, .load T x, ty, pos, af, gd⟩ env n (dens RB) (dens R) v := by
  unfold loadEl at h
  split at h
  · rename_i a α df A E l c2 ha hr
    have hTa : TyA P T a.agg a.sz a.z a.bytes := hT.a.get ha
    split at h
    · rename_i r hcut
      split at h
      · rename_i u hu
        split at h
        · rename_i u' hm
          injection h with h; injection h with h1 h2; subst h1; subst h2
          obtain ⟨hA, hs, hj, hc⟩ := hc
          obtain ⟨hc2, hc0⟩ := allP_append.1 hc
          obtain ⟨R0, hR0, hrow⟩ := rowAt_spec hr hc2
          have hx' := evS_res hx hc0
          simp only [SV.norm] at hx'
          rw [hp] at hx'
          exact (load_row hTa hx' hR0 hrow hA hs hj hcut hu).of_res (show (TV.s u).den = (TV.s u').den from (SV.den_markO hm).symm)
        · cases h
      · cases h
    · cases h
  · cases h
theorem s_load (hT : Tb P td ta) {v : TV} {cs : List Prop} (h : rLoad ta RB R env T x = some (v, cs)) (hc : allP cs) : Reads P ⟨dst, .load T x, ty, pos, af, gd⟩ env n (dens RB) (dens R) v := by
  unfold rLoad at h
  split at h
  · rename_i i g off cs' hx
    split at h
    · rename_i a g' e xs ha hr
      have hTa : TyA P T a.agg a.sz a.z a.bytes := hT.a.get ha
      split at h
      · rename_i r hcut
        split at h
        · rename_i u hu
          injection h with h; injection h with h1 h2; subst h1; subst h2
          obtain ⟨hg, hc⟩ := hc
          subst hg
          exact (r_load (hT := hTa) (evS_res hx hc) (lk2_den hr) hcut hu).of_res rfl
        · cases h
      · cases h
    · cases h
  · rename_i i ad sz j off cs' hx
    exact s_loadEl hT h hc hx rfl
  · rename_i i ks ad sz j off cs' hx
    exact s_loadEl hT h hc hx rfl
  · cases h
theorem fld_spec (hT : Tb P td ta) {k ft off : Nat} (h : fld td T k = some (ft, off)) : FA P T k off ∧ FT P T k ft off := by
  unfold fld at h
  split at h
  · rename_i fs fz hd
    have := (show TD.St P T fs fz from hT.d.get hd).f k ft off h
    exact ⟨⟨this.1⟩, ⟨this.2⟩⟩
  · cases h
theorem s_fieldA (hT : Tb P td ta) {k : Nat} {v : TV} {cs : List Prop} (h : rFieldA td env T k x = some (v, cs)) (hc : allP cs) : Reads P ⟨dst, .fieldAddr T x k, ty, pos, af, gd⟩ env n B L v := by
  unfold rFieldA at h
  split at h
  · rename_i ft off i g o cs' hf hx
    injection h with h; injection h with h1 h2; subst h1; subst h2
    exact (r_field (hf := (fld_spec hT hf).1) (evS_res hx hc)).of_res rfl
  · rename_i ft off i ad sz j o cs' hf hx
    injection h with h; injection h with h1 h2; subst h1; subst h2
    exact (r_fieldE (hf := (fld_spec hT hf).1) (evS_res hx hc)).of_res rfl
  · rename_i ft off i ks ad sz j o cs' hf hx
    injection h with h; injection h with h1 h2; subst h1; subst h2
    exact (r_fieldE (hf := (fld_spec hT hf).1) (evS_res hx hc)).of_res rfl
  · cases h
theorem s_fieldV (hT : Tb P td ta) {k : Nat} {v : TV} {cs : List Prop} (h : rFieldV td ta env T k x = some (v, cs)) (hc : allP cs) : Reads P ⟨dst, .field T x k, ty, pos, af, gd⟩ env n B L v := by
  unfold rFieldV at h
  split at h
  · rename_i ft off xs cs' hf hx
    split at h
    · rename_i a ha
      have hTa : TyA P ft a.agg a.sz a.z a.bytes := hT.a.get ha
      split at h
      · rename_i r hcut
        split at h
        · rename_i u hu
          injection h with h; injection h with h1 h2; subst h1; subst h2
          exact (r_fieldV (hf := (fld_spec hT hf).2) (hT := hTa) (evS_res hx hc) hcut hu).of_res rfl
        · cases h
      · cases h
    · cases h
  · cases h
theorem idx_spec {j : Nat} {cs : List Prop} (h : idx env y = some (j, cs)) (hc : allP cs) : ∃ k p, ev (res env) y = some (vi k p) ∧ p = (j : Int) := by
  unfold idx at h
  split at h
  · rename_i k j' cs' hy
    injection h with h; injection h with h1 h2; subst h1; subst h2
    exact ⟨k, _, evS_res hy hc, rfl⟩
  · rename_i k p cs' hy
    injection h with h; injection h with h1 h2; subst h1; subst h2
    exact ⟨k, p, evS_res hy hc.2, by have := hc.1; omega⟩
  · cases h
theorem index_row {α : Type} {e : TypeId} {i m c j : Nat} {A : Option Addr} {Rr : Res} {E : En α} {l : List α} {k : IntKind} {p : Int} {a : TA} (hu : UD P T (.slice e)) (hT : TyA P e a.agg a.sz a.z a.bytes) (hx : ev env x = some (vsl i A m c)) (hy : ev env y = some (vi k p)) (hp : p = (j : Int)) (hr : lk2 B L i = some Rr) (hro : RowOf Rr A E l) (hj : j < m) (hm : m ≤ l.length) :
    Reads P ⟨dst, .indexAddr T x y, ty, pos, af, gd⟩ env n B L (.s (.one (.el i (A.getD ad0) a.sz j 0))) := fun a' w ht hf => by
  obtain ⟨ad, hA, _⟩ := rds_some (hro.is w (hf i _ hr)) (by omega)
  have := r_index (P := P) (T := T) (hu := hu) (hT := hT) (dst := dst) (ty := ty) (pos := pos) (af := af) (gd := gd) (n := n) (B := B) (L := L) hA hx hy hp hj a' w ht hf
  rw [hA]
  exact this
theorem index_tail {α : Type} {e : TypeId} {i m c c0 o j sz : Nat} {A : Option Addr} {Rr : Res} {E : En α} {l : List α} {k : IntKind} {p : Int} {a : TA} (hu : UD P T (.slice e)) (hT : TyA P e a.agg a.sz a.z a.bytes) (hx : ev env x = some (vsl i (tailA A c0 o sz) m c)) (hy : ev env y = some (vi k p)) (hp : p = (j : Int)) (hr : lk2 B L i = some Rr) (hro : RowOf Rr A E l) (hj : j < m) (hm : o + m ≤ l.length) (hs : sz = a.sz) (hc : m ≠ 0 → c0 ≠ o) :
    Reads P ⟨dst, .indexAddr T x y, ty, pos, af, gd⟩ env n B L (.s (.one (.el i (A.getD ad0) a.sz (o + j) 0))) := fun a' w ht hf => by
  obtain ⟨ad, hA, _⟩ := rds_some (hro.is w (hf i _ hr)) (by omega)
  subst hA
  subst hs
  have hne : c0 ≠ o := hc (by omega)
  have hA' : tailA (some ad) c0 o a.sz = some (ad.add (o * a.sz)) := by unfold tailA; rw [if_neg hne]; rfl
  have := r_index (P := P) (T := T) (hu := hu) (hT := hT) (dst := dst) (ty := ty) (pos := pos) (af := af) (gd := gd) (n := n) (B := B) (L := L) hA' hx hy hp hj a' w ht hf
  rw [this]
  show Result.ok (Next.value (Value.pointer (some (((ad.add (o * a.sz)).add (j * a.sz)).add 0)))) w = Result.ok (Next.value (Value.pointer (some ((ad.add ((o + j) * a.sz)).add 0)))) w
  rw [add_zero, add_zero, add_of_add, Nat.add_mul]
theorem s_index (hT : Tb P td ta) {v : TV} {cs : List Prop} (h : rIndex td ta RB R env T x y = some (v, cs)) (hc : allP cs) : Reads P ⟨dst, .indexAddr T x y, ty, pos, af, gd⟩ env n (dens RB) (dens R) v := by
  unfold rIndex at h
  split at h
  · rename_i e hd
    have hu : UD P T (.slice e) := ⟨hT.d.get hd⟩
    split at h
    · rename_i a i A m c cs' j c2 ha hx hy
      have hTa : TyA P e a.agg a.sz a.z a.bytes := hT.a.get ha
      split at h
      · rename_i α df A' E l c3 hr
        injection h with h; injection h with h1 h2; subst h1; subst h2
        obtain ⟨hA, hj, hm, hc'⟩ := hc
        obtain ⟨h0, hc'⟩ := allP_append.1 hc'
        obtain ⟨h3, h4⟩ := allP_append.1 hc'
        obtain ⟨k, p, h5, h6⟩ := idx_spec hy h4
        obtain ⟨R0, hR0, hrow⟩ := rowAt_spec hr h0
        subst hA
        exact (index_row hu hTa (evS_res hx h3) h5 h6 hR0 hrow hj hm).of_res rfl
      · cases h
    · rename_i a i ks A m c cs' j c2 ha hx hy
      have hTa : TyA P e a.agg a.sz a.z a.bytes := hT.a.get ha
      split at h
      · rename_i α df A' E l c3 hr
        injection h with h; injection h with h1 h2; subst h1; subst h2
        obtain ⟨hA, hj, hm, hc'⟩ := hc
        obtain ⟨h0, hc'⟩ := allP_append.1 hc'
        obtain ⟨h3, h4⟩ := allP_append.1 hc'
        obtain ⟨k, p, h5, h6⟩ := idx_spec hy h4
        obtain ⟨R0, hR0, hrow⟩ := rowAt_spec hr h0
        subst hA
        exact (index_row hu hTa (evS_res hx h3) h5 h6 hR0 hrow hj hm).of_res rfl
      · cases h
    · rename_i a i A c0 sz o m c cs' j c2 ha hx hy
      have hTa : TyA P e a.agg a.sz a.z a.bytes := hT.a.get ha
      split at h
      · rename_i α df A' E l c3 hr
        injection h with h; injection h with h1 h2; subst h1; subst h2
        obtain ⟨hA, hj, hm, hs, hne, hc'⟩ := hc
        obtain ⟨h0, hc'⟩ := allP_append.1 hc'
        obtain ⟨h3, h4⟩ := allP_append.1 hc'
        obtain ⟨k, p, h5, h6⟩ := idx_spec hy h4
        obtain ⟨R0, hR0, hrow⟩ := rowAt_spec hr h0
        subst hA
        exact (index_tail hu hTa (evS_res hx h3) h5 h6 hR0 hrow hj hm hs hne).of_res rfl
      · cases h
    · cases h
  · cases h
theorem s_len (hT : Tb P td ta) {v : TV} {cs : List Prop} (h : rLen td env T x = some (v, cs)) (hc : allP cs) : Reads P ⟨dst, .call { callee := .builtin .len, args := #[x], argTypes := #[T] }, ty, pos, af, gd⟩ env n B L v := by
  unfold rLen at h
  split at h
  · rename_i e i A m c cs' hd hx
    injection h with h; injection h with h1 h2; subst h1; subst h2
    have hu : UD P T (.slice e) := ⟨hT.d.get hd⟩
    exact (r_len (evS_res hx hc)).of_res rfl
  · rename_i e i A c0 sz o m c cs' hd hx
    injection h with h; injection h with h1 h2; subst h1; subst h2
    have hu : UD P T (.slice e) := ⟨hT.d.get hd⟩
    exact (r_len (evS_res hx hc)).of_res rfl
  · rename_i e i ad sz j off m cs' hd hx
    injection h with h; injection h with h1 h2; subst h1; subst h2
    have hu : UD P T (.slice e) := ⟨hT.d.get hd⟩
    exact (r_len (evS_res hx hc)).of_res rfl
  · rename_i e i ks A m c cs' hd hx
    injection h with h; injection h with h1 h2; subst h1; subst h2
    have hu : UD P T (.slice e) := ⟨hT.d.get hd⟩
    exact (r_len (evS_res hx hc)).of_res rfl
  · rename_i a cs' hd hx
    injection h with h; injection h with h1 h2; subst h1; subst h2
    have hu : UD P T .string := ⟨hT.d.get hd⟩
    exact (r_lenS (evS_res hx hc)).of_res rfl
  · cases h
theorem run_slice0 {t e : TypeId} {agg : Bool} {sz bytes n c : Nat} {z : Value} {A : Option Addr} (hu : P.underlying t = some (.slice e)) (hT : TyIs P e agg sz z bytes) (hn : n ≤ c) (w : World) :
    (Instr.sliceAt t (.slice A n c) none none none).run P w = .ok (.slice A n c) w := by
  have hs := hT.size w
  unfold Instr.sliceAt
  simp only [Sem.run_bind, run_underlying hu, Result.andThen]
  unfold Instr.slice
  simp only [Sem.run_bind, run_underlying hu, Result.andThen]
  have e1 : (if c = 0 then A else A.map fun x => x.add 0) = A := by
    split
    · rfl
    · cases A <;> simp [add_zero]
  simp [Instr.sliceBounds, Instr.sliceBound, asIntOf, hs, hn, Sem.run_bind, Result.andThen, e1]
theorem run_sliceLH {t e : TypeId} {agg : Bool} {sz bytes n c : Nat} {z : Value} {A : Option Addr} {k k' : IntKind} {j i : Int} (hu : P.underlying t = some (.slice e)) (hT : TyIs P e agg sz z bytes) (h0 : 0 ≤ j) (h1 : j ≤ i) (h2 : i ≤ c) (w : World) :
    (Instr.sliceAt t (.slice A n c) (some (.int k j)) (some (.int k' i)) none).run P w = .ok (.slice (tailA A c j.toNat sz) (i.toNat - j.toNat) (c - j.toNat)) w := by
  have hs := hT.size w
  unfold Instr.sliceAt
  simp only [Sem.run_bind, run_underlying hu, Result.andThen]
  unfold Instr.slice
  simp only [Sem.run_bind, run_underlying hu, Result.andThen]
  have h3 : 0 ≤ i := by omega
  have h4 : max i 0 = i := by omega
  simp [Instr.sliceBounds, Instr.sliceBound, asIntOf, h0, h1, h2, h3, h4, hs, Sem.run_bind, Result.andThen, tailA]
theorem r_slice0 {e : TypeId} {i m c sz bytes : Nat} {A : Option Addr} {agg : Bool} {zz : SV} [hu : UD P T (.slice e)] [hT : TyA P e agg sz zz bytes] (hx : ev env x = some (vsl i A m c)) (hm : m ≤ c) : Reads P ⟨dst, .slice T x none none none, ty, pos, af, gd⟩ env n B L (vsl i A m c) := fun a w ht _ => by
  have h1 : a.eval x = .slice A m c := ev_sound ht hx
  unfold execOp
  simp only [h1, Option.map_none]
  rw [Sem.run_bind, run_slice0 hu.is hT.is hm w]
  rfl
theorem r_sliceLH {e : TypeId} {i m c j j' sz bytes : Nat} {A : Option Addr} {k k' : IntKind} {p q : Int} {agg : Bool} {zz : SV} [hu : UD P T (.slice e)] [hT : TyA P e agg sz zz bytes] (hx : ev env x = some (vsl i A m c)) (hy : ev env y = some (vi k p)) (hz : ev env z = some (vi k' q)) (hp : p = (j : Int)) (hq : q = (j' : Int)) (h1 : j ≤ j') (h2 : j' ≤ c) : Reads P ⟨dst, .slice T x (some y) (some z) none, ty, pos, af, gd⟩ env n B L (vsl i (tailA A c j sz) (j' - j) (c - j)) := fun a w ht _ => by
  have e1 : a.eval x = .slice A m c := ev_sound ht hx
  have e2 : a.eval y = .int k p := ev_sound ht hy
  have e3 : a.eval z = .int k' q := ev_sound ht hz
  have h3 := run_sliceLH (P := P) (t := T) (A := A) (n := m) (c := c) (k := k) (k' := k') (j := p) (i := q) hu.is hT.is (by omega) (by omega) (by omega) w
  unfold execOp
  simp only [e1, e2, e3, Option.map_none, Option.map_some]
  rw [Sem.run_bind, h3, hp, hq]
  rfl
theorem s_slice (hT : Tb P td ta) {lo hi mx : Option Operand} {v : TV} {cs : List Prop} (h : rSlice td ta env T x lo hi mx = some (v, cs)) (hc : allP cs) : Reads P ⟨dst, .slice T x lo hi mx, ty, pos, af, gd⟩ env n B L v := by
  unfold rSlice at h
  split at h
  · rename_i e i A m c cs' hh hd hx
    have hu : UD P T (.slice e) := ⟨hT.d.get hd⟩
    split at h
    · rename_i j c2 a hj ha
      injection h with h; injection h with h1 h2; subst h1; subst h2
      obtain ⟨hjc, hc'⟩ := hc
      obtain ⟨h3, h4⟩ := allP_append.1 hc'
      obtain ⟨k, p, h5, h6⟩ := idx_spec hj h4
      have hTa : TyA P e a.agg a.sz a.z a.bytes := hT.a.get ha
      exact (r_sliceH (hT := hTa) (evS_res hx h3) h5 h6 hjc).of_res rfl
    · cases h
  · rename_i e i A m c cs' ll hd hx
    have hu : UD P T (.slice e) := ⟨hT.d.get hd⟩
    split at h
    · rename_i j c2 a hj ha
      injection h with h; injection h with h1 h2; subst h1; subst h2
      obtain ⟨hjc, hc'⟩ := hc
      obtain ⟨h3, h4⟩ := allP_append.1 hc'
      obtain ⟨k, p, h5, h6⟩ := idx_spec hj h4
      have hTa : TyA P e a.agg a.sz a.z a.bytes := hT.a.get ha
      exact (r_sliceL (hT := hTa) (evS_res hx h3) h5 h6 hjc).of_res rfl
    · cases h
  · rename_i e i A m c cs' ll hh hd hx
    have hu : UD P T (.slice e) := ⟨hT.d.get hd⟩
    split at h
    · rename_i j c2 k c3 a hj hk ha
      injection h with h; injection h with h1 h2; subst h1; subst h2
      obtain ⟨hjc, hkc, hc'⟩ := hc
      obtain ⟨h3, h4⟩ := allP_append.1 hc'
      obtain ⟨h7, h8⟩ := allP_append.1 h4
      obtain ⟨k1, p, h5, h6⟩ := idx_spec hj h7
      obtain ⟨k2, q, h9, h10⟩ := idx_spec hk h8
      have hTa : TyA P e a.agg a.sz a.z a.bytes := hT.a.get ha
      exact (r_sliceLH (hT := hTa) (evS_res hx h3) h5 h9 h6 h10 hjc hkc).of_res rfl
    · cases h
  · rename_i e i A m c cs' hd hx
    have hu : UD P T (.slice e) := ⟨hT.d.get hd⟩
    split at h
    · rename_i a ha
      injection h with h; injection h with h1 h2; subst h1; subst h2
      have hTa : TyA P e a.agg a.sz a.z a.bytes := hT.a.get ha
      exact (r_slice0 (hT := hTa) (evS_res hx hc.2) hc.1).of_res rfl
    · cases h
  · rename_i e i g off cs' hd hx
    split at h
    · rename_i a ha
      injection h with h; injection h with h1 h2; subst h1; subst h2
      have hu : UD P T (.array 32 e) := ⟨(hT.d.get hd).1⟩
      have hTa : TyA P e a.agg a.sz a.z a.bytes := hT.a.get ha
      exact (r_sliceArr (hT := hTa) (evS_res hx hc)).of_res rfl
    · cases h
  · rename_i e i ad sz j off cs' hd hx
    split at h
    · rename_i a ha
      injection h with h; injection h with h1 h2; subst h1; subst h2
      have hu : UD P T (.array 32 e) := ⟨(hT.d.get hd).1⟩
      have hTa : TyA P e a.agg a.sz a.z a.bytes := hT.a.get ha
      exact (r_sliceArrE (hT := hTa) (evS_res hx hc)).of_res rfl
    · cases h
  · rename_i m e i g off cs' hd hx
    split at h
    · rename_i a ha
      injection h with h; injection h with h1 h2; subst h1; subst h2
      have hu : UD P T (.array m e) := ⟨hT.d.get hd⟩
      have hTa : TyA P e a.agg a.sz a.z a.bytes := hT.a.get ha
      exact (r_sliceArr (hT := hTa) (evS_res hx hc)).of_res rfl
    · cases h
  · rename_i m e i ad sz j off cs' hd hx
    split at h
    · rename_i a ha
      injection h with h; injection h with h1 h2; subst h1; subst h2
      have hu : UD P T (.array m e) := ⟨hT.d.get hd⟩
      have hTa : TyA P e a.agg a.sz a.z a.bytes := hT.a.get ha
      exact (r_sliceArrE (hT := hTa) (evS_res hx hc)).of_res rfl
    · cases h
  · cases h
theorem bldV_spec : ∀ {ps : List (Nat × Operand)} {fs fs' : List SV} {cs : List Prop}, bldV env fs ps = some (fs', cs) → allP cs → bldF (res env) fs ps = some fs'
  | [], fs, fs', cs, h, _ => by
    unfold bldV at h
    injection h with h; injection h with h1 h2; subst h1
    unfold bldF
    rfl
  | (k, x) :: ps, fs, fs', cs, h, hc => by
    unfold bldV at h
    split at h
    · rename_i v c hx
      split at h
      · rename_i f1 hs
        split at h
        · rename_i r c2 hb
          injection h with h; injection h with h1 h2; subst h1; subst h2
          obtain ⟨h3, h4⟩ := allP_append.1 hc
          unfold bldF
          rw [evS_res hx h3]
          simp only [hs]
          exact bldV_spec hb h4
        · cases h
      · cases h
    · cases h
theorem s_build (hT : Tb P td ta) {parts : Array (Nat × Operand)} {v : TV} {cs : List Prop} (h : rBuild td ta env T parts.toList = some (v, cs)) (hc : allP cs) : Reads P ⟨dst, .build T parts, ty, pos, af, gd⟩ env n B L v := by
  unfold rBuild at h
  split at h
  · rename_i fs fz a hd ha
    have hTa : TyA P T a.agg a.sz a.z a.bytes := hT.a.get ha
    have hS := show TD.St P T fs fz from hT.d.get hd
    split at h
    · rename_i r c2 hb
      split at h
      · rename_i xs hf hagg
        injection h with h; injection h with h1 h2; subst h1; subst h2
        obtain ⟨h3, h4, hc⟩ := hc
        have hp : PLS P T fz := ⟨hS.z⟩
        exact (r_build (hT := hTa) (hp := hp) (bldV_spec hb hc) hf h3 h4).of_res rfl
      · cases h
    · cases h
  · cases h
theorem s_makeFunc {f : Fn} {first cap : Array Operand} {v : TV} {cs : List Prop} (h : rMakeFunc env f first.toList cap.toList = some (v, cs)) : Reads P ⟨dst, .makeFunc f first cap, ty, pos, af, gd⟩ env n B L v := by
  unfold rMakeFunc at h
  split at h
  · rename_i g hfirst
    split at h
    · rename_i vs gs hcap
      injection h with h; injection h with h1 h2; subst h1
      obtain rfl : first = #[] := by apply Array.toList_inj.1; rw [‹first.toList = []›]
      exact r_makeFunc hcap
    · cases h
  · cases h
theorem s_builtin (hT : Tb P td ta) {c : Call} {v : TV} {cs : List Prop} (h : rBuiltin td env c = some (v, cs)) (hc : allP cs) : Reads P ⟨dst, .call c, ty, pos, af, gd⟩ env n B L v := by
  unfold rBuiltin at h
  obtain ⟨callee, args, argTypes⟩ := c
  simp only at h
  split at h
  · rename_i x T h1 h2
    obtain rfl : args = #[x] := by apply Array.toList_inj.1; assumption
    obtain rfl : argTypes = #[T] := by apply Array.toList_inj.1; assumption
    exact s_len hT h hc
  · cases h
theorem rdo_sound (hT : Tb P td ta) {op : Op} {v : TV} {cs : List Prop} (h : rdo td ta w env RB R op = some (v, cs)) (hc : allP cs) : Reads P ⟨dst, op, ty, pos, af, gd⟩ env n (dens RB) (dens R) v := by
  unfold rdo at h
  split at h
  · exact s_move h
  · exact s_assign h
  · exact s_pick h hc
  · exact s_bin hT h hc
  · exact s_un h hc
  · exact s_conv hT h hc
  · exact s_extract h
  · exact s_nilc h hc
  · exact s_load hT h hc
  · exact s_fieldA hT h hc
  · exact s_fieldV hT h hc
  · exact s_index hT h hc
  · exact s_slice hT h hc
  · exact s_build hT h hc
  · exact s_makeFunc h
  · exact s_builtin hT h hc
  · cases h
end
end HL
end Go.Proofs.YtfopgaijfeeioaaGreat
