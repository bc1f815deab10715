/- Lemmas and walks: VY, PB, N1, W1, W2, PC, WG, TA, VZ, TB, TC, TD, W3, TE, TF, TG, TH, TI, TJ, TK, TL, TM, VE, TN, TO, TP, TQ, TR, TS, UA, UB. -/
import Derived.Test.YtfopgaijfeeioaaGreatZ4
import Derived.Laws.Small
import Ieee.Arith
import Derived.Test.YtfopgaijfeeioaaGreatZ3
/- SYMBOLIC STATES, COMPUTED: maps keyed by numbers, of functions; calls by an interface. My own text; it names no program. -/


set_option linter.unusedVariables false
set_option linter.unusedSimpArgs false
set_option linter.unusedSectionVars false
namespace Go.Proofs.YtfopgaijfeeioaaGreat
namespace HL
open Go Go.RowKit
theorem findNow_int {ν : Type} (kk : IntKind) (venc : ν → Value) (k : Int) : ∀ (l : List (Int × ν × Nat)) (i : Nat), Instr.findNow (.int kk) (.int kk k) (l.map (ment (Value.int kk) venc)) i = some ((l.findIdx? (fun x => x.1 = k)).bind fun j => (l[j]?).map fun x => (i + j, venc x.2.1))
  | [], i => rfl
  | x :: l, i => by
    have h1 : Instr.findNow (.int kk) (.int kk k) ((x :: l).map (ment (Value.int kk) venc)) i = if (k == x.1) = true then some (some (i, venc x.2.1)) else Instr.findNow (.int kk) (.int kk k) (l.map (ment (Value.int kk) venc)) (i + 1) := by
      rw [List.map_cons, Instr.findNow]
      simp only [ment, Instr.sameNow, if_true]
      cases (k == x.1) <;> rfl
    rw [h1, List.findIdx?_cons]
    by_cases h : x.1 = k
    · rw [if_pos (by simp [h]), if_pos (by simp [h])]
      simp
    · rw [if_neg (by simp; exact fun e => h e.symm), if_neg (by simp [h]), findNow_int kk venc k l (i + 1)]
      cases l.findIdx? (fun x => decide (x.1 = k)) with
      | none => rfl
      | some j =>
        simp only [Option.map_some, Option.bind_some, List.getElem?_cons_succ]
        congr 2
        funext y
        congr 1
        omega
theorem keyOk_int {P : Program} {kt : TypeId} {kk : IntKind} (hu : P.underlying kt = some (.int kk)) : KeyOk P kt (kdn (intEn kk)) := ⟨fun em k w => (eqTy_int hu).chk 10000 (by omega) em k w, fun venc k w l => by
  unfold Instr.findKey
  rw [Sem.run_bind, run_underlying hu w]
  simp only [Result.andThen_ok]
  have := findNow_int kk venc k l 0
  have e : (kdn (intEn kk)) = Value.int kk := rfl
  rw [e, this]
  simp only [Nat.zero_add]
  rfl, fun k w => by
  unfold Instr.keyThatStays
  have : Instr.sameBits 10000 (kdn (intEn kk) k) (kdn (intEn kk) k) = true := by
    show Instr.sameBits 10000 (.int kk k) (.int kk k) = true
    simp [Instr.sameBits]
  rw [if_pos this]
  rfl⟩
abbrev FnV := Option (FuncId × List Value)
def fnEn : En FnV := ⟨fun p => .one (match p with | some q => .fn q.1 q.2 [] | none => .fnn), false, 1, fun p => by cases p <;> exact ⟨rfl, rfl⟩, by decide⟩
instance : ZeroOf fnEn none (.one .fnn) := ⟨rfl⟩
section
variable {κ ν : Type} [DecidableEq κ] {P : Program}
variable {env : Env} {D : List Deferred} {n d : Nat} {w0 : World} {M : Nat → Prop} {B L : Hp} {x y z : Operand} {T ty : TypeId} {pos : String} {af : Array Edge} {gd : Option (Nat × Bool)}
theorem d_insert {kt et : TypeId} {i g c : Nat} {Ek : En κ} {Ev : En ν} {l : List (κ × ν × Nat)} {k : κ} {v : ν} [hu : UD P T (.map kt et)] [hk : KeyT P kt Ek]
    (hx : ev env x = some (vm i g) := by rfl) (hR : lk L i = some (Res.mp g Ek Ev l c) := by rfl) (hy : ev env y = some (.s (Ek.f k)) := by rfl) (hz : ev env z = some (.s (Ev.f v)) := by rfl) :
    Does P ⟨none, .insert T x y z, ty, pos, af, gd⟩ env D n w0 M B L (fun _ : Unit => env) (fun _ => (i, Res.mp g Ek Ev (mput l c k v) (mclk l c k)) :: L) [i] :=
  ⟨fun a w K Q hs h => by
    have h1 : a.eval x = .map (some g) := ev_sound hs.tm hx
    have h2 : a.eval y = kdn Ek k := ev_sound hs.tm hy
    have h3 : a.eval z = kdn Ev v := ev_sound hs.tm hz
    have hst := live_front hs.st hR
    unfold Res.mp at hst
    have hrun := updateK (T := T) hk.ok hu.is (hst.map_get (i := 0) rfl) k v
    unfold Oper.wp execOp
    simp only [h1, h2, h3, Sem.run_bind]
    rw [hrun]
    refine h () _ _ ((hs.put0 undef).to ?_)
    rw [live_cons]
    unfold Res.mp
    exact hst.mapset (i := 0) rfl, kp_one⟩
end
section
variable {P : Program} {env : Env} {n : Nat} {B L : Hp} {dst : Option Tmp} {ty : TypeId} {pos : String} {af : Array Edge} {gd : Option (Nat × Bool)} {x y z : Operand} {T T' : TypeId}
theorem r_ifaceP {i : Nat} {a : Addr} [h : NoI P T] (hx : ev env x = some (vp i a) := by rfl) : Reads P ⟨dst, .makeInterface T x, ty, pos, af, gd⟩ env n B L (.s (.one (.ifp T i a))) := fun b w ht _ => by
  have h1 : b.eval x = .pointer (some a) := ev_sound ht hx
  unfold execOp
  simp only [h1]
  have hn := h.is
  unfold noIfc at hn
  split at hn
  · cases hn
  · rename_i d hne hd
    simp only [Instr.makeInterface, Sem.run_bind, run_underlying hd, Result.andThen]
    cases d <;> first | rfl | exact absurd rfl (hne _)
  · cases hn
def isFnT : Option TypeDesc → Bool
  | some (.func _ _ _) => true
  | _ => false
def isNilF : PV → Option Bool
  | .fnn => some true
  | .fn _ _ _ => some false
  | _ => none
theorem run_equalFn (hu : isFnT (P.underlying T) = true) (p : PV) {b : Bool} (hb : isNilF p = some b) (w : World) : (Op.equal T p.den .nilFunc).run P w = .ok b w := by
  unfold isFnT at hu
  split at hu
  · rename_i u v q hd
    refine run_eqNil hd w fun d => ?_
    cases p <;> first | (cases hb; done) | (injection hb with hb; subst hb; simp [Op.equalIn, run_underlying hd, Sem.run_bind, Result.andThen, PV.den])
  · cases hu
theorem r_neNilFn {p : PV} {b : Bool} (hu : isFnT (P.underlying T) = true) (hx : ev env x = some (.s (.one p)) := by rfl) (hy : ev env y = some (.s (.one .fnn)) := by rfl) (hb : isNilF p = some b := by rfl) : Reads P ⟨dst, .binOp .neq T x y T', ty, pos, af, gd⟩ env n B L (vb (!b)) := fun a w ht _ => by
  have h1 : a.eval x = p.den := ev_sound ht hx
  have h2 : a.eval y = .nilFunc := ev_sound ht hy
  have h3 := run_equalFn hu p hb w
  unfold execOp
  simp only [h1, h2]
  rw [Sem.run_bind, Sem.run_bind, eqGuard_nil w ⟨fun c => by cases p <;> first | (cases hb; done) | simp [PV.den], .inr (by simp)⟩, Result.andThen_ok]
  have h4 : (binOp .neq T p.den .nilFunc).run P w = .ok (.bool (!b)) w := by
    cases p <;> first | (cases hb; done) | (simp only [PV.den, binOp] at h3 ⊢; rw [Sem.run_bind, h3]; rfl)
  rw [h4]
  rfl
theorem r_max {k k' : IntKind} {p q : Int} {tys : Array TypeId} (hx : ev env x = some (vi k p) := by rfl) (hy : ev env y = some (vi k' q) := by rfl) : Reads P ⟨dst, .call { callee := .builtin .max, args := #[x, y], argTypes := tys }, ty, pos, af, gd⟩ env n B L (vi k (max p q)) := fun a w ht _ => by
  have h1 : a.eval x = .int k p := ev_sound ht hx
  have h2 : a.eval y = .int k' q := ev_sound ht hy
  unfold execOp
  simp only [resolve, invoke, builtin, Sem.run_bind, Sem.run_pure, Result.andThen_ok, List.map_toArray, List.map_cons, List.map_nil, h1, h2]
  rw [run_max_int2]
  first | rfl | (show Result.ok (Next.value (Value.int k _)) w = Result.ok (Next.value (Value.int k _)) w; congr 3; split <;> omega)
end
end HL
end Go.Proofs.YtfopgaijfeeioaaGreat
/- PACK: terms, their bytes; plain. -/


set_option linter.unusedVariables false
set_option linter.unusedSimpArgs false
namespace Go.Proofs.YtfopgaijfeeioaaGreat
open Go Go.RowKit HL
structure NodeP where
  kind : Int
  int : Int
  bits : Int
  bytes : ByteArray
  kids : Int
  deriving DecidableEq
def node0 : NodeP := ⟨0, 0, 0, ⟨#[]⟩, 0⟩
inductive Br where
  | mk (n : NodeP) (ks : List Br)
def Br.kids : Br → List Br
  | .mk _ ks => ks
mutual
def Br.flat : Br → List NodeP
  | .mk n ks => n :: Br.flats ks
def Br.flats : List Br → List NodeP
  | [] => []
  | b :: bs => b.flat ++ Br.flats bs
end
mutual
def Br.wf : Br → Prop
  | .mk n ks => n.kids = ks.length ∧ Br.wfs ks
def Br.wfs : List Br → Prop
  | [] => True
  | b :: bs => b.wf ∧ Br.wfs bs
end
mutual
def Br.deep : Br → Nat
  | .mk _ ks => Br.deeps ks + 1
def Br.deeps : List Br → Nat
  | [] => 0
  | b :: bs => max b.deep (Br.deeps bs)
end
def growN (g : List NodeP → Option (Br × List NodeP)) : Nat → List NodeP → Option (List Br × List NodeP)
  | 0, l => some ([], l)
  | k + 1, l => (g l).bind fun q => (growN g k q.2).map fun r => (q.1 :: r.1, r.2)
def grow : Nat → List NodeP → Option (Br × List NodeP)
  | 0, _ => none
  | f + 1, l => match l with
    | [] => none
    | n :: t => if n.kids < 0 ∨ (t.length : Int) + 1 ≤ n.kids then none else (growN (grow f) n.kids.toNat t).map fun q => (.mk n q.1, q.2)
theorem growN_flat {g : List NodeP → Option (Br × List NodeP)} (hg : ∀ l b r, g l = some (b, r) → l = b.flat ++ r ∧ b.wf) : ∀ (k : Nat) (l : List NodeP) (bs : List Br) (r : List NodeP), growN g k l = some (bs, r) → l = Br.flats bs ++ r ∧ Br.wfs bs ∧ bs.length = k
  | 0, l, bs, r, h => by
    unfold growN at h
    injection h with h
    injection h with h1 h2
    subst h1
    subst h2
    exact ⟨rfl, trivial, rfl⟩
  | k + 1, l, bs, r, h => by
    unfold growN at h
    obtain ⟨⟨b, u⟩, h1, h2⟩ := Option.bind_eq_some_iff.1 h
    obtain ⟨⟨cs, v⟩, h3, h4⟩ := Option.map_eq_some_iff.1 h2
    injection h4 with h5 h6
    simp only at h5 h6
    subst h5
    subst h6
    obtain ⟨e1, e2⟩ := hg _ _ _ h1
    obtain ⟨e3, e4, e5⟩ := growN_flat hg k _ _ _ h3
    simp only at e3
    refine ⟨?_, ⟨e2, e4⟩, by rw [List.length_cons, e5]⟩
    rw [e1, e3]
    show b.flat ++ (Br.flats cs ++ v) = (b.flat ++ Br.flats cs) ++ v
    rw [List.append_assoc]
theorem grow_flat : ∀ (f : Nat) (l : List NodeP) (b : Br) (r : List NodeP), grow f l = some (b, r) → l = b.flat ++ r ∧ b.wf
  | 0, l, b, r, h => by unfold grow at h; cases h
  | f + 1, l, b, r, h => by
    cases l with
    | nil => unfold grow at h; cases h
    | cons n t =>
      unfold grow at h
      simp only at h
      split at h
      · cases h
      · rename_i hk
        obtain ⟨⟨cs, v⟩, h3, h4⟩ := Option.map_eq_some_iff.1 h
        injection h4 with h5 h6
        simp only at h5 h6
        subst h5
        subst h6
        obtain ⟨e3, e4, e5⟩ := growN_flat (grow_flat f) _ _ _ _ h3
        refine ⟨?_, ?_, e4⟩
        · show n :: t = (n :: Br.flats cs) ++ v
          rw [e3]
          rfl
        · have h7 : ¬ n.kids < 0 := fun h8 => hk (.inl h8)
          rw [e5]
          omega
def fcmp (a b : Int) : Option Ordering := Ieee.double.order a.toNat b.toNat
def fedge (a : Int) : Int := if fcmp a a != some .eq then 2 else if fcmp a 0 == some .eq && decide (9223372036854775808 ≤ a) then -1 else 0
def ford (a b : Int) : Int := if fcmp a b == some .lt then -1 else if fcmp a b == some .gt then 1 else if fedge a < fedge b then -1 else if fedge b < fedge a then 1 else 0
def fright (a : Int) : Bool := decide ((if fcmp a a != some .eq then 9221120237041090560 else a) = a)
def icmp (a b : Int) : Int := if a < b then -1 else if b < a then 1 else 0
def scmp (a b : ByteArray) : Int := bcmp a.data.toList b.data.toList
def orI : List Int → Int
  | [] => 0
  | x :: l => if x ≠ 0 then x else orI l
def nodeOrd (x y : NodeP) : Int := orI [icmp x.kind y.kind, icmp x.int y.int, ford x.bits y.bits, scmp x.bytes y.bytes]
mutual
def Br.ord : Br → Br → Int
  | .mk x xs, .mk y ys => if nodeOrd x y ≠ 0 then nodeOrd x y else Br.ords xs ys
def Br.ords : List Br → List Br → Int
  | [], [] => 0
  | [], _ :: _ => -1
  | _ :: _, [] => 1
  | x :: xs, y :: ys => if x.ord y ≠ 0 then x.ord y else Br.ords xs ys
end
def br0 : Br := .mk node0 []
def risingB (ks : List Br) : Bool := ks.length % 2 == 0 && (List.range ks.length).all fun j => decide (2 * j + 2 < ks.length → (ks.getD (2 * j) br0).ord (ks.getD (2 * j + 2) br0) < 0)
def noB : ByteArray := ⟨#[]⟩
def kindOk (n : NodeP) (ks : List Br) : Bool :=
  if n.kind = 1 then decide (n.bits = 0 ∧ n.bytes = noB ∧ ks.length = 0)
  else if n.kind = 2 then decide (n.int = 0 ∧ n.bits = 0 ∧ ks.length = 0 ∧ n.bytes.size ≤ 200)
  else if n.kind = 3 then decide (n.int = 0 ∧ n.bytes = noB ∧ ks.length = 0) && fright n.bits
  else if n.kind = 4 then decide (n.int = 0 ∧ n.bits = 0 ∧ n.bytes = noB)
  else if n.kind = 5 then decide (n.bits = 0 ∧ n.bytes = noB ∧ 0 ≤ n.int ∧ n.int ≤ 2147483647)
  else if n.kind = 6 then decide (n.int = 0 ∧ n.bits = 0 ∧ n.bytes = noB) && risingB ks
  else false
mutual
def Br.right : Br → Bool
  | .mk n ks => kindOk n ks && Br.rights ks
def Br.rights : List Br → Bool
  | [] => true
  | b :: bs => b.right && Br.rights bs
end
def fitsT (l : List NodeP) (most deep : Nat) : Bool := decide (l.length ≤ most) && match grow (l.length + 1) l with
  | some (b, []) => decide (b.deep ≤ deep) && b.right
  | _ => false
def rightT (l : List NodeP) : Bool := fitsT l 100 16
def encNode (n : NodeP) : List UInt8 := be 1 n.kind ++ (if n.kind = 1 then be 8 n.int else if n.kind = 2 then textB n.bytes else if n.kind = 3 then be 8 n.bits else if n.kind = 5 then be 4 n.int ++ be 2 n.kids else be 2 n.kids)
def encT (l : List NodeP) : List UInt8 := l.flatMap encNode
def pNode : Pr NodeP := fun b => (pU 1 b).bind fun q =>
  if q.1 = 1 then (pI q.2).map fun r => (⟨1, r.1, 0, noB, 0⟩, r.2)
  else if q.1 = 2 then (pText 200 q.2).map fun r => (⟨2, 0, 0, r.1, 0⟩, r.2)
  else if q.1 = 3 then (pU 8 q.2).map fun r => (⟨3, 0, r.1, noB, 0⟩, r.2)
  else if q.1 = 4 then (pCount 100 q.2).map fun r => (⟨4, 0, 0, noB, r.1⟩, r.2)
  else if q.1 = 5 then (pU 4 q.2).bind fun r => (pCount 100 r.2).map fun u => (⟨5, r.1, 0, noB, u.1⟩, u.2)
  else if q.1 = 6 then (pCount 100 q.2).map fun r => (⟨6, 0, 0, noB, r.1⟩, r.2)
  else none
def FitN (n : NodeP) : Prop := Fits64 n.int ∧ 0 ≤ n.bits ∧ n.bits < 18446744073709551616
theorem pNode_put {n : NodeP} {ks : List Br} (hf : FitN n) (hk : kindOk n ks = true) (hn : n.kids = ks.length) (hl : ks.length ≤ 100) (t : List UInt8) : pNode (encNode n ++ t) = some (n, t) := by
  obtain ⟨kind, int, bits, bytes, kids⟩ := n
  simp only at hn
  subst hn
  obtain ⟨f1, f2, f3⟩ := hf
  simp only at f1 f2 f3
  unfold kindOk at hk
  simp only at hk
  unfold encNode pNode
  simp only [List.append_assoc]
  have p4 : (256 : Int) ^ 4 = 4294967296 := by decide
  have p8 : (256 : Int) ^ 8 = 18446744073709551616 := by decide
  split at hk
  · rename_i e
    subst e
    simp only [decide_eq_true_eq] at hk
    obtain ⟨rfl, rfl, h3⟩ := hk
    rw [pU_put' (by decide) (by decide)]
    simp only [Option.bind_some, if_true, pI_put f1, Option.map_some, h3]
    rfl
  · rename_i e1
    split at hk
    · rename_i e
      subst e
      simp only [decide_eq_true_eq] at hk
      obtain ⟨rfl, rfl, h3, h4⟩ := hk
      rw [pU_put' (by decide) (by decide)]
      simp only [Option.bind_some, Int.reduceToNat, Nat.reduceEqDiff, Int.reduceEq, reduceIte]
      rw [pText_put h4 (by omega), h3]
      rfl
    · rename_i e2
      split at hk
      · rename_i e
        subst e
        simp only [Bool.and_eq_true, decide_eq_true_eq] at hk
        obtain ⟨⟨rfl, rfl, h3⟩, _⟩ := hk
        rw [pU_put' (by decide) (by decide)]
        simp only [Option.bind_some, Int.reduceToNat, Nat.reduceEqDiff, Int.reduceEq, reduceIte]
        rw [pU_put' f2 (by rw [p8]; exact f3)]
        simp only [Option.map_some, Int.toNat_of_nonneg f2, h3]
        rfl
      · rename_i e3
        split at hk
        · rename_i e
          subst e
          simp only [decide_eq_true_eq] at hk
          obtain ⟨rfl, rfl, rfl⟩ := hk
          rw [pU_put' (by decide) (by decide)]
          simp only [Option.bind_some, Int.reduceToNat, Nat.reduceEqDiff, Int.reduceEq, reduceIte]
          rw [pCount_put hl (by omega)]
          rfl
        · rename_i e4
          split at hk
          · rename_i e
            subst e
            simp only [decide_eq_true_eq] at hk
            obtain ⟨rfl, rfl, h3, h4⟩ := hk
            rw [pU_put' (by decide) (by decide)]
            simp only [Option.bind_some, Int.reduceToNat, Nat.reduceEqDiff, Int.reduceEq, reduceIte]
            rw [List.append_assoc, pU_put' h3 (by rw [p4]; omega)]
            simp only [Option.bind_some]
            rw [pCount_put hl (by omega)]
            simp only [Option.map_some, Int.toNat_of_nonneg h3]
          · rename_i e5
            split at hk
            · rename_i e
              subst e
              simp only [Bool.and_eq_true, decide_eq_true_eq] at hk
              obtain ⟨⟨rfl, rfl, rfl⟩, _⟩ := hk
              rw [pU_put' (by decide) (by decide)]
              simp only [Option.bind_some, Int.reduceToNat, Nat.reduceEqDiff, Int.reduceEq, reduceIte]
              rw [pCount_put hl (by omega)]
              rfl
            · cases hk
theorem pNode_inv {b t : List UInt8} {n : NodeP} (h : pNode b = some (n, t)) : b = encNode n ++ t ∧ FitN n ∧ 0 ≤ n.kids ∧ n.kids ≤ 100 := by
  unfold pNode at h
  obtain ⟨⟨k, u⟩, h1, h2⟩ := Option.bind_eq_some_iff.1 h
  obtain ⟨h3, h4⟩ := pU_inv h1
  simp only at h2
  have p4 : (256 : Nat) ^ 4 = 4294967296 := by decide
  have p8 : (256 : Nat) ^ 8 = 18446744073709551616 := by decide
  split at h2
  · rename_i e
    subst e
    obtain ⟨⟨r, v⟩, h5, h6⟩ := Option.map_eq_some_iff.1 h2
    injection h6 with h6 h7
    simp only at h6 h7
    subst h6
    subst h7
    obtain ⟨h8, h9⟩ := pI_inv h5
    exact ⟨by rw [h3, h8, ← List.append_assoc]; rfl, ⟨h9, by simp, by simp⟩, by simp, by simp⟩
  · split at h2
    · rename_i e
      subst e
      obtain ⟨⟨r, v⟩, h5, h6⟩ := Option.map_eq_some_iff.1 h2
      injection h6 with h6 h7
      simp only at h6 h7
      subst h6
      subst h7
      obtain ⟨h8, h9⟩ := pText_inv h5
      exact ⟨by rw [h3, h8, ← List.append_assoc]; rfl, ⟨⟨by simp, by simp⟩, by simp, by simp⟩, by simp, by simp⟩
    · split at h2
      · rename_i e
        subst e
        obtain ⟨⟨r, v⟩, h5, h6⟩ := Option.map_eq_some_iff.1 h2
        injection h6 with h6 h7
        simp only at h6 h7
        subst h6
        subst h7
        obtain ⟨h8, h9⟩ := pU_inv h5
        rw [p8] at h9
        exact ⟨by rw [h3, h8, ← List.append_assoc]; rfl, ⟨⟨by simp, by simp⟩, by show (0 : Int) ≤ r; omega, by show (r : Int) < _; omega⟩, by simp, by simp⟩
      · split at h2
        · rename_i e
          subst e
          obtain ⟨⟨r, v⟩, h5, h6⟩ := Option.map_eq_some_iff.1 h2
          injection h6 with h6 h7
          simp only at h6 h7
          subst h6
          subst h7
          obtain ⟨h8, h9⟩ := pCount_inv h5
          exact ⟨by rw [h3, h8, ← List.append_assoc]; rfl, ⟨⟨by simp, by simp⟩, by simp, by simp⟩, by show (0 : Int) ≤ r; omega, by show (r : Int) ≤ 100; omega⟩
        · split at h2
          · rename_i e
            subst e
            obtain ⟨⟨r, v⟩, h5, h6⟩ := Option.bind_eq_some_iff.1 h2
            obtain ⟨⟨s, w⟩, h7, h8⟩ := Option.map_eq_some_iff.1 h6
            injection h8 with h8 h9
            simp only at h8 h9 h7
            subst h8
            subst h9
            obtain ⟨h10, h11⟩ := pU_inv h5
            obtain ⟨h12, h13⟩ := pCount_inv h7
            rw [p4] at h11
            refine ⟨?_, ⟨⟨by show _ ≤ (r : Int); omega, by show (r : Int) ≤ _; omega⟩, by simp, by simp⟩, by show (0 : Int) ≤ s; omega, by show (s : Int) ≤ 100; omega⟩
            rw [h3, h10, h12]
            show _ = (be 1 5 ++ (be 4 r ++ be 2 s)) ++ w
            simp only [List.append_assoc]
            rfl
          · split at h2
            · rename_i e
              subst e
              obtain ⟨⟨r, v⟩, h5, h6⟩ := Option.map_eq_some_iff.1 h2
              injection h6 with h6 h7
              simp only at h6 h7
              subst h6
              subst h7
              obtain ⟨h8, h9⟩ := pCount_inv h5
              exact ⟨by rw [h3, h8, ← List.append_assoc]; rfl, ⟨⟨by simp, by simp⟩, by simp, by simp⟩, by show (0 : Int) ≤ r; omega, by show (r : Int) ≤ 100; omega⟩
            · cases h2
def pT : Nat → Int → List NodeP → Pr (List NodeP)
  | 0, _, _, _ => none
  | f + 1, left, acc, b => if left ≤ 0 then some (acc, b) else if 100 ≤ acc.length then none else (pNode b).bind fun q => pT f (left - 1 + q.1.kids) (acc ++ [q.1]) q.2
def pTerm : Pr (List NodeP) := fun b => (pT 102 1 [] b).bind fun q => if rightT q.1 = true then some q else none
theorem encT_app (l m : List NodeP) : encT (l ++ m) = encT l ++ encT m := List.flatMap_append
theorem encT_cons (n : NodeP) (l : List NodeP) : encT (n :: l) = encNode n ++ encT l := rfl
theorem flats_len_le (b : Br) (bs : List Br) : (Br.flats (b :: bs)).length = b.flat.length + (Br.flats bs).length := by
  show (b.flat ++ Br.flats bs).length = _
  rw [List.length_append]
mutual
theorem pT_br : ∀ (b : Br), b.wf → b.right = true → (∀ n ∈ b.flat, FitN n) → ∀ (f : Nat) (left : Int) (acc : List NodeP) (t : List UInt8), 1 ≤ left → acc.length + b.flat.length ≤ 100 → pT (f + b.flat.length) left acc (encT b.flat ++ t) = pT f (left - 1) (acc ++ b.flat) t
  | .mk n ks, hw, hr, hf, f, left, acc, t, h1, h2 => by
    have hw1 : n.kids = ks.length := hw.1
    have hw2 : Br.wfs ks := hw.2
    have hr1 : (kindOk n ks && Br.rights ks) = true := hr
    rw [Bool.and_eq_true] at hr1
    have e1 : (Br.mk n ks).flat = n :: Br.flats ks := rfl
    rw [e1] at hf h2 ⊢
    rw [List.length_cons] at h2
    have hks : ks.length ≤ (Br.flats ks).length := by
      have : ∀ (l : List Br), l.length ≤ (Br.flats l).length := by
        intro l
        induction l with
        | nil => exact Nat.le_refl _
        | cons b l ih =>
          rw [flats_len_le, List.length_cons]
          have : 1 ≤ b.flat.length := by cases b; show 1 ≤ (_ :: _ : List NodeP).length; simp
          omega
      exact this ks
    rw [List.length_cons, ← Nat.add_assoc, encT_cons, List.append_assoc]
    show (if left ≤ 0 then _ else if 100 ≤ acc.length then _ else _) = _
    rw [if_neg (by omega), if_neg (by omega), pNode_put (hf n (List.mem_cons_self ..)) hr1.1 hw1 (by omega)]
    show pT (f + (Br.flats ks).length) (left - 1 + n.kids) (acc ++ [n]) (encT (Br.flats ks) ++ t) = _
    rw [pT_brs ks hw2 hr1.2 (fun x hx => hf x (List.mem_cons_of_mem _ hx)) f _ _ t (by omega) (by rw [List.length_append]; simp only [List.length_cons, List.length_nil]; omega)]
    congr 1
    · omega
    · simp
theorem pT_brs : ∀ (bs : List Br), Br.wfs bs → Br.rights bs = true → (∀ n ∈ Br.flats bs, FitN n) → ∀ (f : Nat) (left : Int) (acc : List NodeP) (t : List UInt8), (bs.length : Int) ≤ left → acc.length + (Br.flats bs).length ≤ 100 → pT (f + (Br.flats bs).length) left acc (encT (Br.flats bs) ++ t) = pT f (left - bs.length) (acc ++ Br.flats bs) t
  | [], _, _, _, f, left, acc, t, _, _ => by
    show pT (f + 0) left acc t = pT f (left - (0 : Nat)) (acc ++ []) t
    rw [List.append_nil, Nat.add_zero]
    congr 1
    omega
  | b :: bs, hw, hr, hf, f, left, acc, t, h1, h2 => by
    have hw1 : b.wf := hw.1
    have hw2 : Br.wfs bs := hw.2
    have hr1 : (b.right && Br.rights bs) = true := hr
    rw [Bool.and_eq_true] at hr1
    have e1 : Br.flats (b :: bs) = b.flat ++ Br.flats bs := rfl
    rw [List.length_cons] at h1
    rw [e1] at hf h2 ⊢
    rw [List.length_append] at h2
    rw [List.length_append, show f + (b.flat.length + (Br.flats bs).length) = (f + (Br.flats bs).length) + b.flat.length by omega, encT_app, List.append_assoc]
    rw [pT_br b hw1 hr1.1 (fun x hx => hf x (List.mem_append_left _ hx)) _ _ _ _ (by omega) (by omega)]
    rw [pT_brs bs hw2 hr1.2 (fun x hx => hf x (List.mem_append_right _ hx)) f _ _ t (by omega) (by rw [List.length_append]; omega)]
    congr 1
    · rw [List.length_cons]; omega
    · rw [List.append_assoc]
end
theorem rightT_tree {l : List NodeP} (h : rightT l = true) : l.length ≤ 100 ∧ ∃ b : Br, l = b.flat ∧ b.wf ∧ b.right = true := by
  unfold rightT fitsT at h
  rw [Bool.and_eq_true, decide_eq_true_eq] at h
  refine ⟨h.1, ?_⟩
  have h2 := h.2
  split at h2
  · rename_i b hg
    rw [Bool.and_eq_true] at h2
    obtain ⟨e1, e2⟩ := grow_flat _ _ _ _ hg
    exact ⟨b, by rw [List.append_nil] at e1; exact e1, e2, h2.2⟩
  · cases h2
theorem pTerm_put {l : List NodeP} (h : rightT l = true) (hf : ∀ n ∈ l, FitN n) (t : List UInt8) : pTerm (encT l ++ t) = some (l, t) := by
  obtain ⟨h1, b, rfl, h2, h3⟩ := rightT_tree h
  unfold pTerm
  have := pT_br b h2 h3 hf (102 - b.flat.length) 1 [] t (by decide) (by simpa using h1)
  rw [show 102 - b.flat.length + b.flat.length = 102 by omega] at this
  rw [this, List.nil_append]
  obtain ⟨f, hf2⟩ : ∃ f, 102 - b.flat.length = f + 1 := ⟨101 - b.flat.length, by omega⟩
  rw [hf2]
  show ((if (1 : Int) - 1 ≤ 0 then some (b.flat, t) else _).bind _) = _
  rw [if_pos (by decide)]
  show (if rightT b.flat = true then some (b.flat, t) else none) = _
  rw [if_pos h]
end Go.Proofs.YtfopgaijfeeioaaGreat
/- Names of assets, rows that rise by names: plain, with no program in sight. -/

set_option linter.unusedVariables false
namespace Go.Proofs.YtfopgaijfeeioaaGreat
open Go Go.RowKit HL
structure NameP where
  policy : Hash
  name : ByteArray
  deriving DecidableEq
def nord (a b : NameP) : Int := if bcmp a.policy.toList b.policy.toList ≠ 0 then bcmp a.policy.toList b.policy.toList else bcmp a.name.data.toList b.name.data.toList
theorem nord_trans {a b c : NameP} (h1 : nord a b < 0) (h2 : nord b c < 0) : nord a c < 0 := by
  unfold nord at *
  by_cases p1 : bcmp a.policy.toList b.policy.toList = 0
  · have e1 := bcmp_eq p1
    rw [if_neg (by rw [p1]; simp)] at h1
    rw [e1]
    by_cases p2 : bcmp b.policy.toList c.policy.toList = 0
    · rw [if_neg (by rw [p2]; simp)] at h2 ⊢
      exact bcmp_trans h1 h2
    · rw [if_pos p2] at h2 ⊢
      exact h2
  · rw [if_pos p1] at h1
    by_cases p2 : bcmp b.policy.toList c.policy.toList = 0
    · have e2 := bcmp_eq p2
      rw [← e2, if_pos p1]
      exact h1
    · rw [if_pos p2] at h2
      have := bcmp_trans h1 h2
      rw [if_pos (by omega)]
      exact this
def Rise {α : Type} (key : α → NameP) (l : List α) : Prop := l.Pairwise fun a b => nord (key a) (key b) < 0
end Go.Proofs.YtfopgaijfeeioaaGreat
/- Bundles in memory: how they lie; comparing. -/



set_option linter.unusedVariables false
set_option linter.unusedSimpArgs false
set_option maxRecDepth 100000
namespace Go.Proofs.YtfopgaijfeeioaaGreat
open Go Go.RowKit HL
structure AssetP where
  policy : Hash
  name : ByteArray
  amount : Int
  deriving DecidableEq
def asset0 : AssetP := ⟨hz, ⟨#[]⟩, 0⟩
instance : Df AssetP asset0 := ⟨⟩
def assetEn : En AssetP := ⟨fun x => .agg [.hash x.policy, .one (.s x.name), .one (.i .i64 x.amount)], true, 34, fun _ => ⟨rfl, rfl⟩, by decide⟩
def AssetP.key (x : AssetP) : NameP := ⟨x.policy, x.name⟩
structure ValueM where
  coin : Int
  A : Option Addr
  c : Nat
  assets : List AssetP
def value0 : ValueM := ⟨0, none, 0, []⟩
instance : Df ValueM value0 := ⟨⟩
def valueEn : En ValueM := ⟨fun v => .agg [.one (.i .i64 v.coin), .one (.sl 0 v.A v.assets.length v.c)], true, 2, fun _ => ⟨rfl, rfl⟩, by decide⟩
def nameEn : En NameP := ⟨fun x => .agg [.hash x.policy, .one (.s x.name)], true, 33, fun _ => ⟨rfl, rfl⟩, by decide⟩
instance : Df NameP ⟨hz, ⟨#[]⟩⟩ := ⟨⟩
theorem run_ext {a : Act} {w : World} {F : FuncId} {args : Array Value} {v : Value} {xs : Array Operand} {tys : Array TypeId} {dst : Option Tmp} {ty : TypeId} {pos : String} {af : Array Edge} {gd : Option (Nat × Bool)} (ha : xs.map a.eval = args) (h : (callFunc F args).run Tryz.prog w = .ok (.value v) w) : (execOp a.eval ⟨dst, .call { callee := .value (.func F), args := xs, argTypes := tys }, ty, pos, af, gd⟩).run Tryz.prog w = .ok (.value v) w := by
  unfold execOp
  have e : a.eval (.func F) = .func (.func F) #[] #[] := rfl
  simp only [resolve, e, Deferred.ofValue, Sem.run_bind, Sem.run_pure, Result.andThen, invoke, ha, Array.empty_append, Array.append_empty, h]
theorem run_compare {a : Act} {w : World} {x y : Operand} {A B : Option Addr} {xs ys : List UInt8} {c d : Nat} {tys : Array TypeId} {dst : Option Tmp} {ty : TypeId} {pos : String} {af : Array Edge} {gd : Option (Nat × Bool)} (h1 : a.eval x = .slice A xs.length c) (h2 : a.eval y = .slice B ys.length d) (hA : RdS w A (bcells xs)) (hB : RdS w B (bcells ys)) : (execOp a.eval ⟨dst, .call { callee := .value (.func 199), args := #[x, y], argTypes := tys }, ty, pos, af, gd⟩).run Tryz.prog w = .ok (.value (vint (bcmp xs ys)).den) w := by
  refine run_ext (args := #[.slice A xs.length c, .slice B ys.length d]) (by simp [h1, h2]) ?_
  refine run_stand Tryz.func199 (by kernel_rfl) rfl (by kernel_rfl) (e := Extern.BytealgCompare.compare) (by kernel_rfl) ?_
  rw [show Extern.BytealgCompare.compare #[.slice A xs.length c, .slice B ys.length d] = (do pure (goInt (Extern.BytealgCompare.cmp (← Extern.Bytes.bytesOf (.slice A xs.length c)) (← Extern.Bytes.bytesOf (.slice B ys.length d))))) from rfl]
  simp [run_bytesOf hA, run_bytesOf hB, cmp_ba]
  rfl
theorem cmp_str (p q : ByteArray) : Extern.BytealgCompare.cmp p q = bcmp p.data.toList q.data.toList := by
  have := cmp_ba p.data.toList q.data.toList
  rwa [ba_of, ba_of] at this
theorem run_compareS {a : Act} {w : World} {x y : Operand} {p q : ByteArray} {tys : Array TypeId} {dst : Option Tmp} {ty : TypeId} {pos : String} {af : Array Edge} {gd : Option (Nat × Bool)} (h1 : a.eval x = .string p) (h2 : a.eval y = .string q) : (execOp a.eval ⟨dst, .call { callee := .value (.func 300), args := #[x, y], argTypes := tys }, ty, pos, af, gd⟩).run Tryz.prog w = .ok (.value (vint (bcmp p.data.toList q.data.toList)).den) w := by
  refine run_ext (args := #[.string p, .string q]) (by simp [h1, h2]) ?_
  refine run_stand Tryz.func300 (by kernel_rfl) rfl (by kernel_rfl) (e := Extern.BytealgCompare.compare) (by kernel_rfl) ?_
  rw [show Extern.BytealgCompare.compare #[.string p, .string q] = (do pure (goInt (Extern.BytealgCompare.cmp (← Extern.Bytes.bytesOf (.string p)) (← Extern.Bytes.bytesOf (.string q))))) from rfl]
  simp [Extern.Bytes.bytesOf, cmp_str, Sem.run_bind]
  rfl
theorem cmpBytes_spec (A B : Option Addr) (xs ys : List UInt8) (m k c d : Nat) (hm : m = xs.length) (hk : k = ys.length) : CSpec Tryz.prog 122 [.one (.sl 0 A m c), .one (.sl 1 B k d)] [(0, Res.rd A byteEn xs), (1, Res.rd B byteEn ys)] [] fun o L => o = .ret (vint (bcmp xs ys)) ∧ L = [] := by
  subst hm
  subst hk
  refine v_enter Tryz.func122 (h := fun w0 => ?_)
  refine v_code [] (hk := ?_)
  refine l_rd (v := vint (bcmp xs ys)) (fun a w ht hf => ?_) ?_
  · have hA := rd_reads (hf 0 _ rfl)
    have hB := rd_reads (hf 1 _ rfl)
    rw [dens_byte] at hA hB
    have h1 : a.eval (.tmp 5) = .slice A xs.length c := ev_sound (v := vsl 0 A xs.length c) ht rfl
    have h2 : a.eval (.tmp 6) = .slice B ys.length d := ev_sound (v := vsl 1 B ys.length d) ht rfl
    exact run_compare h1 h2 hA hB
  refine v_ops [] (hk := ?_)
  refine v_ret rfl [] (.cons (.tmp rfl) .nil) (h := ?_)
  exact ⟨rfl, rfl⟩
theorem cmpStr0_spec (p q : ByteArray) : CSpec Tryz.prog 275 [.one (.s p), .one (.s q)] [] [] fun o L => o = .ret (vint (bcmp p.data.toList q.data.toList)) ∧ L = [] := by
  refine v_enter Tryz.func275 (h := fun w0 => ?_)
  refine v_code [] (hk := ?_)
  refine l_rd (v := vint (bcmp p.data.toList q.data.toList)) (fun a w ht hf => run_compareS (ev_sound (v := vs p) ht rfl) (ev_sound (v := vs q) ht rfl)) ?_
  refine v_ops [] (hk := ?_)
  refine v_ret rfl [] (.cons (.tmp rfl) .nil) (h := ?_)
  exact ⟨rfl, rfl⟩
theorem cmpStr_spec (p q : ByteArray) : CSpec Tryz.prog 216 [.one (.s p), .one (.s q)] [] [] fun o L => o = .ret (vint (bcmp p.data.toList q.data.toList)) ∧ L = [] := by
  refine v_enter Tryz.func216 (h := fun w0 => ?_)
  refine v_code [] (hk := ?_)
  refine v_call 20350 [] (cmpStr0_spec p q) Tryz.func275 (h := ?_)
  rintro _ _ (⟨rfl, rfl⟩)
  refine v_ops [] (hk := ?_)
  refine v_ret rfl [] (.cons (.tmp rfl) .nil) (h := ?_)
  exact ⟨rfl, rfl⟩
theorem cmpOr_spec (A : Option Addr) (l : List Int) (c : Nat) (hl : l.length ≤ 1048576) : CSpec Tryz.prog 121 [.one (.sl 0 A l.length c)] [(0, Res.rd A (intEn .i64) l)] [] fun o L => o = .ret (vint ((l.find? fun x => decide (x ≠ 0)).getD 0)) ∧ L = [] := by
  refine v_enter Tryz.func121 (h := fun w0 => ?_)
  refine v_code [] (hk := ?_)
  refine v_loop (fun m E H => ∃ (k : Nat), E = [(8, vn k)] ∧ H = [] ∧ m = l.length - k ∧ k ≤ l.length ∧ (∀ x ∈ l.take k, x = 0)) [3, 6, 7, 17] (l.length) ([(8, vn 0)]) ([]) (h0 := ⟨0, rfl, rfl, by omega, by omega, by simp⟩) (hr := ?_)
  rintro _ _ _ ⟨k, rfl, rfl, hmk, hk, hik0⟩
  refine v_code [] (hk := ?_)
  first | refine c_ifd rfl (fun h9 => ?_) (fun h9 => ?_) | refine c_ifn rfl (fun h9 => ?_) (fun h9 => ?_) | refine c_if rfl (fun h9 => ?_) (fun h9 => ?_)
  · refine v_code [] (hk := ?_)
    first | refine c_ifd rfl (fun h14 => ?_) (fun h14 => ?_) | refine c_ifn rfl (fun h14 => ?_) (fun h14 => ?_) | refine c_if rfl (fun h14 => ?_) (fun h14 => ?_)
    · refine v_code [] (hk := ?_)
      refine v_ret rfl [] (.cons (.tmp rfl) .nil) (h := ?_)
      refine ⟨?_, rfl⟩
      rw [find_atD (d := 0) h9 (fun y hy => by simp [hik0 y hy]) (by simpa using h14)]
      rfl
    · refine v_code [] (hk := ?_)
      refine v_again (l.length - (k + 1)) ⟨k + 1, rfl, rfl, by omega, by omega, all_takeD hik0 h9 h14⟩
  · refine v_code [] (hk := ?_)
    refine v_ret rfl [] (.cons (.tmp rfl) .nil) (h := ?_)
    rw [take_all' h9] at hik0
    refine ⟨?_, rfl⟩
    rw [find_no (fun y hy => by simp [hik0 y hy])]
    rfl
instance : ElT Tryz.prog 3 (intEn .i64) := ⟨⟩
instance : ElT Tryz.prog 148 assetEn := ⟨⟩
instance : ElT Tryz.prog 35 valueEn := ⟨⟩
theorem order_spec (n m : NameP) : CSpec Tryz.prog 135 [.agg [.hash n.policy, .one (.s n.name)], .agg [.hash m.policy, .one (.s m.name)]] [] [] fun o L => o = .ret (vint (nord n m)) ∧ L = [] := by
  refine v_enter Tryz.func135 (h := fun w0 => ?_)
  refine v_code [] (hk := ?_)
  refine l_do d_box (fun g2 => ?_)
  refine l_do d_box (fun g3 => ?_)
  refine v_ops [] (hk := ?_)
  refine v_draw (.q 0 (.q 1 (.q 2 (.q 3 (.q 5 (.q 6 (.q 7 (.q 8 (.s 4 (.s 9 (.s 10 (.s 11 (.q 12 .nil))))))))))))) [10002, 10003, 20450, 20451, 20452, 20453, 20700, 20701, 20702, 20703, 10015, 20800, 20801, 20802, 20803] (hm := by kernel_rfl) (hs := by kernel_rfl) (hk := by kernel_rfl) (h := ?_)
  refine v_sch [] (hk := ?_)
  refine v_callS rfl 20450 [] (cmpBytes_spec (some ⟨g2, 0, none⟩) (some ⟨g3, 0, none⟩) n.policy.toList m.policy.toList 32 32 32 32 (by simp) (by simp)) Tryz.func122 (h := ?_)
  rintro _ _ (⟨rfl, rfl⟩)
  refine ⟨cov_of (by repeat (first | exact trivial | refine ⟨rfl, ?_⟩)), ?_⟩
  refine v_callS rfl 20700 [] (cmpStr_spec n.name m.name) Tryz.func216 (h := ?_)
  rintro _ _ (⟨rfl, rfl⟩)
  refine ⟨cov_of (by repeat (first | exact trivial | refine ⟨rfl, ?_⟩)), ?_⟩
  refine s_do rfl (d_bslice [_, _]) (fun B15 => ?_)
  refine v_callS rfl 20800 [] (cmpOr_spec B15 [bcmp n.policy.toList m.policy.toList, bcmp n.name.data.toList m.name.data.toList] 2 (by simp)) Tryz.func121 (h := ?_)
  rintro _ _ (⟨rfl, rfl⟩)
  refine ⟨cov_of (by repeat (first | exact trivial | refine ⟨rfl, ?_⟩)), ?_⟩
  refine v_sch [] (hk := ?_)
  refine v_ret rfl [] (.cons (.tmp rfl) .nil) (h := ?_)
  refine ⟨?_, rfl⟩
  unfold nord
  by_cases h1 : bcmp n.policy.toList m.policy.toList = 0
  · by_cases h2 : bcmp n.name.data.toList m.name.data.toList = 0
    · simp [h1, h2]; rfl
    · simp [h1, h2]; rfl
  · simp [h1]; rfl
theorem nameof_spec (x : AssetP) : CSpec Tryz.prog 210 [.agg [.hash x.policy, .one (.s x.name), .one (.i .i64 x.amount)]] [] [] fun o L => o = .ret (.s (.agg [.hash x.policy, .one (.s x.name)])) ∧ L = [] := by
  refine v_enter Tryz.func210 (h := fun w0 => ?_)
  refine v_code [] (hk := ?_)
  refine l_do d_box (fun g1 => ?_)
  refine l_do d_alloc (fun g2 => ?_)
  refine v_ops [] (hk := ?_)
  refine v_ret rfl [] (.cons (.cell inferInstance rfl rfl rfl rfl) .nil) (h := ?_)
  exact ⟨rfl, rfl⟩
end Go.Proofs.YtfopgaijfeeioaaGreat
/- Bundles: rising, right, how much there is. -/

set_option linter.unusedVariables false
set_option linter.unusedSimpArgs false
set_option maxRecDepth 100000
namespace Go.Proofs.YtfopgaijfeeioaaGreat
open Go Go.RowKit HL
instance {α : Type} {key : α → NameP} {l : List α} : Decidable (Rise key l) := by unfold Rise; infer_instance
def Rising (l : List AssetP) : Prop := (∀ x ∈ l, x.name.size ≤ 32) ∧ Rise AssetP.key l ∧ l.length ≤ 30
instance {l : List AssetP} : Decidable (Rising l) := by unfold Rising; infer_instance
theorem rise_snoc {α : Type} {key : α → NameP} {l : List α} {x : α} : Rise key (l ++ [x]) ↔ Rise key l ∧ ∀ y ∈ l, nord (key y) (key x) < 0 := by
  unfold Rise
  rw [List.pairwise_append]
  constructor
  · rintro ⟨h1, _, h3⟩
    exact ⟨h1, fun y hy => h3 y hy x (List.mem_singleton.2 rfl)⟩
  · rintro ⟨h1, h2⟩
    exact ⟨h1, List.pairwise_singleton .., fun y hy z hz => by rw [List.mem_singleton.1 hz]; exact h2 y hy⟩
theorem rise_step {α : Type} {key : α → NameP} {l : List α} {k : Nat} {d : α} (hk : k < l.length) (h : Rise key (l.take k)) (h1 : 0 < k → nord (key (l.getD (k - 1) d)) (key (l.getD k d)) < 0) : Rise key (l.take (k + 1)) := by
  rw [take_getD (d := d) hk]
  refine rise_snoc.2 ⟨h, fun y hy => ?_⟩
  cases k with
  | zero => simp at hy
  | succ k =>
    have h1 := h1 (by omega)
    simp only [Nat.add_sub_cancel] at h1
    rw [take_getD (d := d) (by omega)] at h hy
    rcases List.mem_append.1 hy with hy | hy
    · exact nord_trans ((rise_snoc.1 h).2 y hy) h1
    · rw [List.mem_singleton.1 hy]
      exact h1
theorem rise_not {α : Type} {key : α → NameP} {l : List α} {k : Nat} {d : α} (hk : k < l.length) (h0 : 0 < k) (h1 : ¬ nord (key (l.getD (k - 1) d)) (key (l.getD k d)) < 0) : ¬ Rise key l := fun h => by
  have := (List.pairwise_iff_getElem.1 h) (k - 1) k (by omega) hk (by omega)
  rw [List.getD_eq_getElem?_getD, List.getD_eq_getElem?_getD, List.getElem?_eq_getElem hk, List.getElem?_eq_getElem (by omega)] at h1
  exact h1 this
theorem outB {b c : Bool} (h : b = c) : Out.ret (vb b) = Out.ret (vb c) := by rw [h]
def unrising (l : List AssetP) (k : Nat) : Bool := decide (32 < (l.getD k asset0).name.size) || decide (0 < k) && decide (((0 : Nat) : Int) ≤ nord (l.getD ((k : Int) - ((1 : Nat) : Int)).toNat asset0).key (l.getD k asset0).key)
theorem rising_more {l : List AssetP} {k : Nat} (h : unrising l k = false) : (l.getD k asset0).name.size ≤ 32 ∧ (0 < k → nord (l.getD (k - 1) asset0).key (l.getD k asset0).key < 0) := by
  have e : ((k : Int) - ((1 : Nat) : Int)).toNat = k - 1 := by omega
  unfold unrising at h
  rw [e] at h
  simp only [Bool.or_eq_false_iff, Bool.and_eq_false_imp, decide_eq_false_iff_not, decide_eq_true_eq] at h
  exact ⟨by omega, fun h0 => by have := h.2 h0; omega⟩
theorem rising_less {l : List AssetP} {k : Nat} (hk : k < l.length) (h : unrising l k = true) : ¬ Rising l := by
  have e : ((k : Int) - ((1 : Nat) : Int)).toNat = k - 1 := by omega
  unfold unrising at h
  rw [e] at h
  simp only [Bool.or_eq_true, Bool.and_eq_true, decide_eq_true_eq] at h
  rintro ⟨h1, h2, h3⟩
  rcases h with h | ⟨h0, h⟩
  · have := h1 _ (getD_mem (d := asset0) hk)
    omega
  · exact rise_not (d := asset0) hk h0 (by omega) h2
theorem rising_spec (A : Option Addr) (l : List AssetP) (c : Nat) (hl : l.length ≤ 1048576) : CSpec Tryz.prog 129 [.one (.sl 0 A l.length c)] [(0, Res.rd A assetEn l)] [] fun o L => o = .ret (vb (decide (Rising l))) ∧ L = [] := by
  refine v_enter Tryz.func129 (h := fun w0 => ?_)
  refine v_code [] (hk := ?_)
  refine v_loop (fun m E H => ∃ (k : Nat), E = [(7, vn k)] ∧ H = [] ∧ m = l.length - k ∧ k ≤ l.length ∧ (∀ x ∈ l.take k, x.name.size ≤ 32) ∧ (Rise AssetP.key (l.take k))) [0, 5, 6, 33, 34, 35] (l.length) ([(7, vn 0)]) ([]) (h0 := ⟨0, rfl, rfl, by omega, by omega, by simp, List.Pairwise.nil⟩) (hr := ?_)
  rintro _ _ _ ⟨k, rfl, rfl, hmk, hk, hik0, hik1⟩
  refine v_code [] (hk := ?_)
  first | refine c_ifd rfl (fun h8 => ?_) (fun h8 => ?_) | refine c_ifn rfl (fun h8 => ?_) (fun h8 => ?_) | refine c_if rfl (fun h8 => ?_) (fun h8 => ?_)
  · refine v_code [] (hk := ?_)
    refine l_do d_alloc (fun g4 => ?_)
    refine v_ops [] (hk := ?_)
    refine v_draw (.q 0 (.q 1 (.q 2 (.q 3 (.q 4 (.q 5 (.q 6 (.q 7 (.q 8 (.q 9 (.q 10 (.q 11 (.q 12 (.q 14 (.s 13 (.s 15 (.s 16 (.q 17 (.q 18 (.q 19 .nil)))))))))))))))))))) [10006, 10004, 10014, 21250, 21251, 21252, 21253, 21350, 21351, 21352, 21353, 21400, 21401, 21402, 21403, 10034] (hm := by kernel_rfl) (hs := by kernel_rfl) (hk := by kernel_rfl) (h := ?_)
    refine v_sch [] (hk := ?_)
    refine s_callG rfl [] [24] ⟨_, _, ⟨_, .inl ⟨rfl, rfl⟩⟩, rfl, rfl⟩ (fun hg => nameof_spec (l.getD ((k : Int) - ((1 : Nat) : Int)).toNat asset0)) Tryz.func210 (h := ?_)
    refine s_callG rfl [] [26] ⟨_, _, ⟨_, .inl ⟨rfl, rfl⟩⟩, rfl, rfl⟩ (fun hg => nameof_spec (l.getD k asset0)) Tryz.func210 (h := ?_)
    refine s_callG rfl [] [25, 27] ⟨_, _, ⟨_, .inl ⟨rfl, rfl⟩⟩, ⟨_, _, ⟨_, .inl ⟨rfl, rfl⟩⟩, rfl, rfl⟩, rfl⟩ (fun hg => order_spec (l.getD ((k : Int) - ((1 : Nat) : Int)).toNat asset0).key (l.getD k asset0).key) Tryz.func135 (h := ?_)
    refine v_sch [] (hk := ?_)
    first | refine c_ifd rfl (fun h31 => ?_) (fun h31 => ?_) | refine c_ifn rfl (fun h31 => ?_) (fun h31 => ?_) | refine c_if rfl (fun h31 => ?_) (fun h31 => ?_)
    · refine v_code [] (hk := ?_)
      refine v_ret rfl [] (.cons (.tmp rfl) .nil) (h := ?_)
      exact ⟨outB (decide_eq_false (rising_less h8 h31)).symm, rfl⟩
    · refine v_code [] (hk := ?_)
      refine v_again (l.length - (k + 1)) ⟨k + 1, rfl, rfl, by omega, by omega, (all_takeD hik0 h8 (rising_more h31).1), (rise_step h8 hik1 (rising_more h31).2)⟩
  · refine v_code [] (hk := ?_)
    refine v_ret rfl [] (.cons (.tmp rfl) .nil) (h := ?_)
    rw [take_all' h8] at hik0 hik1
    exact ⟨outB (decide_eq_decide.2 ⟨fun h => ⟨hik0, hik1, h⟩, fun h => h.2.2⟩), rfl⟩
theorem right1_spec (x : AssetP) : CSpec Tryz.prog 131 [.agg [.hash x.policy, .one (.s x.name), .one (.i .i64 x.amount)]] [] [] fun o L => o = .ret (vb (decide (x.amount < 1))) ∧ L = [] := by
  refine v_enter Tryz.func131 (h := fun w0 => ?_)
  refine v_code [] (hk := ?_)
  refine l_do d_box (fun g1 => ?_)
  refine v_ops [] (hk := ?_)
  refine v_ret rfl [] (.cons (.tmp rfl) .nil) (h := ?_)
  exact ⟨rfl, rfl⟩
theorem index1_spec (A : Option Addr) (l : List AssetP) (c : Nat) (hl : l.length ≤ 1048576) : CSpec Tryz.prog 211 [.one (.sl 0 A l.length c), .one (.fn 131 [] [])] [(0, Res.rd A assetEn l)] [] fun o L => (∃ k : Nat, k < l.length ∧ (l.getD k asset0).amount < 1 ∧ o = .ret (vint k) ∧ L = []) ∨ (∀ x ∈ l, ¬ x.amount < 1) ∧ o = .ret (vint (-1)) ∧ L = [] := by
  refine v_enter Tryz.func211 (h := fun w0 => ?_)
  refine v_code [] (hk := ?_)
  refine v_loop (fun m E H => ∃ (k : Nat), E = [(8, vn k)] ∧ H = [] ∧ m = l.length - k ∧ k ≤ l.length ∧ (∀ x ∈ l.take k, ¬ x.amount < 1)) [0, 1, 7] (l.length) ([(8, vn 0)]) ([]) (h0 := ⟨0, rfl, rfl, by omega, by omega, by simp⟩) (hr := ?_)
  rintro _ _ _ ⟨k, rfl, rfl, hmk, hk, hik0⟩
  refine v_code [] (hk := ?_)
  first | refine c_ifd rfl (fun h9 => ?_) (fun h9 => ?_) | refine c_ifn rfl (fun h9 => ?_) (fun h9 => ?_) | refine c_if rfl (fun h9 => ?_) (fun h9 => ?_)
  · refine v_code [] (hk := ?_)
    refine v_call 20800 [] (right1_spec (l.getD k asset0)) Tryz.func131 (h := ?_)
    rintro _ _ (⟨rfl, rfl⟩)
    refine v_ops [] (hk := ?_)
    first | refine c_ifd rfl (fun h16 => ?_) (fun h16 => ?_) | refine c_ifn rfl (fun h16 => ?_) (fun h16 => ?_) | refine c_if rfl (fun h16 => ?_) (fun h16 => ?_)
    · refine v_code [] (hk := ?_)
      refine v_ret rfl [] (.cons (.tmp rfl) .nil) (h := ?_)
      exact .inl ⟨k, h9, h16, rfl, rfl⟩
    · refine v_code [] (hk := ?_)
      refine v_again (l.length - (k + 1)) ⟨k + 1, rfl, rfl, by omega, by omega, (all_takeD hik0 h9 h16)⟩
  · refine v_code [] (hk := ?_)
    refine v_ret rfl [] (.cons (.tmp rfl) .nil) (h := ?_)
    rw [take_all' h9] at hik0
    exact .inr ⟨hik0, rfl, rfl⟩
theorem contains1_spec (A : Option Addr) (l : List AssetP) (c : Nat) (hl : l.length ≤ 1048576) : CSpec Tryz.prog 130 [.one (.sl 0 A l.length c), .one (.fn 131 [] [])] [(0, Res.rd A assetEn l)] [] fun o L => o = .ret (vb (l.any fun x => decide (x.amount < 1))) ∧ L = [] := by
  refine v_enter Tryz.func130 (h := fun w0 => ?_)
  refine v_code [] (hk := ?_)
  refine v_call 20350 [] (index1_spec A l c hl) Tryz.func211 (h := ?_)
  rintro _ _ (⟨k, hk, hx, rfl, rfl⟩ | ⟨hno, rfl, rfl⟩)
  · refine v_ops [] (hk := ?_)
    refine v_ret rfl [] (.cons (.tmp rfl) .nil) (h := ?_)
    refine ⟨outB ?_, rfl⟩
    rw [List.any_eq_true.2 ⟨_, getD_mem hk, decide_eq_true hx⟩]
    exact decide_eq_true (by omega)
  · refine v_ops [] (hk := ?_)
    refine v_ret rfl [] (.cons (.tmp rfl) .nil) (h := ?_)
    refine ⟨outB ?_, rfl⟩
    rw [List.any_eq_false.2 fun x hx => by simpa using hno x hx]
    rfl
def RightV (coin : Int) (l : List AssetP) : Prop := 0 ≤ coin ∧ Rising l ∧ ∀ x ∈ l, 1 ≤ x.amount
instance {coin : Int} {l : List AssetP} : Decidable (RightV coin l) := by unfold RightV; infer_instance
theorem right_spec (coin : Int) (A : Option Addr) (l : List AssetP) (c : Nat) (hl : l.length ≤ 1048576) : CSpec Tryz.prog 66 [.agg [.one (.i .i64 coin), .one (.sl 101 A l.length c)]] [(101, Res.rd A assetEn l)] [] fun o L => o = .ret (vb (decide (RightV coin l))) ∧ L = [] := by
  refine v_enter Tryz.func66 (h := fun w0 => ?_)
  refine v_code [] (hk := ?_)
  refine l_do d_box (fun g1 => ?_)
  refine v_ops [] (hk := ?_)
  refine l_callG [] [8] ⟨_, _, ⟨_, .inl ⟨rfl, rfl⟩⟩, rfl, rfl⟩ (fun hg => rising_spec A l c hl) Tryz.func129 (h := ?_)
  refine v_ops [] (hk := ?_)
  refine l_callG [] [13] ⟨_, _, ⟨_, .inl ⟨rfl, rfl⟩⟩, rfl, rfl⟩ (fun hg => contains1_spec A l c hl) Tryz.func130 (h := ?_)
  refine v_ops [] (hk := ?_)
  refine v_ret rfl [] (.cons (.tmp rfl) .nil) (h := ?_)
  refine ⟨outB ?_, rfl⟩
  rw [Bool.eq_iff_iff, decide_eq_true_iff]
  simp only [Bool.and_eq_true, decide_eq_true_eq, Bool.not_eq_true', List.any_eq_false]
  unfold RightV
  exact ⟨fun h => ⟨by have := h.1.1; omega, h.1.2, fun x hx => by have := h.2 x hx; omega⟩, fun h => ⟨⟨by have := h.1; omega, h.2.1⟩, fun x hx => by have := h.2.2 x hx; omega⟩⟩
end Go.Proofs.YtfopgaijfeeioaaGreat
/- PACK: assets, bundles, totals, outputs, entries, diffs: their bytes; plain. -/


set_option linter.unusedVariables false
set_option linter.unusedSimpArgs false
namespace Go.Proofs.YtfopgaijfeeioaaGreat
open Go Go.RowKit HL
def only {α : Type} (c : α → Bool) (p : Pr α) : Pr α := fun b => (p b).bind fun q => if c q.1 = true then some q else none
def encAsset (x : AssetP) : List UInt8 := x.policy.toList ++ (textB x.name ++ be 8 x.amount)
def encAssets (l : List AssetP) : List UInt8 := be 2 l.length ++ l.flatMap encAsset
def MintsP (l : List AssetP) : Prop := Rising l ∧ ∀ x ∈ l, x.amount ≠ 0
instance {l : List AssetP} : Decidable (MintsP l) := by unfold MintsP; infer_instance
structure ValC where
  coin : Int
  assets : List AssetP
  deriving DecidableEq
def rightV (v : ValC) : Bool := decide (RightV v.coin v.assets)
def encV (v : ValC) : List UInt8 := be 8 v.coin ++ encAssets v.assets
structure WideP where
  hi : Int
  lo : Int
  deriving DecidableEq
def wz : WideP := ⟨0, 0⟩
structure TotalP where
  policy : Hash
  name : ByteArray
  sum : WideP
  deriving DecidableEq
def TotalP.key (x : TotalP) : NameP := ⟨x.policy, x.name⟩
def TotalsP (l : List TotalP) : Prop := (∀ x ∈ l, x.sum ≠ wz ∧ x.name.size ≤ 32) ∧ Rise TotalP.key l
instance {l : List TotalP} : Decidable (TotalsP l) := by unfold TotalsP; infer_instance
structure OutC where
  prog : Bool
  hash : Hash
  val : ValC
  datum : Int
  dh : Hash
  nodes : List NodeP
  deriving DecidableEq
def rightO (o : OutC) : Bool := (if o.datum = 0 then decide (o.dh = hz) && decide (o.nodes.length = 0) else if o.datum = 1 then decide (o.nodes.length = 0) else if o.datum = 2 then decide (o.dh = hz) && rightT o.nodes else false) && rightV o.val
def encO (o : OutC) : List UInt8 := flagB o.prog ++ (o.hash.toList ++ (encV o.val ++ (be 1 o.datum ++ (if o.datum = 1 then o.dh.toList else if o.datum = 2 then encT o.nodes else []))))
structure RefP where
  tx : Hash
  place : Int
  deriving DecidableEq
def ref0 : RefP := ⟨hz, 0⟩
def refOrd (a b : RefP) : Int := orI [bcmp a.tx.toList b.tx.toList, icmp a.place b.place]
def rightR (x : RefP) : Bool := decide (0 ≤ x.place ∧ x.place ≤ 30)
structure EntC where
  ref : RefP
  out : OutC
  deriving DecidableEq
def rightE (x : EntC) : Bool := rightR x.ref && rightO x.out
def RiseE (l : List EntC) : Prop := l.Pairwise fun a b => refOrd a.ref b.ref < 0
instance {l : List EntC} : Decidable (RiseE l) := by unfold RiseE; infer_instance
def rightEs (l : List EntC) : Bool := l.all rightE && decide (RiseE l)
end Go.Proofs.YtfopgaijfeeioaaGreat
/- PACK: refs; what is thrown. -/



set_option linter.unusedVariables false
set_option linter.unusedSimpArgs false
set_option maxRecDepth 100000
namespace Go.Proofs.YtfopgaijfeeioaaGreat
open Go Go.RowKit HL
instance : ElT Tryz.prog 4 boolEn := ⟨⟩
theorem nanI_spec (a : Int) : CSpec Tryz.prog 200 [.one (.i .i64 a)] [] [] fun o L => o = .ret (vb (!decide (a = a))) ∧ L = [] := by
  refine v_enter Tryz.func200 (h := fun w0 => ?_)
  refine v_code [] (hk := ?_)
  refine v_ret rfl [] (.cons (.tmp rfl) .nil) (h := ?_)
  exact ⟨rfl, rfl⟩
theorem cmpI_spec (a b : Int) : CSpec Tryz.prog 123 [.one (.i .i64 a), .one (.i .i64 b)] [] [] fun o L => o = .ret (vint (icmp a b)) ∧ L = [] := by
  refine v_enter Tryz.func123 (h := fun w0 => ?_)
  refine v_code [] (hk := ?_)
  refine v_call 20400 [(900, 900), (901, 901), (910, 910), (911, 911), (920, 920), (921, 921), (930, 930), (931, 931)] (nanI_spec a) Tryz.func200 (h := ?_)
  rintro _ _ (⟨rfl, rfl⟩)
  refine v_know 8 false rfl (by simp) ?_
  refine v_ops [] (hk := ?_)
  refine v_call 20500 [(900, 900), (901, 901), (910, 910), (911, 911), (920, 920), (921, 921), (930, 930), (931, 931)] (nanI_spec b) Tryz.func200 (h := ?_)
  rintro _ _ (⟨rfl, rfl⟩)
  refine v_know 10 false rfl (by simp) ?_
  refine v_ops [] (hk := ?_)
  first | refine c_ifd rfl (fun h16 => ?_) (fun h16 => ?_) | refine c_ifn rfl (fun h16 => ?_) (fun h16 => ?_) | refine c_if rfl (fun h16 => ?_) (fun h16 => ?_)
  · refine v_code [] (hk := ?_)
    refine v_ret rfl [] (.cons (.tmp rfl) .nil) (h := ?_)
    exact ⟨by unfold icmp; rw [if_pos h16]; rfl, rfl⟩
  · refine v_code [] (hk := ?_)
    first | refine c_ifd rfl (fun h19 => ?_) (fun h19 => ?_) | refine c_ifn rfl (fun h19 => ?_) (fun h19 => ?_) | refine c_if rfl (fun h19 => ?_) (fun h19 => ?_)
    · refine v_code [] (hk := ?_)
      refine v_ret rfl [] (.cons (.tmp rfl) .nil) (h := ?_)
      exact ⟨by unfold icmp; rw [if_neg h16, if_pos h19]; rfl, rfl⟩
    · refine v_code [] (hk := ?_)
      refine v_ret rfl [] (.cons (.tmp rfl) .nil) (h := ?_)
      exact ⟨by unfold icmp; rw [if_neg h16, if_neg h19]; rfl, rfl⟩
theorem indexB_spec (A : Option Addr) (l : List Bool) (c : Nat) (hl : l.length ≤ 1048576) : CSpec Tryz.prog 293 [.one (.sl 0 A l.length c), .one (.b false)] [(0, Res.rd A boolEn l)] [] fun o L => (∃ k : Nat, k < l.length ∧ l.getD k false = false ∧ o = .ret (vint k) ∧ L = []) ∨ ((∀ x ∈ l, x = true) ∧ o = .ret (vint (-1)) ∧ L = []) := by
  refine v_enter Tryz.func293 (h := fun w0 => ?_)
  refine v_code [] (hk := ?_)
  refine v_loop (fun m E H => ∃ (k : Nat), E = [(8, vn k)] ∧ H = [] ∧ m = l.length - k ∧ k ≤ l.length ∧ (∀ x ∈ l.take k, x = true)) [0, 1, 7] (l.length) ([(8, vn 0)]) ([]) (h0 := ⟨0, rfl, rfl, by omega, by omega, by simp⟩) (hr := ?_)
  rintro _ _ _ ⟨k, rfl, rfl, hmk, hk, hik0⟩
  refine v_code [] (hk := ?_)
  first | refine c_ifd rfl (fun h9 => ?_) (fun h9 => ?_) | refine c_ifn rfl (fun h9 => ?_) (fun h9 => ?_) | refine c_if rfl (fun h9 => ?_) (fun h9 => ?_)
  · refine v_code [] (hk := ?_)
    first | refine c_ifd rfl (fun h16 => ?_) (fun h16 => ?_) | refine c_ifn rfl (fun h16 => ?_) (fun h16 => ?_) | refine c_if rfl (fun h16 => ?_) (fun h16 => ?_)
    · refine v_code [] (hk := ?_)
      refine v_ret rfl [] (.cons (.tmp rfl) .nil) (h := ?_)
      exact .inl ⟨k, h9, by simpa using h16, rfl, rfl⟩
    · refine v_code [] (hk := ?_)
      refine v_again (l.length - (k + 1)) ⟨k + 1, rfl, rfl, by omega, by omega, all_takeD (d := false) hik0 h9 (by simpa using h16)⟩
  · refine v_code [] (hk := ?_)
    refine v_ret rfl [] (.cons (.tmp rfl) .nil) (h := ?_)
    rw [take_all' h9] at hik0
    exact .inr ⟨hik0, rfl, rfl⟩
theorem containsB_spec (A : Option Addr) (l : List Bool) (c : Nat) (hl : l.length ≤ 1048576) : CSpec Tryz.prog 242 [.one (.sl 0 A l.length c), .one (.b false)] [(0, Res.rd A boolEn l)] [] fun o L => o = .ret (vb (!l.all id)) ∧ L = [] := by
  refine v_enter Tryz.func242 (h := fun w0 => ?_)
  refine v_code [] (hk := ?_)
  refine v_call 20350 [(900, 900), (901, 901), (910, 910), (911, 911), (920, 920), (921, 921), (930, 930), (931, 931)] (indexB_spec A l c hl) Tryz.func293 (h := ?_)
  rintro _ _ (⟨k, hk, hx, rfl, rfl⟩ | ⟨hno, rfl, rfl⟩)
  · refine v_ops [] (hk := ?_)
    refine v_ret rfl [] (.cons (.tmp rfl) .nil) (h := ?_)
    refine ⟨outB ?_, rfl⟩
    rw [decide_eq_true (by omega)]
    symm
    rw [Bool.not_eq_true', List.all_eq_false]
    exact ⟨_, getD_mem hk, by rw [hx]; simp⟩
  · refine v_ops [] (hk := ?_)
    refine v_ret rfl [] (.cons (.tmp rfl) .nil) (h := ?_)
    refine ⟨outB ?_, rfl⟩
    rw [decide_eq_false (by omega)]
    symm
    rw [Bool.not_eq_false', List.all_eq_true]
    exact fun x hx => by rw [hno x hx]; rfl
abbrev wrong : List PanicEntry := [{ v := .iface 231 (SV.agg []).den, recovered := false }]
theorem pmust_spec (A : Option Addr) (l : List Bool) (c : Nat) (hl : l.length ≤ 1048576) : CSpec Tryz.prog 182 [.one (.sl 0 A l.length c)] [(0, Res.rd A boolEn l)] [] fun o L => (l.all id = true ∧ o = .ret (.tup []) ∧ L = []) ∨ (l.all id = false ∧ o = .pan wrong ∧ L = []) := by
  refine v_enter Tryz.func182 (h := fun w0 => ?_)
  refine v_code [] (hk := ?_)
  refine v_call 20150 [(900, 900), (901, 901), (910, 910), (911, 911), (920, 920), (921, 921), (930, 930), (931, 931)] (containsB_spec A l c hl) Tryz.func242 (h := ?_)
  rintro _ _ (⟨rfl, rfl⟩)
  refine v_ops [] (hk := ?_)
  first | refine c_ifd rfl (fun h3 => ?_) (fun h3 => ?_) | refine c_ifn rfl (fun h3 => ?_) (fun h3 => ?_) | refine c_if rfl (fun h3 => ?_) (fun h3 => ?_)
  · refine v_code [] (hk := ?_)
    refine l_rd r_iface ?_
    refine l_panic (h := ?_)
    refine v_ex [] (hk := ?_)
    refine k_pan [] (h := ?_)
    exact .inr ⟨by simpa using h3, rfl, rfl⟩
  · refine v_code [] (hk := ?_)
    refine v_ret rfl [] .nil (h := ?_)
    exact .inl ⟨by simpa using h3, rfl, rfl⟩
theorem orI_find : ∀ (l : List Int), (l.find? fun x => decide (x ≠ 0)).getD 0 = orI l
  | [] => rfl
  | x :: l => by
    unfold orI
    rw [List.find?_cons]
    by_cases h : x = 0
    · rw [if_neg (by simpa using h)]
      simp only [h, ne_eq, not_true_eq_false, decide_false]
      exact orI_find l
    · rw [if_pos h]
      simp [h]
theorem rord_spec (a b : RefP) : CSpec Tryz.prog 46 [.agg [.hash a.tx, .one (.i .i64 a.place)], .agg [.hash b.tx, .one (.i .i64 b.place)]] [] [] fun o L => o = .ret (vint (refOrd a b)) ∧ L = [] := by
  refine v_enter Tryz.func46 (h := fun w0 => ?_)
  refine v_code [] (hk := ?_)
  refine l_do d_box (fun g2 => ?_)
  refine l_do d_box (fun g3 => ?_)
  refine v_ops [] (hk := ?_)
  refine v_draw (.q 0 (.q 1 (.q 2 (.q 3 (.q 5 (.q 6 (.q 7 (.q 8 (.s 4 (.s 9 (.s 10 (.s 11 (.q 12 .nil))))))))))))) [10002, 10003, 20450, 20451, 20452, 20453, 20700, 20701, 20702, 20703, 10015, 20800, 20801, 20802, 20803] (hm := by kernel_rfl) (hs := by kernel_rfl) (hk := by kernel_rfl) (h := ?_)
  refine v_sch [] (hk := ?_)
  refine v_callS rfl 20450 [(900, 900), (901, 901), (910, 910), (911, 911), (920, 920), (921, 921), (930, 930), (931, 931)] (cmpBytes_spec (some ⟨g2, 0, none⟩) (some ⟨g3, 0, none⟩) a.tx.toList b.tx.toList 32 32 32 32 (by simp) (by simp)) Tryz.func122 (h := ?_)
  rintro _ _ (⟨rfl, rfl⟩)
  refine ⟨cov_of (by repeat (first | exact trivial | refine ⟨rfl, ?_⟩)), ?_⟩
  refine v_callS rfl 20700 [(900, 900), (901, 901), (910, 910), (911, 911), (920, 920), (921, 921), (930, 930), (931, 931)] (cmpI_spec a.place b.place) Tryz.func123 (h := ?_)
  rintro _ _ (⟨rfl, rfl⟩)
  refine ⟨cov_of (by repeat (first | exact trivial | refine ⟨rfl, ?_⟩)), ?_⟩
  refine s_do rfl (d_bslice [bcmp a.tx.toList b.tx.toList, icmp a.place b.place]) (fun B15 => ?_)
  refine v_callS rfl 20800 [(900, 900), (901, 901), (910, 910), (911, 911), (920, 920), (921, 921), (930, 930), (931, 931)] (cmpOr_spec B15 [bcmp a.tx.toList b.tx.toList, icmp a.place b.place] 2 (by simp)) Tryz.func121 (h := ?_)
  rintro _ _ (⟨rfl, rfl⟩)
  refine ⟨cov_of (by repeat (first | exact trivial | refine ⟨rfl, ?_⟩)), ?_⟩
  refine v_sch [] (hk := ?_)
  refine v_ret rfl [] (.cons (.tmp rfl) .nil) (h := ?_)
  exact ⟨by rw [orI_find]; rfl, rfl⟩
theorem less_spec (a b : RefP) : CSpec Tryz.prog 11 [.agg [.hash a.tx, .one (.i .i64 a.place)], .agg [.hash b.tx, .one (.i .i64 b.place)]] [] [] fun o L => o = .ret (vb (decide (refOrd a b < 0))) ∧ L = [] := by
  refine v_enter Tryz.func11 (h := fun w0 => ?_)
  refine v_code [] (hk := ?_)
  refine l_do d_box (fun g2 => ?_)
  refine l_do d_box (fun g3 => ?_)
  refine v_ops [] (hk := ?_)
  refine v_call 20350 [(900, 900), (901, 901), (910, 910), (911, 911), (920, 920), (921, 921), (930, 930), (931, 931)] (rord_spec a b) Tryz.func46 (h := ?_)
  rintro _ _ (⟨rfl, rfl⟩)
  refine v_ops [] (hk := ?_)
  refine v_ret rfl [] (.cons (.tmp rfl) .nil) (h := ?_)
  exact ⟨rfl, rfl⟩
theorem rightR_spec (a : RefP) : CSpec Tryz.prog 47 [.agg [.hash a.tx, .one (.i .i64 a.place)]] [] [] fun o L => o = .ret (vb (rightR a)) ∧ L = [] := by
  refine v_enter Tryz.func47 (h := fun w0 => ?_)
  refine v_code [] (hk := ?_)
  refine l_do d_box (fun g1 => ?_)
  refine v_ops [] (hk := ?_)
  refine v_ret rfl [] (.cons (.tmp rfl) .nil) (h := ?_)
  refine ⟨outB ?_, rfl⟩
  unfold rightR
  rw [Bool.eq_iff_iff, decide_eq_true_iff]
  simp only [Bool.and_eq_true, decide_eq_true_eq]
  exact Iff.rfl
end Go.Proofs.YtfopgaijfeeioaaGreat
/- TERMS in memory: branches; how deep. -/

set_option linter.unusedVariables false
set_option linter.unusedSimpArgs false
set_option maxRecDepth 100000
namespace Go.Proofs.YtfopgaijfeeioaaGreat
open Go Go.RowKit HL
def nodeEn : En NodeP := ⟨fun x => .agg [.one (.i .i64 x.kind), .one (.i .i64 x.int), .one (.i .u64 x.bits), .one (.s x.bytes), .one (.i .i64 x.kids)], true, 5, fun _ => ⟨rfl, rfl⟩, by decide⟩
instance : Df NodeP node0 := ⟨⟩
instance : ElT Tryz.prog 76 nodeEn := ⟨⟩
inductive BH where
  | mk (n : NodeP) (A : Option Addr) (c : Nat) (aA : Option Addr) (am ac : Nat) (ks : List BH)
def BH.n : BH → NodeP | .mk n _ _ _ _ _ _ => n
def BH.A : BH → Option Addr | .mk _ A _ _ _ _ _ => A
def BH.c : BH → Nat | .mk _ _ c _ _ _ _ => c
def BH.aA : BH → Option Addr | .mk _ _ _ A _ _ _ => A
def BH.am : BH → Nat | .mk _ _ _ _ m _ _ => m
def BH.ac : BH → Nat | .mk _ _ _ _ _ c _ => c
def BH.ks : BH → List BH | .mk _ _ _ _ _ _ ks => ks
abbrev bval (b : BH) (i : Nat) : SV := .agg [.one (.i .i64 b.n.kind), .one (.i .i64 b.n.int), .one (.i .u64 b.n.bits), .one (.s b.n.bytes), .one (.i .i64 b.n.kids), .one (.sl i b.A b.ks.length b.c), .one (.sl 51 b.aA b.am b.ac)]
def brEn : En BH := ⟨fun b => bval b 0, true, 7, fun _ => ⟨rfl, rfl⟩, by decide⟩
def bh0 : BH := .mk node0 none 0 none 0 0 []
instance : Df BH bh0 := ⟨⟩
instance : ElT Tryz.prog 239 brEn := ⟨⟩
mutual
def BH.br : BH → Br
  | .mk n _ _ _ _ _ ks => .mk n (BH.brs ks)
def BH.brs : List BH → List Br
  | [] => []
  | b :: bs => b.br :: BH.brs bs
end
mutual
def BH.rows : BH → List Res
  | .mk _ A c _ _ _ ks => Res.rows A c 239 brEn ks :: BH.rowsL ks
def BH.rowsL : List BH → List Res
  | [] => []
  | b :: bs => b.rows ++ BH.rowsL bs
end
theorem BH.rows_eq (b : BH) : b.rows = Res.rows b.A b.c 239 brEn b.ks :: BH.rowsL b.ks := by cases b; rfl
theorem BH.br_eq (b : BH) : b.br = .mk b.n (BH.brs b.ks) := by cases b; rfl
theorem BH.brs_map : ∀ (l : List BH), BH.brs l = l.map BH.br
  | [] => rfl
  | b :: bs => by rw [List.map_cons, ← BH.brs_map bs]; rfl
theorem BH.rowsL_app : ∀ (l m : List BH), BH.rowsL (l ++ m) = BH.rowsL l ++ BH.rowsL m
  | [], m => rfl
  | b :: bs, m => by
    show b.rows ++ BH.rowsL (bs ++ m) = (b.rows ++ BH.rowsL bs) ++ BH.rowsL m
    rw [BH.rowsL_app bs m, List.append_assoc]
theorem BH.rows_mem {k : BH} : ∀ {l : List BH}, k ∈ l → ∀ r ∈ k.rows, r ∈ BH.rowsL l
  | [], h, _, _ => by cases h
  | b :: bs, h, r, hr => by
    show r ∈ b.rows ++ BH.rowsL bs
    rcases List.mem_cons.1 h with rfl | h
    · exact List.mem_append_left _ hr
    · exact List.mem_append_right _ (BH.rows_mem h r hr)
def Res.alr (rs : List Res) : Res := ⟨fun b => ∃ r ∈ rs, r.fp b, fun w => ∀ r ∈ rs, r.holds w, fun w h b ⟨r, hr, hb⟩ => r.bound w (h r hr) b hb, fun w w' hb h r hr => r.stable w w' (fun b hb' => hb b ⟨r, hr, hb'⟩) (h r hr)⟩
theorem der_row {B L : Hp} {ks : List BH} {k : BH} (j : Nat) (hk : k ∈ ks) (h : lk2 B L j = some (Res.alr (BH.rowsL ks)) := by rfl) : Der B L [j] (Res.rd k.A brEn k.ks) := by
  have hm : Res.rows k.A k.c 239 brEn k.ks ∈ BH.rowsL ks := BH.rows_mem hk _ (by rw [BH.rows_eq]; exact List.mem_cons_self ..)
  exact ⟨fun w hf => view_rows.h w ((hf j _ h) _ hm), fun b hb => ⟨j, by simp, _, h, _, hm, view_rows.f b hb⟩⟩
theorem der_sub {B L : Hp} {ks : List BH} {k : BH} (j : Nat) (hk : k ∈ ks) (h : lk2 B L j = some (Res.alr (BH.rowsL ks)) := by rfl) : Der B L [j] (Res.alr (BH.rowsL k.ks)) := by
  have hm : ∀ r ∈ BH.rowsL k.ks, r ∈ BH.rowsL ks := fun r hr => BH.rows_mem hk r (by rw [BH.rows_eq]; exact List.mem_cons_of_mem _ hr)
  exact ⟨fun w hf r hr => (hf j _ h) r (hm r hr), fun b ⟨r, hr, hb⟩ => ⟨j, by simp, _, h, r, hm r hr, hb⟩⟩
theorem deeps_snoc : ∀ (l : List Br) (b : Br), Br.deeps (l ++ [b]) = max (Br.deeps l) b.deep
  | [], b => by show max b.deep 0 = max 0 b.deep; omega
  | a :: l, b => by
    show max a.deep (Br.deeps (l ++ [b])) = max (max a.deep (Br.deeps l)) b.deep
    rw [deeps_snoc l b]
    omega
theorem deep_kid {b : Br} : ∀ {l : List Br}, b ∈ l → b.deep ≤ Br.deeps l
  | [], h => by cases h
  | a :: l, h => by
    show b.deep ≤ max a.deep (Br.deeps l)
    rcases List.mem_cons.1 h with rfl | h
    · omega
    · have := deep_kid h; omega
theorem flat_pos (b : Br) : 1 ≤ b.flat.length := by cases b; show 1 ≤ (_ :: _ : List NodeP).length; simp
theorem flats_kid {b : Br} : ∀ {l : List Br}, b ∈ l → b.flat.length ≤ (Br.flats l).length
  | [], h => by cases h
  | a :: l, h => by
    rw [flats_len_le]
    rcases List.mem_cons.1 h with rfl | h
    · omega
    · have := flats_kid h; omega
theorem flats_len : ∀ (l : List Br), l.length ≤ (Br.flats l).length
  | [] => Nat.le_refl _
  | b :: l => by
    rw [flats_len_le, List.length_cons]
    have := flats_len l
    have := flat_pos b
    omega
def Few (b : BH) : Prop := b.br.flat.length ≤ 1048576
theorem Few.len {b : BH} (h : Few b) : b.ks.length ≤ 1048576 := by
  unfold Few at h
  rw [BH.br_eq] at h
  have h1 : ((Br.mk b.n (BH.brs b.ks)).flat).length = (Br.flats (BH.brs b.ks)).length + 1 := rfl
  have h2 := flats_len (BH.brs b.ks)
  rw [BH.brs_map, List.length_map] at h2
  rw [h1, BH.brs_map] at h
  omega
theorem Few.kid {b k : BH} (h : Few b) (hk : k ∈ b.ks) : Few k := by
  unfold Few at *
  rw [BH.br_eq] at h
  have h1 : ((Br.mk b.n (BH.brs b.ks)).flat).length = (Br.flats (BH.brs b.ks)).length + 1 := rfl
  have h2 : k.br ∈ BH.brs b.ks := by rw [BH.brs_map]; exact List.mem_map_of_mem hk
  have := flats_kid h2
  omega
theorem deep_of (b : BH) : b.br.deep = Br.deeps (BH.brs b.ks) + 1 := by rw [BH.br_eq]; rfl
theorem brs_take {b : BH} {k : Nat} (h : k < b.ks.length) : BH.brs (b.ks.take (k + 1)) = BH.brs (b.ks.take k) ++ [(b.ks.getD k bh0).br] := by
  rw [BH.brs_map, BH.brs_map, take_getD (d := bh0) h, List.map_append]
  rfl
theorem deeps_take {l : List BH} {k : Nat} : Br.deeps (BH.brs (l.take k)) ≤ Br.deeps (BH.brs l) := by
  conv => rhs; rw [← List.take_append_drop k l]
  rw [BH.brs_map, BH.brs_map, List.map_append]
  generalize (l.take k).map BH.br = x
  generalize (l.drop k).map BH.br = y
  induction x with
  | nil => exact Nat.zero_le _
  | cons a x ih =>
    show max a.deep (Br.deeps x) ≤ max a.deep (Br.deeps (x ++ y))
    omega
def DeepS (f : Nat) : Prop := ∀ (b : BH), b.br.deep ≤ f → Few b → CSpec Tryz.prog 207 [bval b 201] [(201, Res.rd b.A brEn b.ks), (202, Res.alr (BH.rowsL b.ks))] [] fun o L => o = .ret (vint (b.br.deep : Nat)) ∧ L = []
theorem deep_step (f : Nat) (ih : DeepS f) (b : BH) (hd : b.br.deep ≤ f + 1) (hs : Few b) (hf : f ≤ 1048576) : CSpec Tryz.prog 207 [bval b 201] [(201, Res.rd b.A brEn b.ks), (202, Res.alr (BH.rowsL b.ks))] [] fun o L => o = .ret (vint (b.br.deep : Nat)) ∧ L = [] := by
  have hln := hs.len
  rw [deep_of] at hd
  refine v_enter Tryz.func207 (h := fun w0 => ?_)
  refine v_code [] (hk := ?_)
  refine l_do d_box (fun g1 => ?_)
  refine v_ops [] (hk := ?_)
  refine v_loop (fun m E H => ∃ (k : Nat) (m2 : Nat), E = [(9, vn k), (3, vn m2)] ∧ H = [] ∧ m = b.ks.length - k ∧ k ≤ b.ks.length ∧ (m2 = Br.deeps (BH.brs (b.ks.take k)))) [2, 7, 8, 18, 19] (b.ks.length) ([(9, vn 0), (3, vn (0))]) ([]) (h0 := ⟨0, 0, rfl, rfl, by omega, by omega, by rfl⟩) (hr := ?_)
  rintro _ _ _ ⟨k, m2, rfl, rfl, hmk, hk, hik0⟩
  refine v_code [] (hk := ?_)
  first | refine c_ifd rfl (fun h10 => ?_) (fun h10 => ?_) | refine c_ifn rfl (fun h10 => ?_) (fun h10 => ?_) | refine c_if rfl (fun h10 => ?_) (fun h10 => ?_)
  · have hm := getD_mem (d := bh0) h10
    have hkm : (b.ks.getD k bh0).br ∈ BH.brs b.ks := by rw [BH.brs_map]; exact List.mem_map_of_mem hm
    have hdk := deep_kid hkm
    have hmm : m2 ≤ Br.deeps (BH.brs b.ks) := by rw [hik0]; exact deeps_take
    refine v_code [] (hk := ?_)
    refine l_do d_alloc (fun g5 => ?_)
    refine v_ops [] (hk := ?_)
    refine v_callD 20750 [(900, 900), (901, 901), (910, 910), (911, 911), (920, 920), (921, 921), (930, 930), (931, 931)] (ih (b.ks.getD k bh0) (by have := deep_kid hkm; omega) (hs.kid hm)) Tryz.func207 (hB := ⟨⟨_, (der_row 202 hm), rfl⟩, ⟨⟨_, (der_sub 202 hm), rfl⟩, trivial⟩⟩) (h := ?_)
    rintro _ _ (⟨rfl, rfl⟩)
    refine k_val 13 (vint (m2 : Nat)) rfl rfl ?_
    refine l_rd r_max ?_
    refine k_val 16 (vn (max m2 (b.ks.getD k bh0).br.deep)) rfl (by show Value.int _ _ = Value.int _ _; congr 1; omega) ?_
    refine v_ops [] (hk := ?_)
    refine v_again (b.ks.length - (k + 1)) ⟨k + 1, max m2 (b.ks.getD k bh0).br.deep, rfl, rfl, by omega, by omega, by rw [brs_take h10, deeps_snoc, ← hik0]⟩
  · have hmm : m2 ≤ Br.deeps (BH.brs b.ks) := by rw [hik0]; exact deeps_take
    refine v_code [] (hk := ?_)
    rw [take_all' h10] at hik0
    refine v_ret rfl [] (.cons (.tmp rfl) .nil) (h := ?_)
    refine ⟨?_, rfl⟩
    rw [deep_of, ← hik0]
    rfl
theorem deep_spec : ∀ (f : Nat), f ≤ 1048576 → DeepS f
  | 0, _ => fun b hd _ => by rw [deep_of] at hd; omega
  | f + 1, hf => fun b hd hs => deep_step f (deep_spec f (by omega)) b hd hs (by omega)
end Go.Proofs.YtfopgaijfeeioaaGreat
/- SYMBOLIC STATES, COMPUTED: numbers with a point, held against each other. My own text; it names no program. -/

set_option linter.unusedVariables false
set_option linter.unusedSimpArgs false
set_option linter.unusedSectionVars false
namespace Go.Proofs.YtfopgaijfeeioaaGreat
namespace HL
open Go Go.RowKit
abbrev vfl (q : Nat) : TV := .s (.one (.fl q))
def flo (p q : Nat) : Option Ordering := Ieee.double.order p q
def flc (o : BinOp) (p q : Nat) : Option Bool :=
  match o with
  | .eql => some (flo p q == some .eq)
  | .neq => some (flo p q != some .eq)
  | .lss => some (flo p q == some .lt)
  | .gtr => some (flo p q == some .gt)
  | _ => none
theorem run_flc {P : Program} {T : TypeId} {x y : Operand} {o : BinOp} {p q : Nat} {b : Bool} (h : flc o p q = some b) (w : World) : (do eqGuard o T x y (.float .f64 p) (.float .f64 q); binOp o T (.float .f64 p) (.float .f64 q) : Sem Value).run P w = .ok (.bool b) w := by
  rw [Sem.run_bind, eqGuard_nil w ⟨fun c => by simp, .inr (by simp)⟩, Result.andThen_ok]
  cases o <;> first | (cases h; done) | (injection h with h; subst h; simp [binOp, Op.floatCmp, flo, FloatKind.format])
section
variable {P : Program} {env : Env} {n : Nat} {B L : Hp} {dst : Option Tmp} {ty : TypeId} {pos : String} {af : Array Edge} {gd : Option (Nat × Bool)} {x y : Operand} {T T' : TypeId}
theorem r_flc {o : BinOp} {p q : Nat} {b : Bool} (hx : ev env x = some (vfl p) := by rfl) (hy : ev env y = some (vfl q) := by rfl) (h : flc o p q = some b := by rfl) : Reads P ⟨dst, .binOp o T x y T', ty, pos, af, gd⟩ env n B L (vb b) := fun a w ht _ => by
  have h1 : a.eval x = .float .f64 p := ev_sound ht hx
  have h2 : a.eval y = .float .f64 q := ev_sound ht hy
  unfold execOp
  simp only [h1, h2]
  rw [Sem.run_bind, run_flc h w]
  rfl
theorem r_flcC {o : BinOp} {p q : Nat} {b : Bool} (hx : ev env x = some (vfl p) := by rfl) (h : flc o p q = some b := by rfl) : Reads P ⟨dst, .binOp o T x (.const (.float .f64 q)) T', ty, pos, af, gd⟩ env n B L (vb b) := fun a w ht _ => by
  have h1 : a.eval x = .float .f64 p := ev_sound ht hx
  have h2 : a.eval (.const (.float .f64 q)) = .float .f64 q := rfl
  unfold execOp
  simp only [h1, h2]
  rw [Sem.run_bind, run_flc h w]
  rfl
end
section
variable {P : Program} {env : Env} {D : List Deferred} {n d : Nat} {w0 : World} {M : Nat → Prop} {B L : Hp} {x y : Operand} {T ty : TypeId} {pos : String} {af : Array Edge} {gd : Option (Nat × Bool)} {ops : Array Oper} {Q : Exit → Act → World → Prop} {rest : List Oper}
theorem l_callGD {v : SV} {f : FuncId} {fn : Func} {args all : List SV} {Bc : Hp} {post : Out → List Res → Prop} {xs : Array Operand} {tys : Array TypeId} {cap : List Value} {gh : List Nat} {g : Bool} (m : List (Nat × Nat)) (ts : List Nat) {env' : List (Nat × TV)} (hres : ResAll env g ts env')
    (hs : g = true → CSpec P f all Bc [] post) (hf : P.funcs[f]? = some fn) (hx : ev env' x = some (.s (.one (.fn f cap gh))) := by rfl) (ha : evs env' xs.toList = some args := by rfl) (hall : g = true → args.map SV.den ++ cap = all.map SV.den := by exact fun _ => rfl)
    (hB : g = true → GotD B L [] Bc)
    (hpost : ∀ o Lr, post o Lr → o = .ret (.s v) ∧ Lr = [] := by exact fun _ _ h => h)
    (h : Ho ((d, .cond g v) :: env) D n w0 M B L (wpList P ops Q rest))
    (hg : guardSym ops env ⟨some d, .call { callee := .value x, args := xs, argTypes := tys }, ty, pos, af, gd⟩ = some g := by rfl) (hd : Nat.blt d n = true := by rfl) (hb : fn.body.isNone = false := by rfl) (hn : (fn.name == "runtime.NumGoroutine") = false := by rfl) :
    Ho env D n w0 M B L (wpList P ops Q (⟨some d, .call { callee := .value x, args := xs, argTypes := tys }, ty, pos, af, gd⟩ :: rest)) := fun a w hsy => by
  unfold wpList
  rw [guardSym_wanted hsy.tm hg]
  by_cases e : g = true
  · rw [if_pos e]
    refine .inl ?_
    have hsy' : Sy env' D n w0 M B L a w := ⟨hres.tm e hsy.tm, hsy.df, hsy.st, hsy.bo⟩
    refine call_wpD (hs e) hf hb hn (cid m args) 0 hx ha (hall e) (hB e) trivial rfl rfl hsy' fun o Lr hp => ?_
    obtain ⟨rfl, rfl⟩ := hpost o Lr hp
    exact fun w' hs' => by
      have h2 : Sy env D n w0 M B L a w' := ⟨hsy.tm, hsy.df, hs'.st, hs'.bo⟩
      have := h2.put (v := .cond g v) hd
      rw [show (TV.cond g v).den = v.den from if_pos e] at this
      exact h _ _ this
  · rw [if_neg e]
    have := hsy.put (v := .cond g v) hd
    rw [show (TV.cond g v).den = undef from if_neg e] at this
    exact h _ _ this
end
end HL
end Go.Proofs.YtfopgaijfeeioaaGreat
/- TERMS: the order of numbers with a point. -/


set_option linter.unusedVariables false
set_option linter.unusedSimpArgs false
set_option maxRecDepth 100000
namespace Go.Proofs.YtfopgaijfeeioaaGreat
open Go Go.RowKit HL
theorem run_frombits {a : Act} {w : World} {x : Operand} {p : Int} {tys : Array TypeId} {dst : Option Tmp} {ty : TypeId} {pos : String} {af : Array Edge} {gd : Option (Nat × Bool)} (h1 : a.eval x = .int .u64 p) : (execOp a.eval ⟨dst, .call { callee := .value (.func 307), args := #[x], argTypes := tys }, ty, pos, af, gd⟩).run Tryz.prog w = .ok (.value (.float .f64 p.toNat)) w := by
  refine run_ext (args := #[.int .u64 p]) (by simp [h1]) ?_
  exact run_stand Tryz.func307 (by kernel_rfl) rfl (by kernel_rfl) (e := Extern.MathFloatBits.float64frombits) (by kernel_rfl) rfl
theorem run_tobits {a : Act} {w : World} {x : Operand} {q : Nat} {tys : Array TypeId} {dst : Option Tmp} {ty : TypeId} {pos : String} {af : Array Edge} {gd : Option (Nat × Bool)} (h1 : a.eval x = .float .f64 q) : (execOp a.eval ⟨dst, .call { callee := .value (.func 312), args := #[x], argTypes := tys }, ty, pos, af, gd⟩).run Tryz.prog w = .ok (.value (.int .u64 q)) w := by
  refine run_ext (args := #[.float .f64 q]) (by simp [h1]) ?_
  exact run_stand Tryz.func312 (by kernel_rfl) rfl (by kernel_rfl) (e := Extern.MathFloatBits.float64bits) (by kernel_rfl) rfl
theorem sign_lt {q : Nat} (h : q < 18446744073709551616) : decide (IntKind.i64.wrap (q : Int) < ((0 : Nat) : Int)) = decide (9223372036854775808 ≤ q) := by
  rw [wrapI]
  unfold sgn64
  refine decide_eq_decide.2 ?_
  split <;> omega
theorem signbit_spec (q : Nat) (h : q < 18446744073709551616) : CSpec Tryz.prog 316 [.one (.fl q)] [] [] fun o L => o = .ret (vb (decide (9223372036854775808 ≤ q))) ∧ L = [] := by
  refine v_enter Tryz.func316 (h := fun w0 => ?_)
  refine v_code [5] (hk := ?_)
  refine l_rd (v := vi .u64 (q : Int)) (fun a w ht hf => run_tobits (ev_sound (v := vfl q) ht rfl)) ?_
  refine v_ops [5] (hk := ?_)
  refine v_ret rfl [] (.cons (.tmp rfl) .nil) (h := ?_)
  exact ⟨outB (sign_lt h), rfl⟩
theorem edge_spec (q : Nat) (h : q < 18446744073709551616) : CSpec Tryz.prog 315 [.one (.fl q)] [] [] fun o L => o = .ret (vint (fedge (q : Int))) ∧ L = [] := by
  refine v_enter Tryz.func315 (h := fun w0 => ?_)
  refine v_code [] (hk := ?_)
  refine l_rd (r_flc (b := flo q q != some .eq)) ?_
  refine v_ops [] (hk := ?_)
  first | refine c_ifd rfl (fun h3 => ?_) (fun h3 => ?_) | refine c_ifn rfl (fun h3 => ?_) (fun h3 => ?_) | refine c_if rfl (fun h3 => ?_) (fun h3 => ?_)
  · refine v_code [] (hk := ?_)
    refine v_ret rfl [] (.cons (.tmp rfl) .nil) (h := ?_)
    refine ⟨?_, rfl⟩
    unfold fedge fcmp
    simp only [Int.toNat_natCast]
    rw [if_pos (show (Ieee.double.order q q != some .eq) = true from h3)]
    rfl
  · refine v_code [] (hk := ?_)
    refine l_rd (r_flcC (b := flo q 0 == some .eq)) ?_
    refine v_ops [] (hk := ?_)
    refine l_callG [(900, 900), (901, 901), (910, 910), (911, 911), (920, 920), (921, 921), (930, 930), (931, 931)] [11] ⟨_, _, ⟨_, .inl ⟨rfl, rfl⟩⟩, rfl, rfl⟩ (fun hg => signbit_spec q h) Tryz.func316 (h := ?_)
    refine v_ops [] (hk := ?_)
    first | refine c_ifd rfl (fun h7 => ?_) (fun h7 => ?_) | refine c_ifn rfl (fun h7 => ?_) (fun h7 => ?_) | refine c_if rfl (fun h7 => ?_) (fun h7 => ?_)
    · refine v_code [] (hk := ?_)
      refine v_ret rfl [] (.cons (.tmp rfl) .nil) (h := ?_)
      refine ⟨?_, rfl⟩
      unfold fedge fcmp
      simp only [Int.toNat_natCast]
      rw [if_neg (by rw [show (Ieee.double.order q q != some .eq) = false from h3]; decide), if_pos (by simp [flo] at h7 ⊢; exact ⟨h7.1, by omega⟩)]
      rfl
    · refine v_code [] (hk := ?_)
      refine v_ret rfl [] (.cons (.tmp rfl) .nil) (h := ?_)
      refine ⟨?_, rfl⟩
      unfold fedge fcmp
      simp only [Int.toNat_natCast]
      rw [if_neg (by rw [show (Ieee.double.order q q != some .eq) = false from h3]; decide), if_neg (by simp [flo] at h7 ⊢; intro e; have := h7 e; omega)]
      rfl
theorem ford_spec (x y : Int) (hx : 0 ≤ x ∧ x < 18446744073709551616) (hy : 0 ≤ y ∧ y < 18446744073709551616) : CSpec Tryz.prog 310 [.one (.i .u64 x), .one (.i .u64 y)] [] [] fun o L => o = .ret (vint (ford x y)) ∧ L = [] := by
  have ex : ((x.toNat : Nat) : Int) = x := Int.toNat_of_nonneg hx.1
  have ey : ((y.toNat : Nat) : Int) = y := Int.toNat_of_nonneg hy.1
  refine v_enter Tryz.func310 (h := fun w0 => ?_)
  refine v_code [] (hk := ?_)
  refine l_rd (v := vfl x.toNat) (fun a w ht hf => run_frombits (ev_sound (v := vi .u64 x) ht rfl)) ?_
  refine v_ops [] (hk := ?_)
  refine l_rd (v := vfl y.toNat) (fun a w ht hf => run_frombits (ev_sound (v := vi .u64 y) ht rfl)) ?_
  refine v_ops [] (hk := ?_)
  refine v_call 20700 [(900, 900), (901, 901), (910, 910), (911, 911), (920, 920), (921, 921), (930, 930), (931, 931)] (edge_spec x.toNat (by omega)) Tryz.func315 (h := ?_)
  rintro _ _ (⟨rfl, rfl⟩)
  refine v_ops [] (hk := ?_)
  refine v_call 20800 [(900, 900), (901, 901), (910, 910), (911, 911), (920, 920), (921, 921), (930, 930), (931, 931)] (edge_spec y.toNat (by omega)) Tryz.func315 (h := ?_)
  rintro _ _ (⟨rfl, rfl⟩)
  refine v_ops [] (hk := ?_)
  refine l_rd (r_flc (b := flo x.toNat y.toNat == some .lt)) ?_
  refine v_ops [] (hk := ?_)
  first | refine c_ifd rfl (fun h17 => ?_) (fun h17 => ?_) | refine c_ifn rfl (fun h17 => ?_) (fun h17 => ?_) | refine c_if rfl (fun h17 => ?_) (fun h17 => ?_)
  · refine v_code [] (hk := ?_)
    refine v_ret rfl [] (.cons (.tmp rfl) .nil) (h := ?_)
    refine ⟨?_, rfl⟩
    unfold ford fcmp
    rw [if_pos (show (Ieee.double.order x.toNat y.toNat == some .lt) = true from h17)]
    rfl
  · refine v_code [] (hk := ?_)
    refine l_rd (r_flc (b := flo x.toNat y.toNat == some .gt)) ?_
    refine v_ops [] (hk := ?_)
    first | refine c_ifd rfl (fun h21 => ?_) (fun h21 => ?_) | refine c_ifn rfl (fun h21 => ?_) (fun h21 => ?_) | refine c_if rfl (fun h21 => ?_) (fun h21 => ?_)
    · refine v_code [] (hk := ?_)
      refine v_ret rfl [] (.cons (.tmp rfl) .nil) (h := ?_)
      refine ⟨?_, rfl⟩
      unfold ford fcmp
      rw [if_neg (by rw [show (Ieee.double.order x.toNat y.toNat == some .lt) = false from h17]; decide), if_pos (show (Ieee.double.order x.toNat y.toNat == some .gt) = true from h21)]
      rfl
    · refine v_code [] (hk := ?_)
      first | refine c_ifd rfl (fun h25 => ?_) (fun h25 => ?_) | refine c_ifn rfl (fun h25 => ?_) (fun h25 => ?_) | refine c_if rfl (fun h25 => ?_) (fun h25 => ?_)
      · refine v_code [] (hk := ?_)
        refine v_ret rfl [] (.cons (.tmp rfl) .nil) (h := ?_)
        rw [ex, ey] at h25
        refine ⟨?_, rfl⟩
        unfold ford fcmp
        rw [if_neg (by rw [show (Ieee.double.order x.toNat y.toNat == some .lt) = false from h17]; decide), if_neg (by rw [show (Ieee.double.order x.toNat y.toNat == some .gt) = false from h21]; decide), if_pos h25]
        rfl
      · refine v_code [] (hk := ?_)
        first | refine c_ifd rfl (fun h29 => ?_) (fun h29 => ?_) | refine c_ifn rfl (fun h29 => ?_) (fun h29 => ?_) | refine c_if rfl (fun h29 => ?_) (fun h29 => ?_)
        · refine v_code [] (hk := ?_)
          refine v_ret rfl [] (.cons (.tmp rfl) .nil) (h := ?_)
          rw [ex, ey] at h25 h29
          refine ⟨?_, rfl⟩
          unfold ford fcmp
          rw [if_neg (by rw [show (Ieee.double.order x.toNat y.toNat == some .lt) = false from h17]; decide), if_neg (by rw [show (Ieee.double.order x.toNat y.toNat == some .gt) = false from h21]; decide), if_neg h25, if_pos h29]
          rfl
        · refine v_code [] (hk := ?_)
          refine v_ret rfl [] (.cons (.tmp rfl) .nil) (h := ?_)
          rw [ex, ey] at h25 h29
          refine ⟨?_, rfl⟩
          unfold ford fcmp
          rw [if_neg (by rw [show (Ieee.double.order x.toNat y.toNat == some .lt) = false from h17]; decide), if_neg (by rw [show (Ieee.double.order x.toNat y.toNat == some .gt) = false from h21]; decide), if_neg h25, if_neg h29]
          rfl
theorem fbits_spec (q : Nat) : CSpec Tryz.prog 306 [.one (.fl q)] [] [] fun o L => o = .ret (vi .u64 (if flo q q != some .eq then 9221120237041090560 else (q : Int))) ∧ L = [] := by
  refine v_enter Tryz.func306 (h := fun w0 => ?_)
  refine v_code [] (hk := ?_)
  refine l_rd (r_flc (b := flo q q != some .eq)) ?_
  refine v_ops [] (hk := ?_)
  first | refine c_ifd rfl (fun h5 => ?_) (fun h5 => ?_) | refine c_ifn rfl (fun h5 => ?_) (fun h5 => ?_) | refine c_if rfl (fun h5 => ?_) (fun h5 => ?_)
  · refine v_code [] (hk := ?_)
    refine v_ret rfl [] (.cons (.tmp rfl) .nil) (h := ?_)
    exact ⟨by rw [if_pos h5]; rfl, rfl⟩
  · refine v_code [] (hk := ?_)
    refine l_rd (v := vi .u64 (q : Int)) (fun a w ht hf => run_tobits (ev_sound (v := vfl q) ht rfl)) ?_
    refine v_ops [] (hk := ?_)
    refine v_ret rfl [] (.cons (.tmp rfl) .nil) (h := ?_)
    exact ⟨by rw [if_neg (by rw [h5]; decide)]; rfl, rfl⟩
theorem canon_spec (x : Int) (hx : 0 ≤ x) : CSpec Tryz.prog 295 [.one (.i .u64 x)] [] [] fun o L => o = .ret (vi .u64 (if fcmp x x != some .eq then 9221120237041090560 else x)) ∧ L = [] := by
  refine v_enter Tryz.func295 (h := fun w0 => ?_)
  refine v_code [] (hk := ?_)
  refine l_rd (v := vfl x.toNat) (fun a w ht hf => run_frombits (ev_sound (v := vi .u64 x) ht rfl)) ?_
  refine v_call 20250 [(900, 900), (901, 901), (910, 910), (911, 911), (920, 920), (921, 921), (930, 930), (931, 931)] (fbits_spec x.toNat) Tryz.func306 (h := ?_)
  rintro _ _ (⟨rfl, rfl⟩)
  refine v_ops [] (hk := ?_)
  refine v_ret rfl [] (.cons (.tmp rfl) .nil) (h := ?_)
  refine ⟨?_, rfl⟩
  rw [Int.toNat_of_nonneg hx]
  rfl
theorem fright_spec (x : Int) (hx : 0 ≤ x) : CSpec Tryz.prog 266 [.one (.i .u64 x)] [] [] fun o L => o = .ret (vb (fright x)) ∧ L = [] := by
  refine v_enter Tryz.func266 (h := fun w0 => ?_)
  refine v_code [] (hk := ?_)
  refine v_call 20200 [(900, 900), (901, 901), (910, 910), (911, 911), (920, 920), (921, 921), (930, 930), (931, 931)] (canon_spec x hx) Tryz.func295 (h := ?_)
  rintro _ _ (⟨rfl, rfl⟩)
  refine v_ops [] (hk := ?_)
  refine v_ret rfl [] (.cons (.tmp rfl) .nil) (h := ?_)
  exact ⟨rfl, rfl⟩
end Go.Proofs.YtfopgaijfeeioaaGreat
/- TERMS: the order of branches. -/

set_option linter.unusedVariables false
set_option linter.unusedSimpArgs false
set_option maxRecDepth 100000
namespace Go.Proofs.YtfopgaijfeeioaaGreat
open Go Go.RowKit HL
theorem nanK_spec (a : Int) : CSpec Tryz.prog 313 [.one (.i .i64 a)] [] [] fun o L => o = .ret (vb (!decide (a = a))) ∧ L = [] := by
  refine v_enter Tryz.func313 (h := fun w0 => ?_)
  refine v_code [] (hk := ?_)
  refine v_ret rfl [] (.cons (.tmp rfl) .nil) (h := ?_)
  exact ⟨rfl, rfl⟩
theorem cmpK_spec (a b : Int) : CSpec Tryz.prog 308 [.one (.i .i64 a), .one (.i .i64 b)] [] [] fun o L => o = .ret (vint (icmp a b)) ∧ L = [] := by
  refine v_enter Tryz.func308 (h := fun w0 => ?_)
  refine v_code [] (hk := ?_)
  refine v_call 20400 [(900, 900), (901, 901), (910, 910), (911, 911), (920, 920), (921, 921), (930, 930), (931, 931)] (nanK_spec a) Tryz.func313 (h := ?_)
  rintro _ _ (⟨rfl, rfl⟩)
  refine v_know 8 false rfl (by simp) ?_
  refine v_ops [] (hk := ?_)
  refine v_call 20500 [(900, 900), (901, 901), (910, 910), (911, 911), (920, 920), (921, 921), (930, 930), (931, 931)] (nanK_spec b) Tryz.func313 (h := ?_)
  rintro _ _ (⟨rfl, rfl⟩)
  refine v_know 10 false rfl (by simp) ?_
  refine v_ops [] (hk := ?_)
  first | refine c_ifd rfl (fun h16 => ?_) (fun h16 => ?_) | refine c_ifn rfl (fun h16 => ?_) (fun h16 => ?_) | refine c_if rfl (fun h16 => ?_) (fun h16 => ?_)
  · refine v_code [] (hk := ?_)
    refine v_ret rfl [] (.cons (.tmp rfl) .nil) (h := ?_)
    exact ⟨by unfold icmp; rw [if_pos h16]; rfl, rfl⟩
  · refine v_code [] (hk := ?_)
    first | refine c_ifd rfl (fun h19 => ?_) (fun h19 => ?_) | refine c_ifn rfl (fun h19 => ?_) (fun h19 => ?_) | refine c_if rfl (fun h19 => ?_) (fun h19 => ?_)
    · refine v_code [] (hk := ?_)
      refine v_ret rfl [] (.cons (.tmp rfl) .nil) (h := ?_)
      exact ⟨by unfold icmp; rw [if_neg h16, if_pos h19]; rfl, rfl⟩
    · refine v_code [] (hk := ?_)
      refine v_ret rfl [] (.cons (.tmp rfl) .nil) (h := ?_)
      exact ⟨by unfold icmp; rw [if_neg h16, if_neg h19]; rfl, rfl⟩
theorem nanL_spec (a : Int) : CSpec Tryz.prog 314 [.one (.i .i64 a)] [] [] fun o L => o = .ret (vb (!decide (a = a))) ∧ L = [] := by
  refine v_enter Tryz.func314 (h := fun w0 => ?_)
  refine v_code [] (hk := ?_)
  refine v_ret rfl [] (.cons (.tmp rfl) .nil) (h := ?_)
  exact ⟨rfl, rfl⟩
theorem cmpL_spec (a b : Int) : CSpec Tryz.prog 309 [.one (.i .i64 a), .one (.i .i64 b)] [] [] fun o L => o = .ret (vint (icmp a b)) ∧ L = [] := by
  refine v_enter Tryz.func309 (h := fun w0 => ?_)
  refine v_code [] (hk := ?_)
  refine v_call 20400 [(900, 900), (901, 901), (910, 910), (911, 911), (920, 920), (921, 921), (930, 930), (931, 931)] (nanL_spec a) Tryz.func314 (h := ?_)
  rintro _ _ (⟨rfl, rfl⟩)
  refine v_know 8 false rfl (by simp) ?_
  refine v_ops [] (hk := ?_)
  refine v_call 20500 [(900, 900), (901, 901), (910, 910), (911, 911), (920, 920), (921, 921), (930, 930), (931, 931)] (nanL_spec b) Tryz.func314 (h := ?_)
  rintro _ _ (⟨rfl, rfl⟩)
  refine v_know 10 false rfl (by simp) ?_
  refine v_ops [] (hk := ?_)
  first | refine c_ifd rfl (fun h16 => ?_) (fun h16 => ?_) | refine c_ifn rfl (fun h16 => ?_) (fun h16 => ?_) | refine c_if rfl (fun h16 => ?_) (fun h16 => ?_)
  · refine v_code [] (hk := ?_)
    refine v_ret rfl [] (.cons (.tmp rfl) .nil) (h := ?_)
    exact ⟨by unfold icmp; rw [if_pos h16]; rfl, rfl⟩
  · refine v_code [] (hk := ?_)
    first | refine c_ifd rfl (fun h19 => ?_) (fun h19 => ?_) | refine c_ifn rfl (fun h19 => ?_) (fun h19 => ?_) | refine c_if rfl (fun h19 => ?_) (fun h19 => ?_)
    · refine v_code [] (hk := ?_)
      refine v_ret rfl [] (.cons (.tmp rfl) .nil) (h := ?_)
      exact ⟨by unfold icmp; rw [if_neg h16, if_pos h19]; rfl, rfl⟩
    · refine v_code [] (hk := ?_)
      refine v_ret rfl [] (.cons (.tmp rfl) .nil) (h := ?_)
      exact ⟨by unfold icmp; rw [if_neg h16, if_neg h19]; rfl, rfl⟩
def FitB (b : BH) : Prop := ∀ n ∈ b.br.flat, FitN n
theorem flat_eq (b : BH) : b.br.flat = b.n :: Br.flats (BH.brs b.ks) := by rw [BH.br_eq]; rfl
theorem FitB.n {b : BH} (h : FitB b) : FitN b.n := h _ (by rw [flat_eq]; exact List.mem_cons_self ..)
theorem flats_mem {b : Br} {n : NodeP} : ∀ {l : List Br}, b ∈ l → n ∈ b.flat → n ∈ Br.flats l
  | [], h, _ => by cases h
  | a :: l, h, hn => by
    show n ∈ a.flat ++ Br.flats l
    rcases List.mem_cons.1 h with rfl | h
    · exact List.mem_append_left _ hn
    · exact List.mem_append_right _ (flats_mem h hn)
theorem kid_mem {b k : BH} (hk : k ∈ b.ks) : k.br ∈ BH.brs b.ks := by rw [BH.brs_map]; exact List.mem_map_of_mem hk
theorem FitB.kid {b k : BH} (h : FitB b) (hk : k ∈ b.ks) : FitB k := fun n hn => h n (by rw [flat_eq]; exact List.mem_cons_of_mem _ (flats_mem (kid_mem hk) hn))
structure OkB (b : BH) : Prop where
  few : Few b
  fit : FitB b
theorem OkB.kid {b k : BH} (h : OkB b) (hk : k ∈ b.ks) : OkB k := ⟨h.few.kid hk, h.fit.kid hk⟩
theorem kid_deep {b k : BH} {f : Nat} (h : b.br.deep ≤ f + 1) (hk : k ∈ b.ks) : k.br.deep ≤ f := by
  rw [deep_of] at h
  have := deep_kid (kid_mem hk)
  omega
def OrdS (f : Nat) : Prop := ∀ (a b : BH), a.br.deep ≤ f → OkB a → OkB b → CSpec Tryz.prog 296 [bval a 201, bval b 301] [(201, Res.rd a.A brEn a.ks), (202, Res.alr (BH.rowsL a.ks)), (301, Res.rd b.A brEn b.ks), (302, Res.alr (BH.rowsL b.ks))] [] fun o L => o = .ret (vint (a.br.ord b.br)) ∧ L = []
theorem drop_cons {l : List BH} {k : Nat} (h : k < l.length) : BH.brs (l.drop k) = (l.getD k bh0).br :: BH.brs (l.drop (k + 1)) := by
  rw [List.drop_eq_getElem_cons h, List.getD_eq_getElem?_getD, List.getElem?_eq_getElem h]
  rfl
theorem drop_none {l : List BH} {k : Nat} (h : l.length ≤ k) : BH.brs (l.drop k) = [] := by rw [List.drop_eq_nil_of_le h]; rfl
theorem cmpB_step (f : Nat) (ih : OrdS f) (a b : BH) (ha : a.br.deep ≤ f + 1) (oa : OkB a) (ob : OkB b) : CSpec Tryz.prog 311 [.one (.sl 201 a.A a.ks.length a.c), .one (.sl 301 b.A b.ks.length b.c), .one (.fn 296 [] [])] [(201, Res.rd a.A brEn a.ks), (202, Res.alr (BH.rowsL a.ks)), (301, Res.rd b.A brEn b.ks), (302, Res.alr (BH.rowsL b.ks))] [] fun o L => o = .ret (vint (Br.ords (BH.brs a.ks) (BH.brs b.ks))) ∧ L = [] := by
  have la := oa.few.len
  have lb := ob.few.len
  refine v_enter Tryz.func311 (h := fun w0 => ?_)
  refine v_code [] (hk := ?_)
  refine v_loop (fun m E H => ∃ (k : Nat), E = [(13, vn k)] ∧ H = [] ∧ m = a.ks.length - k ∧ k ≤ a.ks.length ∧ (k ≤ b.ks.length) ∧ (Br.ords (BH.brs a.ks) (BH.brs b.ks) = Br.ords (BH.brs (a.ks.drop k)) (BH.brs (b.ks.drop k)))) [0, 1, 2, 11, 12, 34, 35, 36, 37, 38] (a.ks.length) ([(13, vn 0)]) ([]) (h0 := ⟨0, rfl, rfl, by omega, by omega, by omega, by rfl⟩) (hr := ?_)
  rintro _ _ _ ⟨k, rfl, rfl, hmk, hk, hik0, hik1⟩
  refine v_code [] (hk := ?_)
  first | refine c_ifd rfl (fun h14 => ?_) (fun h14 => ?_) | refine c_ifn rfl (fun h14 => ?_) (fun h14 => ?_) | refine c_if rfl (fun h14 => ?_) (fun h14 => ?_)
  · have hma := getD_mem (d := bh0) h14
    have ea := drop_cons h14
    refine v_code [] (hk := ?_)
    refine l_do d_alloc (fun g8 => ?_)
    refine v_ops [] (hk := ?_)
    first | refine c_ifd rfl (fun h21 => ?_) (fun h21 => ?_) | refine c_ifn rfl (fun h21 => ?_) (fun h21 => ?_) | refine c_if rfl (fun h21 => ?_) (fun h21 => ?_)
    · have eb := drop_none (l := b.ks) (k := k) (by omega)
      refine v_code [] (hk := ?_)
      refine v_ret rfl [] (.cons (.tmp rfl) .nil) (h := ?_)
      exact ⟨by rw [hik1, ea, eb]; rfl, rfl⟩
    · have hkb : k < b.ks.length := by omega
      have hmb := getD_mem (d := bh0) hkb
      have eb := drop_cons hkb
      refine v_code [] (hk := ?_)
      refine l_do d_alloc (fun g9 => ?_)
      refine v_ops [] (hk := ?_)
      refine v_callD 21450 [(900, 900), (901, 901), (910, 910), (911, 911), (920, 920), (921, 921), (930, 930), (931, 931)] (ih (a.ks.getD k bh0) (b.ks.getD k bh0) (kid_deep ha hma) (oa.kid hma) (ob.kid hmb)) Tryz.func296 (hB := ⟨⟨_, (der_row 202 hma), rfl⟩, ⟨⟨_, (der_sub 202 hma), rfl⟩, ⟨⟨_, (der_row 302 hmb), rfl⟩, ⟨⟨_, (der_sub 302 hmb), rfl⟩, trivial⟩⟩⟩⟩) (h := ?_)
      rintro _ _ (⟨rfl, rfl⟩)
      refine v_ops [] (hk := ?_)
      first | refine c_ifd rfl (fun h31 => ?_) (fun h31 => ?_) | refine c_ifn rfl (fun h31 => ?_) (fun h31 => ?_) | refine c_if rfl (fun h31 => ?_) (fun h31 => ?_)
      · refine v_code [] (hk := ?_)
        refine v_ret rfl [] (.cons (.tmp rfl) .nil) (h := ?_)
        exact ⟨by rw [hik1, ea, eb, Br.ords, if_pos (by simpa using h31)]; rfl, rfl⟩
      · refine v_code [] (hk := ?_)
        refine v_again (a.ks.length - (k + 1)) ⟨k + 1, rfl, rfl, by omega, by omega, by omega, by rw [hik1, ea, eb, Br.ords, if_neg (by simpa using h31)]⟩
  · have ea := drop_none (l := a.ks) (k := k) (by omega)
    refine v_code [] (hk := ?_)
    first | refine c_ifd rfl (fun h38 => ?_) (fun h38 => ?_) | refine c_ifn rfl (fun h38 => ?_) (fun h38 => ?_) | refine c_if rfl (fun h38 => ?_) (fun h38 => ?_)
    · have eb := drop_cons (l := b.ks) (k := k) (by omega)
      refine v_code [] (hk := ?_)
      refine v_ret rfl [] (.cons (.tmp rfl) .nil) (h := ?_)
      exact ⟨by rw [hik1, ea, eb]; rfl, rfl⟩
    · have eb := drop_none (l := b.ks) (k := k) (by omega)
      refine v_code [] (hk := ?_)
      refine v_ret rfl [] (.cons (.tmp rfl) .nil) (h := ?_)
      exact ⟨by rw [hik1, ea, eb]; rfl, rfl⟩
theorem ord_eq (a b : BH) : a.br.ord b.br = if nodeOrd a.n b.n ≠ 0 then nodeOrd a.n b.n else Br.ords (BH.brs a.ks) (BH.brs b.ks) := by
  rw [BH.br_eq a, BH.br_eq b, Br.ord]
theorem order_step (f : Nat) (ih : OrdS f) (a b : BH) (ha : a.br.deep ≤ f + 1) (oa : OkB a) (ob : OkB b) : CSpec Tryz.prog 296 [bval a 201, bval b 301] [(201, Res.rd a.A brEn a.ks), (202, Res.alr (BH.rowsL a.ks)), (301, Res.rd b.A brEn b.ks), (302, Res.alr (BH.rowsL b.ks))] [] fun o L => o = .ret (vint (a.br.ord b.br)) ∧ L = [] := by
  have na := oa.fit.n
  have nb := ob.fit.n
  refine v_enter Tryz.func296 (h := fun w0 => ?_)
  refine v_code [] (hk := ?_)
  refine l_do d_box (fun g2 => ?_)
  refine l_do d_box (fun g3 => ?_)
  refine v_ops [] (hk := ?_)
  refine v_cut (fun E H => ∃ g5 g6, E = [(5, vp 10005 ⟨g5, 0, none⟩), (6, vp 10006 ⟨g6, 0, none⟩)] ∧ H = [(10005, Res.va g5 76 (nodeEn.f a.n).ats), (10006, Res.va g6 76 (nodeEn.f b.n).ats)]) [2, 3, 4, 7, 12, 13, 14, 15, 16, 17, 18, 19, 20, 21, 22, 23, 24, 25, 26, 27, 28, 29, 30, 31, 32, 33, 34, 35, 36, 37, 38, 39, 40, 41] [] (h1 := ?_) (h2 := ?_)
  · refine v_draw (.q 0 (.q 1 (.q 2 (.q 3 (.s2 4 (.s 5 (.s 6 (.s 7 .nil))) 5 (.s 4 (.s 6 (.s 7 .nil)))))))) [10002, 10003] (hm := by kernel_rfl) (hs := by kernel_rfl) (hk := by kernel_rfl) (h := ?_)
    refine v_sch [] (hk := ?_)
    refine s_two ?_ ?_
    · refine s_do rfl d_alloc (fun g5 => ?_)
      refine s_do rfl d_alloc (fun g6 => ?_)
      refine v_sch [] (hk := ?_)
      refine v_join (⟨g5, g6, rfl, rfl⟩)
    · refine s_do rfl d_alloc (fun g6 => ?_)
      refine s_do rfl d_alloc (fun g5 => ?_)
      refine v_sch [] (hk := ?_)
      refine v_join (⟨g5, g6, rfl, rfl⟩)
  · rintro _ _ (⟨g5, g6, rfl, rfl⟩)
    refine v_ex [] (hk := ?_)
    refine v_draw (.q 0 (.q 1 (.q 2 (.q 3 (.q 5 (.q 6 (.q 7 (.q 8 (.q 10 (.q 11 (.q 12 (.q 13 (.q 15 (.q 16 (.q 17 (.q 18 (.s 4 (.s 9 (.s 14 (.s 19 (.s 20 (.s 21 (.q 22 .nil))))))))))))))))))))))) [10005, 10006] (hm := by kernel_rfl) (hs := by kernel_rfl) (hk := by kernel_rfl) (h := ?_)
    refine v_sch [] (hk := ?_)
    refine v_callS rfl 20800 [(900, 900), (901, 901), (910, 910), (911, 911), (920, 920), (921, 921), (930, 930), (931, 931)] (cmpK_spec a.n.kind b.n.kind) Tryz.func308 (h := ?_)
    rintro _ _ (⟨rfl, rfl⟩)
    refine ⟨cov_of (by repeat (first | exact trivial | refine ⟨rfl, ?_⟩)), ?_⟩
    refine v_callS rfl 21050 [(900, 900), (901, 901), (910, 910), (911, 911), (920, 920), (921, 921), (930, 930), (931, 931)] (cmpL_spec a.n.int b.n.int) Tryz.func309 (h := ?_)
    rintro _ _ (⟨rfl, rfl⟩)
    refine ⟨cov_of (by repeat (first | exact trivial | refine ⟨rfl, ?_⟩)), ?_⟩
    refine v_callS rfl 21300 [(900, 900), (901, 901), (910, 910), (911, 911), (920, 920), (921, 921), (930, 930), (931, 931)] (ford_spec a.n.bits b.n.bits na.2 nb.2) Tryz.func310 (h := ?_)
    rintro _ _ (⟨rfl, rfl⟩)
    refine ⟨cov_of (by repeat (first | exact trivial | refine ⟨rfl, ?_⟩)), ?_⟩
    refine v_callS rfl 21550 [(900, 900), (901, 901), (910, 910), (911, 911), (920, 920), (921, 921), (930, 930), (931, 931)] (cmpStr_spec a.n.bytes b.n.bytes) Tryz.func216 (h := ?_)
    rintro _ _ (⟨rfl, rfl⟩)
    refine ⟨cov_of (by repeat (first | exact trivial | refine ⟨rfl, ?_⟩)), ?_⟩
    refine s_do rfl (d_bslice [icmp a.n.kind b.n.kind, icmp a.n.int b.n.int, ford a.n.bits b.n.bits, scmp a.n.bytes b.n.bytes]) (fun B32 => ?_)
    refine v_callS rfl 21650 [(900, 900), (901, 901), (910, 910), (911, 911), (920, 920), (921, 921), (930, 930), (931, 931)] (cmpOr_spec B32 [icmp a.n.kind b.n.kind, icmp a.n.int b.n.int, ford a.n.bits b.n.bits, scmp a.n.bytes b.n.bytes] 4 (by simp)) Tryz.func121 (h := ?_)
    rintro _ _ (⟨rfl, rfl⟩)
    refine ⟨cov_of (by repeat (first | exact trivial | refine ⟨rfl, ?_⟩)), ?_⟩
    refine v_sch [] (hk := ?_)
    first | refine c_ifd rfl (fun h35 => ?_) (fun h35 => ?_) | refine c_ifn rfl (fun h35 => ?_) (fun h35 => ?_) | refine c_if rfl (fun h35 => ?_) (fun h35 => ?_)
    · rw [orI_find] at h35
      refine v_code [] (hk := ?_)
      refine v_ret rfl [] (.cons (.tmp rfl) .nil) (h := ?_)
      refine ⟨?_, rfl⟩
      rw [ord_eq, if_pos (show nodeOrd a.n b.n ≠ 0 by simpa [nodeOrd] using h35), orI_find]
      rfl
    · rw [orI_find] at h35
      refine v_code [] (hk := ?_)
      refine v_call 22050 [(201, 201), (202, 202), (301, 301), (302, 302), (900, 900), (901, 901), (910, 910), (911, 911), (920, 920), (921, 921), (930, 930), (931, 931)] (cmpB_step f ih a b ha oa ob) Tryz.func311 (h := ?_)
      rintro _ _ (⟨rfl, rfl⟩)
      refine v_ops [] (hk := ?_)
      refine v_ret rfl [] (.cons (.tmp rfl) .nil) (h := ?_)
      refine ⟨?_, rfl⟩
      rw [ord_eq, if_neg (show ¬ nodeOrd a.n b.n ≠ 0 by simpa [nodeOrd] using h35)]
      rfl
theorem order_spec2 : ∀ (f : Nat), OrdS f
  | 0 => fun a b ha _ _ => by rw [deep_of] at ha; omega
  | f + 1 => fun a b ha oa ob => order_step f (order_spec2 f) a b ha oa ob
end Go.Proofs.YtfopgaijfeeioaaGreat
/- TERMS: what nodes may be. -/

set_option linter.unusedVariables false
set_option linter.unusedSimpArgs false
set_option maxRecDepth 100000
namespace Go.Proofs.YtfopgaijfeeioaaGreat
open Go Go.RowKit HL
abbrev restV (n bits : Int) (s : ByteArray) : SV := .agg [.one (.i .i64 n), .one (.i .u64 bits), .one (.s s)]
theorem brs_getD {l : List BH} {k : Nat} (h : k < l.length) : (BH.brs l).getD k br0 = (l.getD k bh0).br := by
  rw [BH.brs_map, List.getD_eq_getElem?_getD, List.getElem?_map, List.getD_eq_getElem?_getD, List.getElem?_eq_getElem h]
  rfl
theorem brs_len (l : List BH) : (BH.brs l).length = l.length := by rw [BH.brs_map, List.length_map]
theorem rising_all {l : List BH} {j : Nat} (h0 : l.length % 2 = 0) (h1 : ∀ i, i < j → (l.getD (2 * i) bh0).br.ord (l.getD (2 * i + 2) bh0).br < 0) (h2 : ¬ 2 * j + 2 < l.length) : risingB (BH.brs l) = true := by
  unfold risingB
  rw [brs_len, Bool.and_eq_true, List.all_eq_true]
  refine ⟨by simp [h0], fun i hi => ?_⟩
  rw [decide_eq_true_eq]
  intro h3
  rw [brs_getD (by omega), brs_getD h3]
  exact h1 i (by omega)
theorem rising_no {l : List BH} {j : Nat} (h1 : ¬ (l.getD (2 * j) bh0).br.ord (l.getD (2 * j + 2) bh0).br < 0) (h2 : 2 * j + 2 < l.length) : risingB (BH.brs l) = false := by
  unfold risingB
  rw [brs_len, Bool.and_eq_false_iff]
  refine .inr (List.all_eq_false.2 ⟨j, List.mem_range.2 (by omega), ?_⟩)
  rw [decide_eq_true_eq, brs_getD (by omega), brs_getD h2]
  exact fun h => h1 (h h2)
theorem rising_odd {l : List BH} (h : ¬ l.length % 2 = 0) : risingB (BH.brs l) = false := by
  unfold risingB
  rw [brs_len, Bool.and_eq_false_iff]
  exact .inl (by simpa using h)
theorem brising_spec (b : BH) (ob : OkB b) : CSpec Tryz.prog 270 [bval b 201] [(201, Res.rd b.A brEn b.ks), (202, Res.alr (BH.rowsL b.ks))] [] fun o L => o = .ret (vb (risingB (BH.brs b.ks))) ∧ L = [] := by
  have hl := ob.few.len
  refine v_enter Tryz.func270 (h := fun w0 => ?_)
  refine v_code [] (hk := ?_)
  refine l_do d_box (fun g1 => ?_)
  refine v_ops [] (hk := ?_)
  first | refine c_ifd rfl (fun h8 => ?_) (fun h8 => ?_) | refine c_ifn rfl (fun h8 => ?_) (fun h8 => ?_) | refine c_if rfl (fun h8 => ?_) (fun h8 => ?_)
  · refine v_code [] (hk := ?_)
    refine v_ret rfl [] (.cons (.tmp rfl) .nil) (h := ?_)
    exact ⟨outB (rising_odd (by omega)).symm, rfl⟩
  · refine v_code [] (hk := ?_)
    refine v_loop (fun m E H => ∃ (j : Nat), E = [(3, vn (2 * j + 2))] ∧ H = [] ∧ m = b.ks.length - j ∧ j ≤ b.ks.length ∧ (∀ i, i < j → (b.ks.getD (2 * i) bh0).br.ord (b.ks.getD (2 * i + 2) bh0).br < 0)) [1] (b.ks.length) ([(3, vn (2 * 0 + 2))]) ([]) (h0 := ⟨0, rfl, rfl, by omega, by omega, by intro i hi; omega⟩) (hr := ?_)
    rintro _ _ _ ⟨j, rfl, rfl, hmj, hj, hij0⟩
    refine v_code [] (hk := ?_)
    first | refine c_ifd rfl (fun h13 => ?_) (fun h13 => ?_) | refine c_ifn rfl (fun h13 => ?_) (fun h13 => ?_) | refine c_if rfl (fun h13 => ?_) (fun h13 => ?_)
    · have hm1 := getD_mem (l := b.ks) (k := (((2 * j + 2 : Nat) : Int) - ((2 : Nat) : Int)).toNat) (d := bh0) (by omega)
      have hm2 := getD_mem (d := bh0) h13
      have e2 : (((2 * j + 2 : Nat) : Int) - ((2 : Nat) : Int)).toNat = 2 * j := by omega
      refine v_code [] (hk := ?_)
      refine v_draw (.q 0 (.q 1 (.q 2 (.q 3 (.q 4 (.q 5 (.q 6 (.q 7 (.q 8 (.q 9 (.q 10 (.s 11 (.q 12 .nil))))))))))))) [10001, 10006, 10012, 21350, 21351, 21352, 21353] (hm := by kernel_rfl) (hs := by kernel_rfl) (hk := by kernel_rfl) (h := ?_)
      refine v_sch [] (hk := ?_)
      refine v_callDS rfl 21350 [(900, 900), (901, 901), (910, 910), (911, 911), (920, 920), (921, 921), (930, 930), (931, 931)] (order_spec2 _ (b.ks.getD (((2 * j + 2 : Nat) : Int) - ((2 : Nat) : Int)).toNat bh0) (b.ks.getD (2 * j + 2) bh0) (Nat.le_refl _) (ob.kid hm1) (ob.kid hm2)) Tryz.func296 (hB := ⟨⟨_, (der_row 202 hm1), rfl⟩, ⟨⟨_, (der_sub 202 hm1), rfl⟩, ⟨⟨_, (der_row 202 hm2), rfl⟩, ⟨⟨_, (der_sub 202 hm2), rfl⟩, trivial⟩⟩⟩⟩) (h := ?_)
      rintro _ _ (⟨rfl, rfl⟩)
      refine ⟨cov_of (by repeat (first | exact trivial | refine ⟨rfl, ?_⟩)), ?_⟩
      refine v_sch [] (hk := ?_)
      first | refine c_ifd rfl (fun h28 => ?_) (fun h28 => ?_) | refine c_ifn rfl (fun h28 => ?_) (fun h28 => ?_) | refine c_if rfl (fun h28 => ?_) (fun h28 => ?_)
      · rw [e2] at h28
        refine v_code [] (hk := ?_)
        refine v_ret rfl [] (.cons (.tmp rfl) .nil) (h := ?_)
        exact ⟨outB (rising_no (by omega) h13).symm, rfl⟩
      · rw [e2] at h28
        refine v_code [] (hk := ?_)
        refine v_again (b.ks.length - (j + 1)) ⟨j + 1, rfl, rfl, by omega, by omega, by intro i hi; by_cases e : i = j; (subst e; omega); exact hij0 i (by omega)⟩
    · refine v_code [] (hk := ?_)
      refine v_ret rfl [] (.cons (.tmp rfl) .nil) (h := ?_)
      exact ⟨outB (rising_all (by omega) hij0 h13).symm, rfl⟩
theorem kinds1_spec (b : BH) : CSpec Tryz.prog 263 [bval b 201] [(201, Res.rd b.A brEn b.ks), (202, Res.alr (BH.rowsL b.ks))] [] fun o L => o = .ret (.tup [restV 0 b.n.bits b.n.bytes, .one (.b (decide (b.ks.length = 0)))]) ∧ L = [] := by
  refine v_enter Tryz.func263 (h := fun w0 => ?_)
  refine v_code [] (hk := ?_)
  refine l_do d_box (fun g1 => ?_)
  refine l_do d_alloc (fun g2 => ?_)
  refine v_ops [] (hk := ?_)
  refine v_draw (.q 0 (.q 1 (.q 2 (.q 3 (.q 4 (.q 5 (.q 6 (.q 7 (.q 8 (.q 9 (.q 10 (.s 11 (.q 12 .nil))))))))))))) [10001] (hm := by kernel_rfl) (hs := by kernel_rfl) (hk := by kernel_rfl) (h := ?_)
  refine v_sch [] (hk := ?_)
  refine v_ret rfl [] (.cons (.cell inferInstance rfl rfl rfl rfl) (.cons (.tmp rfl) .nil)) (h := ?_)
  exact ⟨rfl, rfl⟩
theorem kinds2_spec (b : BH) : CSpec Tryz.prog 264 [bval b 201] [(201, Res.rd b.A brEn b.ks), (202, Res.alr (BH.rowsL b.ks))] [] fun o L => o = .ret (.tup [restV b.n.int b.n.bits noB, .one (.b (decide (b.ks.length = 0) && decide (b.n.bytes.size ≤ 200)))]) ∧ L = [] := by
  refine v_enter Tryz.func264 (h := fun w0 => ?_)
  refine v_code [] (hk := ?_)
  refine l_do d_box (fun g1 => ?_)
  refine l_do d_alloc (fun g2 => ?_)
  refine v_ops [] (hk := ?_)
  refine v_draw (.q 0 (.q 1 (.q 2 (.q 3 (.q 4 (.q 5 (.q 6 (.q 7 (.q 8 (.q 9 (.q 10 (.q 11 (.q 12 (.q 13 (.q 14 (.q 15 (.q 16 (.q 17 (.s 18 (.q 19 .nil)))))))))))))))))))) [10001] (hm := by kernel_rfl) (hs := by kernel_rfl) (hk := by kernel_rfl) (h := ?_)
  refine v_sch [] (hk := ?_)
  refine v_ret rfl [] (.cons (.cell inferInstance rfl rfl rfl rfl) (.cons (.tmp rfl) .nil)) (h := ?_)
  exact ⟨rfl, rfl⟩
theorem kinds3_spec (b : BH) (ob : OkB b) : CSpec Tryz.prog 265 [bval b 201] [(201, Res.rd b.A brEn b.ks), (202, Res.alr (BH.rowsL b.ks))] [] fun o L => o = .ret (.tup [restV b.n.int 0 b.n.bytes, .one (.b (decide (b.ks.length = 0) && fright b.n.bits))]) ∧ L = [] := by
  have nb := ob.fit.n
  refine v_enter Tryz.func265 (h := fun w0 => ?_)
  refine v_code [] (hk := ?_)
  refine l_do d_box (fun g1 => ?_)
  refine l_do d_alloc (fun g2 => ?_)
  refine v_ops [] (hk := ?_)
  refine v_draw (.q 0 (.q 1 (.q 2 (.q 3 (.q 4 (.q 5 (.q 6 (.q 7 (.q 8 (.q 9 (.q 10 (.q 11 (.q 12 (.q 13 (.q 14 (.s 15 (.q 16 (.s 17 (.q 18 .nil))))))))))))))))))) [10001] (hm := by kernel_rfl) (hs := by kernel_rfl) (hk := by kernel_rfl) (h := ?_)
  refine v_sch [] (hk := ?_)
  refine s_callG rfl [(900, 900), (901, 901), (910, 910), (911, 911), (920, 920), (921, 921), (930, 930), (931, 931)] [18] ⟨_, _, ⟨_, .inl ⟨rfl, rfl⟩⟩, rfl, rfl⟩ (fun hg => fright_spec b.n.bits nb.2.1) Tryz.func266 (h := ?_)
  refine v_sch [] (hk := ?_)
  refine v_ret rfl [] (.cons (.cell inferInstance rfl rfl rfl rfl) (.cons (.tmp rfl) .nil)) (h := ?_)
  exact ⟨rfl, rfl⟩
theorem kinds4_spec (b : BH) : CSpec Tryz.prog 267 [bval b 201] [(201, Res.rd b.A brEn b.ks), (202, Res.alr (BH.rowsL b.ks))] [] fun o L => o = .ret (.tup [restV b.n.int b.n.bits b.n.bytes, .one (.b true)]) ∧ L = [] := by
  refine v_enter Tryz.func267 (h := fun w0 => ?_)
  refine v_code [] (hk := ?_)
  refine l_do d_box (fun g1 => ?_)
  refine l_do d_alloc (fun g2 => ?_)
  refine v_ops [] (hk := ?_)
  refine v_ret rfl [] (.cons (.cell inferInstance rfl rfl rfl rfl) (.cons (.tmp rfl) .nil)) (h := ?_)
  exact ⟨rfl, rfl⟩
theorem kinds5_spec (b : BH) : CSpec Tryz.prog 268 [bval b 201] [(201, Res.rd b.A brEn b.ks), (202, Res.alr (BH.rowsL b.ks))] [] fun o L => o = .ret (.tup [restV 0 b.n.bits b.n.bytes, .one (.b (decide (((0 : Nat) : Int) ≤ b.n.int) && decide (b.n.int ≤ ((2147483647 : Nat) : Int))))]) ∧ L = [] := by
  refine v_enter Tryz.func268 (h := fun w0 => ?_)
  refine v_code [] (hk := ?_)
  refine l_do d_box (fun g1 => ?_)
  refine l_do d_alloc (fun g2 => ?_)
  refine v_ops [] (hk := ?_)
  refine v_draw (.q 0 (.q 1 (.q 2 (.q 3 (.q 4 (.q 5 (.q 6 (.q 7 (.q 8 (.q 9 (.q 10 (.q 11 (.q 12 (.q 13 (.q 14 (.q 15 (.q 16 (.s 17 (.q 18 .nil))))))))))))))))))) [10001] (hm := by kernel_rfl) (hs := by kernel_rfl) (hk := by kernel_rfl) (h := ?_)
  refine v_sch [] (hk := ?_)
  refine v_ret rfl [] (.cons (.cell inferInstance rfl rfl rfl rfl) (.cons (.tmp rfl) .nil)) (h := ?_)
  exact ⟨rfl, rfl⟩
theorem kinds6_spec (b : BH) (ob : OkB b) : CSpec Tryz.prog 269 [bval b 201] [(201, Res.rd b.A brEn b.ks), (202, Res.alr (BH.rowsL b.ks))] [] fun o L => o = .ret (.tup [restV b.n.int b.n.bits b.n.bytes, .one (.b (risingB (BH.brs b.ks)))]) ∧ L = [] := by
  refine v_enter Tryz.func269 (h := fun w0 => ?_)
  refine v_code [] (hk := ?_)
  refine l_do d_box (fun g1 => ?_)
  refine l_do d_alloc (fun g2 => ?_)
  refine v_ops [] (hk := ?_)
  refine v_draw (.q 0 (.q 1 (.q 2 (.q 3 (.q 4 (.q 5 (.q 6 (.q 7 (.q 8 (.q 9 (.q 10 (.s 11 (.s 12 (.q 13 .nil)))))))))))))) [10001] (hm := by kernel_rfl) (hs := by kernel_rfl) (hk := by kernel_rfl) (h := ?_)
  refine v_sch [] (hk := ?_)
  refine v_callS rfl 20750 [(201, 201), (202, 202), (900, 900), (901, 901), (910, 910), (911, 911), (920, 920), (921, 921), (930, 930), (931, 931)] (brising_spec b ob) Tryz.func270 (h := ?_)
  rintro _ _ (⟨rfl, rfl⟩)
  refine ⟨cov_of (by repeat (first | exact trivial | refine ⟨rfl, ?_⟩)), ?_⟩
  refine v_sch [] (hk := ?_)
  refine v_ret rfl [] (.cons (.cell inferInstance rfl rfl rfl rfl) (.cons (.tmp rfl) .nil)) (h := ?_)
  exact ⟨rfl, rfl⟩
abbrev kindsM : List (Int × FnV × Nat) := [(1, some (263, []), 0), (2, some (264, []), 1), (3, some (265, []), 2), (4, some (267, []), 3), (5, some (268, []), 4), (6, some (269, []), 5)]
instance : KeyT Tryz.prog 71 (intEn .i64) := ⟨keyOk_int Tryz.underlying71⟩
theorem kinds_spec : CSpec Tryz.prog 209 [] [] [] fun o L => ∃ g, o = .ret (.s (.one (.mp 0 g))) ∧ L = [Res.mp g (intEn .i64) fnEn kindsM 6] := by
  refine v_enter Tryz.func209 (h := fun w0 => ?_)
  refine v_code [] (hk := ?_)
  refine l_do (d_makeMap (intEn .i64) fnEn) (fun g1 => ?_)
  refine l_do1 (d_insert (k := (1 : Int)) (v := some (263, []))) ?_
  refine l_do1 (d_insert (k := (2 : Int)) (v := some (264, []))) ?_
  refine l_do1 (d_insert (k := (3 : Int)) (v := some (265, []))) ?_
  refine l_do1 (d_insert (k := (4 : Int)) (v := some (267, []))) ?_
  refine l_do1 (d_insert (k := (5 : Int)) (v := some (268, []))) ?_
  refine l_do1 (d_insert (k := (6 : Int)) (v := some (269, []))) ?_
  refine v_ops [] (hk := ?_)
  refine k_ret [10001] (.s (.one (.mp 0 g1))) (.cons (.tmp rfl) .nil) (h := ?_)
  exact ⟨g1, rfl, by simp [RS.den, mput, mclk, mhas, mlook, mset, kindsM]⟩
end Go.Proofs.YtfopgaijfeeioaaGreat
/- Bundles: how much there is of an asset; the same; how great. -/

set_option linter.unusedVariables false
set_option linter.unusedSimpArgs false
set_option maxRecDepth 100000
namespace Go.Proofs.YtfopgaijfeeioaaGreat
open Go Go.RowKit HL
theorem fits_i64 (T : TypeId) {bytes : Nat} {z : SV} [TyA Tryz.prog T false 1 z bytes] (b : Int) : Fits Tryz.prog T (.int .i64 b) := fits_sv (P := Tryz.prog) (T := T) (v := .one (.i .i64 b)) rfl rfl
theorem fits_str (T : TypeId) {bytes : Nat} {z : SV} [TyA Tryz.prog T false 1 z bytes] (b : ByteArray) : Fits Tryz.prog T (.string b) := fits_sv (P := Tryz.prog) (T := T) (v := .one (.s b)) rfl rfl
theorem fits_hash (h : Hash) : Fits Tryz.prog 23 (hval h) := fits_sv (P := Tryz.prog) (T := 23) (v := .agg [.hash h]) rfl rfl
theorem ba_beq (x y : ByteArray) : (x == y) = decide (x = y) := by
  cases x with
  | mk a => cases y with
    | mk b =>
      show (a == b) = _
      by_cases h : a = b
      · subst h; simp
      · rw [decide_eq_false (fun e => h (by injection e))]
        simpa using h
theorem eqTy_str {T : TypeId} (hu : Tryz.prog.underlying T = some .string) : EqTy Tryz.prog T Value.string 1 where
  eq d hd x y w := by
    obtain ⟨d, rfl⟩ : ∃ m, d = m + 1 := ⟨d - 1, by omega⟩
    simp only [Op.equalIn, Sem.run_bind, run_underlying hu, Result.andThen_ok, Sem.run_pure]
    congr 1
    exact ba_beq x y
  chk d hd em x w := by
    obtain ⟨d, rfl⟩ : ∃ m, d = m + 1 := ⟨d - 1, by omega⟩
    rw [Instr.checkKey]
    simp [Sem.run_bind, run_underlying hu, Result.andThen_ok]
instance eqE_asset : EqE Tryz.prog 148 assetEn := ⟨⟨3, by omega, eqV_struct
    [⟨Hash, inferInstance, hval, 2, AssetP.policy, 23, 32, (HashT.key (P := Tryz.prog) (T := 23)).eq.v, fits_hash, size_hval⟩, ⟨ByteArray, inferInstance, Value.string, 1, AssetP.name, 9, 1, (eqTy_str (UD.is (P := Tryz.prog) (T := 9))).v, fits_str _, fun _ => rfl⟩,
      ⟨Int, inferInstance, Value.int .i64, 1, AssetP.amount, 2, 1, (eqTy_int (UD.is (P := Tryz.prog) (T := 2))).v, fits_i64 _, fun _ => rfl⟩]
    Tryz.underlying148 (by kernel_rfl) (by kernel_rfl) (by kernel_rfl) (by intro F hF; simp at hF; rcases hF with rfl | rfl | rfl <;> simp) (fun x => SV.den_agg _) (fun x y => by cases x; cases y; simp [FE.same, Bool.decide_and])⟩, by kernel_rfl, rfl⟩
instance eqE_name : EqE Tryz.prog 187 nameEn := ⟨⟨3, by omega, eqV_struct
    [⟨Hash, inferInstance, hval, 2, NameP.policy, 23, 32, (HashT.key (P := Tryz.prog) (T := 23)).eq.v, fits_hash, size_hval⟩, ⟨ByteArray, inferInstance, Value.string, 1, NameP.name, 9, 1, (eqTy_str (UD.is (P := Tryz.prog) (T := 9))).v, fits_str _, fun _ => rfl⟩]
    Tryz.underlying187 (by kernel_rfl) (by kernel_rfl) (by kernel_rfl) (by intro F hF; simp at hF; rcases hF with rfl | rfl <;> simp) (fun x => SV.den_agg _) (fun x y => by cases x; cases y; simp [FE.same, Bool.decide_and])⟩, by kernel_rfl, rfl⟩
end Go.Proofs.YtfopgaijfeeioaaGreat
/- TERMS: what is right. -/


set_option linter.unusedVariables false
set_option linter.unusedSimpArgs false
set_option maxRecDepth 100000
namespace Go.Proofs.YtfopgaijfeeioaaGreat
open Go Go.RowKit HL
structure RestP where
  n : Int
  bits : Int
  s : ByteArray
deriving DecidableEq
def restEn : En RestP := ⟨fun x => restV x.n x.bits x.s, true, 3, fun _ => ⟨rfl, rfl⟩, by decide⟩
theorem fits_u64 (T : TypeId) {bytes : Nat} {z : SV} [TyA Tryz.prog T false 1 z bytes] (b : Int) : Fits Tryz.prog T (.int .u64 b) := fits_sv (P := Tryz.prog) (T := T) (v := .one (.i .u64 b)) rfl rfl
instance eqE_rest : EqE Tryz.prog 270 restEn := ⟨⟨3, by omega, eqV_struct
    [⟨Int, inferInstance, Value.int .i64, 1, RestP.n, 2, 1, (eqTy_int (UD.is (P := Tryz.prog) (T := 2))).v, fits_i64 _, fun _ => rfl⟩, ⟨Int, inferInstance, Value.int .u64, 1, RestP.bits, 73, 1, (eqTy_int (UD.is (P := Tryz.prog) (T := 73))).v, fits_u64 _, fun _ => rfl⟩, ⟨ByteArray, inferInstance, Value.string, 1, RestP.s, 9, 1, (eqTy_str (UD.is (P := Tryz.prog) (T := 9))).v, fits_str _, fun _ => rfl⟩]
    Tryz.underlying270 (by kernel_rfl) (by kernel_rfl) (by kernel_rfl) (by intro F hF; simp at hF; rcases hF with rfl | rfl | rfl <;> simp) (fun x => SV.den_agg _) (fun x y => by cases x; cases y; simp [FE.same, Bool.decide_and])⟩, by kernel_rfl, rfl⟩
abbrev rz : RestP := ⟨0, 0, noB⟩
theorem rights_all : ∀ (l : List BH), Br.rights (BH.brs l) = l.all fun k => k.br.right
  | [] => rfl
  | b :: bs => by
    show (b.br.right && Br.rights (BH.brs bs)) = (b.br.right && bs.all fun k => k.br.right)
    rw [rights_all bs]
theorem right_eq (b : BH) : b.br.right = (kindOk b.n (BH.brs b.ks) && b.ks.all fun k => k.br.right) := by
  rw [BH.br_eq, Br.right, rights_all]
def RightS (f : Nat) : Prop := ∀ (b : BH) (g : Nat), b.br.deep ≤ f → OkB b → CSpec Tryz.prog 208 [bval b 201, .one (.mp 205 g)] [(201, Res.rd b.A brEn b.ks), (202, Res.alr (BH.rowsL b.ks)), (205, Res.mp g (intEn .i64) fnEn kindsM 6)] [] fun o L => o = .ret (vb b.br.right) ∧ L = []
theorem rightK_spec (f : Nat) (ih : RightS f) (b : BH) (g g2 : Nat) (ha : b.br.deep ≤ f) (ob : OkB b) : CSpec Tryz.prog 262 [bval b 201, .one (.ptr 206 ⟨g2, 0, none⟩)] [(201, Res.rd b.A brEn b.ks), (202, Res.alr (BH.rowsL b.ks)), (205, Res.mp g (intEn .i64) fnEn kindsM 6), (206, Res.va g2 243 [.one (.mp 205 g)])] [] fun o L => o = .ret (vb (!b.br.right)) ∧ L = [] := by
  refine v_enter Tryz.func262 (h := fun w0 => ?_)
  refine v_code [] (hk := ?_)
  refine l_do d_box (fun g2 => ?_)
  refine v_ops [] (hk := ?_)
  refine v_call 20300 [(201, 201), (202, 202), (205, 205), (900, 900), (901, 901), (910, 910), (911, 911), (920, 920), (921, 921), (930, 930), (931, 931)] (ih b g ha ob) Tryz.func208 (h := ?_)
  rintro _ _ (⟨rfl, rfl⟩)
  refine v_ops [] (hk := ?_)
  refine v_ret rfl [] (.cons (.tmp rfl) .nil) (h := ?_)
  exact ⟨rfl, rfl⟩
theorem rightI_spec (f : Nat) (ih : RightS f) (b : BH) (g g2 : Nat) (ha : b.br.deep ≤ f + 1) (ob : OkB b) : CSpec Tryz.prog 294 [.one (.sl 201 b.A b.ks.length b.c), .one (.fn 262 [.pointer (some ⟨g2, 0, none⟩)] [206])] [(201, Res.rd b.A brEn b.ks), (202, Res.alr (BH.rowsL b.ks)), (205, Res.mp g (intEn .i64) fnEn kindsM 6), (206, Res.va g2 243 [.one (.mp 205 g)])] [] fun o L => (∃ k : Nat, k < b.ks.length ∧ (b.ks.getD k bh0).br.right = false ∧ o = .ret (vint k) ∧ L = []) ∨ (∀ x ∈ b.ks, x.br.right = true) ∧ o = .ret (vint (-1)) ∧ L = [] := by
  have lb := ob.few.len
  refine v_enter Tryz.func294 (h := fun w0 => ?_)
  refine v_code [] (hk := ?_)
  refine v_loop (fun m E H => ∃ (k : Nat), E = [(8, vn k)] ∧ H = [] ∧ m = b.ks.length - k ∧ k ≤ b.ks.length ∧ (∀ x ∈ b.ks.take k, x.br.right = true)) [0, 1, 7] (b.ks.length) ([(8, vn 0)]) ([]) (h0 := ⟨0, rfl, rfl, by omega, by omega, by simp⟩) (hr := ?_)
  rintro _ _ _ ⟨k, rfl, rfl, hmk, hk, hik0⟩
  refine v_code [] (hk := ?_)
  first | refine c_ifd rfl (fun h9 => ?_) (fun h9 => ?_) | refine c_ifn rfl (fun h9 => ?_) (fun h9 => ?_) | refine c_if rfl (fun h9 => ?_) (fun h9 => ?_)
  · have hm := getD_mem (d := bh0) h9
    refine v_code [] (hk := ?_)
    refine v_callD 20800 [(900, 900), (901, 901), (910, 910), (911, 911), (920, 920), (921, 921), (930, 930), (931, 931)] (rightK_spec f ih (b.ks.getD k bh0) g g2 (kid_deep ha hm) (ob.kid hm)) Tryz.func262 (hB := ⟨⟨_, (der_row 202 hm), rfl⟩, ⟨⟨_, (der_sub 202 hm), rfl⟩, ⟨⟨_, (Der.vw 205), rfl⟩, ⟨⟨_, (Der.vw 206), rfl⟩, trivial⟩⟩⟩⟩) (h := ?_)
    rintro _ _ (⟨rfl, rfl⟩)
    refine v_ops [] (hk := ?_)
    first | refine c_ifd rfl (fun h16 => ?_) (fun h16 => ?_) | refine c_ifn rfl (fun h16 => ?_) (fun h16 => ?_) | refine c_if rfl (fun h16 => ?_) (fun h16 => ?_)
    · refine v_code [] (hk := ?_)
      refine v_ret rfl [] (.cons (.tmp rfl) .nil) (h := ?_)
      exact .inl ⟨k, h9, by simpa using h16, rfl, rfl⟩
    · refine v_code [] (hk := ?_)
      refine v_again (b.ks.length - (k + 1)) ⟨k + 1, rfl, rfl, by omega, by omega, (all_takeD hik0 h9 (by simpa using h16))⟩
  · refine v_code [] (hk := ?_)
    refine v_ret rfl [] (.cons (.tmp rfl) .nil) (h := ?_)
    rw [take_all' h9] at hik0
    exact .inr ⟨hik0, rfl, rfl⟩
theorem rightC_spec (f : Nat) (ih : RightS f) (b : BH) (g g2 : Nat) (ha : b.br.deep ≤ f + 1) (ob : OkB b) : CSpec Tryz.prog 261 [.one (.sl 201 b.A b.ks.length b.c), .one (.fn 262 [.pointer (some ⟨g2, 0, none⟩)] [206])] [(201, Res.rd b.A brEn b.ks), (202, Res.alr (BH.rowsL b.ks)), (205, Res.mp g (intEn .i64) fnEn kindsM 6), (206, Res.va g2 243 [.one (.mp 205 g)])] [] fun o L => o = .ret (vb (!b.ks.all fun k => k.br.right)) ∧ L = [] := by
  refine v_enter Tryz.func261 (h := fun w0 => ?_)
  refine v_code [] (hk := ?_)
  refine v_call 20350 [(201, 201), (202, 202), (205, 205), (206, 206), (900, 900), (901, 901), (910, 910), (911, 911), (920, 920), (921, 921), (930, 930), (931, 931)] (rightI_spec f ih b g g2 ha ob) Tryz.func294 (h := ?_)
  rintro _ _ (⟨k, hk, hx, rfl, rfl⟩ | ⟨hno, rfl, rfl⟩)
  · refine v_ops [] (hk := ?_)
    refine v_ret rfl [] (.cons (.tmp rfl) .nil) (h := ?_)
    refine ⟨outB ?_, rfl⟩
    rw [List.all_eq_false.2 ⟨_, getD_mem hk, by simpa using hx⟩]
    exact decide_eq_true (by omega)
  · refine v_ops [] (hk := ?_)
    refine v_ret rfl [] (.cons (.tmp rfl) .nil) (h := ?_)
    refine ⟨outB ?_, rfl⟩
    rw [List.all_eq_true.2 hno]
    rfl
theorem right_no (f : Nat) (b : BH) (g : Nat) (hk : mlook kindsM b.n.kind = none) (hr : b.br.right = false) : CSpec Tryz.prog 208 [bval b 201, .one (.mp 205 g)] [(201, Res.rd b.A brEn b.ks), (202, Res.alr (BH.rowsL b.ks)), (205, Res.mp g (intEn .i64) fnEn kindsM 6)] [] fun o L => o = .ret (vb b.br.right) ∧ L = [] := by
  have hh : mhas kindsM b.n.kind = false := by unfold mhas; rw [hk]; rfl
  refine v_enter Tryz.func208 (h := fun w0 => ?_)
  refine v_code [] (hk := ?_)
  refine l_do d_box (fun g2 => ?_)
  refine l_do d_box (fun g3 => ?_)
  refine v_ops [] (hk := ?_)
  refine l_rd (r_lookup2 (k := b.n.kind) (zv := none) (Ev := fnEn)) ?_
  refine k_val 14 (.tup [.one .fnn, .one (.kb false)]) rfl (by rw [hk, hh]; rfl) ?_
  refine v_ops [] (hk := ?_)
  refine v_ret rfl [] (.cons (.tmp rfl) .nil) (h := ?_)
  exact ⟨outB hr.symm, rfl⟩
theorem right_yes (f : Nat) (ih : RightS f) (b : BH) (g : Nat) (ha : b.br.deep ≤ f + 1) (ob : OkB b) (i : FuncId) {fn : Func} (hk : mlook kindsM b.n.kind = some (some (i, []))) (r : RestP) (q : Bool) (hf : Tryz.prog.funcs[i]? = some fn) (hs : CSpec Tryz.prog i [bval b 201] [(201, Res.rd b.A brEn b.ks), (202, Res.alr (BH.rowsL b.ks))] [] fun o L => o = .ret (.tup [restV r.n r.bits r.s, .one (.b q)]) ∧ L = []) (hr : kindOk b.n (BH.brs b.ks) = (q && decide (r = rz))) (hfb : fn.body.isNone = false := by rfl) (hfn : (fn.name == "runtime.NumGoroutine") = false := by rfl) : CSpec Tryz.prog 208 [bval b 201, .one (.mp 205 g)] [(201, Res.rd b.A brEn b.ks), (202, Res.alr (BH.rowsL b.ks)), (205, Res.mp g (intEn .i64) fnEn kindsM 6)] [] fun o L => o = .ret (vb b.br.right) ∧ L = [] := by
  have hh : mhas kindsM b.n.kind = true := by unfold mhas; rw [hk]; rfl
  refine v_enter Tryz.func208 (h := fun w0 => ?_)
  refine v_code [] (hk := ?_)
  refine l_do d_box (fun g2 => ?_)
  refine l_do d_box (fun g3 => ?_)
  refine v_ops [] (hk := ?_)
  refine l_rd (r_lookup2 (k := b.n.kind) (zv := none) (Ev := fnEn)) ?_
  refine k_val 14 (.tup [.one (.fn i [] []), .one (.kb true)]) rfl (by rw [hk, hh]; rfl) ?_
  refine v_ops [] (hk := ?_)
  refine v_call 21100 [(201, 201), (202, 202), (900, 900), (901, 901), (910, 910), (911, 911), (920, 920), (921, 921), (930, 930), (931, 931)] (hs) hf (hb := hfb) (hn := hfn) (h := ?_)
  rintro _ _ (⟨rfl, rfl⟩)
  refine v_ops [] (hk := ?_)
  refine l_do d_alloc (fun g7 => ?_)
  refine v_ops [] (hk := ?_)
  refine l_rdG [27, 28] ⟨_, _, ⟨_, .inl ⟨rfl, rfl⟩⟩, ⟨_, _, ⟨_, .inl ⟨rfl, rfl⟩⟩, rfl, rfl⟩, rfl⟩ (fun hg => (r_eqSt (u := r) (v := rz))) ?_
  refine v_ops [] (hk := ?_)
  refine l_callGD [(900, 900), (901, 901), (910, 910), (911, 911), (920, 920), (921, 921), (930, 930), (931, 931)] [33, 34] ⟨_, _, ⟨_, .inl ⟨rfl, rfl⟩⟩, ⟨_, _, ⟨_, .inl ⟨rfl, rfl⟩⟩, rfl, rfl⟩, rfl⟩ (fun hg => rightC_spec f ih b g g3 ha ob) Tryz.func261 (hB := fun hg => ⟨⟨_, (Der.vw 201), rfl⟩, ⟨⟨_, (Der.vw 202), rfl⟩, ⟨⟨_, (Der.vw 205), rfl⟩, ⟨⟨_, (Der.vw 10003), rfl⟩, trivial⟩⟩⟩⟩) (h := ?_)
  refine v_ops [] (hk := ?_)
  refine v_ret rfl [] (.cons (.tmp rfl) .nil) (h := ?_)
  exact ⟨outB (by rw [right_eq, hr]; simp), rfl⟩
end Go.Proofs.YtfopgaijfeeioaaGreat
/- TERMS: what is right, at any depth. -/

set_option linter.unusedVariables false
set_option linter.unusedSimpArgs false
set_option maxRecDepth 100000
namespace Go.Proofs.YtfopgaijfeeioaaGreat
open Go Go.RowKit HL
theorem look_none {k : Int} (h1 : k ≠ 1) (h2 : k ≠ 2) (h3 : k ≠ 3) (h4 : k ≠ 4) (h5 : k ≠ 5) (h6 : k ≠ 6) : mlook kindsM k = none := by
  simp [mlook, kindsM, Ne.symm h1, Ne.symm h2, Ne.symm h3, Ne.symm h4, Ne.symm h5, Ne.symm h6]
theorem right_step (f : Nat) (ih : RightS f) : RightS (f + 1) := fun b g ha ob => by
  have e6 := brs_len b.ks
  by_cases h1 : b.n.kind = 1
  · exact right_yes f ih b g ha ob 263 (by rw [h1]; simp [mlook, kindsM]) ⟨0, b.n.bits, b.n.bytes⟩ _ Tryz.func263 (kinds1_spec b) (by unfold kindOk; rw [if_pos h1, Bool.eq_iff_iff]; simp only [RestP.mk.injEq, Bool.and_eq_true, decide_eq_true_eq, e6]; constructor <;> (intro h; simp only [h, and_self]))
  by_cases h2 : b.n.kind = 2
  · exact right_yes f ih b g ha ob 264 (by rw [h2]; simp [mlook, kindsM]) ⟨b.n.int, b.n.bits, noB⟩ _ Tryz.func264 (kinds2_spec b) (by unfold kindOk; rw [if_neg h1, if_pos h2, Bool.eq_iff_iff]; simp only [RestP.mk.injEq, Bool.and_eq_true, decide_eq_true_eq, e6]; constructor <;> (intro h; simp only [h, and_self]))
  by_cases h3 : b.n.kind = 3
  · exact right_yes f ih b g ha ob 265 (by rw [h3]; simp [mlook, kindsM]) ⟨b.n.int, 0, b.n.bytes⟩ _ Tryz.func265 (kinds3_spec b ob) (by unfold kindOk; rw [if_neg h1, if_neg h2, if_pos h3, Bool.eq_iff_iff]; simp only [RestP.mk.injEq, Bool.and_eq_true, decide_eq_true_eq, e6]; constructor <;> (intro h; simp only [h, and_self]))
  by_cases h4 : b.n.kind = 4
  · exact right_yes f ih b g ha ob 267 (by rw [h4]; simp [mlook, kindsM]) ⟨b.n.int, b.n.bits, b.n.bytes⟩ _ Tryz.func267 (kinds4_spec b) (by unfold kindOk; rw [if_neg h1, if_neg h2, if_neg h3, if_pos h4, Bool.eq_iff_iff]; simp only [RestP.mk.injEq, Bool.and_eq_true, decide_eq_true_eq, e6]; constructor <;> (intro h; simp only [h, and_self]))
  by_cases h5 : b.n.kind = 5
  · exact right_yes f ih b g ha ob 268 (by rw [h5]; simp [mlook, kindsM]) ⟨0, b.n.bits, b.n.bytes⟩ _ Tryz.func268 (kinds5_spec b) (by unfold kindOk; rw [if_neg h1, if_neg h2, if_neg h3, if_neg h4, if_pos h5, Bool.eq_iff_iff]; simp only [RestP.mk.injEq, Bool.and_eq_true, decide_eq_true_eq, e6]; exact ⟨fun ⟨a, b1, c, d⟩ => ⟨⟨by omega, by omega⟩, trivial, a, b1⟩, fun ⟨⟨c, d⟩, _, a, b1⟩ => ⟨a, b1, by omega, by omega⟩⟩)
  by_cases h6 : b.n.kind = 6
  · exact right_yes f ih b g ha ob 269 (by rw [h6]; simp [mlook, kindsM]) ⟨b.n.int, b.n.bits, b.n.bytes⟩ _ Tryz.func269 (kinds6_spec b ob) (by unfold kindOk; rw [if_neg h1, if_neg h2, if_neg h3, if_neg h4, if_neg h5, if_pos h6, Bool.eq_iff_iff]; simp only [RestP.mk.injEq, Bool.and_eq_true, decide_eq_true_eq, e6]; constructor <;> (intro h; simp only [h, and_self]))
  exact right_no f b g (look_none h1 h2 h3 h4 h5 h6) (by rw [right_eq]; unfold kindOk; rw [if_neg h1, if_neg h2, if_neg h3, if_neg h4, if_neg h5, if_neg h6]; rfl)
theorem right_spec2 : ∀ (f : Nat), RightS f
  | 0 => fun b g ha _ => by rw [deep_of] at ha; omega
  | f + 1 => right_step f (right_spec2 f)
end Go.Proofs.YtfopgaijfeeioaaGreat
/- TERMS: how they are opened. -/

set_option linter.unusedVariables false
set_option linter.unusedSimpArgs false
set_option maxRecDepth 100000
namespace Go.Proofs.YtfopgaijfeeioaaGreat
open Go Go.RowKit HL
theorem growN_snoc (g : List NodeP → Option (Br × List NodeP)) : ∀ (k : Nat) (l : List NodeP), growN g (k + 1) l = (growN g k l).bind fun q => (g q.2).map fun r => (q.1 ++ [r.1], r.2)
  | 0, l => by
    show (g l).bind _ = (some ([], l)).bind _
    simp only [growN, Option.bind_some, List.nil_append]
    cases g l <;> rfl
  | k + 1, l => by
    show (g l).bind _ = ((g l).bind _).bind _
    cases h : g l with
    | none => rfl
    | some q =>
      simp only [Option.bind_some]
      rw [growN_snoc g k q.2]
      cases h2 : growN g k q.2 with
      | none => rfl
      | some r =>
        simp only [Option.map_some, Option.bind_some]
        cases h3 : g r.2 <;> rfl
theorem growN_no {g : List NodeP → Option (Br × List NodeP)} {k : Nat} {l : List NodeP} {ks : List Br} {r : List NodeP} (h : growN g k l = some (ks, r)) (hn : g r = none) : ∀ n, k < n → growN g n l = none := fun n hk => by
  obtain ⟨j, rfl⟩ : ∃ j, n = k + 1 + j := ⟨n - (k + 1), by omega⟩
  induction j with
  | zero => rw [Nat.add_zero, growN_snoc, h, Option.bind_some, hn]; rfl
  | succ j ih =>
    rw [show k + 1 + (j + 1) = (k + 1 + j) + 1 by omega, growN_snoc, ih (by omega)]
    rfl
theorem grow_some {f : Nat} {l : List NodeP} {b : Br} {r : List NodeP} (h : grow f l = some (b, r)) : r.length < l.length ∧ r = l.drop (l.length - r.length) := by
  obtain ⟨e, _⟩ := grow_flat f l b r h
  have h1 := flat_pos b
  have h2 : l.length = b.flat.length + r.length := by rw [e, List.length_append]
  refine ⟨by omega, ?_⟩
  rw [show l.length - r.length = b.flat.length by omega]
  conv => rhs; rw [e]
  rw [List.drop_left]
theorem grow_head {f : Nat} {l : List NodeP} {n : Nat} (h0 : 0 < l.length) (hn : (l.getD 0 node0).kids = (n : Int)) (hk : n < l.length) : grow (f + 1) l = (growN (grow f) n (l.drop 1)).map fun q => (.mk (l.getD 0 node0) q.1, q.2) := by
  cases l with
  | nil => cases h0
  | cons x t =>
    have h1 : x.kids = (n : Int) := hn
    have h2 : n < t.length + 1 := hk
    unfold grow
    simp only
    rw [if_neg (by omega), h1]
    rfl
theorem grow_bad {f : Nat} {l : List NodeP} (h : l.length = 0 ∨ (l.getD 0 node0).kids < 0 ∨ (l.length : Int) ≤ (l.getD 0 node0).kids) : grow (f + 1) l = none := by
  cases l with
  | nil => rfl
  | cons x t =>
    have h1 : x.kids < 0 ∨ (t.length : Int) + 1 ≤ x.kids := by
      rcases h with h | h | h
      · cases h
      · exact .inl h
      · exact .inr (by have : (((x :: t).length : Nat) : Int) = t.length + 1 := by simp
                       rw [this] at h; exact h)
    unfold grow
    simp only
    rw [if_pos h1]
def TailN (A : Option Addr) (c o : Nat) (B : Option Addr) : Prop := o < c → B = tailA A c o 5
theorem TailN.step {A B B' : Option Addr} {c o m : Nat} (h : TailN A c o B) (h2 : TailN B (c - o) m B') : TailN A c (o + m) B' := fun hlt => by
  rw [h2 (by omega), h (by omega)]
  unfold tailA
  rw [if_neg (by omega), if_neg (by omega), if_neg (by omega)]
  cases A with
  | none => rfl
  | some a => simp [add_of_add, Nat.add_mul]
theorem der_tailN {H L : Hp} {A B : Option Addr} {c o : Nat} {l : List NodeP} (j : Nat) (hc : l.length ≤ c) (ho : o ≤ l.length) (hB : TailN A c o B) (h : lk2 H L j = some (Res.rd A nodeEn l) := by rfl) : Der H L [j] (Res.rd B nodeEn (l.drop o)) := by
  by_cases e : o < c
  · rw [hB e]
    exact Der.vw j h (view_tail (View.refl _) hc ho)
  · have e2 : l.drop o = [] := List.drop_eq_nil_of_le (by omega)
    rw [e2]
    exact ⟨fun w _ => by
      unfold Res.rd Res.fact
      exact .inl (by unfold En.dens; exact flat_nil), fun b hb => absurd rfl (fp_rd.1 hb).1⟩
theorem der_alr {H L : Hp} {rs : List Res} (j : Nat) (h : lk2 H L j = some (Res.bag rs) := by rfl) : Der H L [j] (Res.alr rs) :=
  ⟨fun w hf r hr => (hf j _ h).1 r hr, fun b ⟨r, hr, hb⟩ => ⟨j, by simp, _, h, r, hr, hb⟩⟩
namespace HL
section
variable {env : Env} {D : List Deferred} {n : Nat} {w0 : World} {M : Nat → Prop} {B L : Hp} {K : Act → World → Prop}
theorem k_merge (i j : Nat) {rs rs2 : List Res} (hr : lk L i = some (Res.bag rs) := by rfl) (hj : lk (del i L) j = some (Res.bag rs2) := by rfl) (h : Ho env D n w0 M B ((i, Res.bag (rs ++ rs2)) :: del j (del i L)) K) : Ho env D n w0 M B L K := fun a w hs => h a w ⟨hs.tm, hs.df, by
  have h1 : St w0 w M (Res.bag rs :: live (del i L)) := live_front hs.st hr
  have h2 : St w0 w M (Res.bag rs :: Res.bag rs2 :: live (del j (del i L))) := h1.perm ((live_perm _ _ (Nat.le_refl _) hj).cons _)
  have h3 : St w0 w M (Res.bag rs2 :: (rs ++ live (del j (del i L)))) := (h2.unbag).perm List.perm_middle
  have h4 : St w0 w M ((rs ++ rs2) ++ live (del j (del i L))) := (h3.unbag).perm (by
    rw [← List.append_assoc]
    exact (List.perm_append_comm).append_right _)
  exact live_new (St.bag h4), hs.bo⟩
end
end HL
abbrev noneE : List PanicEntry := [{ v := .iface 263 (SV.agg []).den, recovered := false }]
def GrowPost (f : Nat) (A : Option Addr) (c : Nat) (l : List NodeP) (o : Out) (L : List Res) : Prop :=
  (∃ (b : BH) (r : List NodeP) (B : Option Addr), grow f l = some (b.br, r) ∧ TailN A c (l.length - r.length) B ∧ o = .ret (.tup [bval b 0, .one (.sl 940 B r.length (c - (l.length - r.length)))]) ∧ L = [Res.rows b.A b.c 239 brEn b.ks, Res.bag (BH.rowsL b.ks)]) ∨ (grow f l = none ∧ o = .pan noneE ∧ L = [])
def GrowS (f : Nat) : Prop := ∀ (A : Option Addr) (c : Nat) (l : List NodeP), l.length < f → l.length ≤ c → l.length ≤ 1048576 → CSpec Tryz.prog 260 [.one (.sl 940 A l.length c)] [(940, Res.rd A nodeEn l)] [] (GrowPost f A c l)
end Go.Proofs.YtfopgaijfeeioaaGreat
/- TERMS: opened. -/

set_option linter.unusedVariables false
set_option linter.unusedSimpArgs false
set_option maxRecDepth 100000
namespace Go.Proofs.YtfopgaijfeeioaaGreat
open Go Go.RowKit HL
theorem grow_step (f : Nat) (ih : GrowS f) : GrowS (f + 1) := fun A c l hlt hc hl => by
  refine v_enter Tryz.func260 (h := fun w0 => ?_)
  refine v_code [] (hk := ?_)
  refine l_do d_alloc (fun g2 => ?_)
  refine v_ops [] (hk := ?_)
  first | refine c_ifd rfl (fun h23 => ?_) (fun h23 => ?_) | refine c_ifn rfl (fun h23 => ?_) (fun h23 => ?_) | refine c_if rfl (fun h23 => ?_) (fun h23 => ?_)
  · simp only [Bool.or_eq_true, decide_eq_true_eq] at h23
    refine v_code [] (hk := ?_)
    refine l_rd r_iface ?_
    refine l_panic (h := ?_)
    refine v_ex [] (hk := ?_)
    refine k_pan [] (h := ?_)
    exact .inr ⟨grow_bad (by omega), rfl, rfl⟩
  · simp only [Bool.or_eq_false_iff, decide_eq_false_iff_not] at h23
    have h0 : 0 < l.length := by omega
    obtain ⟨n, hn⟩ : ∃ n : Nat, (l.getD 0 node0).kids = (n : Int) := ⟨(l.getD 0 node0).kids.toNat, by omega⟩
    have hn2 : n < l.length := by omega
    have hgh := grow_head (f := f) h0 hn hn2
    refine v_code [] (hk := ?_)
    refine v_draw (.q 0 (.q 1 (.q 2 (.q 3 (.q 4 (.q 5 (.s 6 (.q 7 .nil)))))))) [10006, 10021, 10004, 22000, 22001, 22002, 22003, 10046, 10047, 10052, 10054] (hm := by kernel_rfl) (hs := by kernel_rfl) (hk := by kernel_rfl) (h := ?_)
    refine v_sch [] (hk := ?_)
    refine k_val 35 (vn n) rfl (by rw [hn]; rfl) ?_
    refine k_nil 10047 239 brEn ?_
    refine k_empty 950 ?_
    refine v_loop (fun m E H => ∃ (k : Nat) (ks : List BH) (o : Nat) (B : Option Addr) (rs : List Res) (A2 : Option Addr) (c2 : Nat), E = [(36, vn k), (3, .s (.one (.sl 940 B (l.length - o) (c - o))))] ∧ H = [(10002, Res.va g2 239 (SV.agg [.one (.i .i64 (l.getD 0 node0).kind), .one (.i .i64 (l.getD 0 node0).int), .one (.i .u64 (l.getD 0 node0).bits), .one (.s (l.getD 0 node0).bytes), .one (.i .i64 (l.getD 0 node0).kids), .one (.sl 10047 A2 ks.length c2), .one (.sl 51 none 0 0)]).ats), (10047, Res.rows A2 c2 239 brEn ks), (950, Res.bag rs)] ∧ m = n - k ∧ k ≤ n ∧ (growN (grow f) k (l.drop 1) = some (BH.brs ks, l.drop o)) ∧ (1 ≤ o ∧ o ≤ l.length) ∧ (TailN A c o B) ∧ (ks.length = k) ∧ (rs = BH.rowsL ks)) [0, 2, 35, 50, 51, 52, 53, 54, 55, 56, 57, 58, 59] (n) ([(36, vn 0), (3, .s (.one (.sl 940 (tailA A c 1 5) (l.length - (1)) (c - (1)))))]) ([(10002, Res.va g2 239 (SV.agg [.one (.i .i64 (l.getD 0 node0).kind), .one (.i .i64 (l.getD 0 node0).int), .one (.i .u64 (l.getD 0 node0).bits), .one (.s (l.getD 0 node0).bytes), .one (.i .i64 (l.getD 0 node0).kids), .one (.sl 10047 (none) ([]).length (0)), .one (.sl 51 none 0 0)]).ats), (10047, Res.rows (none) (0) 239 brEn ([])), (950, Res.bag ([]))]) (h0 := ⟨0, [], 1, tailA A c 1 5, [], none, 0, rfl, rfl, by omega, by omega, rfl, ⟨by omega, by omega⟩, fun _ => rfl, rfl, rfl⟩) (hr := ?_)
    rintro _ _ _ ⟨k, ks, o, B, rs, A2, c2, rfl, rfl, hmk, hk, hik0, hik1, hik2, hik3, hik4⟩
    refine v_code [] (hk := ?_)
    first | refine c_ifd rfl (fun h37 => ?_) (fun h37 => ?_) | refine c_ifn rfl (fun h37 => ?_) (fun h37 => ?_) | refine c_if rfl (fun h37 => ?_) (fun h37 => ?_)
    · refine v_code [] (hk := ?_)
      refine l_do d_alloc (fun g4 => ?_)
      refine v_ops [] (hk := ?_)
      refine k_val 39 (.s (.one (.sl 940 B (l.drop o).length (c - o)))) rfl (by rw [List.length_drop]) ?_
      refine v_callD 22000 [(940, 940), (900, 900), (901, 901), (910, 910), (911, 911), (920, 920), (921, 921), (930, 930), (931, 931)] (ih B (c - o) (l.drop o) (by rw [List.length_drop]; omega) (by rw [List.length_drop]; omega) (by rw [List.length_drop]; omega)) Tryz.func260 (hB := ⟨⟨_, (der_tailN 940 hc hik1.2 hik2), rfl⟩, trivial⟩) (h := ?_)
      rintro _ _ (⟨b, r, B2, hg, hB2, rfl, rfl⟩ | ⟨hg, rfl, rfl⟩)
      · obtain ⟨hr1, hr2⟩ := grow_some hg
        have e0 : (l.drop o).length = l.length - o := List.length_drop ..
        rw [e0] at hr1
        have e1 : l.length - (l.length - r.length) = r.length := by omega
        have e2 : c - (l.length - r.length) = c - o - ((l.drop o).length - r.length) := by omega
        have e3 : o + ((l.drop o).length - r.length) = l.length - r.length := by omega
        rw [List.drop_drop, e3] at hr2
        refine k_val 40 (.tup [brEn.f b, .one (.sl 940 B2 (l.length - (l.length - r.length)) (c - (l.length - r.length)))]) rfl (by rw [e1, e2]; rfl) ?_
        refine v_ops [] (hk := ?_)
        refine l_do (d_bslice [b]) (fun B46 => ?_)
        refine l_do d_append (fun p47 => ?_)
        refine v_ops [] (hk := ?_)
        refine k_push 950 22000 rfl rfl ?_
        refine k_merge 950 22001 rfl rfl ?_
        refine v_again (n - (k + 1)) ⟨k + 1, ks ++ [b], l.length - r.length, B2, (rs ++ [Res.rows b.A b.c 239 brEn b.ks]) ++ BH.rowsL b.ks, p47.1, p47.2, rfl, rfl, by omega, by omega, by rw [growN_snoc, hik0, Option.bind_some, hg, ← hr2, BH.brs_map, BH.brs_map, List.map_append]; rfl, ⟨by omega, by omega⟩, by rw [← e3]; exact hik2.step hB2, by simp [hik3], by rw [hik4, BH.rowsL_app, List.append_assoc]; show _ = BH.rowsL ks ++ (b.rows ++ []); rw [BH.rows_eq, List.append_nil]; rfl⟩
      · refine v_ex [] (hk := ?_)
        refine k_pan [] (h := ?_)
        exact .inr ⟨by rw [hgh, growN_no hik0 hg n h37]; rfl, rfl, rfl⟩
    · refine v_code [] (hk := ?_)
      subst hik4
      refine k_ret [10047, 950] ((.tup [bval (.mk (l.getD 0 node0) A2 c2 A ((l.length : Int) - ((l.length - o : Nat) : Int)).toNat c ks) 0, .one (.sl 940 B (l.length - o) (c - o))])) (.cons (.cell inferInstance rfl rfl rfl rfl) (.cons (.tmp rfl) .nil)) (h := ?_)
      have e0 : (l.drop o).length = l.length - o := List.length_drop ..
      have e4 : l.length - (l.drop o).length = o := by omega
      exact .inl ⟨.mk (l.getD 0 node0) A2 c2 A ((l.length : Int) - ((l.length - o : Nat) : Int)).toNat c ks, l.drop o, B, by rw [hgh, ← show k = n by omega, hik0]; rfl, by rw [e4]; exact hik2, by rw [e4, e0], rfl⟩
theorem grow_spec : ∀ (f : Nat), GrowS f
  | 0 => fun A c l h => absurd h (by omega)
  | f + 1 => grow_step f (grow_spec f)
end Go.Proofs.YtfopgaijfeeioaaGreat
/- TERMS: open, fits, right. -/

set_option linter.unusedVariables false
set_option linter.unusedSimpArgs false
set_option maxRecDepth 100000
namespace Go.Proofs.YtfopgaijfeeioaaGreat
open Go Go.RowKit HL
theorem open1_ret (g2 g3 : Nat) (b : BH) (q : Bool) : CSpecD Tryz.prog 259 [.one (.ptr 0 ⟨g2, 0, none⟩), .one (.ptr 1 ⟨g3, 0, none⟩)] [] [(0, Res.va g2 239 (bval b 7).ats), (1, Res.va g3 4 [.one (.b q)])] .returning fun r u L => r = .ret (.tup []) ∧ u = .returning ∧ L = [Res.va g2 239 (bval b 7).ats, Res.va g3 4 [.one (.b q)]] := by
  refine d_enter Tryz.func259 (h := fun w0 c₀ cs0 hu => ?_)
  refine d_seq ?_
  refine d_region ?_
  refine d_norecover hu (h := ?_)
  refine v_ops [] (hk := ?_)
  refine d_ret rfl [0, 1] (.tup []) .nil (h := ?_)
  exact ⟨rfl, rfl, rfl⟩
theorem open1_pan (g2 g3 : Nat) (b : BH) (q : Bool) : CSpecD Tryz.prog 259 [.one (.ptr 0 ⟨g2, 0, none⟩), .one (.ptr 1 ⟨g3, 0, none⟩)] [] [(0, Res.va g2 239 (bval b 7).ats), (1, Res.va g3 4 [.one (.b q)])] (.panicking noneE) fun r u L => r = .ret (.tup []) ∧ settle u = .returning ∧ L = [Res.va g2 239 (bval bh0 7).ats, Res.va g3 4 [.one (.b false)]] := by
  refine d_enter Tryz.func259 (h := fun w0 c₀ cs0 hu => ?_)
  refine d_seq ?_
  refine d_region ?_
  refine d_recover (.s (.one (.ifv 263 (SV.agg []).den))) rfl hu (h := ?_)
  refine v_ops [] (hk := ?_)
  refine l_rd r_assertY ?_
  refine v_ops [] (hk := ?_)
  refine l_do d_alloc (fun g3 => ?_)
  refine v_ops [] (hk := ?_)
  refine v_know 14 false rfl rfl ?_
  refine v_code [] (hk := ?_)
  refine d_ret rfl [0, 1] (.tup []) .nil (h := ?_)
  exact ⟨rfl, rfl, rfl⟩
def OpenPost (l : List NodeP) (o : Out) (L : List Res) : Prop :=
  (∃ (b : BH) (r : List NodeP), grow (l.length + 1) l = some (b.br, r) ∧ o = .ret (.tup [bval b 0, .one (.b (decide (r.length = 0)))]) ∧ L = [Res.rows b.A b.c 239 brEn b.ks, Res.bag (BH.rowsL b.ks)]) ∨ (grow (l.length + 1) l = none ∧ o = .ret (.tup [bval bh0 0, .one (.b false)]) ∧ L = [])
theorem open_spec (A : Option Addr) (c : Nat) (l : List NodeP) (hc : l.length ≤ c) (hl : l.length ≤ 1048576) : CSpec Tryz.prog 206 [.agg [.one (.sl 940 A l.length c)]] [(940, Res.rd A nodeEn l)] [] (OpenPost l) := by
  refine v_enterD Tryz.func206 (h := fun w0 => ?_)
  refine v_code [] (hk := ?_)
  refine l_do d_box (fun g1 => ?_)
  refine l_do d_alloc (fun g2 => ?_)
  refine l_do d_alloc (fun g3 => ?_)
  refine v_ops [] (hk := ?_)
  refine l_defer (h := ?_)
  refine v_ops [] (hk := ?_)
  refine v_call 20450 [(940, 940), (900, 900), (901, 901), (910, 910), (911, 911), (920, 920), (921, 921), (930, 930), (931, 931)] (grow_spec (l.length + 1) A c l (Nat.lt_succ_self _) hc hl) Tryz.func260 (h := ?_)
  rintro _ _ (⟨b, r, B, hg, hB, rfl, rfl⟩ | ⟨hg, rfl, rfl⟩)
  · refine v_ops [] (hk := ?_)
    refine v_leave _ rfl ?_
    refine v_defers (args := []) 30000 (fun x => if x = 0 then 10002 else if x = 1 then 10003 else x) (open1_ret g2 g3 b (decide (r.length = 0))) Tryz.func259 (h := ?_)
    rintro _ _ _ ⟨rfl, rfl, rfl⟩
    refine k_ren 30000 10002 rfl ?_
    refine k_ren 30001 10003 rfl ?_
    refine v_left [20450, 20451] (.tup [bval b 0, .one (.b (decide (r.length = 0)))]) (.cons (.cell inferInstance rfl rfl rfl rfl) (.cons (.cell inferInstance rfl rfl rfl rfl) .nil)) (h := ?_)
    exact .inl ⟨b, r, hg, rfl, rfl⟩
  · refine v_ex [] (hk := ?_)
    refine v_leave _ rfl ?_
    refine v_defers (args := []) 30000 (fun x => if x = 0 then 10002 else if x = 1 then 10003 else x) (open1_pan g2 g3 bh0 false) Tryz.func259 (h := ?_)
    rintro _ _ _ ⟨rfl, hu, rfl⟩
    rw [hu]
    refine k_ren 30000 10002 rfl ?_
    refine k_ren 30001 10003 rfl ?_
    refine v_left [] (.tup [bval bh0 0, .one (.b false)]) (.cons (.cell inferInstance rfl rfl rfl rfl) (.cons (.cell inferInstance rfl rfl rfl rfl) .nil)) (h := ?_)
    exact .inr ⟨hg, rfl, rfl⟩
end Go.Proofs.YtfopgaijfeeioaaGreat
/- TERMS: fits, right. -/

set_option linter.unusedVariables false
set_option linter.unusedSimpArgs false
set_option maxRecDepth 100000
namespace Go.Proofs.YtfopgaijfeeioaaGreat
open Go Go.RowKit HL
theorem fits_no {l : List NodeP} {most deep : Nat} (h : grow (l.length + 1) l = none) : fitsT l most deep = false := by
  unfold fitsT
  rw [h, Bool.and_false]
theorem fits_rest {l : List NodeP} {most deep : Nat} {b : Br} {r : List NodeP} (h : grow (l.length + 1) l = some (b, r)) (hr : ¬ r.length = 0) : fitsT l most deep = false := by
  unfold fitsT
  rw [h]
  cases r with
  | nil => exact absurd rfl hr
  | cons => exact Bool.and_false _
theorem fits_yes {l : List NodeP} {most deep : Nat} {b : Br} {r : List NodeP} (h : grow (l.length + 1) l = some (b, r)) (hr : r.length = 0) (hm : l.length ≤ most) : fitsT l most deep = (decide (b.deep ≤ deep) && b.right) := by
  unfold fitsT
  rw [h]
  cases r with
  | nil => rw [decide_eq_true hm, Bool.true_and]
  | cons => cases hr
theorem fits_many {l : List NodeP} {most deep : Nat} (hm : ¬ l.length ≤ most) : fitsT l most deep = false := by
  unfold fitsT
  rw [decide_eq_false hm, Bool.false_and]
theorem okB_of {l : List NodeP} {b : BH} {r : List NodeP} {f : Nat} (h : grow f l = some (b.br, r)) (hl : l.length ≤ 1048576) (hf : ∀ n ∈ l, FitN n) : OkB b := by
  obtain ⟨e, _⟩ := grow_flat f l _ r h
  refine ⟨?_, fun n hn => hf n (by rw [e]; exact List.mem_append_left _ hn)⟩
  unfold Few
  rw [e, List.length_append] at hl
  omega
mutual
theorem deep_flat : ∀ (b : Br), b.deep ≤ b.flat.length
  | .mk n ks => by
    have := deeps_flats ks
    show Br.deeps ks + 1 ≤ (n :: Br.flats ks).length
    rw [List.length_cons]
    omega
theorem deeps_flats : ∀ (l : List Br), Br.deeps l ≤ (Br.flats l).length
  | [] => Nat.le_refl _
  | b :: bs => by
    have h1 := deep_flat b
    have h2 := deeps_flats bs
    show max b.deep (Br.deeps bs) ≤ (b.flat ++ Br.flats bs).length
    rw [List.length_append]
    omega
end
theorem fits_spec (A : Option Addr) (c : Nat) (l : List NodeP) (most deep : Nat) (hc : l.length ≤ c) (hl : l.length ≤ 1048576) (hf : ∀ n ∈ l, FitN n) : CSpec Tryz.prog 128 [.agg [.one (.sl 940 A l.length c)], .one (.i .i64 most), .one (.i .i64 deep)] [(940, Res.rd A nodeEn l)] [] fun o L => o = .ret (vb (fitsT l most deep)) ∧ L = [] := by
  refine v_enter Tryz.func128 (h := fun w0 => ?_)
  refine v_code [] (hk := ?_)
  refine l_do d_box (fun g3 => ?_)
  refine v_ops [] (hk := ?_)
  first | refine c_ifd rfl (fun h13 => ?_) (fun h13 => ?_) | refine c_ifn rfl (fun h13 => ?_) (fun h13 => ?_) | refine c_if rfl (fun h13 => ?_) (fun h13 => ?_)
  · refine v_code [] (hk := ?_)
    refine v_ret rfl [] (.cons (.tmp rfl) .nil) (h := ?_)
    exact ⟨outB (fits_many (by omega)).symm, rfl⟩
  · refine v_code [] (hk := ?_)
    refine v_call 20800 [(940, 940), (900, 900), (901, 901), (910, 910), (911, 911), (920, 920), (921, 921), (930, 930), (931, 931)] (open_spec A c l hc hl) Tryz.func206 (h := ?_)
    rintro _ _ (⟨b, r, hg, rfl, rfl⟩ | ⟨hg, rfl, rfl⟩)
    · have ob := okB_of hg hl hf
      have hfew : b.br.deep ≤ 1048576 := by have := deep_flat b.br; have := ob.few; unfold Few at this; omega
      refine v_ops [] (hk := ?_)
      refine l_do d_alloc (fun g7 => ?_)
      refine v_ops [] (hk := ?_)
      refine v_draw (.q 0 (.q 1 (.q 2 (.q 4 (.s 3 (.q 5 (.q 6 (.q 7 (.q 8 (.s 9 (.s 10 (.q 11 (.q 12 .nil))))))))))))) [10003, 10011, 20800, 20801, 20802, 20803, 10007, 21100, 21101, 21102, 21103, 21400, 21401, 21402, 21403, 21450, 21451, 21452, 21453] (hm := by kernel_rfl) (hs := by kernel_rfl) (hk := by kernel_rfl) (h := ?_)
      refine v_sch [] (hk := ?_)
      refine v_caseC 20 rfl (fun c20 => ?_) (fun c20 => ?_)
      · refine v_sch [] (hk := ?_)
        refine k_valC 21 (.s (bval b 20800)) rfl (if_pos c20) ?_
        refine k_valC 23 (.s (.one (.i .i64 deep))) rfl (if_pos c20) ?_
        refine k_valC 20 (vb true) rfl rfl ?_
        refine v_callDS rfl 21100 [(900, 900), (901, 901), (910, 910), (911, 911), (920, 920), (921, 921), (930, 930), (931, 931)] (deep_spec 1048576 (Nat.le_refl _) b hfew ob.few) Tryz.func207 (hB := ⟨⟨_, (Der.vw 20800), rfl⟩, ⟨⟨_, (der_alr 20801), rfl⟩, trivial⟩⟩) (h := ?_)
        rintro _ _ (⟨rfl, rfl⟩)
        refine ⟨cov_of (by repeat (first | exact trivial | refine ⟨rfl, ?_⟩)), ?_⟩
        refine v_knowC 20 true rfl rfl ?_
        refine v_sch [] (hk := ?_)
        refine v_caseC 26 rfl (fun c26 => ?_) (fun c26 => ?_)
        · refine v_sch [] (hk := ?_)
          refine k_valC 26 (vb true) rfl rfl ?_
          refine v_callDS rfl 21400 [(900, 900), (901, 901), (910, 910), (911, 911), (920, 920), (921, 921), (930, 930), (931, 931)] (kinds_spec) Tryz.func209 (hB := trivial) (h := ?_)
          rintro _ _ (⟨gm, rfl, rfl⟩)
          refine ⟨cov_of (by repeat (first | exact trivial | refine ⟨rfl, ?_⟩)), ?_⟩
          refine k_valC 27 (.s (bval b 20800)) rfl (if_pos c26) ?_
          refine v_callDS rfl 21450 [(900, 900), (901, 901), (910, 910), (911, 911), (920, 920), (921, 921), (930, 930), (931, 931)] (right_spec2 1048576 b gm hfew ob) Tryz.func208 (hB := ⟨⟨_, (Der.vw 20800), rfl⟩, ⟨⟨_, (der_alr 20801), rfl⟩, ⟨⟨_, (Der.vw 21400), rfl⟩, trivial⟩⟩⟩) (h := ?_)
          rintro _ _ (⟨rfl, rfl⟩)
          refine ⟨cov_of (by repeat (first | exact trivial | refine ⟨rfl, ?_⟩)), ?_⟩
          refine v_knowC 26 true rfl rfl ?_
          refine v_sch [] (hk := ?_)
          refine v_ret rfl [] (.cons (.tmp rfl) .nil) (h := ?_)
          exact ⟨outB (by rw [fits_yes hg (of_decide_eq_true c20) (by omega), decide_eq_true (show b.br.deep ≤ deep by have := of_decide_eq_true c26; omega)]; rfl), rfl⟩
        · refine v_sch [] (hk := ?_)
          refine v_ret rfl [] (.cons (.tmp rfl) .nil) (h := ?_)
          exact ⟨outB (by rw [fits_yes hg (of_decide_eq_true c20) (by omega), decide_eq_false (show ¬ b.br.deep ≤ deep by have := of_decide_eq_false c26; omega)]; rfl), rfl⟩
      · refine v_sch [] (hk := ?_)
        refine v_ret rfl [] (.cons (.tmp rfl) .nil) (h := ?_)
        exact ⟨outB (fits_rest hg (of_decide_eq_false c20)).symm, rfl⟩
    · refine k_val 16 (.tup [bval bh0 0, .one (.kb false)]) rfl rfl ?_
      refine v_ops [] (hk := ?_)
      refine l_do d_alloc (fun g7 => ?_)
      refine v_ops [] (hk := ?_)
      refine v_draw (.q 0 (.q 1 (.q 2 (.q 4 (.s 3 (.q 5 (.q 6 (.q 7 (.q 8 (.s 9 (.s 10 (.q 11 (.q 12 .nil))))))))))))) [10003, 10011, 20800, 20801, 20802, 20803, 10007, 21100, 21101, 21102, 21103, 21400, 21401, 21402, 21403, 21450, 21451, 21452, 21453] (hm := by kernel_rfl) (hs := by kernel_rfl) (hk := by kernel_rfl) (h := ?_)
      refine v_sch [] (hk := ?_)
      refine v_ret rfl [] (.cons (.tmp rfl) .nil) (h := ?_)
      exact ⟨outB (fits_no hg).symm, rfl⟩
theorem rightT_spec (A : Option Addr) (c : Nat) (l : List NodeP) (hc : l.length ≤ c) (hl : l.length ≤ 1048576) (hf : ∀ n ∈ l, FitN n) : CSpec Tryz.prog 65 [.agg [.one (.sl 940 A l.length c)]] [(940, Res.rd A nodeEn l)] [] fun o L => o = .ret (vb (rightT l)) ∧ L = [] := by
  refine v_enter Tryz.func65 (h := fun w0 => ?_)
  refine v_code [] (hk := ?_)
  refine l_do d_box (fun g1 => ?_)
  refine v_ops [] (hk := ?_)
  refine v_call 20200 [(940, 940), (900, 900), (901, 901), (910, 910), (911, 911), (920, 920), (921, 921), (930, 930), (931, 931)] (fits_spec A c l 100 16 hc hl hf) Tryz.func128 (h := ?_)
  rintro _ _ (⟨rfl, rfl⟩)
  refine v_ops [] (hk := ?_)
  refine v_ret rfl [] (.cons (.tmp rfl) .nil) (h := ?_)
  exact ⟨rfl, rfl⟩
end Go.Proofs.YtfopgaijfeeioaaGreat
/- OUTPUTS: what is right. -/

set_option linter.unusedVariables false
set_option linter.unusedSimpArgs false
set_option maxRecDepth 100000
namespace Go.Proofs.YtfopgaijfeeioaaGreat
open Go Go.RowKit HL
structure OutM where
  c : OutC
  A : Option Addr
  cA : Nat
  B : Option Addr
  cB : Nat
abbrev oval (o : OutM) (i j : Nat) : SV := .agg [.one (.b o.c.prog), .hash o.c.hash, .one (.i .i64 o.c.val.coin), .one (.sl i o.A o.c.val.assets.length o.cA), .one (.i .i64 o.c.datum), .hash o.c.dh, .one (.sl j o.B o.c.nodes.length o.cB)]
structure OkO (o : OutM) : Prop where
  a : o.c.val.assets.length ≤ 1048576
  n : o.c.nodes.length ≤ 1048576
  r : o.c.nodes.length ≤ o.cB
  f : ∀ n ∈ o.c.nodes, FitN n
theorem ro1_spec (g3 g4 g1 : Nat) (x : OutM) : CSpec Tryz.prog 62 [.one (.ptr 0 ⟨g3, 0, none⟩), .one (.ptr 1 ⟨g4, 0, none⟩)] [(0, Res.va g3 4 [.one (.b (!decide (x.c.dh = hz)))]), (1, Res.va g4 4 [.one (.b (decide (0 < x.c.nodes.length)))]), (2, Res.va g1 41 (oval x 941 940).ats), (940, Res.rd x.B nodeEn x.c.nodes)] [] fun o L => o = .ret (vb (decide (x.c.dh = hz) && decide (x.c.nodes.length = 0))) ∧ L = [] := by
  refine v_enter Tryz.func62 (h := fun w0 => ?_)
  refine v_code [] (hk := ?_)
  refine v_ret rfl [] (.cons (.tmp rfl) .nil) (h := ?_)
  refine ⟨outB ?_, rfl⟩
  rw [Bool.eq_iff_iff]
  simp only [Bool.and_eq_true, Bool.not_eq_true', Bool.not_eq_false', decide_eq_true_eq, decide_eq_false_iff_not, ne_eq, Decidable.not_not, Nat.not_lt, Nat.le_zero]
theorem ro2_spec (g3 g4 g1 : Nat) (x : OutM) : CSpec Tryz.prog 63 [.one (.ptr 1 ⟨g4, 0, none⟩)] [(0, Res.va g3 4 [.one (.b (!decide (x.c.dh = hz)))]), (1, Res.va g4 4 [.one (.b (decide (0 < x.c.nodes.length)))]), (2, Res.va g1 41 (oval x 941 940).ats), (940, Res.rd x.B nodeEn x.c.nodes)] [] fun o L => o = .ret (vb (decide (x.c.nodes.length = 0))) ∧ L = [] := by
  refine v_enter Tryz.func63 (h := fun w0 => ?_)
  refine v_code [] (hk := ?_)
  refine v_ret rfl [] (.cons (.tmp rfl) .nil) (h := ?_)
  refine ⟨outB ?_, rfl⟩
  rw [Bool.eq_iff_iff]
  simp only [Bool.and_eq_true, Bool.not_eq_true', Bool.not_eq_false', decide_eq_true_eq, decide_eq_false_iff_not, ne_eq, Decidable.not_not, Nat.not_lt, Nat.le_zero]
theorem ro3_spec (g3 g4 g1 : Nat) (x : OutM) (hx : OkO x) : CSpec Tryz.prog 64 [.one (.ptr 0 ⟨g3, 0, none⟩), .one (.ptr 2 ⟨g1, 0, none⟩)] [(0, Res.va g3 4 [.one (.b (!decide (x.c.dh = hz)))]), (1, Res.va g4 4 [.one (.b (decide (0 < x.c.nodes.length)))]), (2, Res.va g1 41 (oval x 941 940).ats), (940, Res.rd x.B nodeEn x.c.nodes)] [] fun o L => o = .ret (vb (decide (x.c.dh = hz) && rightT x.c.nodes)) ∧ L = [] := by
  refine v_enter Tryz.func64 (h := fun w0 => ?_)
  refine v_code [] (hk := ?_)
  refine l_callG [(940, 940), (900, 900), (901, 901), (910, 910), (911, 911), (920, 920), (921, 921), (930, 930), (931, 931)] [7] ⟨_, _, ⟨_, .inl ⟨rfl, rfl⟩⟩, rfl, rfl⟩ (fun hg => rightT_spec x.B x.cB x.c.nodes hx.r hx.n hx.f) Tryz.func65 (h := ?_)
  refine v_ops [] (hk := ?_)
  refine v_ret rfl [] (.cons (.tmp rfl) .nil) (h := ?_)
  refine ⟨outB ?_, rfl⟩
  rw [Bool.eq_iff_iff]
  simp only [Bool.and_eq_true, Bool.not_eq_true', Bool.not_eq_false', decide_eq_true_eq, decide_eq_false_iff_not, ne_eq, Decidable.not_not]
abbrev pa (g : Nat) : Value := .pointer (some ⟨g, 0, none⟩)
abbrev roM (g3 g4 g1 : Nat) : List (Int × FnV × Nat) := [(0, some (62, [pa g3, pa g4]), 0), (1, some (63, [pa g4]), 1), (2, some (64, [pa g3, pa g1]), 2)]
instance : KeyT Tryz.prog 36 (intEn .i64) := ⟨keyOk_int Tryz.underlying36⟩
theorem rout_none (x : OutM) (hx : OkO x) (hk : ∀ g3 g4 g1, mlook (roM g3 g4 g1) x.c.datum = none) (hr : rightO x.c = false) : CSpec Tryz.prog 16 [oval x 941 940] [(941, Res.rd x.A assetEn x.c.val.assets), (940, Res.rd x.B nodeEn x.c.nodes)] [] fun o L => o = .ret (vb (rightO x.c)) ∧ L = [] := by
  refine v_enter Tryz.func16 (h := fun w0 => ?_)
  refine v_code [] (hk := ?_)
  refine l_do d_box (fun g1 => ?_)
  refine v_ops [] (hk := ?_)
  refine v_draw (.q 0 (.q 1 (.q 2 (.q 3 (.q 4 (.q 5 (.q 6 (.q 7 (.q 8 (.s2 9 (.s 10 (.s 11 (.s 12 .nil))) 10 (.s 9 (.s 11 (.s 12 .nil))))))))))))) [10001, 10013, 10015, 21350, 21351, 21352, 21353, 21600, 21601, 21602, 21603] (hm := by kernel_rfl) (hs := by kernel_rfl) (hk := by kernel_rfl) (h := ?_)
  refine v_sch [] (hk := ?_)
  refine q_rd rfl (r_buildH [] trivial) ?_
  refine k_valC 8 (vh hz) rfl rfl ?_
  refine v_sch [] (hk := ?_)
  refine s_two ?_ ?_
  · refine s_do rfl d_alloc (fun g3 => ?_)
    refine s_do rfl d_alloc (fun g4 => ?_)
    refine v_sch [] (hk := ?_)
    refine l_do (d_makeMap (intEn .i64) fnEn) (fun g15 => ?_)
    refine v_ops [] (hk := ?_)
    refine k_val 16 (.s (fnEn.f (some (62, [pa g3, pa g4])))) rfl rfl ?_
    refine l_do1 (d_insert (k := (0 : Int)) (v := some (62, [pa g3, pa g4]))) ?_
    refine v_ops [] (hk := ?_)
    refine k_val 17 (.s (fnEn.f (some (63, [pa g4])))) rfl rfl ?_
    refine l_do1 (d_insert (k := (1 : Int)) (v := some (63, [pa g4]))) ?_
    refine v_ops [] (hk := ?_)
    refine k_val 18 (.s (fnEn.f (some (64, [pa g3, pa g1])))) rfl rfl ?_
    refine l_do1 (d_insert (k := (2 : Int)) (v := some (64, [pa g3, pa g1]))) ?_
    refine v_ops [] (hk := ?_)
    refine k_res 10015 (Res.mp g15 (intEn .i64) fnEn (roM g3 g4 g1) 3) rfl (by simp [mput, mclk, mhas, mlook, mset, roM]; rfl) ?_
    refine l_rd (r_lookup1 (k := x.c.datum) (zv := none) (Ev := fnEn)) ?_
    refine k_val 22 (.s (fnEn.f (none))) rfl (by rw [hk]; rfl) ?_
    refine v_ops [] (hk := ?_)
    refine l_rd (r_neNilFn (by kernel_rfl)) ?_
    refine k_val 24 (vk false) rfl rfl ?_
    refine v_ops [] (hk := ?_)
    refine v_ret rfl [] (.cons (.tmp rfl) .nil) (h := ?_)
    exact ⟨outB hr.symm, rfl⟩
  · refine s_do rfl d_alloc (fun g4 => ?_)
    refine s_do rfl d_alloc (fun g3 => ?_)
    refine v_sch [] (hk := ?_)
    refine l_do (d_makeMap (intEn .i64) fnEn) (fun g15 => ?_)
    refine v_ops [] (hk := ?_)
    refine k_val 16 (.s (fnEn.f (some (62, [pa g3, pa g4])))) rfl rfl ?_
    refine l_do1 (d_insert (k := (0 : Int)) (v := some (62, [pa g3, pa g4]))) ?_
    refine v_ops [] (hk := ?_)
    refine k_val 17 (.s (fnEn.f (some (63, [pa g4])))) rfl rfl ?_
    refine l_do1 (d_insert (k := (1 : Int)) (v := some (63, [pa g4]))) ?_
    refine v_ops [] (hk := ?_)
    refine k_val 18 (.s (fnEn.f (some (64, [pa g3, pa g1])))) rfl rfl ?_
    refine l_do1 (d_insert (k := (2 : Int)) (v := some (64, [pa g3, pa g1]))) ?_
    refine v_ops [] (hk := ?_)
    refine k_res 10015 (Res.mp g15 (intEn .i64) fnEn (roM g3 g4 g1) 3) rfl (by simp [mput, mclk, mhas, mlook, mset, roM]; rfl) ?_
    refine l_rd (r_lookup1 (k := x.c.datum) (zv := none) (Ev := fnEn)) ?_
    refine k_val 22 (.s (fnEn.f (none))) rfl (by rw [hk]; rfl) ?_
    refine v_ops [] (hk := ?_)
    refine l_rd (r_neNilFn (by kernel_rfl)) ?_
    refine k_val 24 (vk false) rfl rfl ?_
    refine v_ops [] (hk := ?_)
    refine v_ret rfl [] (.cons (.tmp rfl) .nil) (h := ?_)
    exact ⟨outB hr.symm, rfl⟩
theorem rout_gen (x : OutM) (hx : OkO x) (i : FuncId) {fn : Func} (all : Nat → Nat → Nat → List SV) (q : Bool) (hk : ∀ g3 g4 g1, mlook (roM g3 g4 g1) x.c.datum = some (some (i, (all g3 g4 g1).map SV.den))) (hf : Tryz.prog.funcs[i]? = some fn) (hs : ∀ g3 g4 g1, CSpec Tryz.prog i (all g3 g4 g1) [(0, Res.va g3 4 [.one (.b (!decide (x.c.dh = hz)))]), (1, Res.va g4 4 [.one (.b (decide (0 < x.c.nodes.length)))]), (2, Res.va g1 41 (oval x 941 940).ats), (940, Res.rd x.B nodeEn x.c.nodes)] [] fun o L => o = .ret (vb q) ∧ L = []) (hr : rightO x.c = (q && rightV x.c.val)) (hfb : fn.body.isNone = false := by rfl) (hfn : (fn.name == "runtime.NumGoroutine") = false := by rfl) : CSpec Tryz.prog 16 [oval x 941 940] [(941, Res.rd x.A assetEn x.c.val.assets), (940, Res.rd x.B nodeEn x.c.nodes)] [] fun o L => o = .ret (vb (rightO x.c)) ∧ L = [] := by
  refine v_enter Tryz.func16 (h := fun w0 => ?_)
  refine v_code [] (hk := ?_)
  refine l_do d_box (fun g1 => ?_)
  refine v_ops [] (hk := ?_)
  refine v_draw (.q 0 (.q 1 (.q 2 (.q 3 (.q 4 (.q 5 (.q 6 (.q 7 (.q 8 (.s2 9 (.s 10 (.s 11 (.s 12 .nil))) 10 (.s 9 (.s 11 (.s 12 .nil))))))))))))) [10001, 10013, 10015, 21350, 21351, 21352, 21353, 21600, 21601, 21602, 21603] (hm := by kernel_rfl) (hs := by kernel_rfl) (hk := by kernel_rfl) (h := ?_)
  refine v_sch [] (hk := ?_)
  refine q_rd rfl (r_buildH [] trivial) ?_
  refine k_valC 8 (vh hz) rfl rfl ?_
  refine v_sch [] (hk := ?_)
  refine s_two ?_ ?_
  · refine s_do rfl d_alloc (fun g3 => ?_)
    refine s_do rfl d_alloc (fun g4 => ?_)
    refine v_sch [] (hk := ?_)
    refine l_do (d_makeMap (intEn .i64) fnEn) (fun g15 => ?_)
    refine v_ops [] (hk := ?_)
    refine k_val 16 (.s (fnEn.f (some (62, [pa g3, pa g4])))) rfl rfl ?_
    refine l_do1 (d_insert (k := (0 : Int)) (v := some (62, [pa g3, pa g4]))) ?_
    refine v_ops [] (hk := ?_)
    refine k_val 17 (.s (fnEn.f (some (63, [pa g4])))) rfl rfl ?_
    refine l_do1 (d_insert (k := (1 : Int)) (v := some (63, [pa g4]))) ?_
    refine v_ops [] (hk := ?_)
    refine k_val 18 (.s (fnEn.f (some (64, [pa g3, pa g1])))) rfl rfl ?_
    refine l_do1 (d_insert (k := (2 : Int)) (v := some (64, [pa g3, pa g1]))) ?_
    refine v_ops [] (hk := ?_)
    refine k_res 10015 (Res.mp g15 (intEn .i64) fnEn (roM g3 g4 g1) 3) rfl (by simp [mput, mclk, mhas, mlook, mset, roM]; rfl) ?_
    refine l_rd (r_lookup1 (k := x.c.datum) (zv := none) (Ev := fnEn)) ?_
    refine k_val 22 (.s (fnEn.f (some (i, (all g3 g4 g1).map SV.den)))) rfl (by rw [hk]; rfl) ?_
    refine v_ops [] (hk := ?_)
    refine l_rd (r_neNilFn (by kernel_rfl)) ?_
    refine k_val 24 (vk true) rfl rfl ?_
    refine v_ops [] (hk := ?_)
    refine k_val 25 (vb true) rfl rfl ?_
    refine v_callD 21350 [(900, 900), (901, 901), (910, 910), (911, 911), (920, 920), (921, 921), (930, 930), (931, 931)] (hs g3 g4 g1) hf (hB := ⟨⟨_, (Der.vw 10003), rfl⟩, ⟨⟨_, (Der.vw 10004), rfl⟩, ⟨⟨_, (Der.vw 10001), rfl⟩, ⟨⟨_, (Der.vw 940), rfl⟩, trivial⟩⟩⟩⟩) (hb := hfb) (hn := hfn) (h := ?_)
    rintro _ _ (⟨rfl, rfl⟩)
    refine v_know 25 true rfl rfl ?_
    refine v_ops [] (hk := ?_)
    refine l_callG [(101, 941), (900, 900), (901, 901), (910, 910), (911, 911), (920, 920), (921, 921), (930, 930), (931, 931)] [31] ⟨_, _, ⟨_, .inl ⟨rfl, rfl⟩⟩, rfl, rfl⟩ (fun hg => right_spec x.c.val.coin x.A x.c.val.assets x.cA hx.a) Tryz.func66 (h := ?_)
    refine v_ops [] (hk := ?_)
    refine v_ret rfl [] (.cons (.tmp rfl) .nil) (h := ?_)
    exact ⟨outB hr.symm, rfl⟩
  · refine s_do rfl d_alloc (fun g4 => ?_)
    refine s_do rfl d_alloc (fun g3 => ?_)
    refine v_sch [] (hk := ?_)
    refine l_do (d_makeMap (intEn .i64) fnEn) (fun g15 => ?_)
    refine v_ops [] (hk := ?_)
    refine k_val 16 (.s (fnEn.f (some (62, [pa g3, pa g4])))) rfl rfl ?_
    refine l_do1 (d_insert (k := (0 : Int)) (v := some (62, [pa g3, pa g4]))) ?_
    refine v_ops [] (hk := ?_)
    refine k_val 17 (.s (fnEn.f (some (63, [pa g4])))) rfl rfl ?_
    refine l_do1 (d_insert (k := (1 : Int)) (v := some (63, [pa g4]))) ?_
    refine v_ops [] (hk := ?_)
    refine k_val 18 (.s (fnEn.f (some (64, [pa g3, pa g1])))) rfl rfl ?_
    refine l_do1 (d_insert (k := (2 : Int)) (v := some (64, [pa g3, pa g1]))) ?_
    refine v_ops [] (hk := ?_)
    refine k_res 10015 (Res.mp g15 (intEn .i64) fnEn (roM g3 g4 g1) 3) rfl (by simp [mput, mclk, mhas, mlook, mset, roM]; rfl) ?_
    refine l_rd (r_lookup1 (k := x.c.datum) (zv := none) (Ev := fnEn)) ?_
    refine k_val 22 (.s (fnEn.f (some (i, (all g3 g4 g1).map SV.den)))) rfl (by rw [hk]; rfl) ?_
    refine v_ops [] (hk := ?_)
    refine l_rd (r_neNilFn (by kernel_rfl)) ?_
    refine k_val 24 (vk true) rfl rfl ?_
    refine v_ops [] (hk := ?_)
    refine k_val 25 (vb true) rfl rfl ?_
    refine v_callD 21350 [(900, 900), (901, 901), (910, 910), (911, 911), (920, 920), (921, 921), (930, 930), (931, 931)] (hs g3 g4 g1) hf (hB := ⟨⟨_, (Der.vw 10003), rfl⟩, ⟨⟨_, (Der.vw 10004), rfl⟩, ⟨⟨_, (Der.vw 10001), rfl⟩, ⟨⟨_, (Der.vw 940), rfl⟩, trivial⟩⟩⟩⟩) (hb := hfb) (hn := hfn) (h := ?_)
    rintro _ _ (⟨rfl, rfl⟩)
    refine v_know 25 true rfl rfl ?_
    refine v_ops [] (hk := ?_)
    refine l_callG [(101, 941), (900, 900), (901, 901), (910, 910), (911, 911), (920, 920), (921, 921), (930, 930), (931, 931)] [31] ⟨_, _, ⟨_, .inl ⟨rfl, rfl⟩⟩, rfl, rfl⟩ (fun hg => right_spec x.c.val.coin x.A x.c.val.assets x.cA hx.a) Tryz.func66 (h := ?_)
    refine v_ops [] (hk := ?_)
    refine v_ret rfl [] (.cons (.tmp rfl) .nil) (h := ?_)
    exact ⟨outB hr.symm, rfl⟩
theorem look_ro {g3 g4 g1 : Nat} {k : Int} (h0 : k ≠ 0) (h1 : k ≠ 1) (h2 : k ≠ 2) : mlook (roM g3 g4 g1) k = none := by
  simp [mlook, roM, Ne.symm h0, Ne.symm h1, Ne.symm h2]
theorem rout_spec (x : OutM) (hx : OkO x) : CSpec Tryz.prog 16 [oval x 941 940] [(941, Res.rd x.A assetEn x.c.val.assets), (940, Res.rd x.B nodeEn x.c.nodes)] [] fun o L => o = .ret (vb (rightO x.c)) ∧ L = [] := by
  by_cases h0 : x.c.datum = 0
  · exact rout_gen x hx 62 (fun g3 g4 _ => [.one (.ptr 0 ⟨g3, 0, none⟩), .one (.ptr 1 ⟨g4, 0, none⟩)]) _ (fun _ _ _ => by rw [h0]; simp [mlook, roM]; exact ⟨rfl, rfl⟩) Tryz.func62 (fun g3 g4 g1 => ro1_spec g3 g4 g1 x) (by unfold rightO; rw [if_pos h0])
  by_cases h1 : x.c.datum = 1
  · exact rout_gen x hx 63 (fun _ g4 _ => [.one (.ptr 1 ⟨g4, 0, none⟩)]) _ (fun _ _ _ => by rw [h1]; simp [mlook, roM]; rfl) Tryz.func63 (fun g3 g4 g1 => ro2_spec g3 g4 g1 x) (by unfold rightO; rw [if_neg h0, if_pos h1])
  by_cases h2 : x.c.datum = 2
  · exact rout_gen x hx 64 (fun g3 _ g1 => [.one (.ptr 0 ⟨g3, 0, none⟩), .one (.ptr 2 ⟨g1, 0, none⟩)]) _ (fun _ _ _ => by rw [h2]; simp [mlook, roM]; exact ⟨rfl, rfl⟩) Tryz.func64 (fun g3 g4 g1 => ro3_spec g3 g4 g1 x hx) (by unfold rightO; rw [if_neg h0, if_neg h1, if_pos h2])
  exact rout_none x hx (fun _ _ _ => look_ro h0 h1 h2) (by unfold rightO; rw [if_neg h0, if_neg h1, if_neg h2]; rfl)
end Go.Proofs.YtfopgaijfeeioaaGreat
/- ENTRIES: the order of places; rows of entries in memory; what is right. -/

set_option linter.unusedVariables false
set_option linter.unusedSimpArgs false
set_option maxRecDepth 100000
namespace Go.Proofs.YtfopgaijfeeioaaGreat
open Go Go.RowKit HL
theorem icmp_neg {a b : Int} : icmp a b < 0 ↔ a < b := by unfold icmp; split <;> (try split) <;> omega
theorem icmp_zero {a b : Int} : icmp a b = 0 ↔ a = b := by unfold icmp; split <;> (try split) <;> omega
theorem icmp_swap (a b : Int) : icmp b a = - icmp a b := by unfold icmp; split <;> (try split) <;> (try split) <;> omega
theorem refOrd_def (a b : RefP) : refOrd a b = if bcmp a.tx.toList b.tx.toList ≠ 0 then bcmp a.tx.toList b.tx.toList else icmp a.place b.place := by
  unfold refOrd
  simp only [orI]
  split
  · rfl
  · split
    · rfl
    · rename_i h; omega
theorem refOrd_swap (a b : RefP) : refOrd b a = - refOrd a b := by
  rw [refOrd_def, refOrd_def, bcmp_swap a.tx.toList b.tx.toList, icmp_swap a.place b.place]
  split <;> split <;> omega
theorem refOrd_eq {a b : RefP} : refOrd a b = 0 ↔ a = b := by
  constructor
  · intro h
    rw [refOrd_def] at h
    split at h
    · rename_i h2; exact absurd h h2
    · rename_i h2
      have h3 := bcmp_eq (show bcmp a.tx.toList b.tx.toList = 0 by omega)
      have h4 := icmp_zero.1 h
      cases a
      cases b
      simp only [RefP.mk.injEq]
      exact ⟨Vector.toList_inj.1 h3, h4⟩
  · rintro rfl
    rw [refOrd_def, bcmp_refl, if_neg (by omega)]
    exact icmp_zero.2 rfl
theorem refOrd_trans {a b c : RefP} (h1 : refOrd a b < 0) (h2 : refOrd b c < 0) : refOrd a c < 0 := by
  rw [refOrd_def] at h1 h2 ⊢
  by_cases e1 : bcmp a.tx.toList b.tx.toList = 0
  · rw [if_neg (by omega)] at h1
    rw [bcmp_eq e1]
    split at h2
    · rename_i e2; rw [if_pos e2]; exact h2
    · rename_i e2
      rw [if_neg e2]
      rw [icmp_neg] at h1 h2 ⊢
      omega
  · rw [if_pos e1] at h1
    by_cases e2 : bcmp b.tx.toList c.tx.toList = 0
    · rw [← bcmp_eq e2]
      rw [if_pos e1]
      exact h1
    · rw [if_pos e2] at h2
      have h3 := bcmp_trans h1 h2
      rw [if_pos (by omega)]
      exact h3
theorem riseE_snoc {l : List EntC} {x : EntC} : RiseE (l ++ [x]) ↔ RiseE l ∧ ∀ y ∈ l, refOrd y.ref x.ref < 0 := by
  unfold RiseE
  rw [List.pairwise_append]
  constructor
  · rintro ⟨h1, _, h3⟩
    exact ⟨h1, fun y hy => h3 y hy x (List.mem_singleton.2 rfl)⟩
  · rintro ⟨h1, h2⟩
    exact ⟨h1, List.pairwise_singleton .., fun y hy z hz => by rw [List.mem_singleton.1 hz]; exact h2 y hy⟩
structure EntM where
  r : RefP
  o : OutM
def EntM.c (x : EntM) : EntC := ⟨x.r, x.o.c⟩
abbrev eval_ (x : EntM) (i j : Nat) : SV := .agg [.hash x.r.tx, .one (.i .i64 x.r.place), .one (.b x.o.c.prog), .hash x.o.c.hash, .one (.i .i64 x.o.c.val.coin), .one (.sl i x.o.A x.o.c.val.assets.length x.o.cA), .one (.i .i64 x.o.c.datum), .hash x.o.c.dh, .one (.sl j x.o.B x.o.c.nodes.length x.o.cB)]
def entEn : En EntM := ⟨fun x => eval_ x 941 940, true, 102, fun _ => ⟨rfl, rfl⟩, by decide⟩
def out0 : OutC := ⟨false, hz, ⟨0, []⟩, 0, hz, []⟩
def entM0 : EntM := ⟨ref0, ⟨out0, none, 0, none, 0⟩⟩
instance : Df EntM entM0 := ⟨⟩
instance : ElT Tryz.prog 43 entEn := ⟨⟩
def subE (x : EntM) : List Res := [Res.rd x.o.A assetEn x.o.c.val.assets, Res.rd x.o.B nodeEn x.o.c.nodes]
def subEs (l : List EntM) : List Res := l.flatMap subE
theorem der_entA {B L : Hp} {l : List EntM} {x : EntM} (j : Nat) (hx : x ∈ l) (h : lk2 B L j = some (Res.alr (subEs l)) := by rfl) : Der B L [j] (Res.rd x.o.A assetEn x.o.c.val.assets) := by
  have hm : Res.rd x.o.A assetEn x.o.c.val.assets ∈ subEs l := List.mem_flatMap.2 ⟨x, hx, by simp [subE]⟩
  exact ⟨fun w hf => (hf j _ h) _ hm, fun b hb => ⟨j, by simp, _, h, _, hm, hb⟩⟩
theorem der_entN {B L : Hp} {l : List EntM} {x : EntM} (j : Nat) (hx : x ∈ l) (h : lk2 B L j = some (Res.alr (subEs l)) := by rfl) : Der B L [j] (Res.rd x.o.B nodeEn x.o.c.nodes) := by
  have hm : Res.rd x.o.B nodeEn x.o.c.nodes ∈ subEs l := List.mem_flatMap.2 ⟨x, hx, by simp [subE]⟩
  exact ⟨fun w hf => (hf j _ h) _ hm, fun b hb => ⟨j, by simp, _, h, _, hm, hb⟩⟩
def cs (l : List EntM) : List EntC := l.map EntM.c
theorem cs_take {l : List EntM} {k : Nat} (hk : k < l.length) : cs (l.take (k + 1)) = cs (l.take k) ++ [(l.getD k entM0).c] := by
  unfold cs
  rw [take_getD (d := entM0) hk, List.map_append]
  rfl
theorem rightEs_step {l : List EntM} {k : Nat} (hk : k < l.length) (h : rightEs (cs (l.take k)) = true) (hr : rightE (l.getD k entM0).c = true) (h1 : 0 < k → refOrd (l.getD (k - 1) entM0).r (l.getD k entM0).r < 0) : rightEs (cs (l.take (k + 1))) = true := by
  rw [cs_take hk]
  unfold rightEs at *
  rw [Bool.and_eq_true, List.all_eq_true, decide_eq_true_eq] at *
  refine ⟨fun x hx => ?_, riseE_snoc.2 ⟨h.2, fun y hy => ?_⟩⟩
  · rcases List.mem_append.1 hx with hx | hx
    · exact h.1 x hx
    · rw [List.mem_singleton.1 hx]; exact hr
  · cases k with
    | zero => simp [cs] at hy
    | succ k =>
      have h1 := h1 (by omega)
      simp only [Nat.add_sub_cancel] at h1
      rw [cs_take (by omega)] at h hy
      rcases List.mem_append.1 hy with hy | hy
      · exact refOrd_trans ((riseE_snoc.1 h.2).2 y hy) h1
      · rw [List.mem_singleton.1 hy]
        exact h1
theorem cs_getD {l : List EntM} {k : Nat} (hk : k < l.length) : (cs l)[k]'(by unfold cs; rw [List.length_map]; exact hk) = (l.getD k entM0).c := by
  unfold cs
  rw [List.getElem_map, List.getD_eq_getElem?_getD, List.getElem?_eq_getElem hk]
  rfl
theorem rightEs_no1 {l : List EntM} {k : Nat} (hk : k < l.length) (hr : rightE (l.getD k entM0).c = false) : rightEs (cs l) = false := by
  unfold rightEs
  rw [Bool.and_eq_false_iff]
  refine .inl (List.all_eq_false.2 ⟨(l.getD k entM0).c, ?_, by rw [hr]; decide⟩)
  unfold cs
  exact List.mem_map_of_mem (getD_mem hk)
theorem rightEs_no2 {l : List EntM} {k : Nat} (hk : k < l.length) (h0 : 0 < k) (h1 : ¬ refOrd (l.getD (k - 1) entM0).r (l.getD k entM0).r < 0) : rightEs (cs l) = false := by
  unfold rightEs
  rw [Bool.and_eq_false_iff]
  refine .inr (decide_eq_false fun h => ?_)
  have hl : (cs l).length = l.length := by unfold cs; rw [List.length_map]
  have := (List.pairwise_iff_getElem.1 h) (k - 1) k (by omega) (by omega) (by omega)
  rw [cs_getD (by omega), cs_getD hk] at this
  exact h1 this
end Go.Proofs.YtfopgaijfeeioaaGreat
/- ENTRIES: what is right, walked. -/

set_option linter.unusedVariables false
set_option linter.unusedSimpArgs false
set_option maxRecDepth 100000
namespace Go.Proofs.YtfopgaijfeeioaaGreat
open Go Go.RowKit HL
def unright (l : List EntM) (k : Nat) : Bool := !rightR (l.getD k entM0).r || !rightO (l.getD k entM0).o.c || decide (0 < k) && !decide (refOrd (l.getD ((k : Int) - ((1 : Nat) : Int)).toNat entM0).r (l.getD k entM0).r < 0)
theorem unright_no {l : List EntM} {k : Nat} (h : unright l k = false) : rightE (l.getD k entM0).c = true ∧ (0 < k → refOrd (l.getD (k - 1) entM0).r (l.getD k entM0).r < 0) := by
  have e : ((k : Int) - ((1 : Nat) : Int)).toNat = k - 1 := by omega
  unfold unright at h
  rw [e] at h
  simp only [Bool.or_eq_false_iff, Bool.and_eq_false_imp, Bool.not_eq_false', decide_eq_true_eq] at h
  refine ⟨?_, h.2⟩
  show (rightR (l.getD k entM0).r && rightO (l.getD k entM0).o.c) = true
  rw [h.1.1, h.1.2]
  rfl
theorem unright_yes {l : List EntM} {k : Nat} (hk : k < l.length) (h : unright l k = true) : rightEs (cs l) = false := by
  have e : ((k : Int) - ((1 : Nat) : Int)).toNat = k - 1 := by omega
  unfold unright at h
  rw [e] at h
  simp only [Bool.or_eq_true, Bool.and_eq_true, Bool.not_eq_true', decide_eq_true_eq, decide_eq_false_iff_not] at h
  have e2 : rightE (l.getD k entM0).c = (rightR (l.getD k entM0).r && rightO (l.getD k entM0).o.c) := rfl
  rcases h with (h | h) | ⟨h0, h⟩
  · exact rightEs_no1 hk (by rw [e2, h]; rfl)
  · exact rightEs_no1 hk (by rw [e2, h, Bool.and_false])
  · exact rightEs_no2 hk h0 h
theorem rents_spec (A : Option Addr) (l : List EntM) (c : Nat) (hl : l.length ≤ 1048576) (ho : ∀ x ∈ l, OkO x.o) : CSpec Tryz.prog 12 [.one (.sl 942 A l.length c)] [(942, Res.rd A entEn l), (943, Res.alr (subEs l))] [] fun o L => o = .ret (vb (rightEs (cs l))) ∧ L = [] := by
  refine v_enter Tryz.func12 (h := fun w0 => ?_)
  refine v_code [] (hk := ?_)
  refine v_loop (fun m E H => ∃ (k : Nat), E = [(7, vn k)] ∧ H = [] ∧ m = l.length - k ∧ k ≤ l.length ∧ (rightEs (cs (l.take k)) = true)) [0, 5, 6] (l.length) ([(7, vn 0)]) ([]) (h0 := ⟨0, rfl, rfl, by omega, by omega, by rfl⟩) (hr := ?_)
  rintro _ _ _ ⟨k, rfl, rfl, hmk, hk, hik0⟩
  refine v_code [] (hk := ?_)
  first | refine c_ifd rfl (fun h8 => ?_) (fun h8 => ?_) | refine c_ifn rfl (fun h8 => ?_) (fun h8 => ?_) | refine c_if rfl (fun h8 => ?_) (fun h8 => ?_)
  · have hm := getD_mem (d := entM0) h8
    refine v_code [] (hk := ?_)
    refine l_do d_alloc (fun g4 => ?_)
    refine v_ops [] (hk := ?_)
    refine v_draw (.q 0 (.q 1 (.s 2 (.q 3 (.q 4 (.q 5 (.q 6 (.s 7 (.q 8 (.q 9 (.q 10 (.q 11 (.q 12 (.q 13 (.q 14 (.q 15 (.q 16 (.q 17 (.q 18 (.q 19 (.q 20 (.q 21 (.s 22 (.q 23 (.q 24 (.q 25 .nil)))))))))))))))))))))))))) [10006, 10004, 20700, 20701, 20702, 20703, 20950, 20951, 20952, 20953, 21700, 21701, 21702, 21703] (hm := by kernel_rfl) (hs := by kernel_rfl) (hk := by kernel_rfl) (h := ?_)
    refine v_sch [] (hk := ?_)
    refine v_callS rfl 20700 [(900, 900), (901, 901), (910, 910), (911, 911), (920, 920), (921, 921), (930, 930), (931, 931)] (rightR_spec (l.getD k entM0).r) Tryz.func47 (h := ?_)
    rintro _ _ (⟨rfl, rfl⟩)
    refine ⟨cov_of (by repeat (first | exact trivial | refine ⟨rfl, ?_⟩)), ?_⟩
    refine v_sch [] (hk := ?_)
    refine s_callGD rfl [(900, 900), (901, 901), (910, 910), (911, 911), (920, 920), (921, 921), (930, 930), (931, 931)] [18] ⟨_, _, ⟨_, .inl ⟨rfl, rfl⟩⟩, rfl, rfl⟩ (fun hg => rout_spec (l.getD k entM0).o (ho _ hm)) Tryz.func16 (hB := fun hg => ⟨⟨_, (der_entA 943 hm), rfl⟩, ⟨⟨_, (der_entN 943 hm), rfl⟩, trivial⟩⟩) (h := ?_)
    refine v_sch [] (hk := ?_)
    refine s_callG rfl [(900, 900), (901, 901), (910, 910), (911, 911), (920, 920), (921, 921), (930, 930), (931, 931)] [31, 33] ⟨_, _, ⟨_, .inl ⟨rfl, rfl⟩⟩, ⟨_, _, ⟨_, .inl ⟨rfl, rfl⟩⟩, rfl, rfl⟩, rfl⟩ (fun hg => less_spec (l.getD ((k : Int) - ((1 : Nat) : Int)).toNat entM0).r (l.getD k entM0).r) Tryz.func11 (h := ?_)
    refine v_sch [] (hk := ?_)
    first | refine c_ifd rfl (fun h37 => ?_) (fun h37 => ?_) | refine c_ifn rfl (fun h37 => ?_) (fun h37 => ?_) | refine c_if rfl (fun h37 => ?_) (fun h37 => ?_)
    · refine v_code [] (hk := ?_)
      refine v_ret rfl [] (.cons (.tmp rfl) .nil) (h := ?_)
      exact ⟨outB (unright_yes h8 h37).symm, rfl⟩
    · refine v_code [] (hk := ?_)
      refine v_again (l.length - (k + 1)) ⟨k + 1, rfl, rfl, by omega, by omega, (rightEs_step h8 hik0 (unright_no h37).1 (unright_no h37).2)⟩
  · refine v_code [] (hk := ?_)
    refine v_ret rfl [] (.cons (.tmp rfl) .nil) (h := ?_)
    rw [take_all' h8] at hik0
    exact ⟨outB hik0.symm, rfl⟩
end Go.Proofs.YtfopgaijfeeioaaGreat
/- SYMBOLIC STATES, COMPUTED: a method called through an interface that holds a pointer. My own text; it names no program. -/

set_option linter.unusedVariables false
set_option linter.unusedSimpArgs false
set_option linter.unusedSectionVars false
namespace Go.Proofs.YtfopgaijfeeioaaGreat
namespace HL
open Go Go.RowKit
section
variable {P : Program} {ops : Array Oper} {Q : Exit → Act → World → Prop} {rest : List Oper}
variable {env : Env} {D : List Deferred} {n : Nat} {w0 : World} {M : Nat → Prop} {B L : Hp}
variable {d : Nat} {ty : TypeId} {pos : String} {af : Array Edge} {gd : Option (Nat × Bool)} {x : Operand} {T : TypeId}
theorem call_wpG {o : Oper} {f : FuncId} {fn : Func} {all : List SV} {Bc Lc : Hp} {post : Out → List Res → Prop} {a : Act} {w : World} {K : Act → World → Prop}
    (hs : CSpec P f all Bc Lc post) (hf : P.funcs[f]? = some fn) (hb : fn.body.isNone = false) (hn : (fn.name == "runtime.NumGoroutine") = false) (c : Nat → Nat) (b : Nat)
    (hr : (execOp a.eval o).run P w = .ok (.enter f (all.map SV.den).toArray) w)
    (hB : GotB (lk2 B L) c Bc) (hL : Got (lk L) c Lc) (hnd : nodupB (ids c Lc) = true) (hbl : noneIn (ids c Lc) (ids c Bc) = true) (hnk : nodupB (Lc.map (·.1)) = true)
    (hsy : Sy env D n w0 M B L a w)
    (h : ∀ u Lr, post u Lr → match u with
      | .ret v => ∀ w', Sy env D n w0 M B (num b Lr ++ dels (ids c Lc) L) a w' → K (a.put o.dst v.den) w'
      | .pan ch => ∀ w', Sy env D n w0 M B (num b Lr ++ dels (ids c Lc) L) a w' → Q (.panic ch) a w') :
    Oper.wp P o a w K Q := by
  have hp := hL.picks
  have hst : St w0 w M (Lc.map (·.2) ++ live (dels (ids c Lc) L)) := hsy.st.picks hp (nodupB_spec hnd)
  have elive : live Lc = Lc.map (·.2) := live_nodup (nodupB_spec hnk)
  have hdis := List.pairwise_append.1 hst.dis
  have hc := hs w (fun i r hi => (hB.lk hi).elim fun R hR => hR.2.h w (hsy.facts _ _ hR.1)) (fun r hr => hst.res r (List.mem_append_left _ (by rw [← elive]; exact hr))) (by rw [elive]; exact hdis.1) (fun i r hi s hs => by
    rw [elive] at hs
    obtain ⟨R, hg, hview⟩ := hB.lk hi
    unfold lk2 at hg
    cases hl : lk L (c i) with
    | none =>
      rw [hl] at hg
      intro b' hb' hb2
      have h8 := (hsy.bo _ _ hg).2 b' (hview.f b' hb')
      rcases hst.own s (List.mem_append_left _ hs) b' hb2 with h7 | h7
      · exact h8.2 h7
      · omega
    | some q =>
      rw [hl] at hg
      injection hg with hg
      subst hg
      have hmem : q ∈ live (dels (ids c Lc) L) := lk_live (by rw [lk_dels (noneIn_spec hbl _ (ids_mem hi))]; exact hl)
      exact fun b' hb' hb2 => hdis.2.2 s hs q hmem b' hb2 (hview.f b' hb'))
  unfold Oper.wp
  rw [hr]
  refine hc.mono fun e w' ⟨out, Lr, he, hpost, hst2⟩ => ?_
  have hst3 : St w0 w' M (Lr ++ live (dels (ids c Lc) L)) := hst.callN hst2 (fun b hb => by
    obtain ⟨r, hr, hb⟩ := hb
    exact ⟨r, by rw [← elive]; exact hr, hb⟩)
  have hsy2 := hsy.to (L' := num b Lr ++ dels (ids c Lc) L) (w' := w') (St.append_live hst3)
  have h9 := h out Lr hpost
  cases out with
  | ret v => subst he; exact h9 w' hsy2
  | pan ch => subst he; exact h9 w' hsy2
theorem v_callI {f : FuncId} {fn : Func} {i : Nat} {ad : Addr} {name : String} {Bc Lc : Hp} {post : Out → List Res → Prop} {tys : Array TypeId} (b : Nat) (m : List (Nat × Nat))
    (hs : CSpec P f [.one (.ptr i ad)] Bc Lc post) (hf : P.funcs[f]? = some fn) (hm : ∀ w, (method (P.types.size + Made.depth) T (.pointer (some ad)) name).run P w = .ok (f, .pointer (some ad)) w)
    (hx : ev env x = some (.s (.one (.ifp T i ad))) := by rfl)
    (hB : GotB (lk2 B L) (cid m []) Bc := by exact trivial) (hL : Got (lk L) (cid m []) Lc := by repeat (first | exact trivial | refine ⟨rfl, ?_⟩))
    (hnd : nodupB (ids (cid m []) Lc) = true := by rfl) (hbl : noneIn (ids (cid m []) Lc) (ids (cid m []) Bc) = true := by rfl) (hnk : nodupB (Lc.map (·.1)) = true := by rfl)
    (h : ∀ o Lr, post o Lr → match o with
      | .ret v => Ho ((d, v.up b) :: env) D n w0 M B (num b Lr ++ dels (ids (cid m []) Lc) L) (wpList P ops Q rest)
      | .pan ch => Ho env D n w0 M B (num b Lr ++ dels (ids (cid m []) Lc) L) (Q (.panic ch)))
    (hg : guarded ops env ⟨some d, .call { callee := .invoke x name, args := #[], argTypes := tys }, ty, pos, af, gd⟩ = some true := by rfl) (hd : Nat.blt d n = true := by rfl) (hb : fn.body.isNone = false := by rfl) (hn : (fn.name == "runtime.NumGoroutine") = false := by rfl) :
    Ho env D n w0 M B L (wpList P ops Q (⟨some d, .call { callee := .invoke x name, args := #[], argTypes := tys }, ty, pos, af, gd⟩ :: rest)) := fun a w hsy => by
  unfold wpList
  rw [if_pos (guarded_wanted hsy.tm hg)]
  have h1 : a.eval x = .iface T (.pointer (some ad)) := ev_sound hsy.tm hx
  refine .inl (call_wpG hs hf hb hn (cid m []) b ?_ hB hL hnd hbl hnk hsy fun o Lr hp => ?_)
  · unfold execOp
    simp only [resolve, h1, Sem.run_bind, Sem.run_pure, Result.andThen_ok, invoke, callMethod, callFunc, run_program, hm, hf, hn, hb, Array.map_empty]
    simp only [List.getElem?_toArray, Array.append_empty, List.getElem?_cons_zero, callMethod, Sem.run_bind, run_program, Result.andThen_ok, hm, callFunc, hf, hn, hb]
    rfl
  have h9 := h o Lr hp
  cases o with
  | ret v => exact fun w' hs' => h9 _ _ (by have := hs'.put (v := v.up b) hd; rwa [v.den_up] at this)
  | pan ch => exact fun w' hs' => h9 _ _ hs'
theorem r_makeBound {dst : Option Tmp} {f : FuncId} {y : Operand} {v : SV} (hy : ev env y = some (.s v) := by rfl) : Reads P ⟨dst, .makeFunc (.func f) #[y] #[], ty, pos, af, gd⟩ env n B L (.s (.one (.fnb f [v.den]))) := fun a w ht _ => by
  have h1 : a.eval y = v.den := ev_sound ht hy
  unfold execOp
  have h2 : (#[y] : Array Operand).map a.eval = #[v.den] := by simp [h1]
  have h3 : (#[] : Array Operand).map a.eval = #[] := by simp
  simp only [h2, h3, Instr.makeFunc, Sem.run_bind, Sem.run_pure, Result.andThen_ok]
  rfl
theorem v_callB {f : FuncId} {fn : Func} {fst : List Value} {all : List SV} {Bc Lc : Hp} {post : Out → List Res → Prop} {tys : Array TypeId} (b : Nat) (m : List (Nat × Nat))
    (hs : CSpec P f all Bc Lc post) (hf : P.funcs[f]? = some fn)
    (hx : ev env x = some (.s (.one (.fnb f fst))) := by rfl) (hall : fst = all.map SV.den := by rfl)
    (hB : GotB (lk2 B L) (cid m []) Bc := by repeat (first | exact trivial | refine ⟨⟨_, rfl, by first | exact View.refl _ | exact view_rows | assumption⟩, ?_⟩)) (hL : Got (lk L) (cid m []) Lc := by repeat (first | exact trivial | refine ⟨rfl, ?_⟩))
    (hnd : nodupB (ids (cid m []) Lc) = true := by rfl) (hbl : noneIn (ids (cid m []) Lc) (ids (cid m []) Bc) = true := by rfl) (hnk : nodupB (Lc.map (·.1)) = true := by rfl)
    (h : ∀ o Lr, post o Lr → match o with
      | .ret v => Ho ((d, v.up b) :: env) D n w0 M B (num b Lr ++ dels (ids (cid m []) Lc) L) (wpList P ops Q rest)
      | .pan ch => Ho env D n w0 M B (num b Lr ++ dels (ids (cid m []) Lc) L) (Q (.panic ch)))
    (hg : guarded ops env ⟨some d, .call { callee := .value x, args := #[], argTypes := tys }, ty, pos, af, gd⟩ = some true := by rfl) (hd : Nat.blt d n = true := by rfl) (hb : fn.body.isNone = false := by rfl) (hn : (fn.name == "runtime.NumGoroutine") = false := by rfl) :
    Ho env D n w0 M B L (wpList P ops Q (⟨some d, .call { callee := .value x, args := #[], argTypes := tys }, ty, pos, af, gd⟩ :: rest)) := fun a w hsy => by
  unfold wpList
  rw [if_pos (guarded_wanted hsy.tm hg)]
  have h1 : a.eval x = .func (.func f) fst.toArray #[] := ev_sound hsy.tm hx
  refine .inl (call_wpG hs hf hb hn (cid m []) b ?_ hB hL hnd hbl hnk hsy fun o Lr hp => ?_)
  · subst hall
    unfold execOp
    simp only [resolve, h1, Deferred.ofValue, Sem.run_bind, Sem.run_pure, Result.andThen_ok, invoke, callFunc, run_program, hf, hn, hb, Array.map_empty, Array.append_empty]
    rfl
  have h9 := h o Lr hp
  cases o with
  | ret v => exact fun w' hs' => h9 _ _ (by have := hs'.put (v := v.up b) hd; rwa [v.den_up] at this)
  | pan ch => exact fun w' hs' => h9 _ _ hs'
end
end HL
end Go.Proofs.YtfopgaijfeeioaaGreat
/- WRITING: nodes. -/


set_option linter.unusedVariables false
set_option linter.unusedSimpArgs false
set_option maxRecDepth 100000
namespace Go.Proofs.YtfopgaijfeeioaaGreat
open Go Go.RowKit HL
structure NodeW (n : NodeP) : Prop where
  k : 1 ≤ n.kind ∧ n.kind ≤ 6
  kids : 0 ≤ n.kids ∧ n.kids < 65536
  text : n.kind = 2 → n.bytes.size < 65536
  int : n.kind = 5 → 0 ≤ n.int ∧ n.int < 4294967296
  bits : 0 ≤ n.bits ∧ n.bits < 18446744073709551616
theorem pn1_spec (g g11 g12 g13 : Nat) (A : Option Addr) (c : Nat) (bad : Bool) (b : List UInt8) (n : NodeP) (h : 0 ≤ n.kids ∧ n.kids < 65536) (hb : b.length ≤ 70368744000000) : CSpec Tryz.prog 249 [.one (.ptr 11 ⟨g11, 0, none⟩), .one (.ptr 12 ⟨g12, 0, none⟩)] [(11, Res.va g11 169 [.one (.ptr 900 ⟨g, 0, none⟩)]), (12, Res.va g12 76 (nodeEn.f n).ats), (13, Res.va g13 1 [.one (.fn 249 [pa g11, pa g12] [])])] [(900, wr g A b.length c bad), (901, wrow A c b)] (WPost g b bad (be 2 n.kids)) := by
  refine v_enter Tryz.func249 (h := fun w0 => ?_)
  refine v_code [] (hk := ?_)
  refine v_call 20300 [(900, 900), (901, 901), (910, 910), (911, 911), (920, 920), (921, 921), (930, 930), (931, 931)] (u16_spec g A c bad b n.kids h (by omega)) Tryz.func243 (h := ?_)
  rintro _ _ (⟨rfl, A6, c6, rfl⟩)
  refine k_ren 20300 900 rfl ?_
  refine k_ren 20301 901 rfl ?_
  refine v_ops [] (hk := ?_)
  refine v_ret rfl [900, 901] .nil (h := ?_)
  exact ⟨rfl, A6, c6, rfl⟩
theorem pn2_spec (g g11 g12 g13 : Nat) (A : Option Addr) (c : Nat) (bad : Bool) (b : List UInt8) (n : NodeP)  (hb : b.length ≤ 70368744000000) : CSpec Tryz.prog 250 [.one (.ptr 11 ⟨g11, 0, none⟩), .one (.ptr 12 ⟨g12, 0, none⟩)] [(11, Res.va g11 169 [.one (.ptr 900 ⟨g, 0, none⟩)]), (12, Res.va g12 76 (nodeEn.f n).ats), (13, Res.va g13 1 [.one (.fn 249 [pa g11, pa g12] [])])] [(900, wr g A b.length c bad), (901, wrow A c b)] (WPost g b bad (be 8 n.int)) := by
  refine v_enter Tryz.func250 (h := fun w0 => ?_)
  refine v_code [] (hk := ?_)
  refine v_call 20300 [(900, 900), (901, 901), (910, 910), (911, 911), (920, 920), (921, 921), (930, 930), (931, 931)] (i64_spec g A c bad b n.int (by omega)) Tryz.func245 (h := ?_)
  rintro _ _ (⟨rfl, A6, c6, rfl⟩)
  refine k_ren 20300 900 rfl ?_
  refine k_ren 20301 901 rfl ?_
  refine v_ops [] (hk := ?_)
  refine v_ret rfl [900, 901] .nil (h := ?_)
  exact ⟨rfl, A6, c6, rfl⟩
theorem pn3_spec (g g11 g12 g13 : Nat) (A : Option Addr) (c : Nat) (bad : Bool) (b : List UInt8) (n : NodeP) (h : n.bytes.size < 65536) (hb : b.length ≤ 70368744000000) : CSpec Tryz.prog 251 [.one (.ptr 11 ⟨g11, 0, none⟩), .one (.ptr 12 ⟨g12, 0, none⟩)] [(11, Res.va g11 169 [.one (.ptr 900 ⟨g, 0, none⟩)]), (12, Res.va g12 76 (nodeEn.f n).ats), (13, Res.va g13 1 [.one (.fn 249 [pa g11, pa g12] [])])] [(900, wr g A b.length c bad), (901, wrow A c b)] (WPost g b bad (textB n.bytes)) := by
  refine v_enter Tryz.func251 (h := fun w0 => ?_)
  refine v_code [] (hk := ?_)
  refine v_call 20300 [(900, 900), (901, 901), (910, 910), (911, 911), (920, 920), (921, 921), (930, 930), (931, 931)] (text_spec g A c bad b n.bytes h (by omega)) Tryz.func244 (h := ?_)
  rintro _ _ (⟨rfl, A6, c6, rfl⟩)
  refine k_ren 20300 900 rfl ?_
  refine k_ren 20301 901 rfl ?_
  refine v_ops [] (hk := ?_)
  refine v_ret rfl [900, 901] .nil (h := ?_)
  exact ⟨rfl, A6, c6, rfl⟩
theorem pn4_spec (g g11 g12 g13 : Nat) (A : Option Addr) (c : Nat) (bad : Bool) (b : List UInt8) (n : NodeP) (h : 0 ≤ n.bits ∧ n.bits < 18446744073709551616) (hb : b.length ≤ 70368744000000) : CSpec Tryz.prog 252 [.one (.ptr 11 ⟨g11, 0, none⟩), .one (.ptr 12 ⟨g12, 0, none⟩)] [(11, Res.va g11 169 [.one (.ptr 900 ⟨g, 0, none⟩)]), (12, Res.va g12 76 (nodeEn.f n).ats), (13, Res.va g13 1 [.one (.fn 249 [pa g11, pa g12] [])])] [(900, wr g A b.length c bad), (901, wrow A c b)] (WPost g b bad (be 8 n.bits)) := by
  refine v_enter Tryz.func252 (h := fun w0 => ?_)
  refine v_code [] (hk := ?_)
  refine v_call 20300 [(900, 900), (901, 901), (910, 910), (911, 911), (920, 920), (921, 921), (930, 930), (931, 931)] (u64_spec g A c bad b n.bits h (by omega)) Tryz.func247 (h := ?_)
  rintro _ _ (⟨rfl, A6, c6, rfl⟩)
  refine k_ren 20300 900 rfl ?_
  refine k_ren 20301 901 rfl ?_
  refine v_ops [] (hk := ?_)
  refine v_ret rfl [900, 901] .nil (h := ?_)
  exact ⟨rfl, A6, c6, rfl⟩
theorem pn5_spec (g g11 g12 g13 : Nat) (A : Option Addr) (c : Nat) (bad : Bool) (b : List UInt8) (n : NodeP) (h : 0 ≤ n.int ∧ n.int < 4294967296) (hk : 0 ≤ n.kids ∧ n.kids < 65536) (hb : b.length ≤ 70368743900000) : CSpec Tryz.prog 253 [.one (.ptr 11 ⟨g11, 0, none⟩), .one (.ptr 12 ⟨g12, 0, none⟩), .one (.ptr 13 ⟨g13, 0, none⟩)] [(11, Res.va g11 169 [.one (.ptr 900 ⟨g, 0, none⟩)]), (12, Res.va g12 76 (nodeEn.f n).ats), (13, Res.va g13 1 [.one (.fn 249 [pa g11, pa g12] [])])] [(900, wr g A b.length c bad), (901, wrow A c b)] (WPost g b bad (be 4 n.int ++ be 2 n.kids)) := by
  have hl := wput_len b bad (be 4 n.int)
  have hl2 := be_len 4 n.int
  refine v_enter Tryz.func253 (h := fun w0 => ?_)
  refine v_code [] (hk := ?_)
  refine v_call 20350 [(900, 900), (901, 901), (910, 910), (911, 911), (920, 920), (921, 921), (930, 930), (931, 931)] (u32_spec g A c bad b n.int h (by omega)) Tryz.func246 (h := ?_)
  rintro _ _ (⟨rfl, A7, c7, rfl⟩)
  refine k_ren 20350 900 rfl ?_
  refine k_ren 20351 901 rfl ?_
  refine v_ops [] (hk := ?_)
  refine v_call 20450 [(11, 11), (12, 12), (13, 13), (900, 900), (901, 901), (910, 910), (911, 911), (920, 920), (921, 921), (930, 930), (931, 931)] (pn1_spec g g11 g12 g13 A7 c7 bad (wput b bad (be 4 n.int)) n hk (by omega)) Tryz.func249 (h := ?_)
  rintro _ _ (⟨rfl, A9, c9, rfl⟩)
  refine k_ren 20450 900 rfl ?_
  refine k_ren 20451 901 rfl ?_
  refine v_ops [] (hk := ?_)
  refine v_ret rfl [900, 901] .nil (h := ?_)
  exact ⟨rfl, A9, c9, by rw [wput_app]; rfl⟩
abbrev nodeM (g2 g3 g4 : Nat) : List (Int × FnV × Nat) := [(1, some (250, [pa g2, pa g3]), 0), (2, some (251, [pa g2, pa g3]), 1), (3, some (252, [pa g2, pa g3]), 2), (4, some (249, [pa g2, pa g3]), 3), (6, some (249, [pa g2, pa g3]), 4), (5, some (253, [pa g2, pa g3, pa g4]), 5)]
theorem pnode_gen (g : Nat) (A : Option Addr) (c : Nat) (bad : Bool) (b x : List UInt8) (n : NodeP) (hn : 0 ≤ n.kind ∧ n.kind < 256) (hb : b.length ≤ 70368743000000) (i : FuncId) {fn : Func} (all : Nat → Nat → Nat → List SV) (hk : ∀ g2 g3 g4, mlook (nodeM g2 g3 g4) n.kind = some (some (i, (all g2 g3 g4).map SV.den))) (hf : Tryz.prog.funcs[i]? = some fn) (hs : ∀ g11 g12 g13 A c, CSpec Tryz.prog i (all g11 g12 g13) [(11, Res.va g11 169 [.one (.ptr 900 ⟨g, 0, none⟩)]), (12, Res.va g12 76 (nodeEn.f n).ats), (13, Res.va g13 1 [.one (.fn 249 [pa g11, pa g12] [])])] [(900, wr g A (wput b bad (be 1 n.kind)).length c bad), (901, wrow A c (wput b bad (be 1 n.kind)))] (WPost g (wput b bad (be 1 n.kind)) bad x)) (hfb : fn.body.isNone = false := by rfl) (hfn : (fn.name == "runtime.NumGoroutine") = false := by rfl) : CSpec Tryz.prog 196 [.agg [.one (.ptr 900 ⟨g, 0, none⟩)], nodeEn.f n] [] [(900, wr g A b.length c bad), (901, wrow A c b)] (WPost g b bad (be 1 n.kind ++ x)) := by
  refine v_enter Tryz.func196 (h := fun w0 => ?_)
  refine v_code [] (hk := ?_)
  refine l_do d_box (fun g2 => ?_)
  refine l_do d_box (fun g3 => ?_)
  refine v_ops [] (hk := ?_)
  refine v_call 20450 [(900, 900), (901, 901), (910, 910), (911, 911), (920, 920), (921, 921), (930, 930), (931, 931)] (u8_spec g A c bad b n.kind hn (by omega)) Tryz.func60 (h := ?_)
  rintro _ _ (⟨rfl, A9, c9, rfl⟩)
  refine k_ren 20450 900 rfl ?_
  refine k_ren 20451 901 rfl ?_
  refine v_ops [] (hk := ?_)
  refine l_do d_alloc (fun g4 => ?_)
  refine k_val 10 (.s (.one (.fn 249 [pa g2, pa g3] []))) rfl rfl ?_
  refine l_do1 d_store ?_
  refine v_ops [] (hk := ?_)
  refine l_do (d_makeMap (intEn .i64) fnEn) (fun g11 => ?_)
  refine v_ops [] (hk := ?_)
  refine k_val 12 (.s (fnEn.f (some (250, [pa g2, pa g3])))) rfl rfl ?_
  refine l_do1 (d_insert (k := (1 : Int)) (v := some (250, [pa g2, pa g3]))) ?_
  refine v_ops [] (hk := ?_)
  refine k_val 13 (.s (fnEn.f (some (251, [pa g2, pa g3])))) rfl rfl ?_
  refine l_do1 (d_insert (k := (2 : Int)) (v := some (251, [pa g2, pa g3]))) ?_
  refine v_ops [] (hk := ?_)
  refine k_val 14 (.s (fnEn.f (some (252, [pa g2, pa g3])))) rfl rfl ?_
  refine l_do1 (d_insert (k := (3 : Int)) (v := some (252, [pa g2, pa g3]))) ?_
  refine v_ops [] (hk := ?_)
  refine k_val 15 (.s (fnEn.f (some (249, [pa g2, pa g3])))) rfl rfl ?_
  refine l_do1 (d_insert (k := (4 : Int)) (v := some (249, [pa g2, pa g3]))) ?_
  refine v_ops [] (hk := ?_)
  refine k_val 16 (.s (fnEn.f (some (249, [pa g2, pa g3])))) rfl rfl ?_
  refine l_do1 (d_insert (k := (6 : Int)) (v := some (249, [pa g2, pa g3]))) ?_
  refine v_ops [] (hk := ?_)
  refine k_val 17 (.s (fnEn.f (some (253, [pa g2, pa g3, pa g4])))) rfl rfl ?_
  refine l_do1 (d_insert (k := (5 : Int)) (v := some (253, [pa g2, pa g3, pa g4]))) ?_
  refine v_ops [] (hk := ?_)
  refine k_res 10011 (Res.mp g11 (intEn .i64) fnEn (nodeM g2 g3 g4) 6) rfl (by simp [mput, mclk, mhas, mlook, mset, nodeM]; rfl) ?_
  refine l_rd (r_lookup1 (k := n.kind) (zv := none) (Ev := fnEn)) ?_
  refine k_val 21 (.s (fnEn.f (some (i, (all g2 g3 g4).map SV.den)))) rfl (by rw [hk]; rfl) ?_
  refine v_call 21100 [(11, 10002), (12, 10003), (13, 10004), (900, 900), (901, 901), (910, 910), (911, 911), (920, 920), (921, 921), (930, 930), (931, 931)] (hs g2 g3 g4 A9 c9) hf (hb := hfb) (hn := hfn) (h := ?_)
  rintro _ _ (⟨rfl, A22, c22, rfl⟩)
  refine k_ren 21100 900 rfl ?_
  refine k_ren 21101 901 rfl ?_
  refine v_ops [] (hk := ?_)
  refine v_ret rfl [900, 901] .nil (h := ?_)
  exact ⟨rfl, A22, c22, by rw [wput_app]; rfl⟩
theorem pnode_spec (g : Nat) (A : Option Addr) (c : Nat) (bad : Bool) (b : List UInt8) (n : NodeP) (hn : NodeW n) (hb : b.length ≤ 70368743000000) : CSpec Tryz.prog 196 [.agg [.one (.ptr 900 ⟨g, 0, none⟩)], nodeEn.f n] [] [(900, wr g A b.length c bad), (901, wrow A c b)] (WPost g b bad (encNode n)) := by
  have h0 : 0 ≤ n.kind ∧ n.kind < 256 := by have := hn.k; omega
  have hw := wput_len b bad (be 1 n.kind)
  have hw1 := be_len 1 n.kind
  by_cases h1 : n.kind = 1
  · have e : encNode n = be 1 n.kind ++ (be 8 n.int) := by unfold encNode; simp [h1]
    rw [e]
    exact pnode_gen g A c bad b _ n h0 hb 250 (fun g2 g3 _ => [.one (.ptr 11 ⟨g2, 0, none⟩), .one (.ptr 12 ⟨g3, 0, none⟩)]) (fun _ _ _ => by rw [h1]; simp [mlook, nodeM]; exact ⟨rfl, rfl⟩) Tryz.func250 (fun g11 g12 g13 A c => pn2_spec g g11 g12 g13 A c bad _ n  (by omega))
  by_cases h2 : n.kind = 2
  · have e : encNode n = be 1 n.kind ++ (textB n.bytes) := by unfold encNode; simp [h2]
    rw [e]
    exact pnode_gen g A c bad b _ n h0 hb 251 (fun g2 g3 _ => [.one (.ptr 11 ⟨g2, 0, none⟩), .one (.ptr 12 ⟨g3, 0, none⟩)]) (fun _ _ _ => by rw [h2]; simp [mlook, nodeM]; exact ⟨rfl, rfl⟩) Tryz.func251 (fun g11 g12 g13 A c => pn3_spec g g11 g12 g13 A c bad _ n (hn.text h2) (by omega))
  by_cases h3 : n.kind = 3
  · have e : encNode n = be 1 n.kind ++ (be 8 n.bits) := by unfold encNode; simp [h3]
    rw [e]
    exact pnode_gen g A c bad b _ n h0 hb 252 (fun g2 g3 _ => [.one (.ptr 11 ⟨g2, 0, none⟩), .one (.ptr 12 ⟨g3, 0, none⟩)]) (fun _ _ _ => by rw [h3]; simp [mlook, nodeM]; exact ⟨rfl, rfl⟩) Tryz.func252 (fun g11 g12 g13 A c => pn4_spec g g11 g12 g13 A c bad _ n hn.bits (by omega))
  by_cases h4 : n.kind = 4
  · have e : encNode n = be 1 n.kind ++ (be 2 n.kids) := by unfold encNode; simp [h4]
    rw [e]
    exact pnode_gen g A c bad b _ n h0 hb 249 (fun g2 g3 _ => [.one (.ptr 11 ⟨g2, 0, none⟩), .one (.ptr 12 ⟨g3, 0, none⟩)]) (fun _ _ _ => by rw [h4]; simp [mlook, nodeM]; exact ⟨rfl, rfl⟩) Tryz.func249 (fun g11 g12 g13 A c => pn1_spec g g11 g12 g13 A c bad _ n hn.kids (by omega))
  by_cases h5 : n.kind = 5
  · have e : encNode n = be 1 n.kind ++ (be 4 n.int ++ be 2 n.kids) := by unfold encNode; simp [h5]
    rw [e]
    exact pnode_gen g A c bad b _ n h0 hb 253 (fun g2 g3 g4 => [.one (.ptr 11 ⟨g2, 0, none⟩), .one (.ptr 12 ⟨g3, 0, none⟩), .one (.ptr 13 ⟨g4, 0, none⟩)]) (fun _ _ _ => by rw [h5]; simp [mlook, nodeM]; exact ⟨rfl, rfl, rfl⟩) Tryz.func253 (fun g11 g12 g13 A c => pn5_spec g g11 g12 g13 A c bad _ n (hn.int h5) hn.kids (by omega))
  by_cases h6 : n.kind = 6
  · have e : encNode n = be 1 n.kind ++ (be 2 n.kids) := by unfold encNode; simp [h6]
    rw [e]
    exact pnode_gen g A c bad b _ n h0 hb 249 (fun g2 g3 _ => [.one (.ptr 11 ⟨g2, 0, none⟩), .one (.ptr 12 ⟨g3, 0, none⟩)]) (fun _ _ _ => by rw [h6]; simp [mlook, nodeM]; exact ⟨rfl, rfl⟩) Tryz.func249 (fun g11 g12 g13 A c => pn1_spec g g11 g12 g13 A c bad _ n hn.kids (by omega))
  have := hn.k
  omega
end Go.Proofs.YtfopgaijfeeioaaGreat
/- WRITING: terms. -/

set_option linter.unusedVariables false
set_option linter.unusedSimpArgs false
set_option maxRecDepth 100000
namespace Go.Proofs.YtfopgaijfeeioaaGreat
open Go Go.RowKit HL
mutual
theorem flat_ok : ∀ (b : Br), b.wf → b.right = true → ∀ n ∈ b.flat, ∃ ks : List Br, kindOk n ks = true ∧ n.kids = (ks.length : Int) ∧ ks.length ≤ b.flat.length
  | .mk m ks, hw, hr, n, hn => by
    have h1 : (kindOk m ks && Br.rights ks) = true := hr
    rw [Bool.and_eq_true] at h1
    have h2 : m.kids = (ks.length : Int) ∧ Br.wfs ks := hw
    rcases List.mem_cons.1 (show n ∈ m :: Br.flats ks from hn) with rfl | h
    · refine ⟨ks, h1.1, h2.1, ?_⟩
      have := flats_len ks
      show ks.length ≤ (n :: Br.flats ks).length
      rw [List.length_cons]
      omega
    · obtain ⟨k2, h3, h4, h5⟩ := flats_ok ks h2.2 h1.2 n h
      refine ⟨k2, h3, h4, ?_⟩
      show k2.length ≤ (m :: Br.flats ks).length
      rw [List.length_cons]
      omega
theorem flats_ok : ∀ (l : List Br), Br.wfs l → Br.rights l = true → ∀ n ∈ Br.flats l, ∃ ks : List Br, kindOk n ks = true ∧ n.kids = (ks.length : Int) ∧ ks.length ≤ (Br.flats l).length
  | [], _, _, n, hn => by cases hn
  | b :: bs, hw, hr, n, hn => by
    have h1 : (b.right && Br.rights bs) = true := hr
    rw [Bool.and_eq_true] at h1
    have h2 : b.wf ∧ Br.wfs bs := hw
    have e : (Br.flats (b :: bs)).length = b.flat.length + (Br.flats bs).length := by show (b.flat ++ Br.flats bs).length = _; rw [List.length_append]
    rcases List.mem_append.1 (show n ∈ b.flat ++ Br.flats bs from hn) with h | h
    · obtain ⟨k2, h3, h4, h5⟩ := flat_ok b h2.1 h1.1 n h
      exact ⟨k2, h3, h4, by omega⟩
    · obtain ⟨k2, h3, h4, h5⟩ := flats_ok bs h2.2 h1.2 n h
      exact ⟨k2, h3, h4, by omega⟩
end
theorem kind_w {n : NodeP} {ks : List Br} (h : kindOk n ks = true) (hk : n.kids = (ks.length : Int)) (hl : ks.length ≤ 100) (hf : FitN n) : NodeW n ∧ (n.kind = 2 → n.bytes.size ≤ 200) := by
  unfold kindOk at h
  have hb := hf.2
  by_cases h1 : n.kind = 1
  · exact ⟨⟨by omega, by omega, fun e => by omega, fun e => by omega, hb⟩, fun e => by omega⟩
  rw [if_neg h1] at h
  by_cases h2 : n.kind = 2
  · rw [if_pos h2, decide_eq_true_eq] at h
    exact ⟨⟨by omega, by omega, fun e => by omega, fun e => by omega, hb⟩, fun e => h.2.2.2⟩
  rw [if_neg h2] at h
  by_cases h3 : n.kind = 3
  · exact ⟨⟨by omega, by omega, fun e => by omega, fun e => by omega, hb⟩, fun e => by omega⟩
  rw [if_neg h3] at h
  by_cases h4 : n.kind = 4
  · exact ⟨⟨by omega, by omega, fun e => by omega, fun e => by omega, hb⟩, fun e => by omega⟩
  rw [if_neg h4] at h
  by_cases h5 : n.kind = 5
  · rw [if_pos h5, decide_eq_true_eq] at h
    exact ⟨⟨by omega, by omega, fun e => by omega, fun e => by omega, hb⟩, fun e => by omega⟩
  rw [if_neg h5] at h
  by_cases h6 : n.kind = 6
  · exact ⟨⟨by omega, by omega, fun e => by omega, fun e => by omega, hb⟩, fun e => by omega⟩
  rw [if_neg h6] at h
  cases h
theorem rightT_nodes {l : List NodeP} (h : rightT l = true) (hf : ∀ n ∈ l, FitN n) : ∀ n ∈ l, NodeW n ∧ (n.kind = 2 → n.bytes.size ≤ 200) := fun n hn => by
  obtain ⟨h1, b, rfl, h2, h3⟩ := rightT_tree h
  obtain ⟨ks, h4, h5, h6⟩ := flat_ok b h2 h3 n hn
  exact kind_w h4 h5 (by omega) (hf n hn)
theorem textB_len (s : ByteArray) : (textB s).length = s.size + 2 := by
  unfold textB
  rw [List.length_append, be_len, size_data]
  omega
theorem encNode_len {n : NodeP} (h : n.kind = 2 → n.bytes.size ≤ 200) : (encNode n).length ≤ 300 := by
  unfold encNode
  rw [List.length_append, be_len]
  split
  · rw [be_len]; omega
  · split
    · rename_i h2; rw [textB_len]; have := h h2; omega
    · split
      · rw [be_len]; omega
      · split
        · rw [List.length_append, be_len, be_len]; omega
        · rw [be_len]; omega
theorem encT_snoc {l : List NodeP} {k : Nat} (hk : k < l.length) : encT (l.take (k + 1)) = encT (l.take k) ++ encNode (l.getD k node0) := by
  unfold encT
  rw [take_getD (d := node0) hk, List.flatMap_append]
  simp
def PutM (r : Bool) (x : List UInt8) (g : Nat) (A : Option Addr) (c : Nat) (b : List UInt8) (bad : Bool) (o : Out) (L : List Res) : Prop := (r = true ∧ WPost g b bad x o L) ∨ (r = false ∧ o = .pan wrong ∧ L = [wr g A b.length c bad, wrow A c b])
theorem pterm_spec (g : Nat) (A B : Option Addr) (c cB : Nat) (bad : Bool) (b : List UInt8) (l : List NodeP) (hc : l.length ≤ cB) (hl : l.length ≤ 1048576) (hf : ∀ n ∈ l, FitN n) (hb : b.length ≤ 70368740000000) : CSpec Tryz.prog 117 [.agg [.one (.ptr 900 ⟨g, 0, none⟩)], .agg [.one (.sl 940 B l.length cB)]] [(940, Res.rd B nodeEn l)] [(900, wr g A b.length c bad), (901, wrow A c b)] (PutM (rightT l) (encT l) g A c b bad) := by
  refine v_enter Tryz.func117 (h := fun w0 => ?_)
  refine v_code [] (hk := ?_)
  refine l_do d_box (fun g2 => ?_)
  refine l_do d_box (fun g3 => ?_)
  refine v_ops [] (hk := ?_)
  refine v_call 20350 [(940, 940), (900, 900), (901, 901), (910, 910), (911, 911), (920, 920), (921, 921), (930, 930), (931, 931)] (rightT_spec B cB l hc hl hf) Tryz.func65 (h := ?_)
  rintro _ _ (⟨rfl, rfl⟩)
  refine l_do (d_bslice [rightT l]) (fun B8 => ?_)
  refine v_call 20450 [(900, 900), (901, 901), (910, 910), (911, 911), (920, 920), (921, 921), (930, 930), (931, 931)] (pmust_spec B8 [rightT l] _ (by simp)) Tryz.func182 (h := ?_)
  rintro _ _ (⟨h9, rfl, rfl⟩ | ⟨h9, rfl, rfl⟩)
  · have hr : rightT l = true := by simpa using h9
    have hW := rightT_nodes hr hf
    have hl100 := (rightT_tree hr).1
    refine v_ops [] (hk := ?_)
    refine v_loop (fun m E H => ∃ (k : Nat) (bb : List UInt8) (A2 : Option Addr) (c2 : Nat), E = [(13, vn k)] ∧ H = [(900, wr g A2 bb.length c2 bad), (901, wrow A2 c2 bb)] ∧ m = l.length - k ∧ k ≤ l.length ∧ ((encT (l.take k)).length ≤ 300 * k) ∧ (bb = wput b bad (encT (l.take k)))) [2, 11, 12] (l.length) ([(13, vn 0)]) ([(900, wr g (A) (b).length (c) bad), (901, wrow (A) (c) (b))]) (h0 := ⟨0, b, A, c, rfl, rfl, by omega, by omega, by simp [encT], (wput_nil b bad).symm⟩) (hr := ?_)
    rintro _ _ _ ⟨k, bb, A2, c2, rfl, rfl, hmk, hk, hik0, hik1⟩
    refine v_code [] (hk := ?_)
    first | refine c_ifd rfl (fun h14 => ?_) (fun h14 => ?_) | refine c_ifn rfl (fun h14 => ?_) (fun h14 => ?_) | refine c_if rfl (fun h14 => ?_) (fun h14 => ?_)
    · have hn := hW _ (getD_mem (d := node0) h14)
      have hq := encNode_len hn.2
      refine v_code [] (hk := ?_)
      refine l_do d_alloc (fun g5 => ?_)
      refine v_ops [] (hk := ?_)
      refine v_call 20950 [(900, 900), (901, 901), (910, 910), (911, 911), (920, 920), (921, 921), (930, 930), (931, 931)] (pnode_spec g A2 c2 bad bb (l.getD k node0) hn.1 (by rw [hik1]; have := wput_len b bad (encT (l.take k)); omega)) Tryz.func196 (h := ?_)
      rintro _ _ (⟨rfl, A19, c19, rfl⟩)
      refine k_ren 20950 900 rfl ?_
      refine k_ren 20951 901 rfl ?_
      refine v_ops [] (hk := ?_)
      refine v_again (l.length - (k + 1)) ⟨k + 1, wput bb bad (encNode (l.getD k node0)), A19, c19, rfl, rfl, by omega, by omega, by rw [encT_snoc h14, List.length_append]; omega, by rw [encT_snoc h14, ← wput_app, ← hik1]⟩
    · refine v_code [] (hk := ?_)
      rw [take_all' h14] at hik1
      refine v_ret rfl [900, 901] .nil (h := ?_)
      exact .inl ⟨hr, rfl, A2, c2, by rw [← hik1]; rfl⟩
  · refine v_ex [] (hk := ?_)
    refine k_pan [900, 901] (h := ?_)
    exact .inr ⟨by simpa using h9, rfl, rfl⟩
end Go.Proofs.YtfopgaijfeeioaaGreat
/- WRITING: a put, or a spoilt writer. -/

set_option linter.unusedVariables false
set_option linter.unusedSimpArgs false
set_option maxRecDepth 100000
namespace Go.Proofs.YtfopgaijfeeioaaGreat
open Go Go.RowKit HL
abbrev icell (g2 g : Nat) : Res := Res.va g2 229 [.one (.ifp 84 900 ⟨g, 0, none⟩)]
theorem doneB1_ret (g2 g4 g : Nat) (q : Bool) : CSpecD Tryz.prog 248 [.one (.ptr 0 ⟨g2, 0, none⟩), .one (.ptr 1 ⟨g4, 0, none⟩)] [] [(0, icell g2 g), (1, Res.va g4 4 [.one (.b q)])] .returning fun r u L => r = .ret (.tup []) ∧ u = .returning ∧ L = [icell g2 g, Res.va g4 4 [.one (.b q)]] := by
  refine d_enter Tryz.func248 (h := fun w0 c₀ cs0 hu => ?_)
  refine d_seq ?_
  refine d_region ?_
  refine d_norecover hu (h := ?_)
  refine v_ops [] (hk := ?_)
  refine d_ret rfl [0, 1] (.tup []) .nil (h := ?_)
  exact ⟨rfl, rfl, rfl⟩
theorem doneB1_pan (g2 g4 g : Nat) (q : Bool) (A : Option Addr) (n c : Nat) (bad : Bool) : CSpecD Tryz.prog 248 [.one (.ptr 0 ⟨g2, 0, none⟩), .one (.ptr 1 ⟨g4, 0, none⟩)] [] [(0, icell g2 g), (1, Res.va g4 4 [.one (.b q)]), (900, wr g A n c bad)] (.panicking wrong) fun r u L => r = .ret (.tup []) ∧ settle u = .returning ∧ L = [icell g2 g, Res.va g4 4 [.one (.b false)], wr g A n c true] := by
  refine d_enter Tryz.func248 (h := fun w0 c₀ cs0 hu => ?_)
  refine d_seq ?_
  refine d_region ?_
  refine d_recover (.s (.one (.ifv 231 (SV.agg []).den))) rfl hu (h := ?_)
  refine v_ops [] (hk := ?_)
  refine l_rd r_assertY ?_
  refine v_ops [] (hk := ?_)
  refine l_do d_alloc (fun g3 => ?_)
  refine v_ops [] (hk := ?_)
  refine v_know 15 false rfl rfl ?_
  refine v_code [] (hk := ?_)
  refine v_callI 20900 [(900, 900)] (spoil_spec g A n c bad) Tryz.func335 (fun _ => by kernel_rfl) (h := ?_)
  rintro _ _ ⟨rfl, rfl⟩
  refine k_ren 20900 900 rfl ?_
  refine v_ops [] (hk := ?_)
  refine d_ret rfl [0, 1, 900] (.tup []) .nil (h := ?_)
  exact ⟨rfl, rfl, rfl⟩
def PutPost (r : Bool) (x : List UInt8) (g : Nat) (b : List UInt8) (bad : Bool) (L : List Res) : Prop := ∃ A c, L = [wr g A (if r then wput b bad x else b).length c (bad || !r), wrow A c (if r then wput b bad x else b)]
abbrev fcell (g5 : Nat) (f : FuncId) (g7 : Nat) : Res := Res.va g5 171 [.one (.fn f [pa g7] [7])]
abbrev wcell (g6 g : Nat) : Res := Res.va g6 84 [.one (.ptr 900 ⟨g, 0, none⟩)]
def WhatS (f : FuncId) (g7 : Nat) (R : Res) (r : Bool) (x : List UInt8) (g : Nat) (A : Option Addr) (c : Nat) (b : List UInt8) (bad : Bool) : Prop := CSpec Tryz.prog f [.agg [.one (.ptr 900 ⟨g, 0, none⟩)], .one (.ptr 7 ⟨g7, 0, none⟩)] [(7, R)] [(900, wr g A b.length c bad), (901, wrow A c b)] (PutM r x g A c b bad)
theorem put1_spec (g g5 g6 g7 : Nat) (A : Option Addr) (c : Nat) (bad : Bool) (b x : List UInt8) (r : Bool) (R : Res) (f : FuncId) {fn : Func} (hf : Tryz.prog.funcs[f]? = some fn) (hs : WhatS f g7 R r x g A c b bad) (hfb : fn.body.isNone = false := by rfl) (hfn : (fn.name == "runtime.NumGoroutine") = false := by rfl) : CSpec Tryz.prog 195 [.one (.ptr 5 ⟨g5, 0, none⟩), .one (.ptr 6 ⟨g6, 0, none⟩)] [(5, fcell g5 f g7), (6, wcell g6 g), (7, R)] [(900, wr g A b.length c bad), (901, wrow A c b)] fun o L => (r = true ∧ o = .ret (vb true) ∧ ∃ A2 c2, L = [wr g A2 (wput b bad x).length c2 bad, wrow A2 c2 (wput b bad x)]) ∨ (r = false ∧ o = .pan wrong ∧ L = [wr g A b.length c bad, wrow A c b]) := by
  refine v_enter Tryz.func195 (h := fun w0 => ?_)
  refine v_code [] (hk := ?_)
  refine v_call 20300 [(7, 7), (900, 900), (901, 901), (910, 910), (911, 911), (920, 920), (921, 921), (930, 930), (931, 931)] (hs) hf (hb := hfb) (hn := hfn) (h := ?_)
  rintro _ _ (⟨hr, rfl, A2, c2, rfl⟩ | ⟨hr, rfl, rfl⟩)
  · refine k_ren 20300 900 rfl ?_
    refine k_ren 20301 901 rfl ?_
    refine v_ops [] (hk := ?_)
    refine v_ret rfl [900, 901] (.cons (.tmp rfl) .nil) (h := ?_)
    exact .inl ⟨hr, rfl, A2, c2, rfl⟩
  · refine k_ren 20300 900 rfl ?_
    refine k_ren 20301 901 rfl ?_
    refine v_ex [] (hk := ?_)
    refine k_pan [900, 901] (h := ?_)
    exact .inr ⟨hr, rfl, rfl⟩
theorem doneB_spec (g g5 g6 g7 : Nat) (A : Option Addr) (c : Nat) (bad : Bool) (b x : List UInt8) (r : Bool) (R : Res) (f : FuncId) {fn : Func} (hf : Tryz.prog.funcs[f]? = some fn) (hs : WhatS f g7 R r x g A c b bad) (hfb : fn.body.isNone = false := by rfl) (hfn : (fn.name == "runtime.NumGoroutine") = false := by rfl) : CSpec Tryz.prog 194 [.one (.ifp 84 900 ⟨g, 0, none⟩), .one (.fn 195 [pa g5, pa g6] [5, 6])] [(5, fcell g5 f g7), (6, wcell g6 g), (7, R)] [(900, wr g A b.length c bad), (901, wrow A c b)] fun o L => o = .ret (vb r) ∧ PutPost r x g b bad L := by
  refine v_enterD Tryz.func194 (h := fun w0 => ?_)
  refine v_code [] (hk := ?_)
  refine l_do d_box (fun g2 => ?_)
  refine l_do d_alloc (fun g4 => ?_)
  refine v_ops [] (hk := ?_)
  refine l_defer (h := ?_)
  refine v_ops [] (hk := ?_)
  refine v_call 20350 [(5, 5), (6, 6), (7, 7), (900, 900), (901, 901), (910, 910), (911, 911), (920, 920), (921, 921), (930, 930), (931, 931)] (put1_spec g g5 g6 g7 A c bad b x r R f hf hs hfb hfn) Tryz.func195 (h := ?_)
  rintro _ _ (⟨hr, rfl, A2, c2, rfl⟩ | ⟨hr, rfl, rfl⟩)
  · refine k_ren 20350 900 rfl ?_
    refine k_ren 20351 901 rfl ?_
    refine v_ops [] (hk := ?_)
    refine v_leave _ rfl ?_
    refine v_defers (args := []) 30000 (fun x => if x = 0 then 10002 else if x = 1 then 10004 else x) (doneB1_ret g2 g4 g true) Tryz.func248 (h := ?_)
    rintro _ _ _ ⟨rfl, rfl, rfl⟩
    refine k_ren 30001 10004 rfl ?_
    refine v_left [900, 901] (.s (.one (.b true))) (.cons (.cell inferInstance rfl rfl rfl rfl) .nil) (h := ?_)
    subst hr
    exact ⟨rfl, A2, c2, by rw [if_pos rfl, Bool.not_true, Bool.or_false]; rfl⟩
  · refine k_ren 20350 900 rfl ?_
    refine k_ren 20351 901 rfl ?_
    refine v_ex [] (hk := ?_)
    refine v_leave _ rfl ?_
    refine v_defers (args := []) 30000 (fun x => if x = 0 then 10002 else if x = 1 then 10004 else x) (doneB1_pan g2 g4 g false A b.length c bad) Tryz.func248 (h := ?_)
    rintro _ _ _ ⟨rfl, hu, rfl⟩
    rw [hu]
    refine k_ren 30001 10004 rfl ?_
    refine v_left [30002, 901] (.s (.one (.b false))) (.cons (.cell inferInstance rfl rfl rfl rfl) .nil) (h := ?_)
    subst hr
    exact ⟨rfl, A, c, by rw [if_neg (by decide), Bool.not_false, Bool.or_true]; rfl⟩
theorem put_spec (g g7 : Nat) (A : Option Addr) (c : Nat) (bad : Bool) (b x : List UInt8) (r : Bool) (R : Res) (f : FuncId) {fn : Func} (hf : Tryz.prog.funcs[f]? = some fn) (hs : WhatS f g7 R r x g A c b bad) (hfb : fn.body.isNone = false := by rfl) (hfn : (fn.name == "runtime.NumGoroutine") = false := by rfl) : CSpec Tryz.prog 115 [.one (.ptr 900 ⟨g, 0, none⟩), .one (.fn f [pa g7] [7])] [(7, R)] [(900, wr g A b.length c bad), (901, wrow A c b)] fun o L => o = .ret (.tup []) ∧ PutPost r x g b bad L := by
  refine v_enter Tryz.func115 (h := fun w0 => ?_)
  refine v_code [] (hk := ?_)
  refine l_do d_box (fun g2 => ?_)
  refine l_do d_box (fun g3 => ?_)
  refine v_ops [] (hk := ?_)
  refine l_rd r_ifaceP ?_
  refine v_ops [] (hk := ?_)
  refine v_call 20350 [(5, 10003), (6, 10002), (7, 7), (900, 900), (901, 901), (910, 910), (911, 911), (920, 920), (921, 921), (930, 930), (931, 931)] (doneB_spec g g3 g2 g7 A c bad b x r R f hf hs hfb hfn) Tryz.func194 (h := ?_)
  rintro _ _ (⟨rfl, A2, c2, rfl⟩)
  refine k_ren 20350 900 rfl ?_
  refine k_ren 20351 901 rfl ?_
  refine v_ops [] (hk := ?_)
  refine v_ret rfl [900, 901] .nil (h := ?_)
  exact ⟨rfl, A2, c2, rfl⟩
end Go.Proofs.YtfopgaijfeeioaaGreat
/- WRITING: PutTerm; what is borrowed, gathered. -/

set_option linter.unusedVariables false
set_option linter.unusedSimpArgs false
set_option maxRecDepth 100000
namespace Go.Proofs.YtfopgaijfeeioaaGreat
open Go Go.RowKit HL
theorem lk_memB : ∀ {B : Hp} {i : Nat} {r : Res}, HL.lk B i = some r → r ∈ B.map (·.2)
  | [], i, r, h => by cases h
  | (k, x) :: t, i, r, h => by
    rw [lk_cons] at h
    by_cases e : k = i
    · rw [if_pos e] at h; injection h with h; subst h; exact List.mem_cons_self ..
    · rw [if_neg e] at h; exact List.mem_cons_of_mem _ (lk_memB h)
theorem CSpec.alr {P : Program} {f : FuncId} {args : List SV} {B L : Hp} {post : Out → List Res → Prop} (h : CSpec P f args B L post) : CSpec P f args [(7, Res.alr (B.map (·.2)))] L post := fun w h1 h2 h3 h4 => h w
  (fun i r hi => h1 7 _ rfl r (lk_memB hi)) h2 h3 (fun i r hi s hs b hb hb2 => h4 7 _ rfl s hs b ⟨r, lk_memB hi, hb⟩ hb2)
theorem der_none {B L : Hp} : Der B L [] (Res.alr []) := ⟨fun w _ r hr => (by cases hr), fun b ⟨r, hr, _⟩ => (by cases hr)⟩
theorem der_cons {B L : Hp} {S S' : List Nat} {r : Res} {rs : List Res} (h : Der B L S r) (ht : Der B L S' (Res.alr rs)) : Der B L (S ++ S') (Res.alr (r :: rs)) := ⟨fun w hf q hq => by
  rcases List.mem_cons.1 hq with rfl | hq
  · exact h.h w hf
  · exact ht.h w hf q hq, fun b ⟨q, hq, hb⟩ => by
  rcases List.mem_cons.1 hq with rfl | hq
  · obtain ⟨j, hj, k⟩ := h.f b hb
    exact ⟨j, List.mem_append_left _ hj, k⟩
  · obtain ⟨j, hj, k⟩ := ht.f b ⟨q, hq, hb⟩
    exact ⟨j, List.mem_append_right _ hj, k⟩⟩
abbrev tval (B : Option Addr) (l : List NodeP) (cB : Nat) : List At := [.one (.sl 940 B l.length cB)]
theorem putTerm1_spec (g g7 : Nat) (A B : Option Addr) (c cB : Nat) (bad : Bool) (b : List UInt8) (l : List NodeP) (hc : l.length ≤ cB) (hl : l.length ≤ 1048576) (hf : ∀ n ∈ l, FitN n) (hb : b.length ≤ 70368740000000) : CSpec Tryz.prog 116 [.agg [.one (.ptr 900 ⟨g, 0, none⟩)], .one (.ptr 7 ⟨g7, 0, none⟩)] [(7, Res.va g7 39 (tval B l cB)), (940, Res.rd B nodeEn l)] [(900, wr g A b.length c bad), (901, wrow A c b)] (PutM (rightT l) (encT l) g A c b bad) := by
  refine v_enter Tryz.func116 (h := fun w0 => ?_)
  refine v_code [] (hk := ?_)
  refine l_do d_box (fun g2 => ?_)
  refine v_ops [] (hk := ?_)
  refine v_call 20250 [(940, 940), (900, 900), (901, 901), (910, 910), (911, 911), (920, 920), (921, 921), (930, 930), (931, 931)] (pterm_spec g A B c cB bad b l hc hl hf hb) Tryz.func117 (h := ?_)
  rintro _ _ (⟨hr, rfl, A2, c2, rfl⟩ | ⟨hr, rfl, rfl⟩)
  · refine k_ren 20250 900 rfl ?_
    refine k_ren 20251 901 rfl ?_
    refine v_ops [] (hk := ?_)
    refine v_ret rfl [900, 901] .nil (h := ?_)
    exact .inl ⟨hr, rfl, A2, c2, rfl⟩
  · refine k_ren 20250 900 rfl ?_
    refine k_ren 20251 901 rfl ?_
    refine v_ex [] (hk := ?_)
    refine k_pan [900, 901] (h := ?_)
    exact .inr ⟨hr, rfl, rfl⟩
theorem putTerm_spec (g : Nat) (A B : Option Addr) (c cB : Nat) (bad : Bool) (b : List UInt8) (l : List NodeP) (hc : l.length ≤ cB) (hl : l.length ≤ 1048576) (hf : ∀ n ∈ l, FitN n) (hb : b.length ≤ 70368740000000) : CSpec Tryz.prog 41 [.one (.ptr 900 ⟨g, 0, none⟩), .agg (tval B l cB)] [(940, Res.rd B nodeEn l)] [(900, wr g A b.length c bad), (901, wrow A c b)] fun o L => o = .ret (.tup []) ∧ PutPost (rightT l) (encT l) g b bad L := by
  refine v_enter Tryz.func41 (h := fun w0 => ?_)
  refine v_code [] (hk := ?_)
  refine l_do d_box (fun g3 => ?_)
  refine v_ops [] (hk := ?_)
  refine v_callD 20300 [(900, 900), (901, 901), (910, 910), (911, 911), (920, 920), (921, 921), (930, 930), (931, 931)] (put_spec g g3 A c bad b (encT l) (rightT l) _ 116 Tryz.func116 (CSpec.alr (putTerm1_spec g g3 A B c cB bad b l hc hl hf hb))) Tryz.func115 (hB := ⟨⟨_, (der_cons (Der.vw 10003) (der_cons (Der.vw 940) der_none)), rfl⟩, trivial⟩) (h := ?_)
  rintro _ _ (⟨rfl, A2, c2, rfl⟩)
  refine k_ren 20300 900 rfl ?_
  refine k_ren 20301 901 rfl ?_
  refine v_ops [] (hk := ?_)
  refine v_ret rfl [900, 901] .nil (h := ?_)
  exact ⟨rfl, A2, c2, rfl⟩
end Go.Proofs.YtfopgaijfeeioaaGreat
/- WRITING: assets, values, outputs. -/

set_option linter.unusedVariables false
set_option linter.unusedSimpArgs false
set_option maxRecDepth 100000
namespace Go.Proofs.YtfopgaijfeeioaaGreat
open Go Go.RowKit HL
set_option maxHeartbeats 4000000
namespace HL
theorem k_keep {env : Env} {D : List Deferred} {n : Nat} {w0 : World} {M : Nat → Prop} {B L : Hp} {K : Act → World → Prop} (L' : Hp) (hg : Got (HL.lk L) (fun i => i) L') (h : Ho env D n w0 M B L' K) (hn : nodupB (L'.map (·.1)) = true := by rfl) : Ho env D n w0 M B L K := fun a w hs => h a w ⟨hs.tm, hs.df, by
  have h1 : (L'.map (·.1)).Nodup := nodupB_spec hn
  have h2 := hs.st.picks hg.picks (show (L'.map fun x => x.1).Nodup from h1)
  rw [live_nodup h1]
  exact h2.sub (List.sublist_append_left _ _), hs.bo⟩
end HL
theorem PutM.yes {r : Bool} {x : List UInt8} {g : Nat} {A : Option Addr} {c : Nat} {b : List UInt8} {bad : Bool} (hr : r = true) : ∀ o L, PutM r x g A c b bad o L → WPost g b bad x o L := fun o L h => (h.resolve_right fun h2 => by rw [hr] at h2; cases h2.1).2
theorem hash_len (h : Hash) : h.toList.length = 32 := by simp
theorem encAsset_len {x : AssetP} (h : x.name.size ≤ 32) : (encAsset x).length ≤ 80 := by
  unfold encAsset
  simp only [List.length_append, hash_len, be_len, textB_len]
  omega
theorem flat_snoc {α : Type} {l : List α} {f : α → List UInt8} {k : Nat} {d : α} (hk : k < l.length) : (l.take (k + 1)).flatMap f = (l.take k).flatMap f ++ f (l.getD k d) := by
  rw [take_getD (d := d) hk, List.flatMap_append]
  simp
theorem passets_spec (g : Nat) (A B : Option Addr) (c cB : Nat) (bad : Bool) (b : List UInt8) (l : List AssetP) (hl : l.length ≤ 30) (hn : ∀ x ∈ l, x.name.size ≤ 32) (hb : b.length ≤ 70368739000000) : CSpec Tryz.prog 183 [.agg [.one (.ptr 900 ⟨g, 0, none⟩)], .one (.sl 941 B l.length cB)] [(941, Res.rd B assetEn l)] [(900, wr g A b.length c bad), (901, wrow A c b)] (WPost g b bad (encAssets l)) := by
  have hw := wput_len b bad (be 2 l.length)
  have hw1 := be_len 2 l.length
  refine v_enter Tryz.func183 (h := fun w0 => ?_)
  refine v_code [] (hk := ?_)
  refine l_do d_box (fun g2 => ?_)
  refine v_ops [] (hk := ?_)
  refine v_call 20500 [(900, 900), (901, 901), (910, 910), (911, 911), (920, 920), (921, 921), (930, 930), (931, 931)] (u16_spec g A c bad b l.length ⟨by omega, by omega⟩ (by omega)) Tryz.func243 (h := ?_)
  rintro _ _ (⟨rfl, A10, c10, rfl⟩)
  refine k_ren 20500 900 rfl ?_
  refine k_ren 20501 901 rfl ?_
  refine v_ops [] (hk := ?_)
  refine v_loop (fun m E H => ∃ (k : Nat) (bb : List UInt8) (A2 : Option Addr) (c2 : Nat), E = [(13, vn k)] ∧ H = [(900, wr g A2 bb.length c2 bad), (901, wrow A2 c2 bb)] ∧ m = l.length - k ∧ k ≤ l.length ∧ (((l.take k).flatMap encAsset).length ≤ 80 * k) ∧ (bb = wput (wput b bad (be 2 l.length)) bad ((l.take k).flatMap encAsset))) [2, 11, 12] (l.length) ([(13, vn 0)]) ([(900, wr g (A10) ((wput b bad (be 2 l.length))).length (c10) bad), (901, wrow (A10) (c10) ((wput b bad (be 2 l.length))))]) (h0 := ⟨0, (wput b bad (be 2 l.length)), A10, c10, rfl, rfl, by omega, by omega, by simp, (wput_nil _ bad).symm⟩) (hr := ?_)
  rintro _ _ _ ⟨k, bb, A2, c2, rfl, rfl, hmk, hk, hik0, hik1⟩
  refine v_code [] (hk := ?_)
  first | refine c_ifd rfl (fun h14 => ?_) (fun h14 => ?_) | refine c_ifn rfl (fun h14 => ?_) (fun h14 => ?_) | refine c_if rfl (fun h14 => ?_) (fun h14 => ?_)
  · have hm := hn _ (getD_mem (d := asset0) h14)
    have hq := encAsset_len hm
    have hbb : bb.length ≤ 70368739004000 := by rw [hik1]; have := wput_len (wput b bad (be 2 l.length)) bad ((l.take k).flatMap encAsset); omega
    have w1 := wput_len bb bad (l.getD k asset0).policy.toList
    have w2 := hash_len (l.getD k asset0).policy
    have w3 := wput_len (wput bb bad (l.getD k asset0).policy.toList) bad (textB (l.getD k asset0).name)
    have w4 := textB_len (l.getD k asset0).name
    refine v_code [] (hk := ?_)
    refine l_do d_alloc (fun g5 => ?_)
    refine v_ops [] (hk := ?_)
    refine v_call 21050 [(900, 900), (901, 901), (910, 910), (911, 911), (920, 920), (921, 921), (930, 930), (931, 931)] (hash_spec g A2 c2 bad bb (l.getD k asset0).policy (by omega)) Tryz.func219 (h := ?_)
    rintro _ _ (⟨rfl, A21, c21, rfl⟩)
    refine k_ren 21050 900 rfl ?_
    refine k_ren 21051 901 rfl ?_
    refine k_keep [(900, _), (901, _), (10002, _), (10005, _)] ⟨rfl, rfl, rfl, rfl, trivial⟩ ?_
    refine v_ops [] (hk := ?_)
    refine v_call 21300 [(900, 900), (901, 901), (910, 910), (911, 911), (920, 920), (921, 921), (930, 930), (931, 931)] (text_spec g A21 c21 bad (wput bb bad (l.getD k asset0).policy.toList) (l.getD k asset0).name (by omega) (by omega)) Tryz.func244 (h := ?_)
    rintro _ _ (⟨rfl, A26, c26, rfl⟩)
    refine k_ren 21300 900 rfl ?_
    refine k_ren 21301 901 rfl ?_
    refine k_keep [(900, _), (901, _), (10002, _), (10005, _)] ⟨rfl, rfl, rfl, rfl, trivial⟩ ?_
    refine v_ops [] (hk := ?_)
    refine v_call 21550 [(900, 900), (901, 901), (910, 910), (911, 911), (920, 920), (921, 921), (930, 930), (931, 931)] (i64_spec g A26 c26 bad (wput (wput bb bad (l.getD k asset0).policy.toList) bad (textB (l.getD k asset0).name)) (l.getD k asset0).amount (by omega)) Tryz.func245 (h := ?_)
    rintro _ _ (⟨rfl, A31, c31, rfl⟩)
    refine k_ren 21550 900 rfl ?_
    refine k_ren 21551 901 rfl ?_
    refine k_keep [(900, _), (901, _), (10002, _), (10005, _)] ⟨rfl, rfl, rfl, rfl, trivial⟩ ?_
    refine v_ops [] (hk := ?_)
    refine v_again (l.length - (k + 1)) ⟨k + 1, (wput (wput (wput bb bad (l.getD k asset0).policy.toList) bad (textB (l.getD k asset0).name)) bad (be 8 (l.getD k asset0).amount)), A31, c31, rfl, rfl, by omega, by omega, by rw [flat_snoc (d := asset0) h14, List.length_append]; omega, by rw [flat_snoc (d := asset0) h14, hik1]; simp only [wput_app, List.append_assoc, encAsset]⟩
  · refine v_code [] (hk := ?_)
    rw [take_all' h14] at hik1
    refine v_ret rfl [900, 901] .nil (h := ?_)
    exact ⟨rfl, A2, c2, by rw [hik1, wput_app]; rfl⟩
theorem pvalue_spec (g : Nat) (A B : Option Addr) (c cB : Nat) (bad : Bool) (b : List UInt8) (v : ValC) (hl : v.assets.length ≤ 1048576) (hb : b.length ≤ 70368738000000) : CSpec Tryz.prog 185 [.agg [.one (.ptr 900 ⟨g, 0, none⟩)], .agg [.one (.i .i64 v.coin), .one (.sl 941 B v.assets.length cB)]] [(941, Res.rd B assetEn v.assets)] [(900, wr g A b.length c bad), (901, wrow A c b)] (PutM (rightV v) (encV v) g A c b bad) := by
  have hw := wput_len b bad (be 8 v.coin)
  have hw1 := be_len 8 v.coin
  refine v_enter Tryz.func185 (h := fun w0 => ?_)
  refine v_code [] (hk := ?_)
  refine l_do d_box (fun g2 => ?_)
  refine l_do d_box (fun g3 => ?_)
  refine v_ops [] (hk := ?_)
  refine v_call 20250 [(101, 941), (900, 900), (901, 901), (910, 910), (911, 911), (920, 920), (921, 921), (930, 930), (931, 931)] (right_spec v.coin B v.assets cB hl) Tryz.func66 (h := ?_)
  rintro _ _ (⟨rfl, rfl⟩)
  refine l_do (d_bslice [rightV v]) (fun B6 => ?_)
  refine v_call 20350 [(900, 900), (901, 901), (910, 910), (911, 911), (920, 920), (921, 921), (930, 930), (931, 931)] (pmust_spec B6 [rightV v] _ (by simp)) Tryz.func182 (h := ?_)
  rintro _ _ (⟨h7, rfl, rfl⟩ | ⟨h7, rfl, rfl⟩)
  · have hr : rightV v = true := by simpa using h7
    have hR : RightV v.coin v.assets := of_decide_eq_true hr
    refine v_ops [] (hk := ?_)
    refine v_call 20600 [(900, 900), (901, 901), (910, 910), (911, 911), (920, 920), (921, 921), (930, 930), (931, 931)] (i64_spec g A c bad b v.coin (by omega)) Tryz.func245 (h := ?_)
    rintro _ _ (⟨rfl, A12, c12, rfl⟩)
    refine k_ren 20600 900 rfl ?_
    refine k_ren 20601 901 rfl ?_
    refine v_ops [] (hk := ?_)
    refine v_call 20800 [(941, 941), (900, 900), (901, 901), (910, 910), (911, 911), (920, 920), (921, 921), (930, 930), (931, 931)] (passets_spec g A12 B c12 cB bad (wput b bad (be 8 v.coin)) v.assets hR.2.1.2.2 hR.2.1.1 (by omega)) Tryz.func183 (h := ?_)
    rintro _ _ (⟨rfl, A16, c16, rfl⟩)
    refine k_ren 20800 900 rfl ?_
    refine k_ren 20801 901 rfl ?_
    refine v_ops [] (hk := ?_)
    refine v_ret rfl [900, 901] .nil (h := ?_)
    exact .inl ⟨hr, rfl, A16, c16, by rw [wput_app]; rfl⟩
  · refine v_ex [] (hk := ?_)
    refine k_pan [900, 901] (h := ?_)
    exact .inr ⟨by simpa using h7, rfl, rfl⟩
end Go.Proofs.YtfopgaijfeeioaaGreat
/- WRITING: outputs. -/

set_option linter.unusedVariables false
set_option linter.unusedSimpArgs false
set_option maxRecDepth 100000
set_option maxHeartbeats 4000000
namespace Go.Proofs.YtfopgaijfeeioaaGreat
open Go Go.RowKit HL
theorem rightO_val {o : OutC} (h : rightO o = true) : rightV o.val = true := by
  unfold rightO at h
  rw [Bool.and_eq_true] at h
  exact h.2
theorem rightO_datum {o : OutC} (h : rightO o = true) : (o.datum = 0 ∨ o.datum = 1 ∨ o.datum = 2) ∧ (o.datum = 2 → rightT o.nodes = true) := by
  unfold rightO at h
  rw [Bool.and_eq_true] at h
  have h := h.1
  by_cases h0 : o.datum = 0
  · exact ⟨.inl h0, fun e => by omega⟩
  rw [if_neg h0] at h
  by_cases h1 : o.datum = 1
  · exact ⟨.inr (.inl h1), fun e => by omega⟩
  rw [if_neg h1] at h
  by_cases h2 : o.datum = 2
  · rw [if_pos h2, Bool.and_eq_true] at h
    exact ⟨.inr (.inr h2), fun _ => h.2⟩
  rw [if_neg h2] at h
  cases h
theorem encAssets_len {l : List AssetP} (hn : ∀ x ∈ l, x.name.size ≤ 32) : (encAssets l).length ≤ 2 + 80 * l.length := by
  have : ∀ l : List AssetP, (∀ x ∈ l, x.name.size ≤ 32) → (l.flatMap encAsset).length ≤ 80 * l.length := fun l => by
    induction l with
    | nil => intro _; simp
    | cons x l ih =>
      intro h
      rw [List.flatMap_cons, List.length_append, List.length_cons]
      have h1 := ih fun y hy => h y (List.mem_cons_of_mem _ hy)
      have h2 := encAsset_len (h x (List.mem_cons_self ..))
      omega
  unfold encAssets
  rw [List.length_append, be_len]
  have := this l hn
  omega
theorem encV_len {v : ValC} (h : rightV v = true) : (encV v).length ≤ 3000 := by
  have hR : RightV v.coin v.assets := of_decide_eq_true h
  have h1 := encAssets_len hR.2.1.1
  have h2 := hR.2.1.2.2
  unfold encV
  rw [List.length_append, be_len]
  omega
theorem encT_len {l : List NodeP} (h : rightT l = true) (hf : ∀ n ∈ l, FitN n) : (encT l).length ≤ 30000 := by
  have h1 := rightT_nodes h hf
  have h2 := (rightT_tree h).1
  have : ∀ l : List NodeP, (∀ n ∈ l, n.kind = 2 → n.bytes.size ≤ 200) → (l.flatMap encNode).length ≤ 300 * l.length := fun l => by
    induction l with
    | nil => intro _; simp
    | cons x l ih =>
      intro h
      rw [List.flatMap_cons, List.length_append, List.length_cons]
      have h1 := ih fun y hy => h y (List.mem_cons_of_mem _ hy)
      have h2 := encNode_len (h x (List.mem_cons_self ..))
      omega
  have := this l fun n hn => (h1 n hn).2
  unfold encT
  omega
theorem encO_len {o : OutC} (h : rightO o = true) (hf : ∀ n ∈ o.nodes, FitN n) : (encO o).length ≤ 40000 := by
  have h1 := encV_len (rightO_val h)
  have h2 := (rightO_datum h).2
  have v1 : (flagB o.prog).length = 1 := be_len ..
  unfold encO
  simp only [List.length_append, hash_len, be_len, v1]
  split
  · rw [hash_len]; omega
  · split
    · rename_i e; have := encT_len (h2 e) hf; omega
    · simp; omega
theorem pout_spec (g : Nat) (A : Option Addr) (c : Nat) (bad : Bool) (b : List UInt8) (x : OutM) (hx : OkO x) (hb : b.length ≤ 70368737000000) : CSpec Tryz.prog 138 [.agg [.one (.ptr 900 ⟨g, 0, none⟩)], oval x 941 940] [(941, Res.rd x.A assetEn x.c.val.assets), (940, Res.rd x.B nodeEn x.c.nodes)] [(900, wr g A b.length c bad), (901, wrow A c b)] (PutM (rightO x.c) (encO x.c) g A c b bad) := by
  have w1 := wput_len b bad (flagB x.c.prog)
  have v1 : (flagB x.c.prog).length = 1 := be_len ..
  have w2 := wput_len (wput b bad (flagB x.c.prog)) bad x.c.hash.toList
  have v2 := hash_len x.c.hash
  have w3 := wput_len (wput (wput b bad (flagB x.c.prog)) bad x.c.hash.toList) bad (encV x.c.val)
  have w4 := wput_len (wput (wput (wput b bad (flagB x.c.prog)) bad x.c.hash.toList) bad (encV x.c.val)) bad (be 1 x.c.datum)
  have v4 := be_len 1 x.c.datum
  refine v_enter Tryz.func138 (h := fun w0 => ?_)
  refine v_code [] (hk := ?_)
  refine l_do d_box (fun g2 => ?_)
  refine l_do d_box (fun g3 => ?_)
  refine v_ops [] (hk := ?_)
  refine v_call 20250 [(941, 941), (940, 940), (900, 900), (901, 901), (910, 910), (911, 911), (920, 920), (921, 921), (930, 930), (931, 931)] (rout_spec x hx) Tryz.func16 (h := ?_)
  rintro _ _ (⟨rfl, rfl⟩)
  refine l_do (d_bslice [rightO x.c]) (fun B6 => ?_)
  refine v_call 20350 [(900, 900), (901, 901), (910, 910), (911, 911), (920, 920), (921, 921), (930, 930), (931, 931)] (pmust_spec B6 [rightO x.c] _ (by simp)) Tryz.func182 (h := ?_)
  rintro _ _ (⟨h7, rfl, rfl⟩ | ⟨h7, rfl, rfl⟩)
  · have hr : rightO x.c = true := by simpa using h7
    have hv := rightO_val hr
    have v3 := encV_len hv
    obtain ⟨hd, ht⟩ := rightO_datum hr
    refine v_ops [] (hk := ?_)
    refine v_call 20650 [(900, 900), (901, 901), (910, 910), (911, 911), (920, 920), (921, 921), (930, 930), (931, 931)] (flag_spec g A c bad b x.c.prog (by omega)) Tryz.func218 (h := ?_)
    rintro _ _ (⟨rfl, A13, c13, rfl⟩)
    refine k_ren 20650 900 rfl ?_
    refine k_ren 20651 901 rfl ?_
    refine k_keep [(900, _), (901, _), (10002, _), (10003, _)] ⟨rfl, rfl, rfl, rfl, trivial⟩ ?_
    refine v_ops [] (hk := ?_)
    refine v_call 20950 [(900, 900), (901, 901), (910, 910), (911, 911), (920, 920), (921, 921), (930, 930), (931, 931)] (hash_spec g A13 c13 bad (wput b bad (flagB x.c.prog)) x.c.hash (by omega)) Tryz.func219 (h := ?_)
    rintro _ _ (⟨rfl, A19, c19, rfl⟩)
    refine k_ren 20950 900 rfl ?_
    refine k_ren 20951 901 rfl ?_
    refine k_keep [(900, _), (901, _), (10002, _), (10003, _)] ⟨rfl, rfl, rfl, rfl, trivial⟩ ?_
    refine v_ops [] (hk := ?_)
    refine v_call 21150 [(941, 941), (900, 900), (901, 901), (910, 910), (911, 911), (920, 920), (921, 921), (930, 930), (931, 931)] ((pvalue_spec g A19 x.A c19 x.cA bad (wput (wput b bad (flagB x.c.prog)) bad x.c.hash.toList) x.c.val hx.a (by omega)).mono (PutM.yes hv)) Tryz.func185 (h := ?_)
    rintro _ _ (⟨rfl, A23, c23, rfl⟩)
    refine k_ren 21150 900 rfl ?_
    refine k_ren 21151 901 rfl ?_
    refine k_keep [(900, _), (901, _), (10002, _), (10003, _)] ⟨rfl, rfl, rfl, rfl, trivial⟩ ?_
    refine v_ops [] (hk := ?_)
    refine v_call 21400 [(900, 900), (901, 901), (910, 910), (911, 911), (920, 920), (921, 921), (930, 930), (931, 931)] (u8_spec g A23 c23 bad (wput (wput (wput b bad (flagB x.c.prog)) bad x.c.hash.toList) bad (encV x.c.val)) x.c.datum ⟨by omega, by omega⟩ (by omega)) Tryz.func60 (h := ?_)
    rintro _ _ (⟨rfl, A28, c28, rfl⟩)
    refine k_ren 21400 900 rfl ?_
    refine k_ren 21401 901 rfl ?_
    refine k_keep [(900, _), (901, _), (10002, _), (10003, _)] ⟨rfl, rfl, rfl, rfl, trivial⟩ ?_
    refine v_ops [] (hk := ?_)
    first | refine c_ifd rfl (fun h31 => ?_) (fun h31 => ?_) | refine c_ifn rfl (fun h31 => ?_) (fun h31 => ?_) | refine c_if rfl (fun h31 => ?_) (fun h31 => ?_)
    · refine v_code [] (hk := ?_)
      refine v_call 21850 [(900, 900), (901, 901), (910, 910), (911, 911), (920, 920), (921, 921), (930, 930), (931, 931)] (hash_spec g A28 c28 bad (wput (wput (wput (wput b bad (flagB x.c.prog)) bad x.c.hash.toList) bad (encV x.c.val)) bad (be 1 x.c.datum)) x.c.dh (by omega)) Tryz.func219 (h := ?_)
      rintro _ _ (⟨rfl, A37, c37, rfl⟩)
      refine k_ren 21850 900 rfl ?_
      refine k_ren 21851 901 rfl ?_
      refine k_keep [(900, _), (901, _), (10002, _), (10003, _)] ⟨rfl, rfl, rfl, rfl, trivial⟩ ?_
      refine v_ops [] (hk := ?_)
      refine v_ret rfl [900, 901] .nil (h := ?_)
      exact .inl ⟨hr, rfl, A37, c37, by simp only [wput_app]; unfold encO; rw [if_pos (show x.c.datum = 1 from h31)]; simp only [List.append_assoc]; rfl⟩
    · refine v_code [] (hk := ?_)
      first | refine c_ifd rfl (fun h38 => ?_) (fun h38 => ?_) | refine c_ifn rfl (fun h38 => ?_) (fun h38 => ?_) | refine c_if rfl (fun h38 => ?_) (fun h38 => ?_)
      · refine v_code [] (hk := ?_)
        refine v_call 22150 [(940, 940), (900, 900), (901, 901), (910, 910), (911, 911), (920, 920), (921, 921), (930, 930), (931, 931)] ((pterm_spec g A28 x.B c28 x.cB bad (wput (wput (wput (wput b bad (flagB x.c.prog)) bad x.c.hash.toList) bad (encV x.c.val)) bad (be 1 x.c.datum)) x.c.nodes hx.r hx.n hx.f (by omega)).mono (PutM.yes (ht (by omega)))) Tryz.func117 (h := ?_)
        rintro _ _ (⟨rfl, A43, c43, rfl⟩)
        refine k_ren 22150 900 rfl ?_
        refine k_ren 22151 901 rfl ?_
        refine k_keep [(900, _), (901, _), (10002, _), (10003, _)] ⟨rfl, rfl, rfl, rfl, trivial⟩ ?_
        refine v_ops [] (hk := ?_)
        refine v_ret rfl [900, 901] .nil (h := ?_)
        exact .inl ⟨hr, rfl, A43, c43, by simp only [wput_app]; unfold encO; rw [if_neg (show ¬ x.c.datum = 1 from h31), if_pos (show x.c.datum = 2 from h38)]; simp only [List.append_assoc]; rfl⟩
      · refine v_code [] (hk := ?_)
        refine v_ret rfl [900, 901] .nil (h := ?_)
        exact .inl ⟨hr, rfl, A28, c28, by simp only [wput_app]; unfold encO; rw [if_neg (show ¬ x.c.datum = 1 from h31), if_neg (show ¬ x.c.datum = 2 from h38)]; simp only [List.append_assoc, List.append_nil]; rfl⟩
  · refine v_ex [] (hk := ?_)
    refine k_pan [900, 901] (h := ?_)
    exact .inr ⟨by simpa using h7, rfl, rfl⟩
theorem putOut1_spec (g g7 : Nat) (A : Option Addr) (c : Nat) (bad : Bool) (b : List UInt8) (x : OutM) (hx : OkO x) (hb : b.length ≤ 70368737000000) : CSpec Tryz.prog 137 [.agg [.one (.ptr 900 ⟨g, 0, none⟩)], .one (.ptr 7 ⟨g7, 0, none⟩)] [(7, Res.va g7 41 (oval x 941 940).ats), (941, Res.rd x.A assetEn x.c.val.assets), (940, Res.rd x.B nodeEn x.c.nodes)] [(900, wr g A b.length c bad), (901, wrow A c b)] (PutM (rightO x.c) (encO x.c) g A c b bad) := by
  refine v_enter Tryz.func137 (h := fun w0 => ?_)
  refine v_code [] (hk := ?_)
  refine l_do d_box (fun g2 => ?_)
  refine v_ops [] (hk := ?_)
  refine v_call 20250 [(941, 941), (940, 940), (900, 900), (901, 901), (910, 910), (911, 911), (920, 920), (921, 921), (930, 930), (931, 931)] (pout_spec g A c bad b x hx hb) Tryz.func138 (h := ?_)
  rintro _ _ (⟨hr, rfl, A2, c2, rfl⟩ | ⟨hr, rfl, rfl⟩)
  · refine k_ren 20250 900 rfl ?_
    refine k_ren 20251 901 rfl ?_
    refine v_ops [] (hk := ?_)
    refine v_ret rfl [900, 901] .nil (h := ?_)
    exact .inl ⟨hr, rfl, A2, c2, rfl⟩
  · refine k_ren 20250 900 rfl ?_
    refine k_ren 20251 901 rfl ?_
    refine v_ex [] (hk := ?_)
    refine k_pan [900, 901] (h := ?_)
    exact .inr ⟨hr, rfl, rfl⟩
theorem putOutput_spec (g : Nat) (A : Option Addr) (c : Nat) (bad : Bool) (b : List UInt8) (x : OutM) (hx : OkO x) (hb : b.length ≤ 70368737000000) : CSpec Tryz.prog 76 [.one (.ptr 900 ⟨g, 0, none⟩), oval x 941 940] [(941, Res.rd x.A assetEn x.c.val.assets), (940, Res.rd x.B nodeEn x.c.nodes)] [(900, wr g A b.length c bad), (901, wrow A c b)] fun o L => o = .ret (.tup []) ∧ PutPost (rightO x.c) (encO x.c) g b bad L := by
  refine v_enter Tryz.func76 (h := fun w0 => ?_)
  refine v_code [] (hk := ?_)
  refine l_do d_box (fun g3 => ?_)
  refine v_ops [] (hk := ?_)
  refine v_callD 20300 [(900, 900), (901, 901), (910, 910), (911, 911), (920, 920), (921, 921), (930, 930), (931, 931)] (put_spec g g3 A c bad b (encO x.c) (rightO x.c) _ 137 Tryz.func137 (CSpec.alr (putOut1_spec g g3 A c bad b x hx hb))) Tryz.func115 (hB := ⟨⟨_, (der_cons (Der.vw 10003) (der_cons (Der.vw 941) (der_cons (Der.vw 940) der_none))), rfl⟩, trivial⟩) (h := ?_)
  rintro _ _ (⟨rfl, A2, c2, rfl⟩)
  refine k_ren 20300 900 rfl ?_
  refine k_ren 20301 901 rfl ?_
  refine v_ops [] (hk := ?_)
  refine v_ret rfl [900, 901] .nil (h := ?_)
  exact ⟨rfl, A2, c2, rfl⟩
def longO (o : OutC) : Nat := if rightO o then (encO o).length else 0
theorem long_room {x : OutM} (hx : OkO x) : (if rightO x.c then wput [] false (encO x.c) else []).length ≤ 70368744177664 := by
  split
  · rename_i e
    have := encO_len e hx.f
    have := wput_len [] false (encO x.c)
    simp only [List.length_nil] at this
    omega
  · simp
theorem long_spec (x : OutM) (hx : OkO x) : CSpec Tryz.prog 21 [oval x 941 940] [(941, Res.rd x.A assetEn x.c.val.assets), (940, Res.rd x.B nodeEn x.c.nodes)] [] fun o L => o = .ret (vint (longO x.c : Nat)) ∧ L = [] := by
  refine v_enter Tryz.func21 (h := fun w0 => ?_)
  refine v_code [] (hk := ?_)
  refine l_do d_box (fun g1 => ?_)
  refine v_ops [] (hk := ?_)
  refine v_call 20300 [(900, 900), (901, 901), (910, 910), (911, 911), (920, 920), (921, 921), (930, 930), (931, 931)] (newWriter_spec) Tryz.func37 (h := ?_)
  rintro _ _ (⟨g, rfl, rfl⟩)
  refine k_val 6 (vp 900 ⟨g, 0, none⟩) rfl rfl ?_
  refine k_ren 20300 900 rfl ?_
  refine k_ren 20301 901 rfl ?_
  refine v_ops [] (hk := ?_)
  refine v_call 20450 [(941, 941), (940, 940), (900, 900), (901, 901), (910, 910), (911, 911), (920, 920), (921, 921), (930, 930), (931, 931)] (putOutput_spec g none 0 false [] x hx (by simp)) Tryz.func76 (h := ?_)
  rintro _ _ (⟨rfl, A2, c2, rfl⟩)
  refine k_ren 20450 900 rfl ?_
  refine k_ren 20451 901 rfl ?_
  refine k_keep [(900, _), (901, _), (10001, _)] ⟨rfl, rfl, rfl, trivial⟩ ?_
  refine v_ops [] (hk := ?_)
  refine v_call 20600 [(900, 900), (901, 901), (910, 910), (911, 911), (920, 920), (921, 921), (930, 930), (931, 931)] (bytes_spec g A2 c2 (false || !rightO x.c) (if rightO x.c then wput [] false (encO x.c) else []) (long_room hx)) Tryz.func39 (h := ?_)
  rintro _ _ (⟨B, d, rfl, rfl⟩)
  refine v_ops [] (hk := ?_)
  refine v_ret rfl [] (.cons (.tmp rfl) .nil) (h := ?_)
  refine ⟨?_, rfl⟩
  unfold longO
  cases rightO x.c <;> rfl
end Go.Proofs.YtfopgaijfeeioaaGreat
/- READING: what must be met. -/

set_option linter.unusedVariables false
set_option linter.unusedSimpArgs false
set_option maxRecDepth 100000
namespace Go.Proofs.YtfopgaijfeeioaaGreat
open Go Go.RowKit HL
def MetPost (q : Bool) (s : Rd) (o : Out) (L : List Res) : Prop := (q = true ∧ s.bad = false ∧ o = .ret (.tup []) ∧ L = []) ∨ ((q = false ∨ s.bad = true) ∧ o = .pan wrong ∧ L = [])
theorem errB (s : Rd) : decide ((if s.bad then (4 : Int) else 0) = 0) = !s.bad := by cases s.bad <;> decide
theorem met_no {q b : Bool} (h : ([q] ++ [!b]).all id = false) : q = false ∨ b = true := by revert h; cases q <;> cases b <;> simp
theorem met1_spec (g : Nat) (B X : Option Addr) (c n d : Nat) (s : Rd) (q : Bool) : CSpec Tryz.prog 146 [.agg [.one (.ptr 910 ⟨g, 0, none⟩)], .one (.sl 7 X [q].length d)] [(910, rdr g B c n s)] [(7, Res.rows X d 4 boolEn [q])] (MetPost q s) := by
  refine v_enter Tryz.func146 (h := fun w0 => ?_)
  refine v_code [] (hk := ?_)
  refine l_do d_box (fun g2 => ?_)
  refine v_ops [] (hk := ?_)
  refine v_call 20350 [(900, 900), (901, 901), (910, 910), (911, 911), (920, 920), (921, 921), (930, 930), (931, 931)] (rErr_spec g B c n s) Tryz.func31 (h := ?_)
  rintro _ _ (⟨rfl, rfl⟩)
  refine v_ops [] (hk := ?_)
  refine l_do (d_bslice [decide ((if s.bad then (4 : Int) else 0) = 0)]) (fun B9 => ?_)
  refine l_do d_append (fun p10 => ?_)
  refine v_call 20550 [(900, 900), (901, 901), (910, 910), (911, 911), (920, 920), (921, 921), (930, 930), (931, 931)] (pmust_spec _ ([q] ++ [decide ((if s.bad then (4 : Int) else 0) = 0)]) _ (by simp)) Tryz.func182 (h := ?_)
  rintro _ _ (⟨h, rfl, rfl⟩ | ⟨h, rfl, rfl⟩)
  · refine v_ops [] (hk := ?_)
    refine v_ret rfl [] .nil (h := ?_)
    exact .inl ⟨(by simpa [errB] using h : q = true ∧ s.bad = false).1, (by simpa [errB] using h : q = true ∧ s.bad = false).2, rfl, rfl⟩
  · refine v_ex [] (hk := ?_)
    refine k_pan [] (h := ?_)
    rw [errB] at h
    exact .inr ⟨met_no h, rfl, rfl⟩
theorem met0_spec (g : Nat) (B : Option Addr) (c n : Nat) (s : Rd) : CSpec Tryz.prog 146 [.agg [.one (.ptr 910 ⟨g, 0, none⟩)], .one (.sl 0 none 0 0)] [(910, rdr g B c n s)] [] (MetPost true s) := by
  refine v_enter Tryz.func146 (h := fun w0 => ?_)
  refine v_code [] (hk := ?_)
  refine l_do d_box (fun g2 => ?_)
  refine v_ops [] (hk := ?_)
  refine v_call 20350 [(900, 900), (901, 901), (910, 910), (911, 911), (920, 920), (921, 921), (930, 930), (931, 931)] (rErr_spec g B c n s) Tryz.func31 (h := ?_)
  rintro _ _ (⟨rfl, rfl⟩)
  refine v_ops [] (hk := ?_)
  refine l_do (d_bslice [decide ((if s.bad then (4 : Int) else 0) = 0)]) (fun B9 => ?_)
  refine l_do d_append0 (fun p10 => ?_)
  refine v_call 20550 [(900, 900), (901, 901), (910, 910), (911, 911), (920, 920), (921, 921), (930, 930), (931, 931)] (pmust_spec _ [decide ((if s.bad then (4 : Int) else 0) = 0)] _ (by simp)) Tryz.func182 (h := ?_)
  rintro _ _ (⟨h, rfl, rfl⟩ | ⟨h, rfl, rfl⟩)
  · refine v_ops [] (hk := ?_)
    refine v_ret rfl [] .nil (h := ?_)
    exact .inl ⟨rfl, by simpa [errB] using h, rfl, rfl⟩
  · refine v_ex [] (hk := ?_)
    refine k_pan [] (h := ?_)
    exact .inr ⟨by simpa [errB] using h, rfl, rfl⟩
end Go.Proofs.YtfopgaijfeeioaaGreat
/- READING: nodes. -/

set_option linter.unusedVariables false
set_option linter.unusedSimpArgs false
set_option maxRecDepth 100000
namespace Go.Proofs.YtfopgaijfeeioaaGreat
open Go Go.RowKit HL
def Got2 {α : Type} (p : Pr α) (all : List UInt8) (s : Rd) (x : α) (s' : Rd) : Prop := (s.bad = false ∧ ∃ t, p (all.drop s.o) = some (x, t) ∧ s' = ⟨all.length - t.length, false⟩) ∨ ((s.bad = true ∨ p (all.drop s.o) = none) ∧ s'.bad = true)
theorem got_tot {α : Type} (z : α) (p : Pr α) (all : List UInt8) (s : Rd) : Got2 p all s (tot z p all s).1 (tot z p all s).2 := by
  by_cases hb : s.bad = true
  · rw [tot_bad hb]
    exact .inr ⟨.inl hb, hb⟩
  · have hb : s.bad = false := by simpa using hb
    cases h : p (all.drop s.o) with
    | none => rw [tot_no hb h]; exact .inr ⟨.inr h, rfl⟩
    | some q =>
      obtain ⟨x, t⟩ := q
      rw [tot_yes hb h]
      exact .inl ⟨hb, t, h, rfl⟩
theorem tot_room {α : Type} (z : α) (p : Pr α) {all : List UInt8} {s : Rd} (h : s.o ≤ all.length) : (tot z p all s).2.o ≤ all.length := by
  unfold tot
  split
  · exact h
  · split
    · exact Nat.sub_le _ _
    · exact h
def Sfx {α : Type} (p : Pr α) : Prop := ∀ b x t, p b = some (x, t) → ∃ u, b = u ++ t
theorem sfx_drop {all u t : List UInt8} {o : Nat} (h : all.drop o = u ++ t) : all.drop (all.length - t.length) = t := by
  have h1 : (all.drop o).length = u.length + t.length := by rw [h, List.length_append]
  rw [List.length_drop] at h1
  by_cases e : o ≤ all.length
  · have h2 : all.drop (o + u.length) = t := by rw [← List.drop_drop, h, List.drop_left]
    rw [← h2]
    congr 1
    rw [h2]
    omega
  · have h3 : t.length = 0 := by omega
    rw [List.length_eq_zero_iff.1 h3]
    simp
theorem Got2.bind {α β γ : Type} {p : Pr α} {q : Pr β} {f : α → β → γ} {all : List UInt8} {s s1 s2 : Rd} {x : α} {y : β} (hp : Sfx p) (h1 : Got2 p all s x s1) (h2 : Got2 q all s1 y s2) : Got2 (fun b => (p b).bind fun r => (q r.2).map fun u => (f r.1 u.1, u.2)) all s (f x y) s2 := by
  rcases h1 with ⟨hb, t, ht, rfl⟩ | ⟨h, hb1⟩
  · obtain ⟨u, hu⟩ := hp _ _ _ ht
    have e := sfx_drop hu
    rcases h2 with ⟨_, t2, ht2, rfl⟩ | ⟨h, hb2⟩
    · refine .inl ⟨hb, t2, ?_, rfl⟩
      simp only at ht2
      rw [e] at ht2
      simp only [ht, Option.bind_some, ht2, Option.map_some]
    · refine .inr ⟨.inr ?_, hb2⟩
      rcases h with h | h
      · cases h
      · simp only at h
        rw [e] at h
        simp only [ht, Option.bind_some, h, Option.map_none]
  · refine .inr ⟨?_, ?_⟩
    · rcases h with h | h
      · exact .inl h
      · exact .inr (by simp only [h, Option.bind_none])
    · rcases h2 with ⟨hb, _⟩ | ⟨_, hb2⟩
      · rw [hb1] at hb; cases hb
      · exact hb2
theorem sfx_pU (k : Nat) : Sfx (pU k) := fun b x t h => ⟨_, (pU_inv h).1⟩
def NodeGet {α : Type} (upd : α → NodeP) (p : Pr α) (g12 g : Nat) (A : Option Addr) (c : Nat) (all : List UInt8) (s : Rd) (o : Out) (L : List Res) : Prop := o = .ret (.tup []) ∧ ∃ x s' n' B', Got2 p all s x s' ∧ (s'.bad = false → n' = upd x) ∧ TailOk A c s'.o B' ∧ s'.o ≤ all.length ∧ L = [Res.va g12 76 (nodeEn.f n').ats, rdr g B' c all.length s']
theorem gn1_spec (g g11 g12 g13 : Nat) (A B : Option Addr) (c : Nat) (all : List UInt8) (s : Rd) (n : NodeP) (hB : TailOk A c s.o B) (ho : s.o ≤ all.length) (hl : all.length ≤ 70368744177664) : CSpec Tryz.prog 254 [.one (.ptr 11 ⟨g11, 0, none⟩), .one (.ptr 12 ⟨g12, 0, none⟩)] [(11, Res.va g11 174 [.one (.ptr 910 ⟨g, 0, none⟩)]), (13, Res.va g13 1 [.one (.fn 254 [pa g11, pa g12] [])]), (911, wrow A c all)] [(12, Res.va g12 76 (nodeEn.f n).ats), (910, rdr g B c all.length s)] (NodeGet (fun x => {n with kids := ((x : Nat) : Int)}) (pCount 100) g12 g A c all s) := by
  refine v_enter Tryz.func254 (h := fun w0 => ?_)
  refine v_code [] (hk := ?_)
  refine v_call 20200 [(900, 900), (901, 901), (910, 910), (911, 911), (920, 920), (921, 921), (930, 930), (931, 931)] (rCount_spec g A B c all s 100 hB ho hl) Tryz.func223 (h := ?_)
  rintro _ _ (⟨rfl, B4, hB4, rfl⟩)
  refine k_ren 20200 910 rfl ?_
  refine v_ops [] (hk := ?_)
  refine v_ret rfl [12, 910] .nil (h := ?_)
  exact ⟨rfl, (tot 0 (pCount 100) all s).1, (tot 0 (pCount 100) all s).2, _, B4, got_tot _ _ _ _, fun _ => rfl, hB4, tot_room _ _ ho, rfl⟩
theorem gn2_spec (g g11 g12 g13 : Nat) (A B : Option Addr) (c : Nat) (all : List UInt8) (s : Rd) (n : NodeP) (hB : TailOk A c s.o B) (ho : s.o ≤ all.length) (hl : all.length ≤ 70368744177664) : CSpec Tryz.prog 255 [.one (.ptr 11 ⟨g11, 0, none⟩), .one (.ptr 12 ⟨g12, 0, none⟩)] [(11, Res.va g11 174 [.one (.ptr 910 ⟨g, 0, none⟩)]), (13, Res.va g13 1 [.one (.fn 254 [pa g11, pa g12] [])]), (911, wrow A c all)] [(12, Res.va g12 76 (nodeEn.f n).ats), (910, rdr g B c all.length s)] (NodeGet (fun x => {n with int := x}) (pI) g12 g A c all s) := by
  refine v_enter Tryz.func255 (h := fun w0 => ?_)
  refine v_code [] (hk := ?_)
  refine v_call 20200 [(900, 900), (901, 901), (910, 910), (911, 911), (920, 920), (921, 921), (930, 930), (931, 931)] (rI64_spec g A B c all s hB ho hl) Tryz.func227 (h := ?_)
  rintro _ _ (⟨rfl, B4, hB4, rfl⟩)
  refine k_ren 20200 910 rfl ?_
  refine v_ops [] (hk := ?_)
  refine v_ret rfl [12, 910] .nil (h := ?_)
  exact ⟨rfl, (tot 0 (pI) all s).1, (tot 0 (pI) all s).2, _, B4, got_tot _ _ _ _, fun _ => rfl, hB4, tot_room _ _ ho, rfl⟩
theorem gn3_spec (g g11 g12 g13 : Nat) (A B : Option Addr) (c : Nat) (all : List UInt8) (s : Rd) (n : NodeP) (hB : TailOk A c s.o B) (ho : s.o ≤ all.length) (hl : all.length ≤ 70368744177664) : CSpec Tryz.prog 256 [.one (.ptr 11 ⟨g11, 0, none⟩), .one (.ptr 12 ⟨g12, 0, none⟩)] [(11, Res.va g11 174 [.one (.ptr 910 ⟨g, 0, none⟩)]), (13, Res.va g13 1 [.one (.fn 254 [pa g11, pa g12] [])]), (911, wrow A c all)] [(12, Res.va g12 76 (nodeEn.f n).ats), (910, rdr g B c all.length s)] (NodeGet (fun x => {n with bytes := x}) (pText 200) g12 g A c all s) := by
  refine v_enter Tryz.func256 (h := fun w0 => ?_)
  refine v_code [] (hk := ?_)
  refine v_call 20200 [(900, 900), (901, 901), (910, 910), (911, 911), (920, 920), (921, 921), (930, 930), (931, 931)] (rText_spec g A B c all s 200 hB ho hl) Tryz.func231 (h := ?_)
  rintro _ _ (⟨rfl, B4, hB4, rfl⟩)
  refine k_ren 20200 910 rfl ?_
  refine v_ops [] (hk := ?_)
  refine v_ret rfl [12, 910] .nil (h := ?_)
  exact ⟨rfl, (tot ⟨#[]⟩ (pText 200) all s).1, (tot ⟨#[]⟩ (pText 200) all s).2, _, B4, got_tot _ _ _ _, fun _ => rfl, hB4, tot_room _ _ ho, rfl⟩
theorem gn4_spec (g g11 g12 g13 : Nat) (A B : Option Addr) (c : Nat) (all : List UInt8) (s : Rd) (n : NodeP) (hB : TailOk A c s.o B) (ho : s.o ≤ all.length) (hl : all.length ≤ 70368744177664) : CSpec Tryz.prog 257 [.one (.ptr 11 ⟨g11, 0, none⟩), .one (.ptr 12 ⟨g12, 0, none⟩)] [(11, Res.va g11 174 [.one (.ptr 910 ⟨g, 0, none⟩)]), (13, Res.va g13 1 [.one (.fn 254 [pa g11, pa g12] [])]), (911, wrow A c all)] [(12, Res.va g12 76 (nodeEn.f n).ats), (910, rdr g B c all.length s)] (NodeGet (fun x => {n with bits := ((x : Nat) : Int)}) (pU 8) g12 g A c all s) := by
  refine v_enter Tryz.func257 (h := fun w0 => ?_)
  refine v_code [] (hk := ?_)
  refine v_call 20200 [(900, 900), (901, 901), (910, 910), (911, 911), (920, 920), (921, 921), (930, 930), (931, 931)] (rU64_spec g A B c all s hB ho hl) Tryz.func232 (h := ?_)
  rintro _ _ (⟨rfl, B4, hB4, rfl⟩)
  refine k_ren 20200 910 rfl ?_
  refine v_ops [] (hk := ?_)
  refine v_ret rfl [12, 910] .nil (h := ?_)
  exact ⟨rfl, (tot 0 (pU 8) all s).1, (tot 0 (pU 8) all s).2, _, B4, got_tot _ _ _ _, fun _ => rfl, hB4, tot_room _ _ ho, rfl⟩
theorem gn5_spec (g g11 g12 g13 : Nat) (A B : Option Addr) (c : Nat) (all : List UInt8) (s : Rd) (n : NodeP) (hB : TailOk A c s.o B) (ho : s.o ≤ all.length) (hl : all.length ≤ 70368744177664) : CSpec Tryz.prog 258 [.one (.ptr 11 ⟨g11, 0, none⟩), .one (.ptr 12 ⟨g12, 0, none⟩), .one (.ptr 13 ⟨g13, 0, none⟩)] [(11, Res.va g11 174 [.one (.ptr 910 ⟨g, 0, none⟩)]), (13, Res.va g13 1 [.one (.fn 254 [pa g11, pa g12] [])]), (911, wrow A c all)] [(12, Res.va g12 76 (nodeEn.f n).ats), (910, rdr g B c all.length s)] (NodeGet (fun x : Nat × Nat => {n with int := (x.1 : Int), kids := (x.2 : Int)}) (fun b => (pU 4 b).bind fun r => (pCount 100 r.2).map fun u => ((r.1, u.1), u.2)) g12 g A c all s) := by
  refine v_enter Tryz.func258 (h := fun w0 => ?_)
  refine v_code [] (hk := ?_)
  refine v_call 20250 [(900, 900), (901, 901), (910, 910), (911, 911), (920, 920), (921, 921), (930, 930), (931, 931)] (rU32_spec g A B c all s hB ho hl) Tryz.func229 (h := ?_)
  rintro _ _ (⟨rfl, B4, hB4, rfl⟩)
  refine k_ren 20250 910 rfl ?_
  refine v_ops [] (hk := ?_)
  refine v_call 20400 [(11, 11), (13, 13), (12, 12), (900, 900), (901, 901), (910, 910), (911, 911), (920, 920), (921, 921), (930, 930), (931, 931)] (gn1_spec g g11 g12 g13 A B4 c all (tot 0 (pU 4) all s).2 {n with int := ((tot 0 (pU 4) all s).1 : Int)} hB4 (tot_room _ _ ho) hl) Tryz.func254 (h := ?_)
  rintro _ _ (⟨rfl, x8, s8, n8, B8, h8, hn8, hB8, ho8, rfl⟩)
  refine k_ren 20400 12 rfl ?_
  refine k_ren 20401 910 rfl ?_
  refine v_ops [] (hk := ?_)
  refine v_ret rfl [12, 910] .nil (h := ?_)
  exact ⟨rfl, ((tot 0 (pU 4) all s).1, x8), s8, n8, B8, Got2.bind (sfx_pU 4) (got_tot _ _ _ _) h8, hn8, hB8, ho8, rfl⟩
end Go.Proofs.YtfopgaijfeeioaaGreat
