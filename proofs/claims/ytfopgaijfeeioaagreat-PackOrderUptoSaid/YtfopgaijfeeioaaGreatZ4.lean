/- Lemmas and walks: VT, VU, VW, VX, Vt, PA, WA, WB, WC, WD, WE, WF. -/
import Derived.Test.YtfopgaijfeeioaaGreatZ3
import Derived.Lib.ConvBytes
import Derived.Test.YtfopgaijfeeioaaGreatProg
import Derived.KernelRfl
/- SYMBOLIC STATES, COMPUTED: own rows made short: their elements become room. My own text; it names no program. -/

set_option linter.unusedVariables false
set_option linter.unusedSimpArgs false
set_option linter.unusedSectionVars false
namespace Go.Proofs.YtfopgaijfeeioaaGreat
namespace HL
open Go Go.RowKit
theorem St.swap {w0 w : World} {M : Nat → Prop} {r r' : Res} {L : List Res} (h : St w0 w M (r :: L)) (hh : r'.holds w) (hf : ∀ b, r'.fp b → r.fp b) : St w0 w M (r' :: L) := by
  have hd := List.pairwise_cons.1 h.dis
  refine ⟨h.os, h.tape, h.output, h.drawn, h.size, h.keep, fun s hs => ?_, List.pairwise_cons.2 ⟨fun s hs b hb => hd.1 s hs b (hf b hb), hd.2⟩, fun s hs b hb => ?_⟩
  · rcases List.mem_cons.1 hs with rfl | hs
    · exact hh
    · exact h.res s (List.mem_cons_of_mem _ hs)
  · rcases List.mem_cons.1 hs with rfl | hs
    · exact h.own r (List.mem_cons_self ..) b (hf b hb)
    · exact h.own s (List.mem_cons_of_mem _ hs) b hb
end HL
end Go.Proofs.YtfopgaijfeeioaaGreat
/- SYMBOLIC STATES, COMPUTED: rows with room. My own text; it names no program. -/

set_option linter.unusedVariables false
set_option linter.unusedSimpArgs false
set_option linter.unusedSectionVars false
namespace Go.Proofs.YtfopgaijfeeioaaGreat
namespace HL
open Go Go.RowKit
section
variable {P : Program} {env : Env} {D : List Deferred} {n d : Nat} {w0 : World} {M : Nat → Prop} {B L : Hp} {x y : Operand} {T ty : TypeId} {pos : String} {af : Array Edge} {gd : Option (Nat × Bool)}
theorem Der.bag {r0 r : Res} {rs : List Res} (j : Nat) (h : lk2 B L j = some (Res.bag rs) := by rfl) (hr : r0 ∈ rs) (hv : View r0 r) : Der B L [j] r := ⟨fun w hf => hv.h w ((hf j _ h).1 r0 hr), fun b hb => ⟨j, by simp, _, h, r0, hr, hv.f b hb⟩⟩
variable {LF : Hp} {all : Array Oper} {ops : Array Oper} {Q : Exit → Act → World → Prop} {rest : List Oper} {σ : Plan} {i : Nat}
theorem s_callGD {v : SV} {f : FuncId} {fn : Func} {args all : List SV} {Bc : Hp} {post : Out → List Res → Prop} {xs : Array Operand} {tys : Array TypeId} {cap : List Value} {gh : List Nat} {g : Bool} (hi : ops.toList[i]? = some ⟨some d, .call { callee := .value x, args := xs, argTypes := tys }, ty, pos, af, gd⟩) (m : List (Nat × Nat)) (ts : List Nat) {env' : List (Nat × TV)} (hres : ResAll env g ts env')
    (hs : g = true → CSpec P f all Bc [] post) (hf : P.funcs[f]? = some fn) (hx : ev env' x = some (.s (.one (.fn f cap gh))) := by rfl) (ha : evs env' xs.toList = some args := by rfl) (hall : g = true → args.map SV.den ++ cap = all.map SV.den := by exact fun _ => rfl)
    (hB : g = true → GotD B L [] Bc)
    (hpost : ∀ o Lr, post o Lr → o = .ret (.s v) ∧ Lr = [] := by exact fun _ _ h => h)
    (h : HoC LF ((d, .cond g v) :: env) D n w0 M B L (wpSched P ops Q (Facts B LF) σ))
    (hg : guardSym ops env ⟨some d, .call { callee := .value x, args := xs, argTypes := tys }, ty, pos, af, gd⟩ = some g := by rfl) (hd : Nat.blt d n = true := by rfl) (hb : fn.body.isNone = false := by rfl) (hn : (fn.name == "runtime.NumGoroutine") = false := by rfl) :
    HoC LF env D n w0 M B L (wpSched P ops Q (Facts B LF) (.s i σ)) := fun hc a w hsy => by
  by_cases e : g = true
  · refine sched_s hi (by rw [guardSym_wanted hsy.tm hg]; exact e) ?_
    have hsy' : Sy env' D n w0 M B L a w := ⟨hres.tm e hsy.tm, hsy.df, hsy.st, hsy.bo⟩
    refine call_wpD (hs e) hf hb hn (cid m args) 0 hx ha (hall e) (hB e) trivial rfl rfl hsy' fun o Lr hp => ?_
    obtain ⟨rfl, rfl⟩ := hpost o Lr hp
    exact fun w' hs' => by
      have h2 : Sy env D n w0 M B L a w' := ⟨hsy.tm, hsy.df, hs'.st, hs'.bo⟩
      have := h2.put (v := .cond g v) hd
      rw [show (TV.cond g v).den = v.den from if_pos e] at this
      exact ⟨facts_cov hc h2, h hc _ _ this⟩
  · refine sched_sskip hi (by rw [guardSym_wanted hsy.tm hg]; simpa using e) (facts_cov hc hsy) ?_
    have := hsy.put (v := .cond g v) hd
    rw [show (TV.cond g v).den = undef from if_neg e] at this
    exact h hc _ _ this
end
end HL
end Go.Proofs.YtfopgaijfeeioaaGreat
/- SYMBOLIC STATES, COMPUTED: a deferred function that recovers amid a region that draws its order. My own text; it names no program. -/

set_option linter.unusedVariables false
set_option linter.unusedSimpArgs false
set_option linter.unusedSectionVars false
namespace Go.Proofs.YtfopgaijfeeioaaGreat
namespace HL
open Go Go.RowKit
theorem wpS_region_draw {P : Program} {id : Nat} {ops : Array Oper} {Q : Exit → Act → List Frame → World → Prop} {a : Act} {cs : List Frame} {w : World} (h : ∀ t, wpOpsS P ops Q (Region.schedule (P.follows .mixedOrders) ops t) a cs { w with drawn := w.drawn + 1 }) : (Code.region id ops true).wpS P Q a cs w :=
  fun b k hb hr => let ⟨e, a', cs', w', q, r⟩ := wp_opsS _ a cs _ (h _) b k hb hr; ⟨e, a', cs', w', q, .of_steps (.one step_region_draw) r⟩
def ordersOf (md : Region.Mode) (ops : Array Oper) : Nat → Array Bool → List (List Nat)
  | 0, _ => [[]]
  | f + 1, listed => match Region.ready md ops listed with
    | [] => [[]]
    | r :: rs => (r :: rs).flatMap fun i => (ordersOf md ops f (listed.setIfInBounds i true)).map (i :: ·)
theorem lin_mem {md : Region.Mode} {ops : Array Oper} : ∀ (f t : Nat) (listed : Array Bool), Region.linearise.go md ops f t listed [] ∈ ordersOf md ops f listed
  | 0, t, listed => by simp [Region.linearise.go, ordersOf]
  | f + 1, t, listed => by
    simp only [Region.linearise.go]
    change (match (Region.ready md ops listed)[t % (Region.ready md ops listed).length]? with
      | some i => Region.linearise.go md ops f (t / (Region.ready md ops listed).length) (listed.setIfInBounds i true) [i]
      | none => [].reverse) ∈ _
    unfold ordersOf
    cases hr : Region.ready md ops listed with
    | nil => simp
    | cons r rs =>
      have hlt : t % (r :: rs).length < (r :: rs).length := Nat.mod_lt _ (by simp)
      rw [List.getElem?_eq_getElem hlt]
      simp only
      rw [linearise_go_acc, List.reverse_singleton, List.singleton_append]
      exact List.mem_flatMap.2 ⟨_, List.getElem_mem hlt, List.mem_map.2 ⟨_, lin_mem f _ _, rfl⟩⟩
theorem wpListS_ofI {P : Program} (ops : Array Oper) {Q : Exit → Act → List Frame → World → Prop} : ∀ (l : List Nat) {a : Act} {cs : List Frame} {w : World}, wpListS P ops Q (l.filterMap fun i => ops[i]?) a cs w → wpOpsS P ops Q l a cs w
  | [], a, cs, w, h => h
  | i :: l, a, cs, w, h => by
    unfold wpOpsS
    rw [List.filterMap_cons] at h
    cases ho : ops[i]? with
    | none =>
      rw [ho] at h
      exact wpListS_ofI ops l h
    | some o =>
      rw [ho] at h
      simp only at h ⊢
      unfold wpListS at h
      split
      · rename_i hw
        rw [if_pos hw] at h
        split
        · rename_i w' hr
          rw [hr] at h
          simp only at h
          split
          · rename_i v cs' hrec
            rw [hrec] at h
            exact wpListS_ofI ops l h
          · rename_i hrec
            rw [hrec] at h
            exact wpListS_ofI ops l h
        · rename_i r hnot
          generalize hr : (execOp a.eval o).run P w = r' at h hnot
          split at h
          · rename_i w'
            exact absurd rfl (hnot w')
          · unfold Oper.upon at h ⊢
            split at h
            · exact wpListS_ofI ops l h
            · exact wpListS_ofI ops l h
            · exact wpListS_ofI ops l h
            · refine h.mono fun e w'' hq => ?_
              cases e with
              | returned v => exact wpListS_ofI ops l hq
              | panicked ch => exact hq
              | outgrown => exact hq
            · exact h.mono fun v w'' hq => wpListS_ofI ops l hq
            · exact h
            · exact h.elim
      · rename_i hw
        rw [if_neg hw] at h
        exact wpListS_ofI ops l h
def eachO {α : Type} (p : α → Prop) : List α → Prop
  | [] => True
  | x :: l => p x ∧ eachO p l
theorem eachO.mem {α : Type} {p : α → Prop} : ∀ {l : List α}, eachO p l → ∀ x ∈ l, p x
  | [], _, _, h => by cases h
  | y :: l, hp, x, h => by
    rcases List.mem_cons.1 h with rfl | h
    · exact hp.1
    · exact hp.2.mem x h
section
variable {P : Program} {n : Nat} {D : List Deferred} {w0 : World} {M : Nat → Prop} {env : Env} {B L : Hp}
theorem d_regionD {id : Nat} {l : List Oper} {cs : List Frame} {QS : Exit → Act → List Frame → World → Prop} (ls : List (List Nat)) (hm : P.follows .mixedOrders = true) (ho : ordersOf .any l.toArray l.length (Array.replicate l.length false) = ls)
    (h : eachO (fun is => HoS env D n w0 M B L cs (wpListS P l.toArray QS (is.filterMap fun i => l[i]?))) ls) : HoS env D n w0 M B L cs ((Code.region id l.toArray true).wpS P QS) := fun a w hs => wpS_region_draw fun t => by
  have hmem : Region.schedule (P.follows .mixedOrders) l.toArray t ∈ ls := by
    rw [← ho]
    simp only [Region.schedule, hm, Bool.true_or, if_true]
    have := lin_mem (md := .any) (ops := l.toArray) l.toArray.size t (Array.replicate l.toArray.size false)
    unfold Region.linearise
    simpa using this
  refine wpListS_ofI _ _ ?_
  have h1 := h.mem _ hmem a w.drew ⟨hs.tm, hs.df, hs.st.drew, fun i r hr => ⟨r.stable w w.drew (fun _ _ => rfl) (hs.bo i r hr).1, (hs.bo i r hr).2⟩⟩
  have e : (fun (i : Nat) => l.toArray[i]?) = fun (i : Nat) => l[i]? := by funext i; simp
  rw [e]
  exact h1
variable {td : Bt TD} {ta : Bt TA} {RB R : Hs} {all : Array Oper}
theorem d_rd2 {o : Oper} {rest : List Oper} {cs : List Frame} {QS : Exit → Act → List Frame → World → Prop} {d : Nat} {v : TV} {w : Bool} {cc : List Prop} [hT : Tb P td ta] [hB : Rf B RB] [hR : Rf L R] (hr : rdo td ta w env RB R o.op = some (v, cc) := by rfl) (hc : allP cc := by (repeat' (first | exact True.intro | refine And.intro ?_ ?_)) <;> first | rfl | assumption | omega)
    (h : HoS ((d, v) :: env) D n w0 M B L cs (wpListS P all QS rest)) (hd : o.dst = some d := by rfl) (hg : o.guard = none := by rfl) (hb : Nat.blt d n = true := by rfl) : HoS env D n w0 M B L cs (wpListS P all QS (o :: rest)) := fun a w hs => by
  unfold wpListS
  have hw : Region.wanted o (yielded all a.tmps) = true := by unfold Region.wanted; rw [hg]
  rw [if_pos hw]
  have e := rd_sound hT hr hc a w hs.tm (by rw [hB.eq, hR.eq]; exact hs.facts)
  rw [e]
  show wpListS P all QS rest (a.put o.dst v.den) cs w
  rw [hd]
  exact h _ _ (hs.put hb)
end
end HL
end Go.Proofs.YtfopgaijfeeioaaGreat
/- SYMBOLIC STATES, COMPUTED: bytes of texts, bytes as hashes; shifts to the left, bits. My own text; it names no program. -/


set_option linter.unusedVariables false
set_option linter.unusedSimpArgs false
set_option linter.unusedSectionVars false
namespace Go.Proofs.YtfopgaijfeeioaaGreat
namespace HL
open Go Go.RowKit
def strCells (c : Nat) (s : ByteArray) : Array Value := (s.data.map fun b => Value.int .u8 b.toNat) ++ Array.replicate (c - s.size) (.int .u8 0)
def Res.strB (g c : Nat) (e : TypeId) (s : ByteArray) : Res := Res.blk g (.cells (strCells c s) e ((strCells c s).size, (strCells c s).size + 1))
theorem strB_reads {g c : Nat} {e : TypeId} {s : ByteArray} {w : World} (h : (Res.strB g c e s).holds w) : RdS w (some ⟨g, 0, none⟩) (bcells s.data.toList) := by
  refine .inr ⟨_, rfl, fun j u hu => ?_⟩
  have hb := blk_heap h
  have hj : j < s.data.toList.length := by
    have := (List.getElem?_eq_some_iff.1 hu).1
    simpa [bcells] using this
  have hj2 : j < s.data.size := by simpa using hj
  have hu2 : u = .int .u8 (s.data.toList[j]).toNat := by
    unfold bcells at hu
    rw [List.getElem?_map, List.getElem?_eq_getElem hj] at hu
    injection hu with hu
    exact hu.symm
  subst hu2
  have e1 : (Addr.add ⟨g, 0, none⟩ j) = ⟨g, j, none⟩ := by
    unfold Addr.add
    by_cases h0 : j = 0
    · subst h0; rfl
    · rw [if_neg h0]; simp
  rw [e1]
  have hj3 : j < s.size := hj2
  simp [World.cell?, hb, strCells, Array.getElem?_append, hj3, Array.getElem?_eq_getElem hj2]
theorem view_strB {g c : Nat} {e : TypeId} {s : ByteArray} : View (Res.strB g c e s) (Res.rd (some ⟨g, 0, none⟩) byteEn s.data.toList) := ⟨fun w hw => by
  have := strB_reads hw
  rw [← dens_byte] at this
  unfold Res.rd Res.fact
  exact this, fun b hb => by
  have := (fp_rd.1 hb).2
  simp [obl] at this
  unfold Res.strB
  exact fp_blk.2 this.symm⟩
section
variable {P : Program} {env : Env} {D : List Deferred} {n d : Nat} {w0 : World} {M : Nat → Prop} {B L : Hp} {x y : Operand} {T T' ty : TypeId} {dst : Option Tmp} {pos : String} {af : Array Edge} {gd : Option (Nat × Bool)}
theorem d_toBytes {e : TypeId} {s : ByteArray} [hu : UD P T .string] [h2 : UD P T' (.slice e)] [h3 : UD P e (.int .u8)] (hx : ev env x = some (vs s) := by rfl) (hd : Nat.blt d n = true := by rfl) :
    Does P ⟨some d, .convert T T' x, ty, pos, af, gd⟩ env D n w0 M B L (fun p : Nat × Nat => (d, vsl (10000 + d) (some ⟨p.1, 0, none⟩) s.size p.2) :: env) (fun p => (10000 + d, Res.strB p.1 p.2 e s) :: L) [10000 + d] :=
  ⟨fun a w K Q hs hk => by
    have h1 : a.eval x = .string s := ev_sound hs.tm hx
    have hr := Lib.run_convert_string_bytes (P := P) w T T' e s hu.is h2.is h3.is
    unfold Oper.wp execOp
    simp only [h1]
    rw [Sem.run_bind, hr]
    refine hk (w.heap.size, grownCap w s.size 0 e) _ _ ?_
    have hp := hs.put (v := vsl (10000 + d) (some ⟨w.heap.size, 0, none⟩) s.size (grownCap w s.size 0 e)) hd
    refine hp.to (live_new ?_)
    refine hs.st.new (w' := Lib.bytesWorld w e s) rfl rfl rfl (by rw [Lib.bytesWorld_size]; omega) (fun b hb => Lib.bytesWorld_at_old w e s b hb) ?_ (fun b hb => ?_) (Nat.le_succ _)
    · exact holds_blk (Lib.bytesWorld_at_new w e s)
    · have := fp_blk.1 (show (Res.blk _ _).fp b from hb)
      omega, kp_one⟩
theorem r_shl {k yk : IntKind} {p q : Int} (hx : ev env x = some (vi k p) := by rfl) (hy : ev env y = some (vi yk q) := by rfl) (h0 : 0 ≤ q := by omega) (h1 : q ≤ k.bits := by first | omega | decide) : Reads P ⟨dst, .binOp .shl T x y T', ty, pos, af, gd⟩ env n B L (vi k (k.wrap (p * 2 ^ q.toNat))) := fun a w ht _ => by
  unfold execOp
  have e1 : a.eval x = .int k p := ev_sound ht hx
  have e2 : a.eval y = .int yk q := ev_sound ht hy
  simp only [e1, e2]
  rw [Sem.run_bind]
  have : (do eqGuard .shl T x y (.int k p) (.int yk q); binOp .shl T (.int k p) (.int yk q) : Sem Value).run P w = .ok (.int k (k.wrap (p * 2 ^ q.toNat))) w := by
    simp only [eqGuard_shl, binOp_shl, shift_shl k yk p q h0 h1]
    rfl
  rw [this]
  rfl
def sgn64 (n : Int) : Int := if n % 18446744073709551616 ≥ 9223372036854775808 then n % 18446744073709551616 - 18446744073709551616 else n % 18446744073709551616
theorem wrapI (n : Int) : IntKind.i64.wrap n = sgn64 n := by
  unfold IntKind.wrap sgn64
  simp [IntKind.signed, IntKind.bits]
theorem wrapU (n : Int) : IntKind.u64.wrap n = n % 18446744073709551616 := by
  unfold IntKind.wrap
  simp [IntKind.signed, IntKind.bits]
set_option maxRecDepth 100000 in
theorem or_low {m b : Nat} (hb : b < 256) (hm : m * 256 + b < 18446744073709551616) : IntKind.u64.wrap ((BitVec.ofInt 64 ((m * 256 : Nat) : Int) ||| BitVec.ofInt 64 (b : Int)).toNat : Int) = ((m * 256 + b : Nat) : Int) := by
  have e1 : (BitVec.ofInt 64 ((m * 256 : Nat) : Int)) = BitVec.ofNat 64 (m * 256) := BitVec.ofInt_natCast ..
  have e2 : (BitVec.ofInt 64 (b : Int)) = BitVec.ofNat 64 b := BitVec.ofInt_natCast ..
  rw [e1, e2, BitVec.toNat_or, BitVec.toNat_ofNat, BitVec.toNat_ofNat, Nat.mod_eq_of_lt (by omega), Nat.mod_eq_of_lt (by omega)]
  have e3 : m * 256 ||| b = m * 256 + b := by
    have := Nat.two_pow_add_eq_or_of_lt (i := 8) (b := b) (by omega) m
    rw [show (2 : Nat) ^ 8 = 256 from rfl] at this
    rw [Nat.mul_comm, ← this]
  rw [e3, wrapU]
  exact Int.emod_eq_of_lt (by omega) (by omega)
theorem r_orLow {m b : Nat} {p q : Int} (hx : ev env x = some (vi .u64 p) := by rfl) (hy : ev env y = some (vi .u64 q) := by rfl) (hp : p = ((m * 256 : Nat) : Int)) (hq : q = (b : Int)) (hb : b < 256) (hm : m * 256 + b < 18446744073709551616) : Reads P ⟨dst, .binOp .or T x y T', ty, pos, af, gd⟩ env n B L (vi .u64 ((m * 256 + b : Nat) : Int)) := fun a w ht _ => by
  subst hp
  subst hq
  unfold execOp
  have e1 : a.eval x = .int .u64 ((m * 256 : Nat) : Int) := ev_sound ht hx
  have e2 : a.eval y = .int .u64 (b : Int) := ev_sound ht hy
  simp only [e1, e2]
  rw [Sem.run_bind]
  have : (do eqGuard .or T x y (.int .u64 ((m * 256 : Nat) : Int)) (.int .u64 (b : Int)); binOp .or T (.int .u64 ((m * 256 : Nat) : Int)) (.int .u64 (b : Int)) : Sem Value).run P w = .ok (.int .u64 ((m * 256 + b : Nat) : Int)) w := by
    rw [eqGuard_or, binOp_or]
    have h3 := or_low hb hm
    have h4 : Op.intBits .or .u64 ((m * 256 : Nat) : Int) (b : Int) = pure (Value.int .u64 (IntKind.u64.wrap ((BitVec.ofInt 64 ((m * 256 : Nat) : Int) ||| BitVec.ofInt 64 (b : Int)).toNat : Int))) := rfl
    rw [h4, h3]
    rfl
  rw [this]
  rfl
end
end HL
end Go.Proofs.YtfopgaijfeeioaaGreat
/- What is known of this seat's types: closed facts and tables, printed by my own facts3.py. -/



namespace Go.Proofs.YtfopgaijfeeioaaGreat
open Go HL
set_option maxRecDepth 100000
instance ta1 : TyA Tryz.prog 1 false 1 (.one (.fnn)) 8 := ⟨⟨by kernel_rfl, by kernel_rfl⟩, rfl, rfl⟩
instance noi1 : NoI Tryz.prog 1 := ⟨by kernel_rfl⟩
instance ta2 : TyA Tryz.prog 2 false 1 (.one (.i .i64 0)) 8 := ⟨⟨by kernel_rfl, by kernel_rfl⟩, rfl, rfl⟩
instance noi2 : NoI Tryz.prog 2 := ⟨by kernel_rfl⟩
instance ud2 : UD Tryz.prog 2 (.int .i64) := ⟨by kernel_rfl⟩
instance ta3 : TyA Tryz.prog 3 false 1 (.one (.i .i64 0)) 8 := ⟨⟨by kernel_rfl, by kernel_rfl⟩, rfl, rfl⟩
instance noi3 : NoI Tryz.prog 3 := ⟨by kernel_rfl⟩
instance ud3 : UD Tryz.prog 3 (.int .i64) := ⟨by kernel_rfl⟩
instance ta4 : TyA Tryz.prog 4 false 1 (.one (.b false)) 1 := ⟨⟨by kernel_rfl, by kernel_rfl⟩, rfl, rfl⟩
instance noi4 : NoI Tryz.prog 4 := ⟨by kernel_rfl⟩
instance ud4 : UD Tryz.prog 4 (.bool) := ⟨by kernel_rfl⟩
instance ta5 : TyA Tryz.prog 5 false 1 (.one (.i .u8 0)) 1 := ⟨⟨by kernel_rfl, by kernel_rfl⟩, rfl, rfl⟩
instance noi5 : NoI Tryz.prog 5 := ⟨by kernel_rfl⟩
instance ud5 : UD Tryz.prog 5 (.int .u8) := ⟨by kernel_rfl⟩
instance ta6 : TyA Tryz.prog 6 false 1 (.one (.i .u8 0)) 1 := ⟨⟨by kernel_rfl, by kernel_rfl⟩, rfl, rfl⟩
instance noi6 : NoI Tryz.prog 6 := ⟨by kernel_rfl⟩
instance ud6 : UD Tryz.prog 6 (.int .u8) := ⟨by kernel_rfl⟩
instance ta7 : TyA Tryz.prog 7 true 4 (.agg [.one (.i .i64 0), .one (.i .i64 0), .one (.b false), .one (.i .u8 0)]) 24 := ⟨⟨by kernel_rfl, by kernel_rfl⟩, rfl, rfl⟩
instance noi7 : NoI Tryz.prog 7 := ⟨by kernel_rfl⟩
instance fa7_0 : FA Tryz.prog 7 0 0 := ⟨by kernel_rfl⟩
instance ft7_0 : FT Tryz.prog 7 0 2 0 := ⟨by kernel_rfl⟩
instance fa7_1 : FA Tryz.prog 7 1 1 := ⟨by kernel_rfl⟩
instance ft7_1 : FT Tryz.prog 7 1 3 1 := ⟨by kernel_rfl⟩
instance fa7_2 : FA Tryz.prog 7 2 2 := ⟨by kernel_rfl⟩
instance ft7_2 : FT Tryz.prog 7 2 4 2 := ⟨by kernel_rfl⟩
instance fa7_3 : FA Tryz.prog 7 3 3 := ⟨by kernel_rfl⟩
instance ft7_3 : FT Tryz.prog 7 3 6 3 := ⟨by kernel_rfl⟩
instance pls7 : PLS Tryz.prog 7 [.one (.i .i64 0), .one (.i .i64 0), .one (.b false), .one (.i .u8 0)] := ⟨by kernel_rfl⟩
instance ta8 : TyA Tryz.prog 8 true 4 (.agg [.one (.i .i64 0), .one (.i .i64 0), .one (.b false), .one (.i .u8 0)]) 24 := ⟨⟨by kernel_rfl, by kernel_rfl⟩, rfl, rfl⟩
instance noi8 : NoI Tryz.prog 8 := ⟨by kernel_rfl⟩
instance fa8_0 : FA Tryz.prog 8 0 0 := ⟨by kernel_rfl⟩
instance ft8_0 : FT Tryz.prog 8 0 2 0 := ⟨by kernel_rfl⟩
instance fa8_1 : FA Tryz.prog 8 1 1 := ⟨by kernel_rfl⟩
instance ft8_1 : FT Tryz.prog 8 1 3 1 := ⟨by kernel_rfl⟩
instance fa8_2 : FA Tryz.prog 8 2 2 := ⟨by kernel_rfl⟩
instance ft8_2 : FT Tryz.prog 8 2 4 2 := ⟨by kernel_rfl⟩
instance fa8_3 : FA Tryz.prog 8 3 3 := ⟨by kernel_rfl⟩
instance ft8_3 : FT Tryz.prog 8 3 6 3 := ⟨by kernel_rfl⟩
instance pls8 : PLS Tryz.prog 8 [.one (.i .i64 0), .one (.i .i64 0), .one (.b false), .one (.i .u8 0)] := ⟨by kernel_rfl⟩
instance ta9 : TyA Tryz.prog 9 false 1 (.one (.s ⟨#[]⟩)) 16 := ⟨⟨by kernel_rfl, by kernel_rfl⟩, rfl, rfl⟩
instance noi9 : NoI Tryz.prog 9 := ⟨by kernel_rfl⟩
instance ud9 : UD Tryz.prog 9 (.string) := ⟨by kernel_rfl⟩
instance ta10 : TyA Tryz.prog 10 false 1 (.one (.s ⟨#[]⟩)) 16 := ⟨⟨by kernel_rfl, by kernel_rfl⟩, rfl, rfl⟩
instance noi10 : NoI Tryz.prog 10 := ⟨by kernel_rfl⟩
instance ud10 : UD Tryz.prog 10 (.string) := ⟨by kernel_rfl⟩
instance ta11 : TyA Tryz.prog 11 false 1 (.one (.s ⟨#[]⟩)) 16 := ⟨⟨by kernel_rfl, by kernel_rfl⟩, rfl, rfl⟩
instance noi11 : NoI Tryz.prog 11 := ⟨by kernel_rfl⟩
instance ud11 : UD Tryz.prog 11 (.string) := ⟨by kernel_rfl⟩
instance ta12 : TyA Tryz.prog 12 false 1 (.one (.i .u64 0)) 8 := ⟨⟨by kernel_rfl, by kernel_rfl⟩, rfl, rfl⟩
instance noi12 : NoI Tryz.prog 12 := ⟨by kernel_rfl⟩
instance ud12 : UD Tryz.prog 12 (.int .u64) := ⟨by kernel_rfl⟩
instance ta13 : TyA Tryz.prog 13 true 2 (.agg [.one (.s ⟨#[]⟩), .one (.i .u64 0)]) 24 := ⟨⟨by kernel_rfl, by kernel_rfl⟩, rfl, rfl⟩
instance noi13 : NoI Tryz.prog 13 := ⟨by kernel_rfl⟩
instance fa13_0 : FA Tryz.prog 13 0 0 := ⟨by kernel_rfl⟩
instance ft13_0 : FT Tryz.prog 13 0 9 0 := ⟨by kernel_rfl⟩
instance fa13_1 : FA Tryz.prog 13 1 1 := ⟨by kernel_rfl⟩
instance ft13_1 : FT Tryz.prog 13 1 12 1 := ⟨by kernel_rfl⟩
instance pls13 : PLS Tryz.prog 13 [.one (.s ⟨#[]⟩), .one (.i .u64 0)] := ⟨by kernel_rfl⟩
instance ta14 : TyA Tryz.prog 14 true 2 (.agg [.one (.s ⟨#[]⟩), .one (.i .u64 0)]) 24 := ⟨⟨by kernel_rfl, by kernel_rfl⟩, rfl, rfl⟩
instance noi14 : NoI Tryz.prog 14 := ⟨by kernel_rfl⟩
instance fa14_0 : FA Tryz.prog 14 0 0 := ⟨by kernel_rfl⟩
instance ft14_0 : FT Tryz.prog 14 0 9 0 := ⟨by kernel_rfl⟩
instance fa14_1 : FA Tryz.prog 14 1 1 := ⟨by kernel_rfl⟩
instance ft14_1 : FT Tryz.prog 14 1 12 1 := ⟨by kernel_rfl⟩
instance pls14 : PLS Tryz.prog 14 [.one (.s ⟨#[]⟩), .one (.i .u64 0)] := ⟨by kernel_rfl⟩
instance ta15 : TyA Tryz.prog 15 false 1 (.one (.pn)) 8 := ⟨⟨by kernel_rfl, by kernel_rfl⟩, rfl, rfl⟩
instance noi15 : NoI Tryz.prog 15 := ⟨by kernel_rfl⟩
instance ud15 : UD Tryz.prog 15 (.pointer 298) := ⟨by kernel_rfl⟩
instance ta16 : TyA Tryz.prog 16 false 1 (.one (.pn)) 8 := ⟨⟨by kernel_rfl, by kernel_rfl⟩, rfl, rfl⟩
instance noi16 : NoI Tryz.prog 16 := ⟨by kernel_rfl⟩
instance ud16 : UD Tryz.prog 16 (.pointer 301) := ⟨by kernel_rfl⟩
instance ta17 : TyA Tryz.prog 17 false 1 (.one (.pn)) 8 := ⟨⟨by kernel_rfl, by kernel_rfl⟩, rfl, rfl⟩
instance noi17 : NoI Tryz.prog 17 := ⟨by kernel_rfl⟩
instance ud17 : UD Tryz.prog 17 (.pointer 310) := ⟨by kernel_rfl⟩
instance ta18 : TyA Tryz.prog 18 true 1 (.agg [.one (.pn)]) 8 := ⟨⟨by kernel_rfl, by kernel_rfl⟩, rfl, rfl⟩
instance noi18 : NoI Tryz.prog 18 := ⟨by kernel_rfl⟩
instance fa18_0 : FA Tryz.prog 18 0 0 := ⟨by kernel_rfl⟩
instance ft18_0 : FT Tryz.prog 18 0 17 0 := ⟨by kernel_rfl⟩
instance pls18 : PLS Tryz.prog 18 [.one (.pn)] := ⟨by kernel_rfl⟩
instance ta19 : TyA Tryz.prog 19 true 1 (.agg [.one (.pn)]) 8 := ⟨⟨by kernel_rfl, by kernel_rfl⟩, rfl, rfl⟩
instance noi19 : NoI Tryz.prog 19 := ⟨by kernel_rfl⟩
instance fa19_0 : FA Tryz.prog 19 0 0 := ⟨by kernel_rfl⟩
instance ft19_0 : FT Tryz.prog 19 0 17 0 := ⟨by kernel_rfl⟩
instance pls19 : PLS Tryz.prog 19 [.one (.pn)] := ⟨by kernel_rfl⟩
instance ta20 : TyA Tryz.prog 20 false 1 (.one (.ifn)) 16 := ⟨⟨by kernel_rfl, by kernel_rfl⟩, rfl, rfl⟩
theorem ifc20 : isIfc (Tryz.prog.underlying 20) = true := by kernel_rfl
instance ta21 : TyA Tryz.prog 21 false 1 (.one (.i .i32 0)) 4 := ⟨⟨by kernel_rfl, by kernel_rfl⟩, rfl, rfl⟩
instance noi21 : NoI Tryz.prog 21 := ⟨by kernel_rfl⟩
instance ud21 : UD Tryz.prog 21 (.int .i32) := ⟨by kernel_rfl⟩
instance ta22 : TyA Tryz.prog 22 true 32 (.agg [.hash hz]) 32 := ⟨⟨by kernel_rfl, by kernel_rfl⟩, rfl, rfl⟩
instance noi22 : NoI Tryz.prog 22 := ⟨by kernel_rfl⟩
instance ud22 : UD Tryz.prog 22 (.array 32 5) := ⟨by kernel_rfl⟩
instance ht22 : HashT Tryz.prog 22 := ⟨keyTy_hash ud22.is ud5.is ta5.is, by kernel_rfl⟩
instance ta23 : TyA Tryz.prog 23 true 32 (.agg [.hash hz]) 32 := ⟨⟨by kernel_rfl, by kernel_rfl⟩, rfl, rfl⟩
instance noi23 : NoI Tryz.prog 23 := ⟨by kernel_rfl⟩
instance ud23 : UD Tryz.prog 23 (.array 32 5) := ⟨by kernel_rfl⟩
instance ht23 : HashT Tryz.prog 23 := ⟨keyTy_hash ud23.is ud5.is ta5.is, by kernel_rfl⟩
instance ta24 : TyA Tryz.prog 24 true 33 (.agg [.hash hz, .one (.i .i64 0)]) 40 := ⟨⟨by kernel_rfl, by kernel_rfl⟩, rfl, rfl⟩
instance noi24 : NoI Tryz.prog 24 := ⟨by kernel_rfl⟩
instance fa24_0 : FA Tryz.prog 24 0 0 := ⟨by kernel_rfl⟩
instance ft24_0 : FT Tryz.prog 24 0 23 0 := ⟨by kernel_rfl⟩
instance fa24_1 : FA Tryz.prog 24 1 32 := ⟨by kernel_rfl⟩
instance ft24_1 : FT Tryz.prog 24 1 3 32 := ⟨by kernel_rfl⟩
instance pls24 : PLS Tryz.prog 24 [.agg [.hash hz], .one (.i .i64 0)] := ⟨by kernel_rfl⟩
instance ta25 : TyA Tryz.prog 25 true 33 (.agg [.hash hz, .one (.i .i64 0)]) 40 := ⟨⟨by kernel_rfl, by kernel_rfl⟩, rfl, rfl⟩
instance noi25 : NoI Tryz.prog 25 := ⟨by kernel_rfl⟩
instance fa25_0 : FA Tryz.prog 25 0 0 := ⟨by kernel_rfl⟩
instance ft25_0 : FT Tryz.prog 25 0 23 0 := ⟨by kernel_rfl⟩
instance fa25_1 : FA Tryz.prog 25 1 32 := ⟨by kernel_rfl⟩
instance ft25_1 : FT Tryz.prog 25 1 3 32 := ⟨by kernel_rfl⟩
instance pls25 : PLS Tryz.prog 25 [.agg [.hash hz], .one (.i .i64 0)] := ⟨by kernel_rfl⟩
instance ta26 : TyA Tryz.prog 26 false 1 (.one (.sl 0 none 0 0)) 24 := ⟨⟨by kernel_rfl, by kernel_rfl⟩, rfl, rfl⟩
instance noi26 : NoI Tryz.prog 26 := ⟨by kernel_rfl⟩
instance ud26 : UD Tryz.prog 26 (.slice 43) := ⟨by kernel_rfl⟩
instance ta27 : TyA Tryz.prog 27 false 1 (.one (.fnn)) 8 := ⟨⟨by kernel_rfl, by kernel_rfl⟩, rfl, rfl⟩
instance noi27 : NoI Tryz.prog 27 := ⟨by kernel_rfl⟩
instance ta28 : TyA Tryz.prog 28 false 1 (.one (.fnn)) 8 := ⟨⟨by kernel_rfl, by kernel_rfl⟩, rfl, rfl⟩
instance noi28 : NoI Tryz.prog 28 := ⟨by kernel_rfl⟩
instance ta29 : TyA Tryz.prog 29 false 1 (.one (.fnn)) 8 := ⟨⟨by kernel_rfl, by kernel_rfl⟩, rfl, rfl⟩
instance noi29 : NoI Tryz.prog 29 := ⟨by kernel_rfl⟩
instance ta30 : TyA Tryz.prog 30 false 1 (.one (.fnn)) 8 := ⟨⟨by kernel_rfl, by kernel_rfl⟩, rfl, rfl⟩
instance noi30 : NoI Tryz.prog 30 := ⟨by kernel_rfl⟩
instance ta31 : TyA Tryz.prog 31 true 33 (.agg [.one (.b false), .hash hz]) 33 := ⟨⟨by kernel_rfl, by kernel_rfl⟩, rfl, rfl⟩
instance noi31 : NoI Tryz.prog 31 := ⟨by kernel_rfl⟩
instance fa31_0 : FA Tryz.prog 31 0 0 := ⟨by kernel_rfl⟩
instance ft31_0 : FT Tryz.prog 31 0 4 0 := ⟨by kernel_rfl⟩
instance fa31_1 : FA Tryz.prog 31 1 1 := ⟨by kernel_rfl⟩
instance ft31_1 : FT Tryz.prog 31 1 23 1 := ⟨by kernel_rfl⟩
instance pls31 : PLS Tryz.prog 31 [.one (.b false), .agg [.hash hz]] := ⟨by kernel_rfl⟩
instance ta32 : TyA Tryz.prog 32 true 33 (.agg [.one (.b false), .hash hz]) 33 := ⟨⟨by kernel_rfl, by kernel_rfl⟩, rfl, rfl⟩
instance noi32 : NoI Tryz.prog 32 := ⟨by kernel_rfl⟩
instance fa32_0 : FA Tryz.prog 32 0 0 := ⟨by kernel_rfl⟩
instance ft32_0 : FT Tryz.prog 32 0 4 0 := ⟨by kernel_rfl⟩
instance fa32_1 : FA Tryz.prog 32 1 1 := ⟨by kernel_rfl⟩
instance ft32_1 : FT Tryz.prog 32 1 23 1 := ⟨by kernel_rfl⟩
instance pls32 : PLS Tryz.prog 32 [.one (.b false), .agg [.hash hz]] := ⟨by kernel_rfl⟩
instance ta33 : TyA Tryz.prog 33 false 1 (.one (.sl 0 none 0 0)) 24 := ⟨⟨by kernel_rfl, by kernel_rfl⟩, rfl, rfl⟩
instance noi33 : NoI Tryz.prog 33 := ⟨by kernel_rfl⟩
instance ud33 : UD Tryz.prog 33 (.slice 148) := ⟨by kernel_rfl⟩
instance ta34 : TyA Tryz.prog 34 true 2 (.agg [.one (.i .i64 0), .one (.sl 0 none 0 0)]) 32 := ⟨⟨by kernel_rfl, by kernel_rfl⟩, rfl, rfl⟩
instance noi34 : NoI Tryz.prog 34 := ⟨by kernel_rfl⟩
instance fa34_0 : FA Tryz.prog 34 0 0 := ⟨by kernel_rfl⟩
instance ft34_0 : FT Tryz.prog 34 0 2 0 := ⟨by kernel_rfl⟩
instance fa34_1 : FA Tryz.prog 34 1 1 := ⟨by kernel_rfl⟩
instance ft34_1 : FT Tryz.prog 34 1 33 1 := ⟨by kernel_rfl⟩
instance pls34 : PLS Tryz.prog 34 [.one (.i .i64 0), .one (.sl 0 none 0 0)] := ⟨by kernel_rfl⟩
instance ta35 : TyA Tryz.prog 35 true 2 (.agg [.one (.i .i64 0), .one (.sl 0 none 0 0)]) 32 := ⟨⟨by kernel_rfl, by kernel_rfl⟩, rfl, rfl⟩
instance noi35 : NoI Tryz.prog 35 := ⟨by kernel_rfl⟩
instance fa35_0 : FA Tryz.prog 35 0 0 := ⟨by kernel_rfl⟩
instance ft35_0 : FT Tryz.prog 35 0 2 0 := ⟨by kernel_rfl⟩
instance fa35_1 : FA Tryz.prog 35 1 1 := ⟨by kernel_rfl⟩
instance ft35_1 : FT Tryz.prog 35 1 33 1 := ⟨by kernel_rfl⟩
instance pls35 : PLS Tryz.prog 35 [.one (.i .i64 0), .one (.sl 0 none 0 0)] := ⟨by kernel_rfl⟩
instance ta36 : TyA Tryz.prog 36 false 1 (.one (.i .i64 0)) 8 := ⟨⟨by kernel_rfl, by kernel_rfl⟩, rfl, rfl⟩
instance noi36 : NoI Tryz.prog 36 := ⟨by kernel_rfl⟩
instance ud36 : UD Tryz.prog 36 (.int .i64) := ⟨by kernel_rfl⟩
instance ta37 : TyA Tryz.prog 37 false 1 (.one (.sl 0 none 0 0)) 24 := ⟨⟨by kernel_rfl, by kernel_rfl⟩, rfl, rfl⟩
instance noi37 : NoI Tryz.prog 37 := ⟨by kernel_rfl⟩
instance ud37 : UD Tryz.prog 37 (.slice 76) := ⟨by kernel_rfl⟩
instance ta38 : TyA Tryz.prog 38 true 1 (.agg [.one (.sl 0 none 0 0)]) 24 := ⟨⟨by kernel_rfl, by kernel_rfl⟩, rfl, rfl⟩
instance noi38 : NoI Tryz.prog 38 := ⟨by kernel_rfl⟩
instance fa38_0 : FA Tryz.prog 38 0 0 := ⟨by kernel_rfl⟩
instance ft38_0 : FT Tryz.prog 38 0 37 0 := ⟨by kernel_rfl⟩
instance pls38 : PLS Tryz.prog 38 [.one (.sl 0 none 0 0)] := ⟨by kernel_rfl⟩
instance ta39 : TyA Tryz.prog 39 true 1 (.agg [.one (.sl 0 none 0 0)]) 24 := ⟨⟨by kernel_rfl, by kernel_rfl⟩, rfl, rfl⟩
instance noi39 : NoI Tryz.prog 39 := ⟨by kernel_rfl⟩
instance fa39_0 : FA Tryz.prog 39 0 0 := ⟨by kernel_rfl⟩
instance ft39_0 : FT Tryz.prog 39 0 37 0 := ⟨by kernel_rfl⟩
instance pls39 : PLS Tryz.prog 39 [.one (.sl 0 none 0 0)] := ⟨by kernel_rfl⟩
instance ta40 : TyA Tryz.prog 40 true 69 (.agg [.one (.b false), .hash hz, .one (.i .i64 0), .one (.sl 0 none 0 0), .one (.i .i64 0), .hash hz, .one (.sl 0 none 0 0)]) 136 := ⟨⟨by kernel_rfl, by kernel_rfl⟩, rfl, rfl⟩
instance noi40 : NoI Tryz.prog 40 := ⟨by kernel_rfl⟩
instance fa40_0 : FA Tryz.prog 40 0 0 := ⟨by kernel_rfl⟩
instance ft40_0 : FT Tryz.prog 40 0 32 0 := ⟨by kernel_rfl⟩
instance fa40_1 : FA Tryz.prog 40 1 33 := ⟨by kernel_rfl⟩
instance ft40_1 : FT Tryz.prog 40 1 35 33 := ⟨by kernel_rfl⟩
instance fa40_2 : FA Tryz.prog 40 2 35 := ⟨by kernel_rfl⟩
instance ft40_2 : FT Tryz.prog 40 2 36 35 := ⟨by kernel_rfl⟩
instance fa40_3 : FA Tryz.prog 40 3 36 := ⟨by kernel_rfl⟩
instance ft40_3 : FT Tryz.prog 40 3 23 36 := ⟨by kernel_rfl⟩
instance fa40_4 : FA Tryz.prog 40 4 68 := ⟨by kernel_rfl⟩
instance ft40_4 : FT Tryz.prog 40 4 39 68 := ⟨by kernel_rfl⟩
instance pls40 : PLS Tryz.prog 40 [.agg [.one (.b false), .hash hz], .agg [.one (.i .i64 0), .one (.sl 0 none 0 0)], .one (.i .i64 0), .agg [.hash hz], .agg [.one (.sl 0 none 0 0)]] := ⟨by kernel_rfl⟩
instance ta41 : TyA Tryz.prog 41 true 69 (.agg [.one (.b false), .hash hz, .one (.i .i64 0), .one (.sl 0 none 0 0), .one (.i .i64 0), .hash hz, .one (.sl 0 none 0 0)]) 136 := ⟨⟨by kernel_rfl, by kernel_rfl⟩, rfl, rfl⟩
instance noi41 : NoI Tryz.prog 41 := ⟨by kernel_rfl⟩
instance fa41_0 : FA Tryz.prog 41 0 0 := ⟨by kernel_rfl⟩
instance ft41_0 : FT Tryz.prog 41 0 32 0 := ⟨by kernel_rfl⟩
instance fa41_1 : FA Tryz.prog 41 1 33 := ⟨by kernel_rfl⟩
instance ft41_1 : FT Tryz.prog 41 1 35 33 := ⟨by kernel_rfl⟩
instance fa41_2 : FA Tryz.prog 41 2 35 := ⟨by kernel_rfl⟩
instance ft41_2 : FT Tryz.prog 41 2 36 35 := ⟨by kernel_rfl⟩
instance fa41_3 : FA Tryz.prog 41 3 36 := ⟨by kernel_rfl⟩
instance ft41_3 : FT Tryz.prog 41 3 23 36 := ⟨by kernel_rfl⟩
instance fa41_4 : FA Tryz.prog 41 4 68 := ⟨by kernel_rfl⟩
instance ft41_4 : FT Tryz.prog 41 4 39 68 := ⟨by kernel_rfl⟩
instance pls41 : PLS Tryz.prog 41 [.agg [.one (.b false), .hash hz], .agg [.one (.i .i64 0), .one (.sl 0 none 0 0)], .one (.i .i64 0), .agg [.hash hz], .agg [.one (.sl 0 none 0 0)]] := ⟨by kernel_rfl⟩
instance ta42 : TyA Tryz.prog 42 true 102 (.agg [.hash hz, .one (.i .i64 0), .one (.b false), .hash hz, .one (.i .i64 0), .one (.sl 0 none 0 0), .one (.i .i64 0), .hash hz, .one (.sl 0 none 0 0)]) 176 := ⟨⟨by kernel_rfl, by kernel_rfl⟩, rfl, rfl⟩
instance noi42 : NoI Tryz.prog 42 := ⟨by kernel_rfl⟩
instance fa42_0 : FA Tryz.prog 42 0 0 := ⟨by kernel_rfl⟩
instance ft42_0 : FT Tryz.prog 42 0 25 0 := ⟨by kernel_rfl⟩
instance fa42_1 : FA Tryz.prog 42 1 33 := ⟨by kernel_rfl⟩
instance ft42_1 : FT Tryz.prog 42 1 41 33 := ⟨by kernel_rfl⟩
instance pls42 : PLS Tryz.prog 42 [.agg [.hash hz, .one (.i .i64 0)], .agg [.one (.b false), .hash hz, .one (.i .i64 0), .one (.sl 0 none 0 0), .one (.i .i64 0), .hash hz, .one (.sl 0 none 0 0)]] := ⟨by kernel_rfl⟩
instance ta43 : TyA Tryz.prog 43 true 102 (.agg [.hash hz, .one (.i .i64 0), .one (.b false), .hash hz, .one (.i .i64 0), .one (.sl 0 none 0 0), .one (.i .i64 0), .hash hz, .one (.sl 0 none 0 0)]) 176 := ⟨⟨by kernel_rfl, by kernel_rfl⟩, rfl, rfl⟩
instance noi43 : NoI Tryz.prog 43 := ⟨by kernel_rfl⟩
instance fa43_0 : FA Tryz.prog 43 0 0 := ⟨by kernel_rfl⟩
instance ft43_0 : FT Tryz.prog 43 0 25 0 := ⟨by kernel_rfl⟩
instance fa43_1 : FA Tryz.prog 43 1 33 := ⟨by kernel_rfl⟩
instance ft43_1 : FT Tryz.prog 43 1 41 33 := ⟨by kernel_rfl⟩
instance pls43 : PLS Tryz.prog 43 [.agg [.hash hz, .one (.i .i64 0)], .agg [.one (.b false), .hash hz, .one (.i .i64 0), .one (.sl 0 none 0 0), .one (.i .i64 0), .hash hz, .one (.sl 0 none 0 0)]] := ⟨by kernel_rfl⟩
instance ta44 : TyA Tryz.prog 44 false 1 (.one (.fnn)) 8 := ⟨⟨by kernel_rfl, by kernel_rfl⟩, rfl, rfl⟩
instance noi44 : NoI Tryz.prog 44 := ⟨by kernel_rfl⟩
instance ta45 : TyA Tryz.prog 45 false 1 (.one (.sl 0 none 0 0)) 24 := ⟨⟨by kernel_rfl, by kernel_rfl⟩, rfl, rfl⟩
instance noi45 : NoI Tryz.prog 45 := ⟨by kernel_rfl⟩
instance ud45 : UD Tryz.prog 45 (.slice 152) := ⟨by kernel_rfl⟩
instance ta46 : TyA Tryz.prog 46 true 5 (.agg [.one (.sl 0 none 0 0), .one (.sl 0 none 0 0), .one (.i .i64 0), .one (.i .i64 0), .one (.sl 0 none 0 0)]) 88 := ⟨⟨by kernel_rfl, by kernel_rfl⟩, rfl, rfl⟩
instance noi46 : NoI Tryz.prog 46 := ⟨by kernel_rfl⟩
instance fa46_0 : FA Tryz.prog 46 0 0 := ⟨by kernel_rfl⟩
instance ft46_0 : FT Tryz.prog 46 0 26 0 := ⟨by kernel_rfl⟩
instance fa46_1 : FA Tryz.prog 46 1 1 := ⟨by kernel_rfl⟩
instance ft46_1 : FT Tryz.prog 46 1 26 1 := ⟨by kernel_rfl⟩
instance fa46_2 : FA Tryz.prog 46 2 2 := ⟨by kernel_rfl⟩
instance ft46_2 : FT Tryz.prog 46 2 2 2 := ⟨by kernel_rfl⟩
instance fa46_3 : FA Tryz.prog 46 3 3 := ⟨by kernel_rfl⟩
instance ft46_3 : FT Tryz.prog 46 3 2 3 := ⟨by kernel_rfl⟩
instance fa46_4 : FA Tryz.prog 46 4 4 := ⟨by kernel_rfl⟩
instance ft46_4 : FT Tryz.prog 46 4 45 4 := ⟨by kernel_rfl⟩
instance pls46 : PLS Tryz.prog 46 [.one (.sl 0 none 0 0), .one (.sl 0 none 0 0), .one (.i .i64 0), .one (.i .i64 0), .one (.sl 0 none 0 0)] := ⟨by kernel_rfl⟩
instance ta47 : TyA Tryz.prog 47 true 5 (.agg [.one (.sl 0 none 0 0), .one (.sl 0 none 0 0), .one (.i .i64 0), .one (.i .i64 0), .one (.sl 0 none 0 0)]) 88 := ⟨⟨by kernel_rfl, by kernel_rfl⟩, rfl, rfl⟩
instance noi47 : NoI Tryz.prog 47 := ⟨by kernel_rfl⟩
instance fa47_0 : FA Tryz.prog 47 0 0 := ⟨by kernel_rfl⟩
instance ft47_0 : FT Tryz.prog 47 0 26 0 := ⟨by kernel_rfl⟩
instance fa47_1 : FA Tryz.prog 47 1 1 := ⟨by kernel_rfl⟩
instance ft47_1 : FT Tryz.prog 47 1 26 1 := ⟨by kernel_rfl⟩
instance fa47_2 : FA Tryz.prog 47 2 2 := ⟨by kernel_rfl⟩
instance ft47_2 : FT Tryz.prog 47 2 2 2 := ⟨by kernel_rfl⟩
instance fa47_3 : FA Tryz.prog 47 3 3 := ⟨by kernel_rfl⟩
instance ft47_3 : FT Tryz.prog 47 3 2 3 := ⟨by kernel_rfl⟩
instance fa47_4 : FA Tryz.prog 47 4 4 := ⟨by kernel_rfl⟩
instance ft47_4 : FT Tryz.prog 47 4 45 4 := ⟨by kernel_rfl⟩
instance pls47 : PLS Tryz.prog 47 [.one (.sl 0 none 0 0), .one (.sl 0 none 0 0), .one (.i .i64 0), .one (.i .i64 0), .one (.sl 0 none 0 0)] := ⟨by kernel_rfl⟩
instance ta48 : TyA Tryz.prog 48 true 113 (.agg [.one (.sl 0 none 0 0), .one (.sl 0 none 0 0), .one (.i .i64 0), .one (.sl 0 none 0 0), .one (.sl 0 none 0 0), .one (.b false), .hash hz, .one (.i .i64 0), .one (.sl 0 none 0 0), .one (.i .i64 0), .hash hz, .one (.sl 0 none 0 0), .hash hz, .one (.i .i64 0), .one (.sl 0 none 0 0), .one (.sl 0 none 0 0), .one (.sl 0 none 0 0), .one (.i .i64 0), .one (.i .i64 0), .one (.sl 0 none 0 0)]) 392 := ⟨⟨by kernel_rfl, by kernel_rfl⟩, rfl, rfl⟩
instance noi48 : NoI Tryz.prog 48 := ⟨by kernel_rfl⟩
instance fa48_0 : FA Tryz.prog 48 0 0 := ⟨by kernel_rfl⟩
instance ft48_0 : FT Tryz.prog 48 0 39 0 := ⟨by kernel_rfl⟩
instance fa48_1 : FA Tryz.prog 48 1 1 := ⟨by kernel_rfl⟩
instance ft48_1 : FT Tryz.prog 48 1 33 1 := ⟨by kernel_rfl⟩
instance fa48_2 : FA Tryz.prog 48 2 2 := ⟨by kernel_rfl⟩
instance ft48_2 : FT Tryz.prog 48 2 35 2 := ⟨by kernel_rfl⟩
instance fa48_3 : FA Tryz.prog 48 3 4 := ⟨by kernel_rfl⟩
instance ft48_3 : FT Tryz.prog 48 3 45 4 := ⟨by kernel_rfl⟩
instance fa48_4 : FA Tryz.prog 48 4 5 := ⟨by kernel_rfl⟩
instance ft48_4 : FT Tryz.prog 48 4 41 5 := ⟨by kernel_rfl⟩
instance fa48_5 : FA Tryz.prog 48 5 74 := ⟨by kernel_rfl⟩
instance ft48_5 : FT Tryz.prog 48 5 25 74 := ⟨by kernel_rfl⟩
instance fa48_6 : FA Tryz.prog 48 6 107 := ⟨by kernel_rfl⟩
instance ft48_6 : FT Tryz.prog 48 6 26 107 := ⟨by kernel_rfl⟩
instance fa48_7 : FA Tryz.prog 48 7 108 := ⟨by kernel_rfl⟩
instance ft48_7 : FT Tryz.prog 48 7 47 108 := ⟨by kernel_rfl⟩
instance pls48 : PLS Tryz.prog 48 [.agg [.one (.sl 0 none 0 0)], .one (.sl 0 none 0 0), .agg [.one (.i .i64 0), .one (.sl 0 none 0 0)], .one (.sl 0 none 0 0), .agg [.one (.b false), .hash hz, .one (.i .i64 0), .one (.sl 0 none 0 0), .one (.i .i64 0), .hash hz, .one (.sl 0 none 0 0)], .agg [.hash hz, .one (.i .i64 0)], .one (.sl 0 none 0 0), .agg [.one (.sl 0 none 0 0), .one (.sl 0 none 0 0), .one (.i .i64 0), .one (.i .i64 0), .one (.sl 0 none 0 0)]] := ⟨by kernel_rfl⟩
instance ta49 : TyA Tryz.prog 49 true 113 (.agg [.one (.sl 0 none 0 0), .one (.sl 0 none 0 0), .one (.i .i64 0), .one (.sl 0 none 0 0), .one (.sl 0 none 0 0), .one (.b false), .hash hz, .one (.i .i64 0), .one (.sl 0 none 0 0), .one (.i .i64 0), .hash hz, .one (.sl 0 none 0 0), .hash hz, .one (.i .i64 0), .one (.sl 0 none 0 0), .one (.sl 0 none 0 0), .one (.sl 0 none 0 0), .one (.i .i64 0), .one (.i .i64 0), .one (.sl 0 none 0 0)]) 392 := ⟨⟨by kernel_rfl, by kernel_rfl⟩, rfl, rfl⟩
instance noi49 : NoI Tryz.prog 49 := ⟨by kernel_rfl⟩
instance fa49_0 : FA Tryz.prog 49 0 0 := ⟨by kernel_rfl⟩
instance ft49_0 : FT Tryz.prog 49 0 39 0 := ⟨by kernel_rfl⟩
instance fa49_1 : FA Tryz.prog 49 1 1 := ⟨by kernel_rfl⟩
instance ft49_1 : FT Tryz.prog 49 1 33 1 := ⟨by kernel_rfl⟩
instance fa49_2 : FA Tryz.prog 49 2 2 := ⟨by kernel_rfl⟩
instance ft49_2 : FT Tryz.prog 49 2 35 2 := ⟨by kernel_rfl⟩
instance fa49_3 : FA Tryz.prog 49 3 4 := ⟨by kernel_rfl⟩
instance ft49_3 : FT Tryz.prog 49 3 45 4 := ⟨by kernel_rfl⟩
instance fa49_4 : FA Tryz.prog 49 4 5 := ⟨by kernel_rfl⟩
instance ft49_4 : FT Tryz.prog 49 4 41 5 := ⟨by kernel_rfl⟩
instance fa49_5 : FA Tryz.prog 49 5 74 := ⟨by kernel_rfl⟩
instance ft49_5 : FT Tryz.prog 49 5 25 74 := ⟨by kernel_rfl⟩
instance fa49_6 : FA Tryz.prog 49 6 107 := ⟨by kernel_rfl⟩
instance ft49_6 : FT Tryz.prog 49 6 26 107 := ⟨by kernel_rfl⟩
instance fa49_7 : FA Tryz.prog 49 7 108 := ⟨by kernel_rfl⟩
instance ft49_7 : FT Tryz.prog 49 7 47 108 := ⟨by kernel_rfl⟩
instance pls49 : PLS Tryz.prog 49 [.agg [.one (.sl 0 none 0 0)], .one (.sl 0 none 0 0), .agg [.one (.i .i64 0), .one (.sl 0 none 0 0)], .one (.sl 0 none 0 0), .agg [.one (.b false), .hash hz, .one (.i .i64 0), .one (.sl 0 none 0 0), .one (.i .i64 0), .hash hz, .one (.sl 0 none 0 0)], .agg [.hash hz, .one (.i .i64 0)], .one (.sl 0 none 0 0), .agg [.one (.sl 0 none 0 0), .one (.sl 0 none 0 0), .one (.i .i64 0), .one (.i .i64 0), .one (.sl 0 none 0 0)]] := ⟨by kernel_rfl⟩
instance ta50 : TyA Tryz.prog 50 false 1 (.one (.fnn)) 8 := ⟨⟨by kernel_rfl, by kernel_rfl⟩, rfl, rfl⟩
instance noi50 : NoI Tryz.prog 50 := ⟨by kernel_rfl⟩
instance ta51 : TyA Tryz.prog 51 false 1 (.one (.fnn)) 8 := ⟨⟨by kernel_rfl, by kernel_rfl⟩, rfl, rfl⟩
instance noi51 : NoI Tryz.prog 51 := ⟨by kernel_rfl⟩
instance ta52 : TyA Tryz.prog 52 false 1 (.one (.fnn)) 8 := ⟨⟨by kernel_rfl, by kernel_rfl⟩, rfl, rfl⟩
instance noi52 : NoI Tryz.prog 52 := ⟨by kernel_rfl⟩
instance ta53 : TyA Tryz.prog 53 false 1 (.one (.fnn)) 8 := ⟨⟨by kernel_rfl, by kernel_rfl⟩, rfl, rfl⟩
instance noi53 : NoI Tryz.prog 53 := ⟨by kernel_rfl⟩
instance ta54 : TyA Tryz.prog 54 false 1 (.one (.fnn)) 8 := ⟨⟨by kernel_rfl, by kernel_rfl⟩, rfl, rfl⟩
instance noi54 : NoI Tryz.prog 54 := ⟨by kernel_rfl⟩
instance ta55 : TyA Tryz.prog 55 false 1 (.one (.fnn)) 8 := ⟨⟨by kernel_rfl, by kernel_rfl⟩, rfl, rfl⟩
instance noi55 : NoI Tryz.prog 55 := ⟨by kernel_rfl⟩
instance ta56 : TyA Tryz.prog 56 false 1 (.one (.fnn)) 8 := ⟨⟨by kernel_rfl, by kernel_rfl⟩, rfl, rfl⟩
instance noi56 : NoI Tryz.prog 56 := ⟨by kernel_rfl⟩
instance ta57 : TyA Tryz.prog 57 false 1 (.one (.fnn)) 8 := ⟨⟨by kernel_rfl, by kernel_rfl⟩, rfl, rfl⟩
instance noi57 : NoI Tryz.prog 57 := ⟨by kernel_rfl⟩
instance ta58 : TyA Tryz.prog 58 false 1 (.one (.sl 0 none 0 0)) 24 := ⟨⟨by kernel_rfl, by kernel_rfl⟩, rfl, rfl⟩
instance noi58 : NoI Tryz.prog 58 := ⟨by kernel_rfl⟩
instance ud58 : UD Tryz.prog 58 (.slice 5) := ⟨by kernel_rfl⟩
instance ta59 : TyA Tryz.prog 59 false 1 (.one (.fnn)) 8 := ⟨⟨by kernel_rfl, by kernel_rfl⟩, rfl, rfl⟩
instance noi59 : NoI Tryz.prog 59 := ⟨by kernel_rfl⟩
instance ta60 : TyA Tryz.prog 60 false 1 (.one (.pn)) 8 := ⟨⟨by kernel_rfl, by kernel_rfl⟩, rfl, rfl⟩
instance noi60 : NoI Tryz.prog 60 := ⟨by kernel_rfl⟩
instance ud60 : UD Tryz.prog 60 (.pointer 130) := ⟨by kernel_rfl⟩
instance ta61 : TyA Tryz.prog 61 false 1 (.one (.fnn)) 8 := ⟨⟨by kernel_rfl, by kernel_rfl⟩, rfl, rfl⟩
instance noi61 : NoI Tryz.prog 61 := ⟨by kernel_rfl⟩
instance ta62 : TyA Tryz.prog 62 false 1 (.one (.pn)) 8 := ⟨⟨by kernel_rfl, by kernel_rfl⟩, rfl, rfl⟩
instance noi62 : NoI Tryz.prog 62 := ⟨by kernel_rfl⟩
instance ud62 : UD Tryz.prog 62 (.pointer 64) := ⟨by kernel_rfl⟩
instance ta63 : TyA Tryz.prog 63 true 2 (.agg [.one (.sl 0 none 0 0), .one (.b false)]) 32 := ⟨⟨by kernel_rfl, by kernel_rfl⟩, rfl, rfl⟩
instance noi63 : NoI Tryz.prog 63 := ⟨by kernel_rfl⟩
instance fa63_0 : FA Tryz.prog 63 0 0 := ⟨by kernel_rfl⟩
instance ft63_0 : FT Tryz.prog 63 0 58 0 := ⟨by kernel_rfl⟩
instance fa63_1 : FA Tryz.prog 63 1 1 := ⟨by kernel_rfl⟩
instance ft63_1 : FT Tryz.prog 63 1 4 1 := ⟨by kernel_rfl⟩
instance pls63 : PLS Tryz.prog 63 [.one (.sl 0 none 0 0), .one (.b false)] := ⟨by kernel_rfl⟩
instance ta64 : TyA Tryz.prog 64 true 2 (.agg [.one (.sl 0 none 0 0), .one (.b false)]) 32 := ⟨⟨by kernel_rfl, by kernel_rfl⟩, rfl, rfl⟩
instance noi64 : NoI Tryz.prog 64 := ⟨by kernel_rfl⟩
instance fa64_0 : FA Tryz.prog 64 0 0 := ⟨by kernel_rfl⟩
instance ft64_0 : FT Tryz.prog 64 0 58 0 := ⟨by kernel_rfl⟩
instance fa64_1 : FA Tryz.prog 64 1 1 := ⟨by kernel_rfl⟩
instance ft64_1 : FT Tryz.prog 64 1 4 1 := ⟨by kernel_rfl⟩
instance pls64 : PLS Tryz.prog 64 [.one (.sl 0 none 0 0), .one (.b false)] := ⟨by kernel_rfl⟩
instance ta65 : TyA Tryz.prog 65 false 1 (.one (.fnn)) 8 := ⟨⟨by kernel_rfl, by kernel_rfl⟩, rfl, rfl⟩
instance noi65 : NoI Tryz.prog 65 := ⟨by kernel_rfl⟩
instance ta66 : TyA Tryz.prog 66 false 1 (.one (.fnn)) 8 := ⟨⟨by kernel_rfl, by kernel_rfl⟩, rfl, rfl⟩
instance noi66 : NoI Tryz.prog 66 := ⟨by kernel_rfl⟩
instance ta67 : TyA Tryz.prog 67 false 1 (.one (.fnn)) 8 := ⟨⟨by kernel_rfl, by kernel_rfl⟩, rfl, rfl⟩
instance noi67 : NoI Tryz.prog 67 := ⟨by kernel_rfl⟩
instance ta68 : TyA Tryz.prog 68 false 1 (.one (.i .i64 0)) 8 := ⟨⟨by kernel_rfl, by kernel_rfl⟩, rfl, rfl⟩
instance noi68 : NoI Tryz.prog 68 := ⟨by kernel_rfl⟩
instance ud68 : UD Tryz.prog 68 (.int .i64) := ⟨by kernel_rfl⟩
instance ta69 : TyA Tryz.prog 69 false 1 (.one (.fnn)) 8 := ⟨⟨by kernel_rfl, by kernel_rfl⟩, rfl, rfl⟩
instance noi69 : NoI Tryz.prog 69 := ⟨by kernel_rfl⟩
instance ta70 : TyA Tryz.prog 70 false 1 (.one (.fnn)) 8 := ⟨⟨by kernel_rfl, by kernel_rfl⟩, rfl, rfl⟩
instance noi70 : NoI Tryz.prog 70 := ⟨by kernel_rfl⟩
instance ta71 : TyA Tryz.prog 71 false 1 (.one (.i .i64 0)) 8 := ⟨⟨by kernel_rfl, by kernel_rfl⟩, rfl, rfl⟩
instance noi71 : NoI Tryz.prog 71 := ⟨by kernel_rfl⟩
instance ud71 : UD Tryz.prog 71 (.int .i64) := ⟨by kernel_rfl⟩
instance ta72 : TyA Tryz.prog 72 false 1 (.one (.sl 0 none 0 0)) 24 := ⟨⟨by kernel_rfl, by kernel_rfl⟩, rfl, rfl⟩
instance noi72 : NoI Tryz.prog 72 := ⟨by kernel_rfl⟩
instance ud72 : UD Tryz.prog 72 (.slice 71) := ⟨by kernel_rfl⟩
instance ta73 : TyA Tryz.prog 73 false 1 (.one (.i .u64 0)) 8 := ⟨⟨by kernel_rfl, by kernel_rfl⟩, rfl, rfl⟩
instance noi73 : NoI Tryz.prog 73 := ⟨by kernel_rfl⟩
instance ud73 : UD Tryz.prog 73 (.int .u64) := ⟨by kernel_rfl⟩
instance ta74 : TyA Tryz.prog 74 false 1 (.one (.i .u64 0)) 8 := ⟨⟨by kernel_rfl, by kernel_rfl⟩, rfl, rfl⟩
instance noi74 : NoI Tryz.prog 74 := ⟨by kernel_rfl⟩
instance ud74 : UD Tryz.prog 74 (.int .u64) := ⟨by kernel_rfl⟩
instance ta75 : TyA Tryz.prog 75 true 5 (.agg [.one (.i .i64 0), .one (.i .i64 0), .one (.i .u64 0), .one (.s ⟨#[]⟩), .one (.i .i64 0)]) 48 := ⟨⟨by kernel_rfl, by kernel_rfl⟩, rfl, rfl⟩
instance noi75 : NoI Tryz.prog 75 := ⟨by kernel_rfl⟩
instance fa75_0 : FA Tryz.prog 75 0 0 := ⟨by kernel_rfl⟩
instance ft75_0 : FT Tryz.prog 75 0 71 0 := ⟨by kernel_rfl⟩
instance fa75_1 : FA Tryz.prog 75 1 1 := ⟨by kernel_rfl⟩
instance ft75_1 : FT Tryz.prog 75 1 2 1 := ⟨by kernel_rfl⟩
instance fa75_2 : FA Tryz.prog 75 2 2 := ⟨by kernel_rfl⟩
instance ft75_2 : FT Tryz.prog 75 2 73 2 := ⟨by kernel_rfl⟩
instance fa75_3 : FA Tryz.prog 75 3 3 := ⟨by kernel_rfl⟩
instance ft75_3 : FT Tryz.prog 75 3 9 3 := ⟨by kernel_rfl⟩
instance fa75_4 : FA Tryz.prog 75 4 4 := ⟨by kernel_rfl⟩
instance ft75_4 : FT Tryz.prog 75 4 3 4 := ⟨by kernel_rfl⟩
instance pls75 : PLS Tryz.prog 75 [.one (.i .i64 0), .one (.i .i64 0), .one (.i .u64 0), .one (.s ⟨#[]⟩), .one (.i .i64 0)] := ⟨by kernel_rfl⟩
instance ta76 : TyA Tryz.prog 76 true 5 (.agg [.one (.i .i64 0), .one (.i .i64 0), .one (.i .u64 0), .one (.s ⟨#[]⟩), .one (.i .i64 0)]) 48 := ⟨⟨by kernel_rfl, by kernel_rfl⟩, rfl, rfl⟩
instance noi76 : NoI Tryz.prog 76 := ⟨by kernel_rfl⟩
instance fa76_0 : FA Tryz.prog 76 0 0 := ⟨by kernel_rfl⟩
instance ft76_0 : FT Tryz.prog 76 0 71 0 := ⟨by kernel_rfl⟩
instance fa76_1 : FA Tryz.prog 76 1 1 := ⟨by kernel_rfl⟩
instance ft76_1 : FT Tryz.prog 76 1 2 1 := ⟨by kernel_rfl⟩
instance fa76_2 : FA Tryz.prog 76 2 2 := ⟨by kernel_rfl⟩
instance ft76_2 : FT Tryz.prog 76 2 73 2 := ⟨by kernel_rfl⟩
instance fa76_3 : FA Tryz.prog 76 3 3 := ⟨by kernel_rfl⟩
instance ft76_3 : FT Tryz.prog 76 3 9 3 := ⟨by kernel_rfl⟩
instance fa76_4 : FA Tryz.prog 76 4 4 := ⟨by kernel_rfl⟩
instance ft76_4 : FT Tryz.prog 76 4 3 4 := ⟨by kernel_rfl⟩
instance pls76 : PLS Tryz.prog 76 [.one (.i .i64 0), .one (.i .i64 0), .one (.i .u64 0), .one (.s ⟨#[]⟩), .one (.i .i64 0)] := ⟨by kernel_rfl⟩
instance ta77 : TyA Tryz.prog 77 false 1 (.one (.fnn)) 8 := ⟨⟨by kernel_rfl, by kernel_rfl⟩, rfl, rfl⟩
instance noi77 : NoI Tryz.prog 77 := ⟨by kernel_rfl⟩
instance ta78 : TyA Tryz.prog 78 false 1 (.one (.fnn)) 8 := ⟨⟨by kernel_rfl, by kernel_rfl⟩, rfl, rfl⟩
instance noi78 : NoI Tryz.prog 78 := ⟨by kernel_rfl⟩
instance ta79 : TyA Tryz.prog 79 false 1 (.one (.pn)) 8 := ⟨⟨by kernel_rfl, by kernel_rfl⟩, rfl, rfl⟩
instance noi79 : NoI Tryz.prog 79 := ⟨by kernel_rfl⟩
instance ud79 : UD Tryz.prog 79 (.pointer 80) := ⟨by kernel_rfl⟩
instance ta80 : TyA Tryz.prog 80 true 2 (.agg [.one (.sl 0 none 0 0), .one (.b false)]) 32 := ⟨⟨by kernel_rfl, by kernel_rfl⟩, rfl, rfl⟩
instance noi80 : NoI Tryz.prog 80 := ⟨by kernel_rfl⟩
instance fa80_0 : FA Tryz.prog 80 0 0 := ⟨by kernel_rfl⟩
instance ft80_0 : FT Tryz.prog 80 0 58 0 := ⟨by kernel_rfl⟩
instance fa80_1 : FA Tryz.prog 80 1 1 := ⟨by kernel_rfl⟩
instance ft80_1 : FT Tryz.prog 80 1 4 1 := ⟨by kernel_rfl⟩
instance pls80 : PLS Tryz.prog 80 [.one (.sl 0 none 0 0), .one (.b false)] := ⟨by kernel_rfl⟩
instance ta81 : TyA Tryz.prog 81 false 1 (.one (.fnn)) 8 := ⟨⟨by kernel_rfl, by kernel_rfl⟩, rfl, rfl⟩
instance noi81 : NoI Tryz.prog 81 := ⟨by kernel_rfl⟩
instance ta83 : TyA Tryz.prog 83 false 1 (.one (.fnn)) 8 := ⟨⟨by kernel_rfl, by kernel_rfl⟩, rfl, rfl⟩
instance noi83 : NoI Tryz.prog 83 := ⟨by kernel_rfl⟩
instance ta84 : TyA Tryz.prog 84 false 1 (.one (.pn)) 8 := ⟨⟨by kernel_rfl, by kernel_rfl⟩, rfl, rfl⟩
instance noi84 : NoI Tryz.prog 84 := ⟨by kernel_rfl⟩
instance ud84 : UD Tryz.prog 84 (.pointer 160) := ⟨by kernel_rfl⟩
instance ta85 : TyA Tryz.prog 85 false 1 (.one (.fnn)) 8 := ⟨⟨by kernel_rfl, by kernel_rfl⟩, rfl, rfl⟩
instance noi85 : NoI Tryz.prog 85 := ⟨by kernel_rfl⟩
instance ta86 : TyA Tryz.prog 86 false 1 (.one (.fnn)) 8 := ⟨⟨by kernel_rfl, by kernel_rfl⟩, rfl, rfl⟩
instance noi86 : NoI Tryz.prog 86 := ⟨by kernel_rfl⟩
instance ta87 : TyA Tryz.prog 87 false 1 (.one (.fnn)) 8 := ⟨⟨by kernel_rfl, by kernel_rfl⟩, rfl, rfl⟩
instance noi87 : NoI Tryz.prog 87 := ⟨by kernel_rfl⟩
instance ta88 : TyA Tryz.prog 88 false 1 (.one (.fnn)) 8 := ⟨⟨by kernel_rfl, by kernel_rfl⟩, rfl, rfl⟩
instance noi88 : NoI Tryz.prog 88 := ⟨by kernel_rfl⟩
instance ta89 : TyA Tryz.prog 89 false 1 (.one (.fnn)) 8 := ⟨⟨by kernel_rfl, by kernel_rfl⟩, rfl, rfl⟩
instance noi89 : NoI Tryz.prog 89 := ⟨by kernel_rfl⟩
instance ta90 : TyA Tryz.prog 90 false 1 (.one (.fnn)) 8 := ⟨⟨by kernel_rfl, by kernel_rfl⟩, rfl, rfl⟩
instance noi90 : NoI Tryz.prog 90 := ⟨by kernel_rfl⟩
instance ta91 : TyA Tryz.prog 91 false 1 (.one (.fnn)) 8 := ⟨⟨by kernel_rfl, by kernel_rfl⟩, rfl, rfl⟩
instance noi91 : NoI Tryz.prog 91 := ⟨by kernel_rfl⟩
instance ta92 : TyA Tryz.prog 92 false 1 (.one (.fnn)) 8 := ⟨⟨by kernel_rfl, by kernel_rfl⟩, rfl, rfl⟩
instance noi92 : NoI Tryz.prog 92 := ⟨by kernel_rfl⟩
instance ta93 : TyA Tryz.prog 93 false 1 (.one (.fnn)) 8 := ⟨⟨by kernel_rfl, by kernel_rfl⟩, rfl, rfl⟩
instance noi93 : NoI Tryz.prog 93 := ⟨by kernel_rfl⟩
instance ta94 : TyA Tryz.prog 94 false 1 (.one (.fnn)) 8 := ⟨⟨by kernel_rfl, by kernel_rfl⟩, rfl, rfl⟩
instance noi94 : NoI Tryz.prog 94 := ⟨by kernel_rfl⟩
instance ta95 : TyA Tryz.prog 95 false 1 (.one (.fnn)) 8 := ⟨⟨by kernel_rfl, by kernel_rfl⟩, rfl, rfl⟩
instance noi95 : NoI Tryz.prog 95 := ⟨by kernel_rfl⟩
instance ta96 : TyA Tryz.prog 96 false 1 (.one (.fnn)) 8 := ⟨⟨by kernel_rfl, by kernel_rfl⟩, rfl, rfl⟩
instance noi96 : NoI Tryz.prog 96 := ⟨by kernel_rfl⟩
instance ta97 : TyA Tryz.prog 97 false 1 (.one (.fnn)) 8 := ⟨⟨by kernel_rfl, by kernel_rfl⟩, rfl, rfl⟩
instance noi97 : NoI Tryz.prog 97 := ⟨by kernel_rfl⟩
instance ta98 : TyA Tryz.prog 98 false 1 (.one (.fnn)) 8 := ⟨⟨by kernel_rfl, by kernel_rfl⟩, rfl, rfl⟩
instance noi98 : NoI Tryz.prog 98 := ⟨by kernel_rfl⟩
instance ta99 : TyA Tryz.prog 99 false 1 (.one (.fnn)) 8 := ⟨⟨by kernel_rfl, by kernel_rfl⟩, rfl, rfl⟩
instance noi99 : NoI Tryz.prog 99 := ⟨by kernel_rfl⟩
instance ta100 : TyA Tryz.prog 100 false 1 (.one (.fnn)) 8 := ⟨⟨by kernel_rfl, by kernel_rfl⟩, rfl, rfl⟩
instance noi100 : NoI Tryz.prog 100 := ⟨by kernel_rfl⟩
instance ta101 : TyA Tryz.prog 101 false 1 (.one (.fnn)) 8 := ⟨⟨by kernel_rfl, by kernel_rfl⟩, rfl, rfl⟩
instance noi101 : NoI Tryz.prog 101 := ⟨by kernel_rfl⟩
instance ta102 : TyA Tryz.prog 102 false 1 (.one (.fnn)) 8 := ⟨⟨by kernel_rfl, by kernel_rfl⟩, rfl, rfl⟩
instance noi102 : NoI Tryz.prog 102 := ⟨by kernel_rfl⟩
instance ta103 : TyA Tryz.prog 103 false 1 (.one (.fnn)) 8 := ⟨⟨by kernel_rfl, by kernel_rfl⟩, rfl, rfl⟩
instance noi103 : NoI Tryz.prog 103 := ⟨by kernel_rfl⟩
instance ta104 : TyA Tryz.prog 104 false 1 (.one (.fnn)) 8 := ⟨⟨by kernel_rfl, by kernel_rfl⟩, rfl, rfl⟩
instance noi104 : NoI Tryz.prog 104 := ⟨by kernel_rfl⟩
instance ta105 : TyA Tryz.prog 105 false 1 (.one (.fnn)) 8 := ⟨⟨by kernel_rfl, by kernel_rfl⟩, rfl, rfl⟩
instance noi105 : NoI Tryz.prog 105 := ⟨by kernel_rfl⟩
instance ta106 : TyA Tryz.prog 106 false 1 (.one (.fnn)) 8 := ⟨⟨by kernel_rfl, by kernel_rfl⟩, rfl, rfl⟩
instance noi106 : NoI Tryz.prog 106 := ⟨by kernel_rfl⟩
instance ta107 : TyA Tryz.prog 107 false 1 (.one (.fnn)) 8 := ⟨⟨by kernel_rfl, by kernel_rfl⟩, rfl, rfl⟩
instance noi107 : NoI Tryz.prog 107 := ⟨by kernel_rfl⟩
instance ta108 : TyA Tryz.prog 108 false 1 (.one (.fnn)) 8 := ⟨⟨by kernel_rfl, by kernel_rfl⟩, rfl, rfl⟩
instance noi108 : NoI Tryz.prog 108 := ⟨by kernel_rfl⟩
instance ta109 : TyA Tryz.prog 109 false 1 (.one (.fnn)) 8 := ⟨⟨by kernel_rfl, by kernel_rfl⟩, rfl, rfl⟩
instance noi109 : NoI Tryz.prog 109 := ⟨by kernel_rfl⟩
instance ta110 : TyA Tryz.prog 110 false 1 (.one (.mn)) 8 := ⟨⟨by kernel_rfl, by kernel_rfl⟩, rfl, rfl⟩
instance noi110 : NoI Tryz.prog 110 := ⟨by kernel_rfl⟩
instance ud110 : UD Tryz.prog 110 (.map 36 27) := ⟨by kernel_rfl⟩
instance ta111 : TyA Tryz.prog 111 false 1 (.one (.fnn)) 8 := ⟨⟨by kernel_rfl, by kernel_rfl⟩, rfl, rfl⟩
instance noi111 : NoI Tryz.prog 111 := ⟨by kernel_rfl⟩
instance ta113 : TyA Tryz.prog 113 false 1 (.one (.fnn)) 8 := ⟨⟨by kernel_rfl, by kernel_rfl⟩, rfl, rfl⟩
instance noi113 : NoI Tryz.prog 113 := ⟨by kernel_rfl⟩
instance ta114 : TyA Tryz.prog 114 false 1 (.one (.fnn)) 8 := ⟨⟨by kernel_rfl, by kernel_rfl⟩, rfl, rfl⟩
instance noi114 : NoI Tryz.prog 114 := ⟨by kernel_rfl⟩
instance ta115 : TyA Tryz.prog 115 false 1 (.one (.fnn)) 8 := ⟨⟨by kernel_rfl, by kernel_rfl⟩, rfl, rfl⟩
instance noi115 : NoI Tryz.prog 115 := ⟨by kernel_rfl⟩
instance ta116 : TyA Tryz.prog 116 false 1 (.one (.fnn)) 8 := ⟨⟨by kernel_rfl, by kernel_rfl⟩, rfl, rfl⟩
instance noi116 : NoI Tryz.prog 116 := ⟨by kernel_rfl⟩
instance ta117 : TyA Tryz.prog 117 false 1 (.one (.fnn)) 8 := ⟨⟨by kernel_rfl, by kernel_rfl⟩, rfl, rfl⟩
instance noi117 : NoI Tryz.prog 117 := ⟨by kernel_rfl⟩
instance ta118 : TyA Tryz.prog 118 false 1 (.one (.fnn)) 8 := ⟨⟨by kernel_rfl, by kernel_rfl⟩, rfl, rfl⟩
instance noi118 : NoI Tryz.prog 118 := ⟨by kernel_rfl⟩
instance ta119 : TyA Tryz.prog 119 false 1 (.one (.fnn)) 8 := ⟨⟨by kernel_rfl, by kernel_rfl⟩, rfl, rfl⟩
instance noi119 : NoI Tryz.prog 119 := ⟨by kernel_rfl⟩
instance ta120 : TyA Tryz.prog 120 false 1 (.one (.fnn)) 8 := ⟨⟨by kernel_rfl, by kernel_rfl⟩, rfl, rfl⟩
instance noi120 : NoI Tryz.prog 120 := ⟨by kernel_rfl⟩
instance ta121 : TyA Tryz.prog 121 false 1 (.one (.fnn)) 8 := ⟨⟨by kernel_rfl, by kernel_rfl⟩, rfl, rfl⟩
instance noi121 : NoI Tryz.prog 121 := ⟨by kernel_rfl⟩
instance ta122 : TyA Tryz.prog 122 false 1 (.one (.fnn)) 8 := ⟨⟨by kernel_rfl, by kernel_rfl⟩, rfl, rfl⟩
instance noi122 : NoI Tryz.prog 122 := ⟨by kernel_rfl⟩
instance ta123 : TyA Tryz.prog 123 false 1 (.one (.fnn)) 8 := ⟨⟨by kernel_rfl, by kernel_rfl⟩, rfl, rfl⟩
instance noi123 : NoI Tryz.prog 123 := ⟨by kernel_rfl⟩
instance ta124 : TyA Tryz.prog 124 false 1 (.one (.fnn)) 8 := ⟨⟨by kernel_rfl, by kernel_rfl⟩, rfl, rfl⟩
instance noi124 : NoI Tryz.prog 124 := ⟨by kernel_rfl⟩
instance ta125 : TyA Tryz.prog 125 false 1 (.one (.fnn)) 8 := ⟨⟨by kernel_rfl, by kernel_rfl⟩, rfl, rfl⟩
instance noi125 : NoI Tryz.prog 125 := ⟨by kernel_rfl⟩
instance ta126 : TyA Tryz.prog 126 true 2 (.agg [.one (.b false), .one (.b false)]) 2 := ⟨⟨by kernel_rfl, by kernel_rfl⟩, rfl, rfl⟩
instance noi126 : NoI Tryz.prog 126 := ⟨by kernel_rfl⟩
instance fa126_0 : FA Tryz.prog 126 0 0 := ⟨by kernel_rfl⟩
instance ft126_0 : FT Tryz.prog 126 0 4 0 := ⟨by kernel_rfl⟩
instance fa126_1 : FA Tryz.prog 126 1 1 := ⟨by kernel_rfl⟩
instance ft126_1 : FT Tryz.prog 126 1 4 1 := ⟨by kernel_rfl⟩
instance pls126 : PLS Tryz.prog 126 [.one (.b false), .one (.b false)] := ⟨by kernel_rfl⟩
instance ta127 : TyA Tryz.prog 127 true 2 (.agg [.one (.b false), .one (.b false)]) 2 := ⟨⟨by kernel_rfl, by kernel_rfl⟩, rfl, rfl⟩
instance noi127 : NoI Tryz.prog 127 := ⟨by kernel_rfl⟩
instance fa127_0 : FA Tryz.prog 127 0 0 := ⟨by kernel_rfl⟩
instance ft127_0 : FT Tryz.prog 127 0 4 0 := ⟨by kernel_rfl⟩
instance fa127_1 : FA Tryz.prog 127 1 1 := ⟨by kernel_rfl⟩
instance ft127_1 : FT Tryz.prog 127 1 4 1 := ⟨by kernel_rfl⟩
instance pls127 : PLS Tryz.prog 127 [.one (.b false), .one (.b false)] := ⟨by kernel_rfl⟩
instance ta128 : TyA Tryz.prog 128 false 1 (.one (.fnn)) 8 := ⟨⟨by kernel_rfl, by kernel_rfl⟩, rfl, rfl⟩
instance noi128 : NoI Tryz.prog 128 := ⟨by kernel_rfl⟩
instance ta129 : TyA Tryz.prog 129 true 3 (.agg [.one (.b false), .one (.b false), .one (.sl 0 none 0 0)]) 32 := ⟨⟨by kernel_rfl, by kernel_rfl⟩, rfl, rfl⟩
instance noi129 : NoI Tryz.prog 129 := ⟨by kernel_rfl⟩
instance fa129_0 : FA Tryz.prog 129 0 0 := ⟨by kernel_rfl⟩
instance ft129_0 : FT Tryz.prog 129 0 127 0 := ⟨by kernel_rfl⟩
instance fa129_1 : FA Tryz.prog 129 1 2 := ⟨by kernel_rfl⟩
instance ft129_1 : FT Tryz.prog 129 1 58 2 := ⟨by kernel_rfl⟩
instance pls129 : PLS Tryz.prog 129 [.agg [.one (.b false), .one (.b false)], .one (.sl 0 none 0 0)] := ⟨by kernel_rfl⟩
instance ta130 : TyA Tryz.prog 130 true 3 (.agg [.one (.b false), .one (.b false), .one (.sl 0 none 0 0)]) 32 := ⟨⟨by kernel_rfl, by kernel_rfl⟩, rfl, rfl⟩
instance noi130 : NoI Tryz.prog 130 := ⟨by kernel_rfl⟩
instance fa130_0 : FA Tryz.prog 130 0 0 := ⟨by kernel_rfl⟩
instance ft130_0 : FT Tryz.prog 130 0 127 0 := ⟨by kernel_rfl⟩
instance fa130_1 : FA Tryz.prog 130 1 2 := ⟨by kernel_rfl⟩
instance ft130_1 : FT Tryz.prog 130 1 58 2 := ⟨by kernel_rfl⟩
instance pls130 : PLS Tryz.prog 130 [.agg [.one (.b false), .one (.b false)], .one (.sl 0 none 0 0)] := ⟨by kernel_rfl⟩
instance ta131 : TyA Tryz.prog 131 false 1 (.one (.fnn)) 8 := ⟨⟨by kernel_rfl, by kernel_rfl⟩, rfl, rfl⟩
instance noi131 : NoI Tryz.prog 131 := ⟨by kernel_rfl⟩
instance ta132 : TyA Tryz.prog 132 false 1 (.one (.fnn)) 8 := ⟨⟨by kernel_rfl, by kernel_rfl⟩, rfl, rfl⟩
instance noi132 : NoI Tryz.prog 132 := ⟨by kernel_rfl⟩
instance ta133 : TyA Tryz.prog 133 false 1 (.one (.fnn)) 8 := ⟨⟨by kernel_rfl, by kernel_rfl⟩, rfl, rfl⟩
instance noi133 : NoI Tryz.prog 133 := ⟨by kernel_rfl⟩
instance ta134 : TyA Tryz.prog 134 false 1 (.one (.fnn)) 8 := ⟨⟨by kernel_rfl, by kernel_rfl⟩, rfl, rfl⟩
instance noi134 : NoI Tryz.prog 134 := ⟨by kernel_rfl⟩
instance ta135 : TyA Tryz.prog 135 false 1 (.one (.fnn)) 8 := ⟨⟨by kernel_rfl, by kernel_rfl⟩, rfl, rfl⟩
instance noi135 : NoI Tryz.prog 135 := ⟨by kernel_rfl⟩
instance ta136 : TyA Tryz.prog 136 false 1 (.one (.fnn)) 8 := ⟨⟨by kernel_rfl, by kernel_rfl⟩, rfl, rfl⟩
instance noi136 : NoI Tryz.prog 136 := ⟨by kernel_rfl⟩
instance ta137 : TyA Tryz.prog 137 false 1 (.one (.fnn)) 8 := ⟨⟨by kernel_rfl, by kernel_rfl⟩, rfl, rfl⟩
instance noi137 : NoI Tryz.prog 137 := ⟨by kernel_rfl⟩
instance ta138 : TyA Tryz.prog 138 false 1 (.one (.fnn)) 8 := ⟨⟨by kernel_rfl, by kernel_rfl⟩, rfl, rfl⟩
instance noi138 : NoI Tryz.prog 138 := ⟨by kernel_rfl⟩
instance ta139 : TyA Tryz.prog 139 false 1 (.one (.fnn)) 8 := ⟨⟨by kernel_rfl, by kernel_rfl⟩, rfl, rfl⟩
instance noi139 : NoI Tryz.prog 139 := ⟨by kernel_rfl⟩
instance ta140 : TyA Tryz.prog 140 false 1 (.one (.fnn)) 8 := ⟨⟨by kernel_rfl, by kernel_rfl⟩, rfl, rfl⟩
instance noi140 : NoI Tryz.prog 140 := ⟨by kernel_rfl⟩
instance ta141 : TyA Tryz.prog 141 false 1 (.one (.fnn)) 8 := ⟨⟨by kernel_rfl, by kernel_rfl⟩, rfl, rfl⟩
instance noi141 : NoI Tryz.prog 141 := ⟨by kernel_rfl⟩
instance ta142 : TyA Tryz.prog 142 false 1 (.one (.fnn)) 8 := ⟨⟨by kernel_rfl, by kernel_rfl⟩, rfl, rfl⟩
instance noi142 : NoI Tryz.prog 142 := ⟨by kernel_rfl⟩
instance ta143 : TyA Tryz.prog 143 false 1 (.one (.fnn)) 8 := ⟨⟨by kernel_rfl, by kernel_rfl⟩, rfl, rfl⟩
instance noi143 : NoI Tryz.prog 143 := ⟨by kernel_rfl⟩
instance ta144 : TyA Tryz.prog 144 false 1 (.one (.fnn)) 8 := ⟨⟨by kernel_rfl, by kernel_rfl⟩, rfl, rfl⟩
instance noi144 : NoI Tryz.prog 144 := ⟨by kernel_rfl⟩
instance ta145 : TyA Tryz.prog 145 false 1 (.one (.fnn)) 8 := ⟨⟨by kernel_rfl, by kernel_rfl⟩, rfl, rfl⟩
instance noi145 : NoI Tryz.prog 145 := ⟨by kernel_rfl⟩
instance ta146 : TyA Tryz.prog 146 false 1 (.one (.fnn)) 8 := ⟨⟨by kernel_rfl, by kernel_rfl⟩, rfl, rfl⟩
instance noi146 : NoI Tryz.prog 146 := ⟨by kernel_rfl⟩
instance ta147 : TyA Tryz.prog 147 true 34 (.agg [.hash hz, .one (.s ⟨#[]⟩), .one (.i .i64 0)]) 56 := ⟨⟨by kernel_rfl, by kernel_rfl⟩, rfl, rfl⟩
instance noi147 : NoI Tryz.prog 147 := ⟨by kernel_rfl⟩
instance fa147_0 : FA Tryz.prog 147 0 0 := ⟨by kernel_rfl⟩
instance ft147_0 : FT Tryz.prog 147 0 23 0 := ⟨by kernel_rfl⟩
instance fa147_1 : FA Tryz.prog 147 1 32 := ⟨by kernel_rfl⟩
instance ft147_1 : FT Tryz.prog 147 1 9 32 := ⟨by kernel_rfl⟩
instance fa147_2 : FA Tryz.prog 147 2 33 := ⟨by kernel_rfl⟩
instance ft147_2 : FT Tryz.prog 147 2 2 33 := ⟨by kernel_rfl⟩
instance pls147 : PLS Tryz.prog 147 [.agg [.hash hz], .one (.s ⟨#[]⟩), .one (.i .i64 0)] := ⟨by kernel_rfl⟩
instance ta148 : TyA Tryz.prog 148 true 34 (.agg [.hash hz, .one (.s ⟨#[]⟩), .one (.i .i64 0)]) 56 := ⟨⟨by kernel_rfl, by kernel_rfl⟩, rfl, rfl⟩
instance noi148 : NoI Tryz.prog 148 := ⟨by kernel_rfl⟩
instance fa148_0 : FA Tryz.prog 148 0 0 := ⟨by kernel_rfl⟩
instance ft148_0 : FT Tryz.prog 148 0 23 0 := ⟨by kernel_rfl⟩
instance fa148_1 : FA Tryz.prog 148 1 32 := ⟨by kernel_rfl⟩
instance ft148_1 : FT Tryz.prog 148 1 9 32 := ⟨by kernel_rfl⟩
instance fa148_2 : FA Tryz.prog 148 2 33 := ⟨by kernel_rfl⟩
instance ft148_2 : FT Tryz.prog 148 2 2 33 := ⟨by kernel_rfl⟩
instance pls148 : PLS Tryz.prog 148 [.agg [.hash hz], .one (.s ⟨#[]⟩), .one (.i .i64 0)] := ⟨by kernel_rfl⟩
instance ta149 : TyA Tryz.prog 149 true 2 (.agg [.one (.i .i64 0), .one (.i .u64 0)]) 16 := ⟨⟨by kernel_rfl, by kernel_rfl⟩, rfl, rfl⟩
instance noi149 : NoI Tryz.prog 149 := ⟨by kernel_rfl⟩
instance fa149_0 : FA Tryz.prog 149 0 0 := ⟨by kernel_rfl⟩
instance ft149_0 : FT Tryz.prog 149 0 2 0 := ⟨by kernel_rfl⟩
instance fa149_1 : FA Tryz.prog 149 1 1 := ⟨by kernel_rfl⟩
instance ft149_1 : FT Tryz.prog 149 1 73 1 := ⟨by kernel_rfl⟩
instance pls149 : PLS Tryz.prog 149 [.one (.i .i64 0), .one (.i .u64 0)] := ⟨by kernel_rfl⟩
instance ta150 : TyA Tryz.prog 150 true 2 (.agg [.one (.i .i64 0), .one (.i .u64 0)]) 16 := ⟨⟨by kernel_rfl, by kernel_rfl⟩, rfl, rfl⟩
instance noi150 : NoI Tryz.prog 150 := ⟨by kernel_rfl⟩
instance fa150_0 : FA Tryz.prog 150 0 0 := ⟨by kernel_rfl⟩
instance ft150_0 : FT Tryz.prog 150 0 2 0 := ⟨by kernel_rfl⟩
instance fa150_1 : FA Tryz.prog 150 1 1 := ⟨by kernel_rfl⟩
instance ft150_1 : FT Tryz.prog 150 1 73 1 := ⟨by kernel_rfl⟩
instance pls150 : PLS Tryz.prog 150 [.one (.i .i64 0), .one (.i .u64 0)] := ⟨by kernel_rfl⟩
instance ta151 : TyA Tryz.prog 151 true 35 (.agg [.hash hz, .one (.s ⟨#[]⟩), .one (.i .i64 0), .one (.i .u64 0)]) 64 := ⟨⟨by kernel_rfl, by kernel_rfl⟩, rfl, rfl⟩
instance noi151 : NoI Tryz.prog 151 := ⟨by kernel_rfl⟩
instance fa151_0 : FA Tryz.prog 151 0 0 := ⟨by kernel_rfl⟩
instance ft151_0 : FT Tryz.prog 151 0 23 0 := ⟨by kernel_rfl⟩
instance fa151_1 : FA Tryz.prog 151 1 32 := ⟨by kernel_rfl⟩
instance ft151_1 : FT Tryz.prog 151 1 9 32 := ⟨by kernel_rfl⟩
instance fa151_2 : FA Tryz.prog 151 2 33 := ⟨by kernel_rfl⟩
instance ft151_2 : FT Tryz.prog 151 2 150 33 := ⟨by kernel_rfl⟩
instance pls151 : PLS Tryz.prog 151 [.agg [.hash hz], .one (.s ⟨#[]⟩), .agg [.one (.i .i64 0), .one (.i .u64 0)]] := ⟨by kernel_rfl⟩
instance ta152 : TyA Tryz.prog 152 true 35 (.agg [.hash hz, .one (.s ⟨#[]⟩), .one (.i .i64 0), .one (.i .u64 0)]) 64 := ⟨⟨by kernel_rfl, by kernel_rfl⟩, rfl, rfl⟩
instance noi152 : NoI Tryz.prog 152 := ⟨by kernel_rfl⟩
instance fa152_0 : FA Tryz.prog 152 0 0 := ⟨by kernel_rfl⟩
instance ft152_0 : FT Tryz.prog 152 0 23 0 := ⟨by kernel_rfl⟩
instance fa152_1 : FA Tryz.prog 152 1 32 := ⟨by kernel_rfl⟩
instance ft152_1 : FT Tryz.prog 152 1 9 32 := ⟨by kernel_rfl⟩
instance fa152_2 : FA Tryz.prog 152 2 33 := ⟨by kernel_rfl⟩
instance ft152_2 : FT Tryz.prog 152 2 150 33 := ⟨by kernel_rfl⟩
instance pls152 : PLS Tryz.prog 152 [.agg [.hash hz], .one (.s ⟨#[]⟩), .agg [.one (.i .i64 0), .one (.i .u64 0)]] := ⟨by kernel_rfl⟩
instance ta153 : TyA Tryz.prog 153 false 1 (.one (.fnn)) 8 := ⟨⟨by kernel_rfl, by kernel_rfl⟩, rfl, rfl⟩
instance noi153 : NoI Tryz.prog 153 := ⟨by kernel_rfl⟩
instance ta154 : TyA Tryz.prog 154 false 1 (.one (.fnn)) 8 := ⟨⟨by kernel_rfl, by kernel_rfl⟩, rfl, rfl⟩
instance noi154 : NoI Tryz.prog 154 := ⟨by kernel_rfl⟩
instance ta155 : TyA Tryz.prog 155 false 1 (.one (.fnn)) 8 := ⟨⟨by kernel_rfl, by kernel_rfl⟩, rfl, rfl⟩
instance noi155 : NoI Tryz.prog 155 := ⟨by kernel_rfl⟩
instance ta156 : TyA Tryz.prog 156 false 1 (.one (.fnn)) 8 := ⟨⟨by kernel_rfl, by kernel_rfl⟩, rfl, rfl⟩
instance noi156 : NoI Tryz.prog 156 := ⟨by kernel_rfl⟩
instance ta157 : TyA Tryz.prog 157 false 1 (.one (.fnn)) 8 := ⟨⟨by kernel_rfl, by kernel_rfl⟩, rfl, rfl⟩
instance noi157 : NoI Tryz.prog 157 := ⟨by kernel_rfl⟩
instance ta158 : TyA Tryz.prog 158 false 1 (.one (.fnn)) 8 := ⟨⟨by kernel_rfl, by kernel_rfl⟩, rfl, rfl⟩
instance noi158 : NoI Tryz.prog 158 := ⟨by kernel_rfl⟩
instance ta159 : TyA Tryz.prog 159 false 1 (.one (.fnn)) 8 := ⟨⟨by kernel_rfl, by kernel_rfl⟩, rfl, rfl⟩
instance noi159 : NoI Tryz.prog 159 := ⟨by kernel_rfl⟩
instance ta160 : TyA Tryz.prog 160 true 3 (.agg [.one (.b false), .one (.b false), .one (.sl 0 none 0 0)]) 32 := ⟨⟨by kernel_rfl, by kernel_rfl⟩, rfl, rfl⟩
instance noi160 : NoI Tryz.prog 160 := ⟨by kernel_rfl⟩
instance fa160_0 : FA Tryz.prog 160 0 0 := ⟨by kernel_rfl⟩
instance ft160_0 : FT Tryz.prog 160 0 127 0 := ⟨by kernel_rfl⟩
instance fa160_1 : FA Tryz.prog 160 1 2 := ⟨by kernel_rfl⟩
instance ft160_1 : FT Tryz.prog 160 1 58 2 := ⟨by kernel_rfl⟩
instance pls160 : PLS Tryz.prog 160 [.agg [.one (.b false), .one (.b false)], .one (.sl 0 none 0 0)] := ⟨by kernel_rfl⟩
instance ta161 : TyA Tryz.prog 161 false 1 (.one (.fnn)) 8 := ⟨⟨by kernel_rfl, by kernel_rfl⟩, rfl, rfl⟩
instance noi161 : NoI Tryz.prog 161 := ⟨by kernel_rfl⟩
instance ta162 : TyA Tryz.prog 162 false 1 (.one (.fnn)) 8 := ⟨⟨by kernel_rfl, by kernel_rfl⟩, rfl, rfl⟩
instance noi162 : NoI Tryz.prog 162 := ⟨by kernel_rfl⟩
instance ta163 : TyA Tryz.prog 163 false 1 (.one (.fnn)) 8 := ⟨⟨by kernel_rfl, by kernel_rfl⟩, rfl, rfl⟩
instance noi163 : NoI Tryz.prog 163 := ⟨by kernel_rfl⟩
instance ta164 : TyA Tryz.prog 164 false 1 (.one (.fnn)) 8 := ⟨⟨by kernel_rfl, by kernel_rfl⟩, rfl, rfl⟩
instance noi164 : NoI Tryz.prog 164 := ⟨by kernel_rfl⟩
instance ta165 : TyA Tryz.prog 165 false 1 (.one (.fnn)) 8 := ⟨⟨by kernel_rfl, by kernel_rfl⟩, rfl, rfl⟩
instance noi165 : NoI Tryz.prog 165 := ⟨by kernel_rfl⟩
instance ta166 : TyA Tryz.prog 166 false 1 (.one (.fnn)) 8 := ⟨⟨by kernel_rfl, by kernel_rfl⟩, rfl, rfl⟩
instance noi166 : NoI Tryz.prog 166 := ⟨by kernel_rfl⟩
instance ta167 : TyA Tryz.prog 167 false 1 (.one (.fnn)) 8 := ⟨⟨by kernel_rfl, by kernel_rfl⟩, rfl, rfl⟩
instance noi167 : NoI Tryz.prog 167 := ⟨by kernel_rfl⟩
instance ta168 : TyA Tryz.prog 168 true 1 (.agg [.one (.pn)]) 8 := ⟨⟨by kernel_rfl, by kernel_rfl⟩, rfl, rfl⟩
instance noi168 : NoI Tryz.prog 168 := ⟨by kernel_rfl⟩
instance fa168_0 : FA Tryz.prog 168 0 0 := ⟨by kernel_rfl⟩
instance ft168_0 : FT Tryz.prog 168 0 84 0 := ⟨by kernel_rfl⟩
instance pls168 : PLS Tryz.prog 168 [.one (.pn)] := ⟨by kernel_rfl⟩
instance ta169 : TyA Tryz.prog 169 true 1 (.agg [.one (.pn)]) 8 := ⟨⟨by kernel_rfl, by kernel_rfl⟩, rfl, rfl⟩
instance noi169 : NoI Tryz.prog 169 := ⟨by kernel_rfl⟩
instance fa169_0 : FA Tryz.prog 169 0 0 := ⟨by kernel_rfl⟩
instance ft169_0 : FT Tryz.prog 169 0 84 0 := ⟨by kernel_rfl⟩
instance pls169 : PLS Tryz.prog 169 [.one (.pn)] := ⟨by kernel_rfl⟩
instance ta170 : TyA Tryz.prog 170 false 1 (.one (.fnn)) 8 := ⟨⟨by kernel_rfl, by kernel_rfl⟩, rfl, rfl⟩
instance noi170 : NoI Tryz.prog 170 := ⟨by kernel_rfl⟩
instance ta171 : TyA Tryz.prog 171 false 1 (.one (.fnn)) 8 := ⟨⟨by kernel_rfl, by kernel_rfl⟩, rfl, rfl⟩
instance noi171 : NoI Tryz.prog 171 := ⟨by kernel_rfl⟩
instance ta172 : TyA Tryz.prog 172 false 1 (.one (.fnn)) 8 := ⟨⟨by kernel_rfl, by kernel_rfl⟩, rfl, rfl⟩
instance noi172 : NoI Tryz.prog 172 := ⟨by kernel_rfl⟩
instance ta173 : TyA Tryz.prog 173 true 1 (.agg [.one (.pn)]) 8 := ⟨⟨by kernel_rfl, by kernel_rfl⟩, rfl, rfl⟩
instance noi173 : NoI Tryz.prog 173 := ⟨by kernel_rfl⟩
instance fa173_0 : FA Tryz.prog 173 0 0 := ⟨by kernel_rfl⟩
instance ft173_0 : FT Tryz.prog 173 0 60 0 := ⟨by kernel_rfl⟩
instance pls173 : PLS Tryz.prog 173 [.one (.pn)] := ⟨by kernel_rfl⟩
instance ta174 : TyA Tryz.prog 174 true 1 (.agg [.one (.pn)]) 8 := ⟨⟨by kernel_rfl, by kernel_rfl⟩, rfl, rfl⟩
instance noi174 : NoI Tryz.prog 174 := ⟨by kernel_rfl⟩
instance fa174_0 : FA Tryz.prog 174 0 0 := ⟨by kernel_rfl⟩
instance ft174_0 : FT Tryz.prog 174 0 60 0 := ⟨by kernel_rfl⟩
instance pls174 : PLS Tryz.prog 174 [.one (.pn)] := ⟨by kernel_rfl⟩
instance ta175 : TyA Tryz.prog 175 false 1 (.one (.fnn)) 8 := ⟨⟨by kernel_rfl, by kernel_rfl⟩, rfl, rfl⟩
instance noi175 : NoI Tryz.prog 175 := ⟨by kernel_rfl⟩
instance ta176 : TyA Tryz.prog 176 false 1 (.one (.fnn)) 8 := ⟨⟨by kernel_rfl, by kernel_rfl⟩, rfl, rfl⟩
instance noi176 : NoI Tryz.prog 176 := ⟨by kernel_rfl⟩
instance ta177 : TyA Tryz.prog 177 false 1 (.one (.fnn)) 8 := ⟨⟨by kernel_rfl, by kernel_rfl⟩, rfl, rfl⟩
instance noi177 : NoI Tryz.prog 177 := ⟨by kernel_rfl⟩
instance ta178 : TyA Tryz.prog 178 false 1 (.one (.fnn)) 8 := ⟨⟨by kernel_rfl, by kernel_rfl⟩, rfl, rfl⟩
instance noi178 : NoI Tryz.prog 178 := ⟨by kernel_rfl⟩
instance ta179 : TyA Tryz.prog 179 false 1 (.one (.fnn)) 8 := ⟨⟨by kernel_rfl, by kernel_rfl⟩, rfl, rfl⟩
instance noi179 : NoI Tryz.prog 179 := ⟨by kernel_rfl⟩
instance ta180 : TyA Tryz.prog 180 false 1 (.one (.fnn)) 8 := ⟨⟨by kernel_rfl, by kernel_rfl⟩, rfl, rfl⟩
instance noi180 : NoI Tryz.prog 180 := ⟨by kernel_rfl⟩
instance ta181 : TyA Tryz.prog 181 false 1 (.one (.fnn)) 8 := ⟨⟨by kernel_rfl, by kernel_rfl⟩, rfl, rfl⟩
instance noi181 : NoI Tryz.prog 181 := ⟨by kernel_rfl⟩
instance ta182 : TyA Tryz.prog 182 false 1 (.one (.fnn)) 8 := ⟨⟨by kernel_rfl, by kernel_rfl⟩, rfl, rfl⟩
instance noi182 : NoI Tryz.prog 182 := ⟨by kernel_rfl⟩
instance ta183 : TyA Tryz.prog 183 false 1 (.one (.fnn)) 8 := ⟨⟨by kernel_rfl, by kernel_rfl⟩, rfl, rfl⟩
instance noi183 : NoI Tryz.prog 183 := ⟨by kernel_rfl⟩
instance ta184 : TyA Tryz.prog 184 false 1 (.one (.fnn)) 8 := ⟨⟨by kernel_rfl, by kernel_rfl⟩, rfl, rfl⟩
instance noi184 : NoI Tryz.prog 184 := ⟨by kernel_rfl⟩
instance ta185 : TyA Tryz.prog 185 false 1 (.one (.fnn)) 8 := ⟨⟨by kernel_rfl, by kernel_rfl⟩, rfl, rfl⟩
instance noi185 : NoI Tryz.prog 185 := ⟨by kernel_rfl⟩
instance ta186 : TyA Tryz.prog 186 true 33 (.agg [.hash hz, .one (.s ⟨#[]⟩)]) 48 := ⟨⟨by kernel_rfl, by kernel_rfl⟩, rfl, rfl⟩
instance noi186 : NoI Tryz.prog 186 := ⟨by kernel_rfl⟩
instance fa186_0 : FA Tryz.prog 186 0 0 := ⟨by kernel_rfl⟩
instance ft186_0 : FT Tryz.prog 186 0 23 0 := ⟨by kernel_rfl⟩
instance fa186_1 : FA Tryz.prog 186 1 32 := ⟨by kernel_rfl⟩
instance ft186_1 : FT Tryz.prog 186 1 9 32 := ⟨by kernel_rfl⟩
instance pls186 : PLS Tryz.prog 186 [.agg [.hash hz], .one (.s ⟨#[]⟩)] := ⟨by kernel_rfl⟩
instance ta187 : TyA Tryz.prog 187 true 33 (.agg [.hash hz, .one (.s ⟨#[]⟩)]) 48 := ⟨⟨by kernel_rfl, by kernel_rfl⟩, rfl, rfl⟩
instance noi187 : NoI Tryz.prog 187 := ⟨by kernel_rfl⟩
instance fa187_0 : FA Tryz.prog 187 0 0 := ⟨by kernel_rfl⟩
instance ft187_0 : FT Tryz.prog 187 0 23 0 := ⟨by kernel_rfl⟩
instance fa187_1 : FA Tryz.prog 187 1 32 := ⟨by kernel_rfl⟩
instance ft187_1 : FT Tryz.prog 187 1 9 32 := ⟨by kernel_rfl⟩
instance pls187 : PLS Tryz.prog 187 [.agg [.hash hz], .one (.s ⟨#[]⟩)] := ⟨by kernel_rfl⟩
instance ta188 : TyA Tryz.prog 188 false 1 (.one (.fnn)) 8 := ⟨⟨by kernel_rfl, by kernel_rfl⟩, rfl, rfl⟩
instance noi188 : NoI Tryz.prog 188 := ⟨by kernel_rfl⟩
instance ta189 : TyA Tryz.prog 189 false 1 (.one (.fnn)) 8 := ⟨⟨by kernel_rfl, by kernel_rfl⟩, rfl, rfl⟩
instance noi189 : NoI Tryz.prog 189 := ⟨by kernel_rfl⟩
instance ta190 : TyA Tryz.prog 190 false 1 (.one (.fnn)) 8 := ⟨⟨by kernel_rfl, by kernel_rfl⟩, rfl, rfl⟩
instance noi190 : NoI Tryz.prog 190 := ⟨by kernel_rfl⟩
instance ta191 : TyA Tryz.prog 191 false 1 (.one (.fnn)) 8 := ⟨⟨by kernel_rfl, by kernel_rfl⟩, rfl, rfl⟩
instance noi191 : NoI Tryz.prog 191 := ⟨by kernel_rfl⟩
instance ta192 : TyA Tryz.prog 192 false 1 (.one (.fnn)) 8 := ⟨⟨by kernel_rfl, by kernel_rfl⟩, rfl, rfl⟩
instance noi192 : NoI Tryz.prog 192 := ⟨by kernel_rfl⟩
instance ta193 : TyA Tryz.prog 193 false 1 (.one (.fnn)) 8 := ⟨⟨by kernel_rfl, by kernel_rfl⟩, rfl, rfl⟩
instance noi193 : NoI Tryz.prog 193 := ⟨by kernel_rfl⟩
instance ta194 : TyA Tryz.prog 194 false 1 (.one (.fnn)) 8 := ⟨⟨by kernel_rfl, by kernel_rfl⟩, rfl, rfl⟩
instance noi194 : NoI Tryz.prog 194 := ⟨by kernel_rfl⟩
instance ta195 : TyA Tryz.prog 195 false 1 (.one (.fnn)) 8 := ⟨⟨by kernel_rfl, by kernel_rfl⟩, rfl, rfl⟩
instance noi195 : NoI Tryz.prog 195 := ⟨by kernel_rfl⟩
instance ta196 : TyA Tryz.prog 196 false 1 (.one (.fnn)) 8 := ⟨⟨by kernel_rfl, by kernel_rfl⟩, rfl, rfl⟩
instance noi196 : NoI Tryz.prog 196 := ⟨by kernel_rfl⟩
instance ta197 : TyA Tryz.prog 197 false 1 (.one (.fnn)) 8 := ⟨⟨by kernel_rfl, by kernel_rfl⟩, rfl, rfl⟩
instance noi197 : NoI Tryz.prog 197 := ⟨by kernel_rfl⟩
instance ta198 : TyA Tryz.prog 198 false 1 (.one (.fnn)) 8 := ⟨⟨by kernel_rfl, by kernel_rfl⟩, rfl, rfl⟩
instance noi198 : NoI Tryz.prog 198 := ⟨by kernel_rfl⟩
instance ta199 : TyA Tryz.prog 199 false 1 (.one (.fnn)) 8 := ⟨⟨by kernel_rfl, by kernel_rfl⟩, rfl, rfl⟩
instance noi199 : NoI Tryz.prog 199 := ⟨by kernel_rfl⟩
instance ta200 : TyA Tryz.prog 200 false 1 (.one (.fnn)) 8 := ⟨⟨by kernel_rfl, by kernel_rfl⟩, rfl, rfl⟩
instance noi200 : NoI Tryz.prog 200 := ⟨by kernel_rfl⟩
instance ta201 : TyA Tryz.prog 201 false 1 (.one (.fnn)) 8 := ⟨⟨by kernel_rfl, by kernel_rfl⟩, rfl, rfl⟩
instance noi201 : NoI Tryz.prog 201 := ⟨by kernel_rfl⟩
instance ta202 : TyA Tryz.prog 202 false 1 (.one (.fnn)) 8 := ⟨⟨by kernel_rfl, by kernel_rfl⟩, rfl, rfl⟩
instance noi202 : NoI Tryz.prog 202 := ⟨by kernel_rfl⟩
instance ta203 : TyA Tryz.prog 203 false 1 (.one (.fnn)) 8 := ⟨⟨by kernel_rfl, by kernel_rfl⟩, rfl, rfl⟩
instance noi203 : NoI Tryz.prog 203 := ⟨by kernel_rfl⟩
instance ta204 : TyA Tryz.prog 204 false 1 (.one (.fnn)) 8 := ⟨⟨by kernel_rfl, by kernel_rfl⟩, rfl, rfl⟩
instance noi204 : NoI Tryz.prog 204 := ⟨by kernel_rfl⟩
instance ta205 : TyA Tryz.prog 205 false 1 (.one (.fnn)) 8 := ⟨⟨by kernel_rfl, by kernel_rfl⟩, rfl, rfl⟩
instance noi205 : NoI Tryz.prog 205 := ⟨by kernel_rfl⟩
instance ta206 : TyA Tryz.prog 206 false 1 (.one (.fnn)) 8 := ⟨⟨by kernel_rfl, by kernel_rfl⟩, rfl, rfl⟩
instance noi206 : NoI Tryz.prog 206 := ⟨by kernel_rfl⟩
instance ta207 : TyA Tryz.prog 207 false 1 (.one (.fnn)) 8 := ⟨⟨by kernel_rfl, by kernel_rfl⟩, rfl, rfl⟩
instance noi207 : NoI Tryz.prog 207 := ⟨by kernel_rfl⟩
instance ta208 : TyA Tryz.prog 208 false 1 (.one (.fnn)) 8 := ⟨⟨by kernel_rfl, by kernel_rfl⟩, rfl, rfl⟩
instance noi208 : NoI Tryz.prog 208 := ⟨by kernel_rfl⟩
instance ta209 : TyA Tryz.prog 209 false 1 (.one (.fnn)) 8 := ⟨⟨by kernel_rfl, by kernel_rfl⟩, rfl, rfl⟩
instance noi209 : NoI Tryz.prog 209 := ⟨by kernel_rfl⟩
instance ta210 : TyA Tryz.prog 210 false 1 (.one (.fnn)) 8 := ⟨⟨by kernel_rfl, by kernel_rfl⟩, rfl, rfl⟩
instance noi210 : NoI Tryz.prog 210 := ⟨by kernel_rfl⟩
instance ta211 : TyA Tryz.prog 211 false 1 (.one (.fnn)) 8 := ⟨⟨by kernel_rfl, by kernel_rfl⟩, rfl, rfl⟩
instance noi211 : NoI Tryz.prog 211 := ⟨by kernel_rfl⟩
instance ta212 : TyA Tryz.prog 212 false 1 (.one (.fnn)) 8 := ⟨⟨by kernel_rfl, by kernel_rfl⟩, rfl, rfl⟩
instance noi212 : NoI Tryz.prog 212 := ⟨by kernel_rfl⟩
instance ta213 : TyA Tryz.prog 213 false 1 (.one (.fnn)) 8 := ⟨⟨by kernel_rfl, by kernel_rfl⟩, rfl, rfl⟩
instance noi213 : NoI Tryz.prog 213 := ⟨by kernel_rfl⟩
instance ta214 : TyA Tryz.prog 214 false 1 (.one (.fnn)) 8 := ⟨⟨by kernel_rfl, by kernel_rfl⟩, rfl, rfl⟩
instance noi214 : NoI Tryz.prog 214 := ⟨by kernel_rfl⟩
instance ta215 : TyA Tryz.prog 215 false 1 (.one (.fnn)) 8 := ⟨⟨by kernel_rfl, by kernel_rfl⟩, rfl, rfl⟩
instance noi215 : NoI Tryz.prog 215 := ⟨by kernel_rfl⟩
instance ta216 : TyA Tryz.prog 216 false 1 (.one (.fnn)) 8 := ⟨⟨by kernel_rfl, by kernel_rfl⟩, rfl, rfl⟩
instance noi216 : NoI Tryz.prog 216 := ⟨by kernel_rfl⟩
instance ta217 : TyA Tryz.prog 217 false 1 (.one (.fnn)) 8 := ⟨⟨by kernel_rfl, by kernel_rfl⟩, rfl, rfl⟩
instance noi217 : NoI Tryz.prog 217 := ⟨by kernel_rfl⟩
instance ta218 : TyA Tryz.prog 218 false 1 (.one (.fnn)) 8 := ⟨⟨by kernel_rfl, by kernel_rfl⟩, rfl, rfl⟩
instance noi218 : NoI Tryz.prog 218 := ⟨by kernel_rfl⟩
instance ta219 : TyA Tryz.prog 219 false 1 (.one (.fnn)) 8 := ⟨⟨by kernel_rfl, by kernel_rfl⟩, rfl, rfl⟩
instance noi219 : NoI Tryz.prog 219 := ⟨by kernel_rfl⟩
instance ta220 : TyA Tryz.prog 220 false 1 (.one (.fnn)) 8 := ⟨⟨by kernel_rfl, by kernel_rfl⟩, rfl, rfl⟩
instance noi220 : NoI Tryz.prog 220 := ⟨by kernel_rfl⟩
instance ta221 : TyA Tryz.prog 221 false 1 (.one (.fnn)) 8 := ⟨⟨by kernel_rfl, by kernel_rfl⟩, rfl, rfl⟩
instance noi221 : NoI Tryz.prog 221 := ⟨by kernel_rfl⟩
instance ta222 : TyA Tryz.prog 222 false 1 (.one (.fnn)) 8 := ⟨⟨by kernel_rfl, by kernel_rfl⟩, rfl, rfl⟩
instance noi222 : NoI Tryz.prog 222 := ⟨by kernel_rfl⟩
instance ta223 : TyA Tryz.prog 223 false 1 (.one (.fnn)) 8 := ⟨⟨by kernel_rfl, by kernel_rfl⟩, rfl, rfl⟩
instance noi223 : NoI Tryz.prog 223 := ⟨by kernel_rfl⟩
instance ta224 : TyA Tryz.prog 224 false 1 (.one (.fnn)) 8 := ⟨⟨by kernel_rfl, by kernel_rfl⟩, rfl, rfl⟩
instance noi224 : NoI Tryz.prog 224 := ⟨by kernel_rfl⟩
instance ta225 : TyA Tryz.prog 225 false 1 (.one (.fnn)) 8 := ⟨⟨by kernel_rfl, by kernel_rfl⟩, rfl, rfl⟩
instance noi225 : NoI Tryz.prog 225 := ⟨by kernel_rfl⟩
instance ta226 : TyA Tryz.prog 226 false 1 (.one (.fnn)) 8 := ⟨⟨by kernel_rfl, by kernel_rfl⟩, rfl, rfl⟩
instance noi226 : NoI Tryz.prog 226 := ⟨by kernel_rfl⟩
instance ta227 : TyA Tryz.prog 227 false 1 (.one (.fnn)) 8 := ⟨⟨by kernel_rfl, by kernel_rfl⟩, rfl, rfl⟩
instance noi227 : NoI Tryz.prog 227 := ⟨by kernel_rfl⟩
instance ta228 : TyA Tryz.prog 228 false 1 (.one (.ifn)) 16 := ⟨⟨by kernel_rfl, by kernel_rfl⟩, rfl, rfl⟩
theorem ifc228 : isIfc (Tryz.prog.underlying 228) = true := by kernel_rfl
instance ta229 : TyA Tryz.prog 229 false 1 (.one (.ifn)) 16 := ⟨⟨by kernel_rfl, by kernel_rfl⟩, rfl, rfl⟩
theorem ifc229 : isIfc (Tryz.prog.underlying 229) = true := by kernel_rfl
instance ta230 : TyA Tryz.prog 230 true 0 (.agg []) 0 := ⟨⟨by kernel_rfl, by kernel_rfl⟩, rfl, rfl⟩
instance noi230 : NoI Tryz.prog 230 := ⟨by kernel_rfl⟩
instance pls230 : PLS Tryz.prog 230 [] := ⟨by kernel_rfl⟩
instance ta231 : TyA Tryz.prog 231 true 0 (.agg []) 0 := ⟨⟨by kernel_rfl, by kernel_rfl⟩, rfl, rfl⟩
instance noi231 : NoI Tryz.prog 231 := ⟨by kernel_rfl⟩
instance pls231 : PLS Tryz.prog 231 [] := ⟨by kernel_rfl⟩
instance ta233 : TyA Tryz.prog 233 false 1 (.one (.fnn)) 8 := ⟨⟨by kernel_rfl, by kernel_rfl⟩, rfl, rfl⟩
instance noi233 : NoI Tryz.prog 233 := ⟨by kernel_rfl⟩
instance ta234 : TyA Tryz.prog 234 false 1 (.one (.sl 0 none 0 0)) 24 := ⟨⟨by kernel_rfl, by kernel_rfl⟩, rfl, rfl⟩
instance noi234 : NoI Tryz.prog 234 := ⟨by kernel_rfl⟩
instance ud234 : UD Tryz.prog 234 (.slice 3) := ⟨by kernel_rfl⟩
instance ta235 : TyA Tryz.prog 235 false 1 (.one (.fnn)) 8 := ⟨⟨by kernel_rfl, by kernel_rfl⟩, rfl, rfl⟩
instance noi235 : NoI Tryz.prog 235 := ⟨by kernel_rfl⟩
instance ta236 : TyA Tryz.prog 236 false 1 (.one (.fnn)) 8 := ⟨⟨by kernel_rfl, by kernel_rfl⟩, rfl, rfl⟩
instance noi236 : NoI Tryz.prog 236 := ⟨by kernel_rfl⟩
instance ta237 : TyA Tryz.prog 237 false 1 (.one (.sl 0 none 0 0)) 24 := ⟨⟨by kernel_rfl, by kernel_rfl⟩, rfl, rfl⟩
instance noi237 : NoI Tryz.prog 237 := ⟨by kernel_rfl⟩
instance ud237 : UD Tryz.prog 237 (.slice 239) := ⟨by kernel_rfl⟩
instance ta238 : TyA Tryz.prog 238 true 7 (.agg [.one (.i .i64 0), .one (.i .i64 0), .one (.i .u64 0), .one (.s ⟨#[]⟩), .one (.i .i64 0), .one (.sl 0 none 0 0), .one (.sl 0 none 0 0)]) 96 := ⟨⟨by kernel_rfl, by kernel_rfl⟩, rfl, rfl⟩
instance noi238 : NoI Tryz.prog 238 := ⟨by kernel_rfl⟩
instance fa238_0 : FA Tryz.prog 238 0 0 := ⟨by kernel_rfl⟩
instance ft238_0 : FT Tryz.prog 238 0 76 0 := ⟨by kernel_rfl⟩
instance fa238_1 : FA Tryz.prog 238 1 5 := ⟨by kernel_rfl⟩
instance ft238_1 : FT Tryz.prog 238 1 237 5 := ⟨by kernel_rfl⟩
instance fa238_2 : FA Tryz.prog 238 2 6 := ⟨by kernel_rfl⟩
instance ft238_2 : FT Tryz.prog 238 2 37 6 := ⟨by kernel_rfl⟩
instance pls238 : PLS Tryz.prog 238 [.agg [.one (.i .i64 0), .one (.i .i64 0), .one (.i .u64 0), .one (.s ⟨#[]⟩), .one (.i .i64 0)], .one (.sl 0 none 0 0), .one (.sl 0 none 0 0)] := ⟨by kernel_rfl⟩
instance ta239 : TyA Tryz.prog 239 true 7 (.agg [.one (.i .i64 0), .one (.i .i64 0), .one (.i .u64 0), .one (.s ⟨#[]⟩), .one (.i .i64 0), .one (.sl 0 none 0 0), .one (.sl 0 none 0 0)]) 96 := ⟨⟨by kernel_rfl, by kernel_rfl⟩, rfl, rfl⟩
instance noi239 : NoI Tryz.prog 239 := ⟨by kernel_rfl⟩
instance fa239_0 : FA Tryz.prog 239 0 0 := ⟨by kernel_rfl⟩
instance ft239_0 : FT Tryz.prog 239 0 76 0 := ⟨by kernel_rfl⟩
instance fa239_1 : FA Tryz.prog 239 1 5 := ⟨by kernel_rfl⟩
instance ft239_1 : FT Tryz.prog 239 1 237 5 := ⟨by kernel_rfl⟩
instance fa239_2 : FA Tryz.prog 239 2 6 := ⟨by kernel_rfl⟩
instance ft239_2 : FT Tryz.prog 239 2 37 6 := ⟨by kernel_rfl⟩
instance pls239 : PLS Tryz.prog 239 [.agg [.one (.i .i64 0), .one (.i .i64 0), .one (.i .u64 0), .one (.s ⟨#[]⟩), .one (.i .i64 0)], .one (.sl 0 none 0 0), .one (.sl 0 none 0 0)] := ⟨by kernel_rfl⟩
instance ta241 : TyA Tryz.prog 241 false 1 (.one (.fnn)) 8 := ⟨⟨by kernel_rfl, by kernel_rfl⟩, rfl, rfl⟩
instance noi241 : NoI Tryz.prog 241 := ⟨by kernel_rfl⟩
instance ta242 : TyA Tryz.prog 242 false 1 (.one (.fnn)) 8 := ⟨⟨by kernel_rfl, by kernel_rfl⟩, rfl, rfl⟩
instance noi242 : NoI Tryz.prog 242 := ⟨by kernel_rfl⟩
instance ta243 : TyA Tryz.prog 243 false 1 (.one (.mn)) 8 := ⟨⟨by kernel_rfl, by kernel_rfl⟩, rfl, rfl⟩
instance noi243 : NoI Tryz.prog 243 := ⟨by kernel_rfl⟩
instance ud243 : UD Tryz.prog 243 (.map 71 267) := ⟨by kernel_rfl⟩
instance ta244 : TyA Tryz.prog 244 false 1 (.one (.fnn)) 8 := ⟨⟨by kernel_rfl, by kernel_rfl⟩, rfl, rfl⟩
instance noi244 : NoI Tryz.prog 244 := ⟨by kernel_rfl⟩
instance ta245 : TyA Tryz.prog 245 false 1 (.one (.fnn)) 8 := ⟨⟨by kernel_rfl, by kernel_rfl⟩, rfl, rfl⟩
instance noi245 : NoI Tryz.prog 245 := ⟨by kernel_rfl⟩
instance ta246 : TyA Tryz.prog 246 false 1 (.one (.fnn)) 8 := ⟨⟨by kernel_rfl, by kernel_rfl⟩, rfl, rfl⟩
instance noi246 : NoI Tryz.prog 246 := ⟨by kernel_rfl⟩
instance ta248 : TyA Tryz.prog 248 false 1 (.one (.fnn)) 8 := ⟨⟨by kernel_rfl, by kernel_rfl⟩, rfl, rfl⟩
instance noi248 : NoI Tryz.prog 248 := ⟨by kernel_rfl⟩
instance ta249 : TyA Tryz.prog 249 false 1 (.one (.fnn)) 8 := ⟨⟨by kernel_rfl, by kernel_rfl⟩, rfl, rfl⟩
instance noi249 : NoI Tryz.prog 249 := ⟨by kernel_rfl⟩
instance ta250 : TyA Tryz.prog 250 false 1 (.one (.fnn)) 8 := ⟨⟨by kernel_rfl, by kernel_rfl⟩, rfl, rfl⟩
instance noi250 : NoI Tryz.prog 250 := ⟨by kernel_rfl⟩
instance ta251 : TyA Tryz.prog 251 false 1 (.one (.fnn)) 8 := ⟨⟨by kernel_rfl, by kernel_rfl⟩, rfl, rfl⟩
instance noi251 : NoI Tryz.prog 251 := ⟨by kernel_rfl⟩
instance ta252 : TyA Tryz.prog 252 false 1 (.one (.fnn)) 8 := ⟨⟨by kernel_rfl, by kernel_rfl⟩, rfl, rfl⟩
instance noi252 : NoI Tryz.prog 252 := ⟨by kernel_rfl⟩
instance ta253 : TyA Tryz.prog 253 false 1 (.one (.fnn)) 8 := ⟨⟨by kernel_rfl, by kernel_rfl⟩, rfl, rfl⟩
instance noi253 : NoI Tryz.prog 253 := ⟨by kernel_rfl⟩
instance ta254 : TyA Tryz.prog 254 false 1 (.one (.fnn)) 8 := ⟨⟨by kernel_rfl, by kernel_rfl⟩, rfl, rfl⟩
instance noi254 : NoI Tryz.prog 254 := ⟨by kernel_rfl⟩
instance ta255 : TyA Tryz.prog 255 false 1 (.one (.sl 0 none 0 0)) 24 := ⟨⟨by kernel_rfl, by kernel_rfl⟩, rfl, rfl⟩
instance noi255 : NoI Tryz.prog 255 := ⟨by kernel_rfl⟩
instance ud255 : UD Tryz.prog 255 (.slice 4) := ⟨by kernel_rfl⟩
instance ta256 : TyA Tryz.prog 256 false 1 (.one (.fnn)) 8 := ⟨⟨by kernel_rfl, by kernel_rfl⟩, rfl, rfl⟩
instance noi256 : NoI Tryz.prog 256 := ⟨by kernel_rfl⟩
instance ta257 : TyA Tryz.prog 257 false 1 (.one (.fnn)) 8 := ⟨⟨by kernel_rfl, by kernel_rfl⟩, rfl, rfl⟩
instance noi257 : NoI Tryz.prog 257 := ⟨by kernel_rfl⟩
instance ta258 : TyA Tryz.prog 258 false 1 (.one (.pn)) 8 := ⟨⟨by kernel_rfl, by kernel_rfl⟩, rfl, rfl⟩
instance noi258 : NoI Tryz.prog 258 := ⟨by kernel_rfl⟩
instance ud258 : UD Tryz.prog 258 (.pointer 127) := ⟨by kernel_rfl⟩
instance ta259 : TyA Tryz.prog 259 true 0 (.agg []) 0 := ⟨⟨by kernel_rfl, by kernel_rfl⟩, rfl, rfl⟩
instance noi259 : NoI Tryz.prog 259 := ⟨by kernel_rfl⟩
instance pls259 : PLS Tryz.prog 259 [] := ⟨by kernel_rfl⟩
instance ta261 : TyA Tryz.prog 261 false 1 (.one (.fnn)) 8 := ⟨⟨by kernel_rfl, by kernel_rfl⟩, rfl, rfl⟩
instance noi261 : NoI Tryz.prog 261 := ⟨by kernel_rfl⟩
instance ta262 : TyA Tryz.prog 262 false 1 (.one (.mn)) 8 := ⟨⟨by kernel_rfl, by kernel_rfl⟩, rfl, rfl⟩
instance noi262 : NoI Tryz.prog 262 := ⟨by kernel_rfl⟩
instance ud262 : UD Tryz.prog 262 (.map 71 1) := ⟨by kernel_rfl⟩
instance ta263 : TyA Tryz.prog 263 true 0 (.agg []) 0 := ⟨⟨by kernel_rfl, by kernel_rfl⟩, rfl, rfl⟩
instance noi263 : NoI Tryz.prog 263 := ⟨by kernel_rfl⟩
instance pls263 : PLS Tryz.prog 263 [] := ⟨by kernel_rfl⟩
instance ta266 : TyA Tryz.prog 266 false 1 (.one (.fnn)) 8 := ⟨⟨by kernel_rfl, by kernel_rfl⟩, rfl, rfl⟩
instance noi266 : NoI Tryz.prog 266 := ⟨by kernel_rfl⟩
instance ta267 : TyA Tryz.prog 267 false 1 (.one (.fnn)) 8 := ⟨⟨by kernel_rfl, by kernel_rfl⟩, rfl, rfl⟩
instance noi267 : NoI Tryz.prog 267 := ⟨by kernel_rfl⟩
instance ta269 : TyA Tryz.prog 269 true 3 (.agg [.one (.i .i64 0), .one (.i .u64 0), .one (.s ⟨#[]⟩)]) 32 := ⟨⟨by kernel_rfl, by kernel_rfl⟩, rfl, rfl⟩
instance noi269 : NoI Tryz.prog 269 := ⟨by kernel_rfl⟩
instance fa269_0 : FA Tryz.prog 269 0 0 := ⟨by kernel_rfl⟩
instance ft269_0 : FT Tryz.prog 269 0 2 0 := ⟨by kernel_rfl⟩
instance fa269_1 : FA Tryz.prog 269 1 1 := ⟨by kernel_rfl⟩
instance ft269_1 : FT Tryz.prog 269 1 73 1 := ⟨by kernel_rfl⟩
instance fa269_2 : FA Tryz.prog 269 2 2 := ⟨by kernel_rfl⟩
instance ft269_2 : FT Tryz.prog 269 2 9 2 := ⟨by kernel_rfl⟩
instance pls269 : PLS Tryz.prog 269 [.one (.i .i64 0), .one (.i .u64 0), .one (.s ⟨#[]⟩)] := ⟨by kernel_rfl⟩
instance ta270 : TyA Tryz.prog 270 true 3 (.agg [.one (.i .i64 0), .one (.i .u64 0), .one (.s ⟨#[]⟩)]) 32 := ⟨⟨by kernel_rfl, by kernel_rfl⟩, rfl, rfl⟩
instance noi270 : NoI Tryz.prog 270 := ⟨by kernel_rfl⟩
instance fa270_0 : FA Tryz.prog 270 0 0 := ⟨by kernel_rfl⟩
instance ft270_0 : FT Tryz.prog 270 0 2 0 := ⟨by kernel_rfl⟩
instance fa270_1 : FA Tryz.prog 270 1 1 := ⟨by kernel_rfl⟩
instance ft270_1 : FT Tryz.prog 270 1 73 1 := ⟨by kernel_rfl⟩
instance fa270_2 : FA Tryz.prog 270 2 2 := ⟨by kernel_rfl⟩
instance ft270_2 : FT Tryz.prog 270 2 9 2 := ⟨by kernel_rfl⟩
instance pls270 : PLS Tryz.prog 270 [.one (.i .i64 0), .one (.i .u64 0), .one (.s ⟨#[]⟩)] := ⟨by kernel_rfl⟩
instance ta272 : TyA Tryz.prog 272 false 1 (.one (.fnn)) 8 := ⟨⟨by kernel_rfl, by kernel_rfl⟩, rfl, rfl⟩
instance noi272 : NoI Tryz.prog 272 := ⟨by kernel_rfl⟩
instance ta273 : TyA Tryz.prog 273 false 1 (.one (.fnn)) 8 := ⟨⟨by kernel_rfl, by kernel_rfl⟩, rfl, rfl⟩
instance noi273 : NoI Tryz.prog 273 := ⟨by kernel_rfl⟩
instance ta274 : TyA Tryz.prog 274 false 1 (.one (.fnn)) 8 := ⟨⟨by kernel_rfl, by kernel_rfl⟩, rfl, rfl⟩
instance noi274 : NoI Tryz.prog 274 := ⟨by kernel_rfl⟩
instance ta275 : TyA Tryz.prog 275 false 1 (.one (.fnn)) 8 := ⟨⟨by kernel_rfl, by kernel_rfl⟩, rfl, rfl⟩
instance noi275 : NoI Tryz.prog 275 := ⟨by kernel_rfl⟩
instance ta276 : TyA Tryz.prog 276 false 1 (.one (.fnn)) 8 := ⟨⟨by kernel_rfl, by kernel_rfl⟩, rfl, rfl⟩
instance noi276 : NoI Tryz.prog 276 := ⟨by kernel_rfl⟩
instance ta277 : TyA Tryz.prog 277 false 1 (.one (.fnn)) 8 := ⟨⟨by kernel_rfl, by kernel_rfl⟩, rfl, rfl⟩
instance noi277 : NoI Tryz.prog 277 := ⟨by kernel_rfl⟩
instance ta278 : TyA Tryz.prog 278 false 1 (.one (.fnn)) 8 := ⟨⟨by kernel_rfl, by kernel_rfl⟩, rfl, rfl⟩
instance noi278 : NoI Tryz.prog 278 := ⟨by kernel_rfl⟩
instance ta279 : TyA Tryz.prog 279 false 1 (.one (.fnn)) 8 := ⟨⟨by kernel_rfl, by kernel_rfl⟩, rfl, rfl⟩
instance noi279 : NoI Tryz.prog 279 := ⟨by kernel_rfl⟩
instance ta280 : TyA Tryz.prog 280 false 1 (.one (.fnn)) 8 := ⟨⟨by kernel_rfl, by kernel_rfl⟩, rfl, rfl⟩
instance noi280 : NoI Tryz.prog 280 := ⟨by kernel_rfl⟩
instance ta281 : TyA Tryz.prog 281 false 1 (.one (.fnn)) 8 := ⟨⟨by kernel_rfl, by kernel_rfl⟩, rfl, rfl⟩
instance noi281 : NoI Tryz.prog 281 := ⟨by kernel_rfl⟩
instance ta282 : TyA Tryz.prog 282 false 1 (.one (.fnn)) 8 := ⟨⟨by kernel_rfl, by kernel_rfl⟩, rfl, rfl⟩
instance noi282 : NoI Tryz.prog 282 := ⟨by kernel_rfl⟩
instance ta283 : TyA Tryz.prog 283 false 1 (.one (.fnn)) 8 := ⟨⟨by kernel_rfl, by kernel_rfl⟩, rfl, rfl⟩
instance noi283 : NoI Tryz.prog 283 := ⟨by kernel_rfl⟩
instance ta284 : TyA Tryz.prog 284 false 1 (.one (.fnn)) 8 := ⟨⟨by kernel_rfl, by kernel_rfl⟩, rfl, rfl⟩
instance noi284 : NoI Tryz.prog 284 := ⟨by kernel_rfl⟩
instance ta285 : TyA Tryz.prog 285 false 1 (.one (.fnn)) 8 := ⟨⟨by kernel_rfl, by kernel_rfl⟩, rfl, rfl⟩
instance noi285 : NoI Tryz.prog 285 := ⟨by kernel_rfl⟩
instance ta286 : TyA Tryz.prog 286 false 1 (.one (.fnn)) 8 := ⟨⟨by kernel_rfl, by kernel_rfl⟩, rfl, rfl⟩
instance noi286 : NoI Tryz.prog 286 := ⟨by kernel_rfl⟩
instance ta287 : TyA Tryz.prog 287 false 1 (.one (.fnn)) 8 := ⟨⟨by kernel_rfl, by kernel_rfl⟩, rfl, rfl⟩
instance noi287 : NoI Tryz.prog 287 := ⟨by kernel_rfl⟩
instance ta288 : TyA Tryz.prog 288 false 1 (.one (.fnn)) 8 := ⟨⟨by kernel_rfl, by kernel_rfl⟩, rfl, rfl⟩
instance noi288 : NoI Tryz.prog 288 := ⟨by kernel_rfl⟩
instance noi289 : NoI Tryz.prog 289 := ⟨by kernel_rfl⟩
instance ta290 : TyA Tryz.prog 290 false 1 (.one (.fnn)) 8 := ⟨⟨by kernel_rfl, by kernel_rfl⟩, rfl, rfl⟩
instance noi290 : NoI Tryz.prog 290 := ⟨by kernel_rfl⟩
instance ta291 : TyA Tryz.prog 291 false 1 (.one (.fnn)) 8 := ⟨⟨by kernel_rfl, by kernel_rfl⟩, rfl, rfl⟩
instance noi291 : NoI Tryz.prog 291 := ⟨by kernel_rfl⟩
instance ta292 : TyA Tryz.prog 292 false 1 (.one (.fnn)) 8 := ⟨⟨by kernel_rfl, by kernel_rfl⟩, rfl, rfl⟩
instance noi292 : NoI Tryz.prog 292 := ⟨by kernel_rfl⟩
instance ta293 : TyA Tryz.prog 293 false 1 (.one (.fnn)) 8 := ⟨⟨by kernel_rfl, by kernel_rfl⟩, rfl, rfl⟩
instance noi293 : NoI Tryz.prog 293 := ⟨by kernel_rfl⟩
instance ta294 : TyA Tryz.prog 294 false 1 (.one (.fnn)) 8 := ⟨⟨by kernel_rfl, by kernel_rfl⟩, rfl, rfl⟩
instance noi294 : NoI Tryz.prog 294 := ⟨by kernel_rfl⟩
instance ta295 : TyA Tryz.prog 295 false 1 (.one (.fnn)) 8 := ⟨⟨by kernel_rfl, by kernel_rfl⟩, rfl, rfl⟩
instance noi295 : NoI Tryz.prog 295 := ⟨by kernel_rfl⟩
instance ta296 : TyA Tryz.prog 296 false 1 (.one (.fnn)) 8 := ⟨⟨by kernel_rfl, by kernel_rfl⟩, rfl, rfl⟩
instance noi296 : NoI Tryz.prog 296 := ⟨by kernel_rfl⟩
instance ta297 : TyA Tryz.prog 297 true 4 (.agg [.one (.pn), .one (.pn), .one (.pn), .one (.s ⟨#[]⟩)]) 40 := ⟨⟨by kernel_rfl, by kernel_rfl⟩, rfl, rfl⟩
instance noi297 : NoI Tryz.prog 297 := ⟨by kernel_rfl⟩
instance fa297_0 : FA Tryz.prog 297 0 0 := ⟨by kernel_rfl⟩
instance ft297_0 : FT Tryz.prog 297 0 17 0 := ⟨by kernel_rfl⟩
instance fa297_1 : FA Tryz.prog 297 1 1 := ⟨by kernel_rfl⟩
instance ft297_1 : FT Tryz.prog 297 1 17 1 := ⟨by kernel_rfl⟩
instance fa297_2 : FA Tryz.prog 297 2 2 := ⟨by kernel_rfl⟩
instance ft297_2 : FT Tryz.prog 297 2 17 2 := ⟨by kernel_rfl⟩
instance fa297_3 : FA Tryz.prog 297 3 3 := ⟨by kernel_rfl⟩
instance ft297_3 : FT Tryz.prog 297 3 9 3 := ⟨by kernel_rfl⟩
instance pls297 : PLS Tryz.prog 297 [.one (.pn), .one (.pn), .one (.pn), .one (.s ⟨#[]⟩)] := ⟨by kernel_rfl⟩
instance ta298 : TyA Tryz.prog 298 true 4 (.agg [.one (.pn), .one (.pn), .one (.pn), .one (.s ⟨#[]⟩)]) 40 := ⟨⟨by kernel_rfl, by kernel_rfl⟩, rfl, rfl⟩
instance noi298 : NoI Tryz.prog 298 := ⟨by kernel_rfl⟩
instance fa298_0 : FA Tryz.prog 298 0 0 := ⟨by kernel_rfl⟩
instance ft298_0 : FT Tryz.prog 298 0 17 0 := ⟨by kernel_rfl⟩
instance fa298_1 : FA Tryz.prog 298 1 1 := ⟨by kernel_rfl⟩
instance ft298_1 : FT Tryz.prog 298 1 17 1 := ⟨by kernel_rfl⟩
instance fa298_2 : FA Tryz.prog 298 2 2 := ⟨by kernel_rfl⟩
instance ft298_2 : FT Tryz.prog 298 2 17 2 := ⟨by kernel_rfl⟩
instance fa298_3 : FA Tryz.prog 298 3 3 := ⟨by kernel_rfl⟩
instance ft298_3 : FT Tryz.prog 298 3 9 3 := ⟨by kernel_rfl⟩
instance pls298 : PLS Tryz.prog 298 [.one (.pn), .one (.pn), .one (.pn), .one (.s ⟨#[]⟩)] := ⟨by kernel_rfl⟩
instance noi299 : NoI Tryz.prog 299 := ⟨by kernel_rfl⟩
instance ud299 : UD Tryz.prog 299 (.array 0 16) := ⟨by kernel_rfl⟩
instance ta300 : TyA Tryz.prog 300 true 0 (.agg []) 0 := ⟨⟨by kernel_rfl, by kernel_rfl⟩, rfl, rfl⟩
instance noi300 : NoI Tryz.prog 300 := ⟨by kernel_rfl⟩
instance pls300 : PLS Tryz.prog 300 [.agg []] := ⟨by kernel_rfl⟩
instance ta301 : TyA Tryz.prog 301 true 0 (.agg []) 0 := ⟨⟨by kernel_rfl, by kernel_rfl⟩, rfl, rfl⟩
instance noi301 : NoI Tryz.prog 301 := ⟨by kernel_rfl⟩
instance pls301 : PLS Tryz.prog 301 [.agg []] := ⟨by kernel_rfl⟩
instance ta302 : TyA Tryz.prog 302 false 1 (.one (.i .u32 0)) 4 := ⟨⟨by kernel_rfl, by kernel_rfl⟩, rfl, rfl⟩
instance noi302 : NoI Tryz.prog 302 := ⟨by kernel_rfl⟩
instance ud302 : UD Tryz.prog 302 (.int .u32) := ⟨by kernel_rfl⟩
instance ta303 : TyA Tryz.prog 303 false 1 (.one (.i .u8 0)) 1 := ⟨⟨by kernel_rfl, by kernel_rfl⟩, rfl, rfl⟩
instance noi303 : NoI Tryz.prog 303 := ⟨by kernel_rfl⟩
instance ud303 : UD Tryz.prog 303 (.int .u8) := ⟨by kernel_rfl⟩
instance ta304 : TyA Tryz.prog 304 false 1 (.one (.i .u8 0)) 1 := ⟨⟨by kernel_rfl, by kernel_rfl⟩, rfl, rfl⟩
instance noi304 : NoI Tryz.prog 304 := ⟨by kernel_rfl⟩
instance ud304 : UD Tryz.prog 304 (.int .u8) := ⟨by kernel_rfl⟩
instance ta305 : TyA Tryz.prog 305 false 1 (.one (.fnn)) 8 := ⟨⟨by kernel_rfl, by kernel_rfl⟩, rfl, rfl⟩
instance noi305 : NoI Tryz.prog 305 := ⟨by kernel_rfl⟩
instance ta306 : TyA Tryz.prog 306 false 1 (.one (.pn)) 8 := ⟨⟨by kernel_rfl, by kernel_rfl⟩, rfl, rfl⟩
instance noi306 : NoI Tryz.prog 306 := ⟨by kernel_rfl⟩
instance ud306 : UD Tryz.prog 306 (.pointer 5) := ⟨by kernel_rfl⟩
instance ta307 : TyA Tryz.prog 307 false 1 (.one (.i .i32 0)) 4 := ⟨⟨by kernel_rfl, by kernel_rfl⟩, rfl, rfl⟩
instance noi307 : NoI Tryz.prog 307 := ⟨by kernel_rfl⟩
instance ud307 : UD Tryz.prog 307 (.int .i32) := ⟨by kernel_rfl⟩
instance ta308 : TyA Tryz.prog 308 false 1 (.one (.i .i32 0)) 4 := ⟨⟨by kernel_rfl, by kernel_rfl⟩, rfl, rfl⟩
instance noi308 : NoI Tryz.prog 308 := ⟨by kernel_rfl⟩
instance ud308 : UD Tryz.prog 308 (.int .i32) := ⟨by kernel_rfl⟩
instance ta309 : TyA Tryz.prog 309 true 11 (.agg [.one (.i .u64 0), .one (.i .u64 0), .one (.i .u32 0), .one (.i .u8 0), .one (.i .u8 0), .one (.i .u8 0), .one (.i .u8 0), .one (.fnn), .one (.pn), .one (.i .i32 0), .one (.i .i32 0)]) 48 := ⟨⟨by kernel_rfl, by kernel_rfl⟩, rfl, rfl⟩
instance noi309 : NoI Tryz.prog 309 := ⟨by kernel_rfl⟩
instance fa309_0 : FA Tryz.prog 309 0 0 := ⟨by kernel_rfl⟩
instance ft309_0 : FT Tryz.prog 309 0 12 0 := ⟨by kernel_rfl⟩
instance fa309_1 : FA Tryz.prog 309 1 1 := ⟨by kernel_rfl⟩
instance ft309_1 : FT Tryz.prog 309 1 12 1 := ⟨by kernel_rfl⟩
instance fa309_2 : FA Tryz.prog 309 2 2 := ⟨by kernel_rfl⟩
instance ft309_2 : FT Tryz.prog 309 2 302 2 := ⟨by kernel_rfl⟩
instance fa309_3 : FA Tryz.prog 309 3 3 := ⟨by kernel_rfl⟩
instance ft309_3 : FT Tryz.prog 309 3 303 3 := ⟨by kernel_rfl⟩
instance fa309_4 : FA Tryz.prog 309 4 4 := ⟨by kernel_rfl⟩
instance ft309_4 : FT Tryz.prog 309 4 5 4 := ⟨by kernel_rfl⟩
instance fa309_5 : FA Tryz.prog 309 5 5 := ⟨by kernel_rfl⟩
instance ft309_5 : FT Tryz.prog 309 5 5 5 := ⟨by kernel_rfl⟩
instance fa309_6 : FA Tryz.prog 309 6 6 := ⟨by kernel_rfl⟩
instance ft309_6 : FT Tryz.prog 309 6 304 6 := ⟨by kernel_rfl⟩
instance fa309_7 : FA Tryz.prog 309 7 7 := ⟨by kernel_rfl⟩
instance ft309_7 : FT Tryz.prog 309 7 305 7 := ⟨by kernel_rfl⟩
instance fa309_8 : FA Tryz.prog 309 8 8 := ⟨by kernel_rfl⟩
instance ft309_8 : FT Tryz.prog 309 8 306 8 := ⟨by kernel_rfl⟩
instance fa309_9 : FA Tryz.prog 309 9 9 := ⟨by kernel_rfl⟩
instance ft309_9 : FT Tryz.prog 309 9 307 9 := ⟨by kernel_rfl⟩
instance fa309_10 : FA Tryz.prog 309 10 10 := ⟨by kernel_rfl⟩
instance ft309_10 : FT Tryz.prog 309 10 308 10 := ⟨by kernel_rfl⟩
instance pls309 : PLS Tryz.prog 309 [.one (.i .u64 0), .one (.i .u64 0), .one (.i .u32 0), .one (.i .u8 0), .one (.i .u8 0), .one (.i .u8 0), .one (.i .u8 0), .one (.fnn), .one (.pn), .one (.i .i32 0), .one (.i .i32 0)] := ⟨by kernel_rfl⟩
instance ta310 : TyA Tryz.prog 310 true 11 (.agg [.one (.i .u64 0), .one (.i .u64 0), .one (.i .u32 0), .one (.i .u8 0), .one (.i .u8 0), .one (.i .u8 0), .one (.i .u8 0), .one (.fnn), .one (.pn), .one (.i .i32 0), .one (.i .i32 0)]) 48 := ⟨⟨by kernel_rfl, by kernel_rfl⟩, rfl, rfl⟩
instance noi310 : NoI Tryz.prog 310 := ⟨by kernel_rfl⟩
instance fa310_0 : FA Tryz.prog 310 0 0 := ⟨by kernel_rfl⟩
instance ft310_0 : FT Tryz.prog 310 0 12 0 := ⟨by kernel_rfl⟩
instance fa310_1 : FA Tryz.prog 310 1 1 := ⟨by kernel_rfl⟩
instance ft310_1 : FT Tryz.prog 310 1 12 1 := ⟨by kernel_rfl⟩
instance fa310_2 : FA Tryz.prog 310 2 2 := ⟨by kernel_rfl⟩
instance ft310_2 : FT Tryz.prog 310 2 302 2 := ⟨by kernel_rfl⟩
instance fa310_3 : FA Tryz.prog 310 3 3 := ⟨by kernel_rfl⟩
instance ft310_3 : FT Tryz.prog 310 3 303 3 := ⟨by kernel_rfl⟩
instance fa310_4 : FA Tryz.prog 310 4 4 := ⟨by kernel_rfl⟩
instance ft310_4 : FT Tryz.prog 310 4 5 4 := ⟨by kernel_rfl⟩
instance fa310_5 : FA Tryz.prog 310 5 5 := ⟨by kernel_rfl⟩
instance ft310_5 : FT Tryz.prog 310 5 5 5 := ⟨by kernel_rfl⟩
instance fa310_6 : FA Tryz.prog 310 6 6 := ⟨by kernel_rfl⟩
instance ft310_6 : FT Tryz.prog 310 6 304 6 := ⟨by kernel_rfl⟩
instance fa310_7 : FA Tryz.prog 310 7 7 := ⟨by kernel_rfl⟩
instance ft310_7 : FT Tryz.prog 310 7 305 7 := ⟨by kernel_rfl⟩
instance fa310_8 : FA Tryz.prog 310 8 8 := ⟨by kernel_rfl⟩
instance ft310_8 : FT Tryz.prog 310 8 306 8 := ⟨by kernel_rfl⟩
instance fa310_9 : FA Tryz.prog 310 9 9 := ⟨by kernel_rfl⟩
instance ft310_9 : FT Tryz.prog 310 9 307 9 := ⟨by kernel_rfl⟩
instance fa310_10 : FA Tryz.prog 310 10 10 := ⟨by kernel_rfl⟩
instance ft310_10 : FT Tryz.prog 310 10 308 10 := ⟨by kernel_rfl⟩
instance pls310 : PLS Tryz.prog 310 [.one (.i .u64 0), .one (.i .u64 0), .one (.i .u32 0), .one (.i .u8 0), .one (.i .u8 0), .one (.i .u8 0), .one (.i .u8 0), .one (.fnn), .one (.pn), .one (.i .i32 0), .one (.i .i32 0)] := ⟨by kernel_rfl⟩
def tdV : Bt TD := (.n (.n (.n (.n (.n (.n (.n .l 2 (.int .i64) .l) 3 (.int .i64) (.n .l 4 (.bool) .l)) 5 (.int .u8) (.n (.n .l 6 (.int .u8) .l) 7 (.st [(2, 0), (3, 1), (4, 2), (6, 3)] [.one (.i .i64 0), .one (.i .i64 0), .one (.b false), .one (.i .u8 0)]) .l)) 8 (.st [(2, 0), (3, 1), (4, 2), (6, 3)] [.one (.i .i64 0), .one (.i .i64 0), .one (.b false), .one (.i .u8 0)]) (.n (.n (.n .l 9 (.str) .l) 10 (.str) .l) 11 (.str) (.n (.n .l 12 (.int .u64) .l) 13 (.st [(9, 0), (12, 1)] [.one (.s ⟨#[]⟩), .one (.i .u64 0)]) .l))) 14 (.st [(9, 0), (12, 1)] [.one (.s ⟨#[]⟩), .one (.i .u64 0)]) (.n (.n (.n (.n .l 15 (.ptr 298) .l) 16 (.ptr 301) (.n .l 17 (.ptr 310) .l)) 18 (.st [(17, 0)] [.one (.pn)]) (.n (.n .l 19 (.st [(17, 0)] [.one (.pn)]) .l) 20 (.ifc) .l)) 21 (.int .i32) (.n (.n (.n .l 22 (.hash 5) .l) 23 (.hash 5) .l) 24 (.st [(23, 0), (3, 32)] [.agg [.hash hz], .one (.i .i64 0)]) (.n (.n .l 25 (.st [(23, 0), (3, 32)] [.agg [.hash hz], .one (.i .i64 0)]) .l) 26 (.slice 43) .l)))) 31 (.st [(4, 0), (23, 1)] [.one (.b false), .agg [.hash hz]]) (.n (.n (.n (.n (.n .l 32 (.st [(4, 0), (23, 1)] [.one (.b false), .agg [.hash hz]]) .l) 33 (.slice 148) (.n .l 34 (.st [(2, 0), (33, 1)] [.one (.i .i64 0), .one (.sl 0 none 0 0)]) .l)) 35 (.st [(2, 0), (33, 1)] [.one (.i .i64 0), .one (.sl 0 none 0 0)]) (.n (.n .l 36 (.int .i64) .l) 37 (.slice 76) .l)) 38 (.st [(37, 0)] [.one (.sl 0 none 0 0)]) (.n (.n (.n .l 39 (.st [(37, 0)] [.one (.sl 0 none 0 0)]) .l) 40 (.st [(32, 0), (35, 33), (36, 35), (23, 36), (39, 68)] [.agg [.one (.b false), .hash hz], .agg [.one (.i .i64 0), .one (.sl 0 none 0 0)], .one (.i .i64 0), .agg [.hash hz], .agg [.one (.sl 0 none 0 0)]]) .l) 41 (.st [(32, 0), (35, 33), (36, 35), (23, 36), (39, 68)] [.agg [.one (.b false), .hash hz], .agg [.one (.i .i64 0), .one (.sl 0 none 0 0)], .one (.i .i64 0), .agg [.hash hz], .agg [.one (.sl 0 none 0 0)]]) (.n (.n .l 42 (.st [(25, 0), (41, 33)] [.agg [.hash hz, .one (.i .i64 0)], .agg [.one (.b false), .hash hz, .one (.i .i64 0), .one (.sl 0 none 0 0), .one (.i .i64 0), .hash hz, .one (.sl 0 none 0 0)]]) .l) 43 (.st [(25, 0), (41, 33)] [.agg [.hash hz, .one (.i .i64 0)], .agg [.one (.b false), .hash hz, .one (.i .i64 0), .one (.sl 0 none 0 0), .one (.i .i64 0), .hash hz, .one (.sl 0 none 0 0)]]) .l))) 45 (.slice 152) (.n (.n (.n (.n .l 46 (.st [(26, 0), (26, 1), (2, 2), (2, 3), (45, 4)] [.one (.sl 0 none 0 0), .one (.sl 0 none 0 0), .one (.i .i64 0), .one (.i .i64 0), .one (.sl 0 none 0 0)]) .l) 47 (.st [(26, 0), (26, 1), (2, 2), (2, 3), (45, 4)] [.one (.sl 0 none 0 0), .one (.sl 0 none 0 0), .one (.i .i64 0), .one (.i .i64 0), .one (.sl 0 none 0 0)]) (.n .l 48 (.st [(39, 0), (33, 1), (35, 2), (45, 4), (41, 5), (25, 74), (26, 107), (47, 108)] [.agg [.one (.sl 0 none 0 0)], .one (.sl 0 none 0 0), .agg [.one (.i .i64 0), .one (.sl 0 none 0 0)], .one (.sl 0 none 0 0), .agg [.one (.b false), .hash hz, .one (.i .i64 0), .one (.sl 0 none 0 0), .one (.i .i64 0), .hash hz, .one (.sl 0 none 0 0)], .agg [.hash hz, .one (.i .i64 0)], .one (.sl 0 none 0 0), .agg [.one (.sl 0 none 0 0), .one (.sl 0 none 0 0), .one (.i .i64 0), .one (.i .i64 0), .one (.sl 0 none 0 0)]]) .l)) 49 (.st [(39, 0), (33, 1), (35, 2), (45, 4), (41, 5), (25, 74), (26, 107), (47, 108)] [.agg [.one (.sl 0 none 0 0)], .one (.sl 0 none 0 0), .agg [.one (.i .i64 0), .one (.sl 0 none 0 0)], .one (.sl 0 none 0 0), .agg [.one (.b false), .hash hz, .one (.i .i64 0), .one (.sl 0 none 0 0), .one (.i .i64 0), .hash hz, .one (.sl 0 none 0 0)], .agg [.hash hz, .one (.i .i64 0)], .one (.sl 0 none 0 0), .agg [.one (.sl 0 none 0 0), .one (.sl 0 none 0 0), .one (.i .i64 0), .one (.i .i64 0), .one (.sl 0 none 0 0)]]) (.n (.n .l 58 (.slice 5) .l) 60 (.ptr 130) .l)) 62 (.ptr 64) (.n (.n (.n .l 63 (.st [(58, 0), (4, 1)] [.one (.sl 0 none 0 0), .one (.b false)]) .l) 64 (.st [(58, 0), (4, 1)] [.one (.sl 0 none 0 0), .one (.b false)]) .l) 68 (.int .i64) (.n (.n .l 71 (.int .i64) .l) 72 (.slice 71) .l))))) 73 (.int .u64) (.n (.n (.n (.n (.n (.n .l 74 (.int .u64) .l) 75 (.st [(71, 0), (2, 1), (73, 2), (9, 3), (3, 4)] [.one (.i .i64 0), .one (.i .i64 0), .one (.i .u64 0), .one (.s ⟨#[]⟩), .one (.i .i64 0)]) (.n .l 76 (.st [(71, 0), (2, 1), (73, 2), (9, 3), (3, 4)] [.one (.i .i64 0), .one (.i .i64 0), .one (.i .u64 0), .one (.s ⟨#[]⟩), .one (.i .i64 0)]) .l)) 79 (.ptr 80) (.n (.n .l 80 (.st [(58, 0), (4, 1)] [.one (.sl 0 none 0 0), .one (.b false)]) .l) 84 (.ptr 160) .l)) 110 (.map 36 27) (.n (.n (.n .l 126 (.st [(4, 0), (4, 1)] [.one (.b false), .one (.b false)]) .l) 127 (.st [(4, 0), (4, 1)] [.one (.b false), .one (.b false)]) .l) 129 (.st [(127, 0), (58, 2)] [.agg [.one (.b false), .one (.b false)], .one (.sl 0 none 0 0)]) (.n (.n .l 130 (.st [(127, 0), (58, 2)] [.agg [.one (.b false), .one (.b false)], .one (.sl 0 none 0 0)]) .l) 147 (.st [(23, 0), (9, 32), (2, 33)] [.agg [.hash hz], .one (.s ⟨#[]⟩), .one (.i .i64 0)]) .l))) 148 (.st [(23, 0), (9, 32), (2, 33)] [.agg [.hash hz], .one (.s ⟨#[]⟩), .one (.i .i64 0)]) (.n (.n (.n (.n .l 149 (.st [(2, 0), (73, 1)] [.one (.i .i64 0), .one (.i .u64 0)]) .l) 150 (.st [(2, 0), (73, 1)] [.one (.i .i64 0), .one (.i .u64 0)]) (.n .l 151 (.st [(23, 0), (9, 32), (150, 33)] [.agg [.hash hz], .one (.s ⟨#[]⟩), .agg [.one (.i .i64 0), .one (.i .u64 0)]]) .l)) 152 (.st [(23, 0), (9, 32), (150, 33)] [.agg [.hash hz], .one (.s ⟨#[]⟩), .agg [.one (.i .i64 0), .one (.i .u64 0)]]) (.n (.n .l 160 (.st [(127, 0), (58, 2)] [.agg [.one (.b false), .one (.b false)], .one (.sl 0 none 0 0)]) .l) 168 (.st [(84, 0)] [.one (.pn)]) .l)) 169 (.st [(84, 0)] [.one (.pn)]) (.n (.n (.n .l 173 (.st [(60, 0)] [.one (.pn)]) .l) 174 (.st [(60, 0)] [.one (.pn)]) .l) 186 (.st [(23, 0), (9, 32)] [.agg [.hash hz], .one (.s ⟨#[]⟩)]) (.n (.n .l 187 (.st [(23, 0), (9, 32)] [.agg [.hash hz], .one (.s ⟨#[]⟩)]) .l) 228 (.ifc) .l)))) 229 (.ifc) (.n (.n (.n (.n (.n .l 230 (.st [] []) .l) 231 (.st [] []) (.n .l 234 (.slice 3) .l)) 237 (.slice 239) (.n (.n .l 238 (.st [(76, 0), (237, 5), (37, 6)] [.agg [.one (.i .i64 0), .one (.i .i64 0), .one (.i .u64 0), .one (.s ⟨#[]⟩), .one (.i .i64 0)], .one (.sl 0 none 0 0), .one (.sl 0 none 0 0)]) .l) 239 (.st [(76, 0), (237, 5), (37, 6)] [.agg [.one (.i .i64 0), .one (.i .i64 0), .one (.i .u64 0), .one (.s ⟨#[]⟩), .one (.i .i64 0)], .one (.sl 0 none 0 0), .one (.sl 0 none 0 0)]) .l)) 243 (.map 71 267) (.n (.n (.n .l 255 (.slice 4) .l) 258 (.ptr 127) .l) 259 (.st [] []) (.n (.n .l 262 (.map 71 1) .l) 263 (.st [] []) .l))) 269 (.st [(2, 0), (73, 1), (9, 2)] [.one (.i .i64 0), .one (.i .u64 0), .one (.s ⟨#[]⟩)]) (.n (.n (.n (.n .l 270 (.st [(2, 0), (73, 1), (9, 2)] [.one (.i .i64 0), .one (.i .u64 0), .one (.s ⟨#[]⟩)]) .l) 297 (.st [(17, 0), (17, 1), (17, 2), (9, 3)] [.one (.pn), .one (.pn), .one (.pn), .one (.s ⟨#[]⟩)]) (.n .l 298 (.st [(17, 0), (17, 1), (17, 2), (9, 3)] [.one (.pn), .one (.pn), .one (.pn), .one (.s ⟨#[]⟩)]) .l)) 299 (.arr 0 16) (.n (.n .l 302 (.int .u32) .l) 303 (.int .u8) .l)) 304 (.int .u8) (.n (.n (.n .l 306 (.ptr 5) .l) 307 (.int .i32) .l) 308 (.int .i32) (.n (.n .l 309 (.st [(12, 0), (12, 1), (302, 2), (303, 3), (5, 4), (5, 5), (304, 6), (305, 7), (306, 8), (307, 9), (308, 10)] [.one (.i .u64 0), .one (.i .u64 0), .one (.i .u32 0), .one (.i .u8 0), .one (.i .u8 0), .one (.i .u8 0), .one (.i .u8 0), .one (.fnn), .one (.pn), .one (.i .i32 0), .one (.i .i32 0)]) .l) 310 (.st [(12, 0), (12, 1), (302, 2), (303, 3), (5, 4), (5, 5), (304, 6), (305, 7), (306, 8), (307, 9), (308, 10)] [.one (.i .u64 0), .one (.i .u64 0), .one (.i .u32 0), .one (.i .u8 0), .one (.i .u8 0), .one (.i .u8 0), .one (.i .u8 0), .one (.fnn), .one (.pn), .one (.i .i32 0), .one (.i .i32 0)]) .l))))))
def taV : Bt TA := (.n (.n (.n (.n (.n (.n (.n (.n (.n .l 1 (⟨false, 1, .one (.fnn), 8⟩) .l) 2 (⟨false, 1, .one (.i .i64 0), 8⟩) .l) 3 (⟨false, 1, .one (.i .i64 0), 8⟩) (.n .l 4 (⟨false, 1, .one (.b false), 1⟩) .l)) 5 (⟨false, 1, .one (.i .u8 0), 1⟩) (.n (.n (.n .l 6 (⟨false, 1, .one (.i .u8 0), 1⟩) .l) 7 (⟨true, 4, .agg [.one (.i .i64 0), .one (.i .i64 0), .one (.b false), .one (.i .u8 0)], 24⟩) .l) 8 (⟨true, 4, .agg [.one (.i .i64 0), .one (.i .i64 0), .one (.b false), .one (.i .u8 0)], 24⟩) (.n .l 9 (⟨false, 1, .one (.s ⟨#[]⟩), 16⟩) .l))) 10 (⟨false, 1, .one (.s ⟨#[]⟩), 16⟩) (.n (.n (.n (.n .l 11 (⟨false, 1, .one (.s ⟨#[]⟩), 16⟩) .l) 12 (⟨false, 1, .one (.i .u64 0), 8⟩) .l) 13 (⟨true, 2, .agg [.one (.s ⟨#[]⟩), .one (.i .u64 0)], 24⟩) (.n .l 14 (⟨true, 2, .agg [.one (.s ⟨#[]⟩), .one (.i .u64 0)], 24⟩) .l)) 15 (⟨false, 1, .one (.pn), 8⟩) (.n (.n .l 16 (⟨false, 1, .one (.pn), 8⟩) .l) 17 (⟨false, 1, .one (.pn), 8⟩) (.n .l 18 (⟨true, 1, .agg [.one (.pn)], 8⟩) .l)))) 19 (⟨true, 1, .agg [.one (.pn)], 8⟩) (.n (.n (.n (.n (.n .l 20 (⟨false, 1, .one (.ifn), 16⟩) .l) 21 (⟨false, 1, .one (.i .i32 0), 4⟩) .l) 22 (⟨true, 32, .agg [.hash hz], 32⟩) (.n .l 23 (⟨true, 32, .agg [.hash hz], 32⟩) .l)) 24 (⟨true, 33, .agg [.hash hz, .one (.i .i64 0)], 40⟩) (.n (.n (.n .l 25 (⟨true, 33, .agg [.hash hz, .one (.i .i64 0)], 40⟩) .l) 26 (⟨false, 1, .one (.sl 0 none 0 0), 24⟩) .l) 27 (⟨false, 1, .one (.fnn), 8⟩) (.n .l 28 (⟨false, 1, .one (.fnn), 8⟩) .l))) 29 (⟨false, 1, .one (.fnn), 8⟩) (.n (.n (.n (.n .l 30 (⟨false, 1, .one (.fnn), 8⟩) .l) 31 (⟨true, 33, .agg [.one (.b false), .hash hz], 33⟩) .l) 32 (⟨true, 33, .agg [.one (.b false), .hash hz], 33⟩) (.n .l 33 (⟨false, 1, .one (.sl 0 none 0 0), 24⟩) .l)) 34 (⟨true, 2, .agg [.one (.i .i64 0), .one (.sl 0 none 0 0)], 32⟩) (.n (.n .l 35 (⟨true, 2, .agg [.one (.i .i64 0), .one (.sl 0 none 0 0)], 32⟩) .l) 36 (⟨false, 1, .one (.i .i64 0), 8⟩) (.n .l 37 (⟨false, 1, .one (.sl 0 none 0 0), 24⟩) .l))))) 38 (⟨true, 1, .agg [.one (.sl 0 none 0 0)], 24⟩) (.n (.n (.n (.n (.n (.n .l 39 (⟨true, 1, .agg [.one (.sl 0 none 0 0)], 24⟩) .l) 40 (⟨true, 69, .agg [.one (.b false), .hash hz, .one (.i .i64 0), .one (.sl 0 none 0 0), .one (.i .i64 0), .hash hz, .one (.sl 0 none 0 0)], 136⟩) .l) 41 (⟨true, 69, .agg [.one (.b false), .hash hz, .one (.i .i64 0), .one (.sl 0 none 0 0), .one (.i .i64 0), .hash hz, .one (.sl 0 none 0 0)], 136⟩) (.n .l 42 (⟨true, 102, .agg [.hash hz, .one (.i .i64 0), .one (.b false), .hash hz, .one (.i .i64 0), .one (.sl 0 none 0 0), .one (.i .i64 0), .hash hz, .one (.sl 0 none 0 0)], 176⟩) .l)) 43 (⟨true, 102, .agg [.hash hz, .one (.i .i64 0), .one (.b false), .hash hz, .one (.i .i64 0), .one (.sl 0 none 0 0), .one (.i .i64 0), .hash hz, .one (.sl 0 none 0 0)], 176⟩) (.n (.n (.n .l 44 (⟨false, 1, .one (.fnn), 8⟩) .l) 45 (⟨false, 1, .one (.sl 0 none 0 0), 24⟩) .l) 46 (⟨true, 5, .agg [.one (.sl 0 none 0 0), .one (.sl 0 none 0 0), .one (.i .i64 0), .one (.i .i64 0), .one (.sl 0 none 0 0)], 88⟩) (.n .l 47 (⟨true, 5, .agg [.one (.sl 0 none 0 0), .one (.sl 0 none 0 0), .one (.i .i64 0), .one (.i .i64 0), .one (.sl 0 none 0 0)], 88⟩) .l))) 48 (⟨true, 113, .agg [.one (.sl 0 none 0 0), .one (.sl 0 none 0 0), .one (.i .i64 0), .one (.sl 0 none 0 0), .one (.sl 0 none 0 0), .one (.b false), .hash hz, .one (.i .i64 0), .one (.sl 0 none 0 0), .one (.i .i64 0), .hash hz, .one (.sl 0 none 0 0), .hash hz, .one (.i .i64 0), .one (.sl 0 none 0 0), .one (.sl 0 none 0 0), .one (.sl 0 none 0 0), .one (.i .i64 0), .one (.i .i64 0), .one (.sl 0 none 0 0)], 392⟩) (.n (.n (.n (.n .l 49 (⟨true, 113, .agg [.one (.sl 0 none 0 0), .one (.sl 0 none 0 0), .one (.i .i64 0), .one (.sl 0 none 0 0), .one (.sl 0 none 0 0), .one (.b false), .hash hz, .one (.i .i64 0), .one (.sl 0 none 0 0), .one (.i .i64 0), .hash hz, .one (.sl 0 none 0 0), .hash hz, .one (.i .i64 0), .one (.sl 0 none 0 0), .one (.sl 0 none 0 0), .one (.sl 0 none 0 0), .one (.i .i64 0), .one (.i .i64 0), .one (.sl 0 none 0 0)], 392⟩) .l) 50 (⟨false, 1, .one (.fnn), 8⟩) .l) 51 (⟨false, 1, .one (.fnn), 8⟩) (.n .l 52 (⟨false, 1, .one (.fnn), 8⟩) .l)) 53 (⟨false, 1, .one (.fnn), 8⟩) (.n (.n .l 54 (⟨false, 1, .one (.fnn), 8⟩) .l) 55 (⟨false, 1, .one (.fnn), 8⟩) (.n .l 56 (⟨false, 1, .one (.fnn), 8⟩) .l)))) 57 (⟨false, 1, .one (.fnn), 8⟩) (.n (.n (.n (.n (.n .l 58 (⟨false, 1, .one (.sl 0 none 0 0), 24⟩) .l) 59 (⟨false, 1, .one (.fnn), 8⟩) .l) 60 (⟨false, 1, .one (.pn), 8⟩) (.n .l 61 (⟨false, 1, .one (.fnn), 8⟩) .l)) 62 (⟨false, 1, .one (.pn), 8⟩) (.n (.n .l 63 (⟨true, 2, .agg [.one (.sl 0 none 0 0), .one (.b false)], 32⟩) .l) 64 (⟨true, 2, .agg [.one (.sl 0 none 0 0), .one (.b false)], 32⟩) (.n .l 65 (⟨false, 1, .one (.fnn), 8⟩) .l))) 66 (⟨false, 1, .one (.fnn), 8⟩) (.n (.n (.n (.n .l 67 (⟨false, 1, .one (.fnn), 8⟩) .l) 68 (⟨false, 1, .one (.i .i64 0), 8⟩) .l) 69 (⟨false, 1, .one (.fnn), 8⟩) (.n .l 70 (⟨false, 1, .one (.fnn), 8⟩) .l)) 71 (⟨false, 1, .one (.i .i64 0), 8⟩) (.n (.n .l 72 (⟨false, 1, .one (.sl 0 none 0 0), 24⟩) .l) 73 (⟨false, 1, .one (.i .u64 0), 8⟩) (.n .l 74 (⟨false, 1, .one (.i .u64 0), 8⟩) .l)))))) 75 (⟨true, 5, .agg [.one (.i .i64 0), .one (.i .i64 0), .one (.i .u64 0), .one (.s ⟨#[]⟩), .one (.i .i64 0)], 48⟩) (.n (.n (.n (.n (.n (.n (.n .l 76 (⟨true, 5, .agg [.one (.i .i64 0), .one (.i .i64 0), .one (.i .u64 0), .one (.s ⟨#[]⟩), .one (.i .i64 0)], 48⟩) .l) 77 (⟨false, 1, .one (.fnn), 8⟩) .l) 78 (⟨false, 1, .one (.fnn), 8⟩) (.n .l 79 (⟨false, 1, .one (.pn), 8⟩) .l)) 80 (⟨true, 2, .agg [.one (.sl 0 none 0 0), .one (.b false)], 32⟩) (.n (.n (.n .l 81 (⟨false, 1, .one (.fnn), 8⟩) .l) 83 (⟨false, 1, .one (.fnn), 8⟩) .l) 84 (⟨false, 1, .one (.pn), 8⟩) (.n .l 85 (⟨false, 1, .one (.fnn), 8⟩) .l))) 86 (⟨false, 1, .one (.fnn), 8⟩) (.n (.n (.n (.n .l 87 (⟨false, 1, .one (.fnn), 8⟩) .l) 88 (⟨false, 1, .one (.fnn), 8⟩) .l) 89 (⟨false, 1, .one (.fnn), 8⟩) (.n .l 90 (⟨false, 1, .one (.fnn), 8⟩) .l)) 91 (⟨false, 1, .one (.fnn), 8⟩) (.n (.n .l 92 (⟨false, 1, .one (.fnn), 8⟩) .l) 93 (⟨false, 1, .one (.fnn), 8⟩) (.n .l 94 (⟨false, 1, .one (.fnn), 8⟩) .l)))) 95 (⟨false, 1, .one (.fnn), 8⟩) (.n (.n (.n (.n (.n .l 96 (⟨false, 1, .one (.fnn), 8⟩) .l) 97 (⟨false, 1, .one (.fnn), 8⟩) .l) 98 (⟨false, 1, .one (.fnn), 8⟩) (.n .l 99 (⟨false, 1, .one (.fnn), 8⟩) .l)) 100 (⟨false, 1, .one (.fnn), 8⟩) (.n (.n (.n .l 101 (⟨false, 1, .one (.fnn), 8⟩) .l) 102 (⟨false, 1, .one (.fnn), 8⟩) .l) 103 (⟨false, 1, .one (.fnn), 8⟩) (.n .l 104 (⟨false, 1, .one (.fnn), 8⟩) .l))) 105 (⟨false, 1, .one (.fnn), 8⟩) (.n (.n (.n (.n .l 106 (⟨false, 1, .one (.fnn), 8⟩) .l) 107 (⟨false, 1, .one (.fnn), 8⟩) .l) 108 (⟨false, 1, .one (.fnn), 8⟩) (.n .l 109 (⟨false, 1, .one (.fnn), 8⟩) .l)) 110 (⟨false, 1, .one (.mn), 8⟩) (.n (.n .l 111 (⟨false, 1, .one (.fnn), 8⟩) .l) 113 (⟨false, 1, .one (.fnn), 8⟩) (.n .l 114 (⟨false, 1, .one (.fnn), 8⟩) .l))))) 115 (⟨false, 1, .one (.fnn), 8⟩) (.n (.n (.n (.n (.n (.n .l 116 (⟨false, 1, .one (.fnn), 8⟩) .l) 117 (⟨false, 1, .one (.fnn), 8⟩) .l) 118 (⟨false, 1, .one (.fnn), 8⟩) (.n .l 119 (⟨false, 1, .one (.fnn), 8⟩) .l)) 120 (⟨false, 1, .one (.fnn), 8⟩) (.n (.n (.n .l 121 (⟨false, 1, .one (.fnn), 8⟩) .l) 122 (⟨false, 1, .one (.fnn), 8⟩) .l) 123 (⟨false, 1, .one (.fnn), 8⟩) (.n .l 124 (⟨false, 1, .one (.fnn), 8⟩) .l))) 125 (⟨false, 1, .one (.fnn), 8⟩) (.n (.n (.n (.n .l 126 (⟨true, 2, .agg [.one (.b false), .one (.b false)], 2⟩) .l) 127 (⟨true, 2, .agg [.one (.b false), .one (.b false)], 2⟩) .l) 128 (⟨false, 1, .one (.fnn), 8⟩) (.n .l 129 (⟨true, 3, .agg [.one (.b false), .one (.b false), .one (.sl 0 none 0 0)], 32⟩) .l)) 130 (⟨true, 3, .agg [.one (.b false), .one (.b false), .one (.sl 0 none 0 0)], 32⟩) (.n (.n .l 131 (⟨false, 1, .one (.fnn), 8⟩) .l) 132 (⟨false, 1, .one (.fnn), 8⟩) (.n .l 133 (⟨false, 1, .one (.fnn), 8⟩) .l)))) 134 (⟨false, 1, .one (.fnn), 8⟩) (.n (.n (.n (.n (.n .l 135 (⟨false, 1, .one (.fnn), 8⟩) .l) 136 (⟨false, 1, .one (.fnn), 8⟩) .l) 137 (⟨false, 1, .one (.fnn), 8⟩) (.n .l 138 (⟨false, 1, .one (.fnn), 8⟩) .l)) 139 (⟨false, 1, .one (.fnn), 8⟩) (.n (.n .l 140 (⟨false, 1, .one (.fnn), 8⟩) .l) 141 (⟨false, 1, .one (.fnn), 8⟩) (.n .l 142 (⟨false, 1, .one (.fnn), 8⟩) .l))) 143 (⟨false, 1, .one (.fnn), 8⟩) (.n (.n (.n (.n .l 144 (⟨false, 1, .one (.fnn), 8⟩) .l) 145 (⟨false, 1, .one (.fnn), 8⟩) .l) 146 (⟨false, 1, .one (.fnn), 8⟩) (.n .l 147 (⟨true, 34, .agg [.hash hz, .one (.s ⟨#[]⟩), .one (.i .i64 0)], 56⟩) .l)) 148 (⟨true, 34, .agg [.hash hz, .one (.s ⟨#[]⟩), .one (.i .i64 0)], 56⟩) (.n (.n .l 149 (⟨true, 2, .agg [.one (.i .i64 0), .one (.i .u64 0)], 16⟩) .l) 150 (⟨true, 2, .agg [.one (.i .i64 0), .one (.i .u64 0)], 16⟩) (.n .l 151 (⟨true, 35, .agg [.hash hz, .one (.s ⟨#[]⟩), .one (.i .i64 0), .one (.i .u64 0)], 64⟩) .l))))))) 152 (⟨true, 35, .agg [.hash hz, .one (.s ⟨#[]⟩), .one (.i .i64 0), .one (.i .u64 0)], 64⟩) (.n (.n (.n (.n (.n (.n (.n (.n .l 153 (⟨false, 1, .one (.fnn), 8⟩) .l) 154 (⟨false, 1, .one (.fnn), 8⟩) .l) 155 (⟨false, 1, .one (.fnn), 8⟩) (.n .l 156 (⟨false, 1, .one (.fnn), 8⟩) .l)) 157 (⟨false, 1, .one (.fnn), 8⟩) (.n (.n (.n .l 158 (⟨false, 1, .one (.fnn), 8⟩) .l) 159 (⟨false, 1, .one (.fnn), 8⟩) .l) 160 (⟨true, 3, .agg [.one (.b false), .one (.b false), .one (.sl 0 none 0 0)], 32⟩) (.n .l 161 (⟨false, 1, .one (.fnn), 8⟩) .l))) 162 (⟨false, 1, .one (.fnn), 8⟩) (.n (.n (.n (.n .l 163 (⟨false, 1, .one (.fnn), 8⟩) .l) 164 (⟨false, 1, .one (.fnn), 8⟩) .l) 165 (⟨false, 1, .one (.fnn), 8⟩) (.n .l 166 (⟨false, 1, .one (.fnn), 8⟩) .l)) 167 (⟨false, 1, .one (.fnn), 8⟩) (.n (.n .l 168 (⟨true, 1, .agg [.one (.pn)], 8⟩) .l) 169 (⟨true, 1, .agg [.one (.pn)], 8⟩) (.n .l 170 (⟨false, 1, .one (.fnn), 8⟩) .l)))) 171 (⟨false, 1, .one (.fnn), 8⟩) (.n (.n (.n (.n (.n .l 172 (⟨false, 1, .one (.fnn), 8⟩) .l) 173 (⟨true, 1, .agg [.one (.pn)], 8⟩) .l) 174 (⟨true, 1, .agg [.one (.pn)], 8⟩) (.n .l 175 (⟨false, 1, .one (.fnn), 8⟩) .l)) 176 (⟨false, 1, .one (.fnn), 8⟩) (.n (.n (.n .l 177 (⟨false, 1, .one (.fnn), 8⟩) .l) 178 (⟨false, 1, .one (.fnn), 8⟩) .l) 179 (⟨false, 1, .one (.fnn), 8⟩) (.n .l 180 (⟨false, 1, .one (.fnn), 8⟩) .l))) 181 (⟨false, 1, .one (.fnn), 8⟩) (.n (.n (.n (.n .l 182 (⟨false, 1, .one (.fnn), 8⟩) .l) 183 (⟨false, 1, .one (.fnn), 8⟩) .l) 184 (⟨false, 1, .one (.fnn), 8⟩) (.n .l 185 (⟨false, 1, .one (.fnn), 8⟩) .l)) 186 (⟨true, 33, .agg [.hash hz, .one (.s ⟨#[]⟩)], 48⟩) (.n (.n .l 187 (⟨true, 33, .agg [.hash hz, .one (.s ⟨#[]⟩)], 48⟩) .l) 188 (⟨false, 1, .one (.fnn), 8⟩) (.n .l 189 (⟨false, 1, .one (.fnn), 8⟩) .l))))) 190 (⟨false, 1, .one (.fnn), 8⟩) (.n (.n (.n (.n (.n (.n .l 191 (⟨false, 1, .one (.fnn), 8⟩) .l) 192 (⟨false, 1, .one (.fnn), 8⟩) .l) 193 (⟨false, 1, .one (.fnn), 8⟩) (.n .l 194 (⟨false, 1, .one (.fnn), 8⟩) .l)) 195 (⟨false, 1, .one (.fnn), 8⟩) (.n (.n (.n .l 196 (⟨false, 1, .one (.fnn), 8⟩) .l) 197 (⟨false, 1, .one (.fnn), 8⟩) .l) 198 (⟨false, 1, .one (.fnn), 8⟩) (.n .l 199 (⟨false, 1, .one (.fnn), 8⟩) .l))) 200 (⟨false, 1, .one (.fnn), 8⟩) (.n (.n (.n (.n .l 201 (⟨false, 1, .one (.fnn), 8⟩) .l) 202 (⟨false, 1, .one (.fnn), 8⟩) .l) 203 (⟨false, 1, .one (.fnn), 8⟩) (.n .l 204 (⟨false, 1, .one (.fnn), 8⟩) .l)) 205 (⟨false, 1, .one (.fnn), 8⟩) (.n (.n .l 206 (⟨false, 1, .one (.fnn), 8⟩) .l) 207 (⟨false, 1, .one (.fnn), 8⟩) (.n .l 208 (⟨false, 1, .one (.fnn), 8⟩) .l)))) 209 (⟨false, 1, .one (.fnn), 8⟩) (.n (.n (.n (.n (.n .l 210 (⟨false, 1, .one (.fnn), 8⟩) .l) 211 (⟨false, 1, .one (.fnn), 8⟩) .l) 212 (⟨false, 1, .one (.fnn), 8⟩) (.n .l 213 (⟨false, 1, .one (.fnn), 8⟩) .l)) 214 (⟨false, 1, .one (.fnn), 8⟩) (.n (.n .l 215 (⟨false, 1, .one (.fnn), 8⟩) .l) 216 (⟨false, 1, .one (.fnn), 8⟩) (.n .l 217 (⟨false, 1, .one (.fnn), 8⟩) .l))) 218 (⟨false, 1, .one (.fnn), 8⟩) (.n (.n (.n (.n .l 219 (⟨false, 1, .one (.fnn), 8⟩) .l) 220 (⟨false, 1, .one (.fnn), 8⟩) .l) 221 (⟨false, 1, .one (.fnn), 8⟩) (.n .l 222 (⟨false, 1, .one (.fnn), 8⟩) .l)) 223 (⟨false, 1, .one (.fnn), 8⟩) (.n (.n .l 224 (⟨false, 1, .one (.fnn), 8⟩) .l) 225 (⟨false, 1, .one (.fnn), 8⟩) (.n .l 226 (⟨false, 1, .one (.fnn), 8⟩) .l)))))) 227 (⟨false, 1, .one (.fnn), 8⟩) (.n (.n (.n (.n (.n (.n (.n .l 228 (⟨false, 1, .one (.ifn), 16⟩) .l) 229 (⟨false, 1, .one (.ifn), 16⟩) .l) 230 (⟨true, 0, .agg [], 0⟩) (.n .l 231 (⟨true, 0, .agg [], 0⟩) .l)) 233 (⟨false, 1, .one (.fnn), 8⟩) (.n (.n (.n .l 234 (⟨false, 1, .one (.sl 0 none 0 0), 24⟩) .l) 235 (⟨false, 1, .one (.fnn), 8⟩) .l) 236 (⟨false, 1, .one (.fnn), 8⟩) (.n .l 237 (⟨false, 1, .one (.sl 0 none 0 0), 24⟩) .l))) 238 (⟨true, 7, .agg [.one (.i .i64 0), .one (.i .i64 0), .one (.i .u64 0), .one (.s ⟨#[]⟩), .one (.i .i64 0), .one (.sl 0 none 0 0), .one (.sl 0 none 0 0)], 96⟩) (.n (.n (.n (.n .l 239 (⟨true, 7, .agg [.one (.i .i64 0), .one (.i .i64 0), .one (.i .u64 0), .one (.s ⟨#[]⟩), .one (.i .i64 0), .one (.sl 0 none 0 0), .one (.sl 0 none 0 0)], 96⟩) .l) 241 (⟨false, 1, .one (.fnn), 8⟩) .l) 242 (⟨false, 1, .one (.fnn), 8⟩) (.n .l 243 (⟨false, 1, .one (.mn), 8⟩) .l)) 244 (⟨false, 1, .one (.fnn), 8⟩) (.n (.n .l 245 (⟨false, 1, .one (.fnn), 8⟩) .l) 246 (⟨false, 1, .one (.fnn), 8⟩) (.n .l 248 (⟨false, 1, .one (.fnn), 8⟩) .l)))) 249 (⟨false, 1, .one (.fnn), 8⟩) (.n (.n (.n (.n (.n .l 250 (⟨false, 1, .one (.fnn), 8⟩) .l) 251 (⟨false, 1, .one (.fnn), 8⟩) .l) 252 (⟨false, 1, .one (.fnn), 8⟩) (.n .l 253 (⟨false, 1, .one (.fnn), 8⟩) .l)) 254 (⟨false, 1, .one (.fnn), 8⟩) (.n (.n .l 255 (⟨false, 1, .one (.sl 0 none 0 0), 24⟩) .l) 256 (⟨false, 1, .one (.fnn), 8⟩) (.n .l 257 (⟨false, 1, .one (.fnn), 8⟩) .l))) 258 (⟨false, 1, .one (.pn), 8⟩) (.n (.n (.n (.n .l 259 (⟨true, 0, .agg [], 0⟩) .l) 261 (⟨false, 1, .one (.fnn), 8⟩) .l) 262 (⟨false, 1, .one (.mn), 8⟩) (.n .l 263 (⟨true, 0, .agg [], 0⟩) .l)) 266 (⟨false, 1, .one (.fnn), 8⟩) (.n (.n .l 267 (⟨false, 1, .one (.fnn), 8⟩) .l) 269 (⟨true, 3, .agg [.one (.i .i64 0), .one (.i .u64 0), .one (.s ⟨#[]⟩)], 32⟩) (.n .l 270 (⟨true, 3, .agg [.one (.i .i64 0), .one (.i .u64 0), .one (.s ⟨#[]⟩)], 32⟩) .l))))) 272 (⟨false, 1, .one (.fnn), 8⟩) (.n (.n (.n (.n (.n (.n .l 273 (⟨false, 1, .one (.fnn), 8⟩) .l) 274 (⟨false, 1, .one (.fnn), 8⟩) .l) 275 (⟨false, 1, .one (.fnn), 8⟩) (.n .l 276 (⟨false, 1, .one (.fnn), 8⟩) .l)) 277 (⟨false, 1, .one (.fnn), 8⟩) (.n (.n (.n .l 278 (⟨false, 1, .one (.fnn), 8⟩) .l) 279 (⟨false, 1, .one (.fnn), 8⟩) .l) 280 (⟨false, 1, .one (.fnn), 8⟩) (.n .l 281 (⟨false, 1, .one (.fnn), 8⟩) .l))) 282 (⟨false, 1, .one (.fnn), 8⟩) (.n (.n (.n (.n .l 283 (⟨false, 1, .one (.fnn), 8⟩) .l) 284 (⟨false, 1, .one (.fnn), 8⟩) .l) 285 (⟨false, 1, .one (.fnn), 8⟩) (.n .l 286 (⟨false, 1, .one (.fnn), 8⟩) .l)) 287 (⟨false, 1, .one (.fnn), 8⟩) (.n (.n .l 288 (⟨false, 1, .one (.fnn), 8⟩) .l) 290 (⟨false, 1, .one (.fnn), 8⟩) (.n .l 291 (⟨false, 1, .one (.fnn), 8⟩) .l)))) 292 (⟨false, 1, .one (.fnn), 8⟩) (.n (.n (.n (.n (.n .l 293 (⟨false, 1, .one (.fnn), 8⟩) .l) 294 (⟨false, 1, .one (.fnn), 8⟩) .l) 295 (⟨false, 1, .one (.fnn), 8⟩) (.n .l 296 (⟨false, 1, .one (.fnn), 8⟩) .l)) 297 (⟨true, 4, .agg [.one (.pn), .one (.pn), .one (.pn), .one (.s ⟨#[]⟩)], 40⟩) (.n (.n .l 298 (⟨true, 4, .agg [.one (.pn), .one (.pn), .one (.pn), .one (.s ⟨#[]⟩)], 40⟩) .l) 300 (⟨true, 0, .agg [], 0⟩) (.n .l 301 (⟨true, 0, .agg [], 0⟩) .l))) 302 (⟨false, 1, .one (.i .u32 0), 4⟩) (.n (.n (.n (.n .l 303 (⟨false, 1, .one (.i .u8 0), 1⟩) .l) 304 (⟨false, 1, .one (.i .u8 0), 1⟩) .l) 305 (⟨false, 1, .one (.fnn), 8⟩) (.n .l 306 (⟨false, 1, .one (.pn), 8⟩) .l)) 307 (⟨false, 1, .one (.i .i32 0), 4⟩) (.n (.n .l 308 (⟨false, 1, .one (.i .i32 0), 4⟩) .l) 309 (⟨true, 11, .agg [.one (.i .u64 0), .one (.i .u64 0), .one (.i .u32 0), .one (.i .u8 0), .one (.i .u8 0), .one (.i .u8 0), .one (.i .u8 0), .one (.fnn), .one (.pn), .one (.i .i32 0), .one (.i .i32 0)], 48⟩) (.n .l 310 (⟨true, 11, .agg [.one (.i .u64 0), .one (.i .u64 0), .one (.i .u32 0), .one (.i .u8 0), .one (.i .u8 0), .one (.i .u8 0), .one (.i .u8 0), .one (.fnn), .one (.pn), .one (.i .i32 0), .one (.i .i32 0)], 48⟩) .l))))))))
instance tbV : Tb Tryz.prog tdV taV := ⟨⟨⟨⟨⟨⟨⟨⟨trivial, ud2.is, trivial⟩, ud3.is, ⟨trivial, ud4.is, trivial⟩⟩, ud5.is, ⟨⟨trivial, ud6.is, trivial⟩, TD.St.mk' ⟨⟨by kernel_rfl, by kernel_rfl⟩, ⟨by kernel_rfl, by kernel_rfl⟩, ⟨by kernel_rfl, by kernel_rfl⟩, ⟨by kernel_rfl, by kernel_rfl⟩, trivial⟩ pls7.is, trivial⟩⟩, TD.St.mk' ⟨⟨by kernel_rfl, by kernel_rfl⟩, ⟨by kernel_rfl, by kernel_rfl⟩, ⟨by kernel_rfl, by kernel_rfl⟩, ⟨by kernel_rfl, by kernel_rfl⟩, trivial⟩ pls8.is, ⟨⟨⟨trivial, ud9.is, trivial⟩, ud10.is, trivial⟩, ud11.is, ⟨⟨trivial, ud12.is, trivial⟩, TD.St.mk' ⟨⟨by kernel_rfl, by kernel_rfl⟩, ⟨by kernel_rfl, by kernel_rfl⟩, trivial⟩ pls13.is, trivial⟩⟩⟩, TD.St.mk' ⟨⟨by kernel_rfl, by kernel_rfl⟩, ⟨by kernel_rfl, by kernel_rfl⟩, trivial⟩ pls14.is, ⟨⟨⟨⟨trivial, ud15.is, trivial⟩, ud16.is, ⟨trivial, ud17.is, trivial⟩⟩, TD.St.mk' ⟨⟨by kernel_rfl, by kernel_rfl⟩, trivial⟩ pls18.is, ⟨⟨trivial, TD.St.mk' ⟨⟨by kernel_rfl, by kernel_rfl⟩, trivial⟩ pls19.is, trivial⟩, ifc20, trivial⟩⟩, ud21.is, ⟨⟨⟨trivial, ⟨ud22.is, ht22⟩, trivial⟩, ⟨ud23.is, ht23⟩, trivial⟩, TD.St.mk' ⟨⟨by kernel_rfl, by kernel_rfl⟩, ⟨by kernel_rfl, by kernel_rfl⟩, trivial⟩ pls24.is, ⟨⟨trivial, TD.St.mk' ⟨⟨by kernel_rfl, by kernel_rfl⟩, ⟨by kernel_rfl, by kernel_rfl⟩, trivial⟩ pls25.is, trivial⟩, ud26.is, trivial⟩⟩⟩⟩, TD.St.mk' ⟨⟨by kernel_rfl, by kernel_rfl⟩, ⟨by kernel_rfl, by kernel_rfl⟩, trivial⟩ pls31.is, ⟨⟨⟨⟨⟨trivial, TD.St.mk' ⟨⟨by kernel_rfl, by kernel_rfl⟩, ⟨by kernel_rfl, by kernel_rfl⟩, trivial⟩ pls32.is, trivial⟩, ud33.is, ⟨trivial, TD.St.mk' ⟨⟨by kernel_rfl, by kernel_rfl⟩, ⟨by kernel_rfl, by kernel_rfl⟩, trivial⟩ pls34.is, trivial⟩⟩, TD.St.mk' ⟨⟨by kernel_rfl, by kernel_rfl⟩, ⟨by kernel_rfl, by kernel_rfl⟩, trivial⟩ pls35.is, ⟨⟨trivial, ud36.is, trivial⟩, ud37.is, trivial⟩⟩, TD.St.mk' ⟨⟨by kernel_rfl, by kernel_rfl⟩, trivial⟩ pls38.is, ⟨⟨⟨trivial, TD.St.mk' ⟨⟨by kernel_rfl, by kernel_rfl⟩, trivial⟩ pls39.is, trivial⟩, TD.St.mk' ⟨⟨by kernel_rfl, by kernel_rfl⟩, ⟨by kernel_rfl, by kernel_rfl⟩, ⟨by kernel_rfl, by kernel_rfl⟩, ⟨by kernel_rfl, by kernel_rfl⟩, ⟨by kernel_rfl, by kernel_rfl⟩, trivial⟩ pls40.is, trivial⟩, TD.St.mk' ⟨⟨by kernel_rfl, by kernel_rfl⟩, ⟨by kernel_rfl, by kernel_rfl⟩, ⟨by kernel_rfl, by kernel_rfl⟩, ⟨by kernel_rfl, by kernel_rfl⟩, ⟨by kernel_rfl, by kernel_rfl⟩, trivial⟩ pls41.is, ⟨⟨trivial, TD.St.mk' ⟨⟨by kernel_rfl, by kernel_rfl⟩, ⟨by kernel_rfl, by kernel_rfl⟩, trivial⟩ pls42.is, trivial⟩, TD.St.mk' ⟨⟨by kernel_rfl, by kernel_rfl⟩, ⟨by kernel_rfl, by kernel_rfl⟩, trivial⟩ pls43.is, trivial⟩⟩⟩, ud45.is, ⟨⟨⟨⟨trivial, TD.St.mk' ⟨⟨by kernel_rfl, by kernel_rfl⟩, ⟨by kernel_rfl, by kernel_rfl⟩, ⟨by kernel_rfl, by kernel_rfl⟩, ⟨by kernel_rfl, by kernel_rfl⟩, ⟨by kernel_rfl, by kernel_rfl⟩, trivial⟩ pls46.is, trivial⟩, TD.St.mk' ⟨⟨by kernel_rfl, by kernel_rfl⟩, ⟨by kernel_rfl, by kernel_rfl⟩, ⟨by kernel_rfl, by kernel_rfl⟩, ⟨by kernel_rfl, by kernel_rfl⟩, ⟨by kernel_rfl, by kernel_rfl⟩, trivial⟩ pls47.is, ⟨trivial, TD.St.mk' ⟨⟨by kernel_rfl, by kernel_rfl⟩, ⟨by kernel_rfl, by kernel_rfl⟩, ⟨by kernel_rfl, by kernel_rfl⟩, ⟨by kernel_rfl, by kernel_rfl⟩, ⟨by kernel_rfl, by kernel_rfl⟩, ⟨by kernel_rfl, by kernel_rfl⟩, ⟨by kernel_rfl, by kernel_rfl⟩, ⟨by kernel_rfl, by kernel_rfl⟩, trivial⟩ pls48.is, trivial⟩⟩, TD.St.mk' ⟨⟨by kernel_rfl, by kernel_rfl⟩, ⟨by kernel_rfl, by kernel_rfl⟩, ⟨by kernel_rfl, by kernel_rfl⟩, ⟨by kernel_rfl, by kernel_rfl⟩, ⟨by kernel_rfl, by kernel_rfl⟩, ⟨by kernel_rfl, by kernel_rfl⟩, ⟨by kernel_rfl, by kernel_rfl⟩, ⟨by kernel_rfl, by kernel_rfl⟩, trivial⟩ pls49.is, ⟨⟨trivial, ud58.is, trivial⟩, ud60.is, trivial⟩⟩, ud62.is, ⟨⟨⟨trivial, TD.St.mk' ⟨⟨by kernel_rfl, by kernel_rfl⟩, ⟨by kernel_rfl, by kernel_rfl⟩, trivial⟩ pls63.is, trivial⟩, TD.St.mk' ⟨⟨by kernel_rfl, by kernel_rfl⟩, ⟨by kernel_rfl, by kernel_rfl⟩, trivial⟩ pls64.is, trivial⟩, ud68.is, ⟨⟨trivial, ud71.is, trivial⟩, ud72.is, trivial⟩⟩⟩⟩⟩, ud73.is, ⟨⟨⟨⟨⟨⟨trivial, ud74.is, trivial⟩, TD.St.mk' ⟨⟨by kernel_rfl, by kernel_rfl⟩, ⟨by kernel_rfl, by kernel_rfl⟩, ⟨by kernel_rfl, by kernel_rfl⟩, ⟨by kernel_rfl, by kernel_rfl⟩, ⟨by kernel_rfl, by kernel_rfl⟩, trivial⟩ pls75.is, ⟨trivial, TD.St.mk' ⟨⟨by kernel_rfl, by kernel_rfl⟩, ⟨by kernel_rfl, by kernel_rfl⟩, ⟨by kernel_rfl, by kernel_rfl⟩, ⟨by kernel_rfl, by kernel_rfl⟩, ⟨by kernel_rfl, by kernel_rfl⟩, trivial⟩ pls76.is, trivial⟩⟩, ud79.is, ⟨⟨trivial, TD.St.mk' ⟨⟨by kernel_rfl, by kernel_rfl⟩, ⟨by kernel_rfl, by kernel_rfl⟩, trivial⟩ pls80.is, trivial⟩, ud84.is, trivial⟩⟩, ud110.is, ⟨⟨⟨trivial, TD.St.mk' ⟨⟨by kernel_rfl, by kernel_rfl⟩, ⟨by kernel_rfl, by kernel_rfl⟩, trivial⟩ pls126.is, trivial⟩, TD.St.mk' ⟨⟨by kernel_rfl, by kernel_rfl⟩, ⟨by kernel_rfl, by kernel_rfl⟩, trivial⟩ pls127.is, trivial⟩, TD.St.mk' ⟨⟨by kernel_rfl, by kernel_rfl⟩, ⟨by kernel_rfl, by kernel_rfl⟩, trivial⟩ pls129.is, ⟨⟨trivial, TD.St.mk' ⟨⟨by kernel_rfl, by kernel_rfl⟩, ⟨by kernel_rfl, by kernel_rfl⟩, trivial⟩ pls130.is, trivial⟩, TD.St.mk' ⟨⟨by kernel_rfl, by kernel_rfl⟩, ⟨by kernel_rfl, by kernel_rfl⟩, ⟨by kernel_rfl, by kernel_rfl⟩, trivial⟩ pls147.is, trivial⟩⟩⟩, TD.St.mk' ⟨⟨by kernel_rfl, by kernel_rfl⟩, ⟨by kernel_rfl, by kernel_rfl⟩, ⟨by kernel_rfl, by kernel_rfl⟩, trivial⟩ pls148.is, ⟨⟨⟨⟨trivial, TD.St.mk' ⟨⟨by kernel_rfl, by kernel_rfl⟩, ⟨by kernel_rfl, by kernel_rfl⟩, trivial⟩ pls149.is, trivial⟩, TD.St.mk' ⟨⟨by kernel_rfl, by kernel_rfl⟩, ⟨by kernel_rfl, by kernel_rfl⟩, trivial⟩ pls150.is, ⟨trivial, TD.St.mk' ⟨⟨by kernel_rfl, by kernel_rfl⟩, ⟨by kernel_rfl, by kernel_rfl⟩, ⟨by kernel_rfl, by kernel_rfl⟩, trivial⟩ pls151.is, trivial⟩⟩, TD.St.mk' ⟨⟨by kernel_rfl, by kernel_rfl⟩, ⟨by kernel_rfl, by kernel_rfl⟩, ⟨by kernel_rfl, by kernel_rfl⟩, trivial⟩ pls152.is, ⟨⟨trivial, TD.St.mk' ⟨⟨by kernel_rfl, by kernel_rfl⟩, ⟨by kernel_rfl, by kernel_rfl⟩, trivial⟩ pls160.is, trivial⟩, TD.St.mk' ⟨⟨by kernel_rfl, by kernel_rfl⟩, trivial⟩ pls168.is, trivial⟩⟩, TD.St.mk' ⟨⟨by kernel_rfl, by kernel_rfl⟩, trivial⟩ pls169.is, ⟨⟨⟨trivial, TD.St.mk' ⟨⟨by kernel_rfl, by kernel_rfl⟩, trivial⟩ pls173.is, trivial⟩, TD.St.mk' ⟨⟨by kernel_rfl, by kernel_rfl⟩, trivial⟩ pls174.is, trivial⟩, TD.St.mk' ⟨⟨by kernel_rfl, by kernel_rfl⟩, ⟨by kernel_rfl, by kernel_rfl⟩, trivial⟩ pls186.is, ⟨⟨trivial, TD.St.mk' ⟨⟨by kernel_rfl, by kernel_rfl⟩, ⟨by kernel_rfl, by kernel_rfl⟩, trivial⟩ pls187.is, trivial⟩, ifc228, trivial⟩⟩⟩⟩, ifc229, ⟨⟨⟨⟨⟨trivial, TD.St.mk' trivial pls230.is, trivial⟩, TD.St.mk' trivial pls231.is, ⟨trivial, ud234.is, trivial⟩⟩, ud237.is, ⟨⟨trivial, TD.St.mk' ⟨⟨by kernel_rfl, by kernel_rfl⟩, ⟨by kernel_rfl, by kernel_rfl⟩, ⟨by kernel_rfl, by kernel_rfl⟩, trivial⟩ pls238.is, trivial⟩, TD.St.mk' ⟨⟨by kernel_rfl, by kernel_rfl⟩, ⟨by kernel_rfl, by kernel_rfl⟩, ⟨by kernel_rfl, by kernel_rfl⟩, trivial⟩ pls239.is, trivial⟩⟩, ud243.is, ⟨⟨⟨trivial, ud255.is, trivial⟩, ud258.is, trivial⟩, TD.St.mk' trivial pls259.is, ⟨⟨trivial, ud262.is, trivial⟩, TD.St.mk' trivial pls263.is, trivial⟩⟩⟩, TD.St.mk' ⟨⟨by kernel_rfl, by kernel_rfl⟩, ⟨by kernel_rfl, by kernel_rfl⟩, ⟨by kernel_rfl, by kernel_rfl⟩, trivial⟩ pls269.is, ⟨⟨⟨⟨trivial, TD.St.mk' ⟨⟨by kernel_rfl, by kernel_rfl⟩, ⟨by kernel_rfl, by kernel_rfl⟩, ⟨by kernel_rfl, by kernel_rfl⟩, trivial⟩ pls270.is, trivial⟩, TD.St.mk' ⟨⟨by kernel_rfl, by kernel_rfl⟩, ⟨by kernel_rfl, by kernel_rfl⟩, ⟨by kernel_rfl, by kernel_rfl⟩, ⟨by kernel_rfl, by kernel_rfl⟩, trivial⟩ pls297.is, ⟨trivial, TD.St.mk' ⟨⟨by kernel_rfl, by kernel_rfl⟩, ⟨by kernel_rfl, by kernel_rfl⟩, ⟨by kernel_rfl, by kernel_rfl⟩, ⟨by kernel_rfl, by kernel_rfl⟩, trivial⟩ pls298.is, trivial⟩⟩, ud299.is, ⟨⟨trivial, ud302.is, trivial⟩, ud303.is, trivial⟩⟩, ud304.is, ⟨⟨⟨trivial, ud306.is, trivial⟩, ud307.is, trivial⟩, ud308.is, ⟨⟨trivial, TD.St.mk' ⟨⟨by kernel_rfl, by kernel_rfl⟩, ⟨by kernel_rfl, by kernel_rfl⟩, ⟨by kernel_rfl, by kernel_rfl⟩, ⟨by kernel_rfl, by kernel_rfl⟩, ⟨by kernel_rfl, by kernel_rfl⟩, ⟨by kernel_rfl, by kernel_rfl⟩, ⟨by kernel_rfl, by kernel_rfl⟩, ⟨by kernel_rfl, by kernel_rfl⟩, ⟨by kernel_rfl, by kernel_rfl⟩, ⟨by kernel_rfl, by kernel_rfl⟩, ⟨by kernel_rfl, by kernel_rfl⟩, trivial⟩ pls309.is, trivial⟩, TD.St.mk' ⟨⟨by kernel_rfl, by kernel_rfl⟩, ⟨by kernel_rfl, by kernel_rfl⟩, ⟨by kernel_rfl, by kernel_rfl⟩, ⟨by kernel_rfl, by kernel_rfl⟩, ⟨by kernel_rfl, by kernel_rfl⟩, ⟨by kernel_rfl, by kernel_rfl⟩, ⟨by kernel_rfl, by kernel_rfl⟩, ⟨by kernel_rfl, by kernel_rfl⟩, ⟨by kernel_rfl, by kernel_rfl⟩, ⟨by kernel_rfl, by kernel_rfl⟩, ⟨by kernel_rfl, by kernel_rfl⟩, trivial⟩ pls310.is, trivial⟩⟩⟩⟩⟩⟩, ⟨⟨⟨⟨⟨⟨⟨⟨⟨trivial, ta1, trivial⟩, ta2, trivial⟩, ta3, ⟨trivial, ta4, trivial⟩⟩, ta5, ⟨⟨⟨trivial, ta6, trivial⟩, ta7, trivial⟩, ta8, ⟨trivial, ta9, trivial⟩⟩⟩, ta10, ⟨⟨⟨⟨trivial, ta11, trivial⟩, ta12, trivial⟩, ta13, ⟨trivial, ta14, trivial⟩⟩, ta15, ⟨⟨trivial, ta16, trivial⟩, ta17, ⟨trivial, ta18, trivial⟩⟩⟩⟩, ta19, ⟨⟨⟨⟨⟨trivial, ta20, trivial⟩, ta21, trivial⟩, ta22, ⟨trivial, ta23, trivial⟩⟩, ta24, ⟨⟨⟨trivial, ta25, trivial⟩, ta26, trivial⟩, ta27, ⟨trivial, ta28, trivial⟩⟩⟩, ta29, ⟨⟨⟨⟨trivial, ta30, trivial⟩, ta31, trivial⟩, ta32, ⟨trivial, ta33, trivial⟩⟩, ta34, ⟨⟨trivial, ta35, trivial⟩, ta36, ⟨trivial, ta37, trivial⟩⟩⟩⟩⟩, ta38, ⟨⟨⟨⟨⟨⟨trivial, ta39, trivial⟩, ta40, trivial⟩, ta41, ⟨trivial, ta42, trivial⟩⟩, ta43, ⟨⟨⟨trivial, ta44, trivial⟩, ta45, trivial⟩, ta46, ⟨trivial, ta47, trivial⟩⟩⟩, ta48, ⟨⟨⟨⟨trivial, ta49, trivial⟩, ta50, trivial⟩, ta51, ⟨trivial, ta52, trivial⟩⟩, ta53, ⟨⟨trivial, ta54, trivial⟩, ta55, ⟨trivial, ta56, trivial⟩⟩⟩⟩, ta57, ⟨⟨⟨⟨⟨trivial, ta58, trivial⟩, ta59, trivial⟩, ta60, ⟨trivial, ta61, trivial⟩⟩, ta62, ⟨⟨trivial, ta63, trivial⟩, ta64, ⟨trivial, ta65, trivial⟩⟩⟩, ta66, ⟨⟨⟨⟨trivial, ta67, trivial⟩, ta68, trivial⟩, ta69, ⟨trivial, ta70, trivial⟩⟩, ta71, ⟨⟨trivial, ta72, trivial⟩, ta73, ⟨trivial, ta74, trivial⟩⟩⟩⟩⟩⟩, ta75, ⟨⟨⟨⟨⟨⟨⟨trivial, ta76, trivial⟩, ta77, trivial⟩, ta78, ⟨trivial, ta79, trivial⟩⟩, ta80, ⟨⟨⟨trivial, ta81, trivial⟩, ta83, trivial⟩, ta84, ⟨trivial, ta85, trivial⟩⟩⟩, ta86, ⟨⟨⟨⟨trivial, ta87, trivial⟩, ta88, trivial⟩, ta89, ⟨trivial, ta90, trivial⟩⟩, ta91, ⟨⟨trivial, ta92, trivial⟩, ta93, ⟨trivial, ta94, trivial⟩⟩⟩⟩, ta95, ⟨⟨⟨⟨⟨trivial, ta96, trivial⟩, ta97, trivial⟩, ta98, ⟨trivial, ta99, trivial⟩⟩, ta100, ⟨⟨⟨trivial, ta101, trivial⟩, ta102, trivial⟩, ta103, ⟨trivial, ta104, trivial⟩⟩⟩, ta105, ⟨⟨⟨⟨trivial, ta106, trivial⟩, ta107, trivial⟩, ta108, ⟨trivial, ta109, trivial⟩⟩, ta110, ⟨⟨trivial, ta111, trivial⟩, ta113, ⟨trivial, ta114, trivial⟩⟩⟩⟩⟩, ta115, ⟨⟨⟨⟨⟨⟨trivial, ta116, trivial⟩, ta117, trivial⟩, ta118, ⟨trivial, ta119, trivial⟩⟩, ta120, ⟨⟨⟨trivial, ta121, trivial⟩, ta122, trivial⟩, ta123, ⟨trivial, ta124, trivial⟩⟩⟩, ta125, ⟨⟨⟨⟨trivial, ta126, trivial⟩, ta127, trivial⟩, ta128, ⟨trivial, ta129, trivial⟩⟩, ta130, ⟨⟨trivial, ta131, trivial⟩, ta132, ⟨trivial, ta133, trivial⟩⟩⟩⟩, ta134, ⟨⟨⟨⟨⟨trivial, ta135, trivial⟩, ta136, trivial⟩, ta137, ⟨trivial, ta138, trivial⟩⟩, ta139, ⟨⟨trivial, ta140, trivial⟩, ta141, ⟨trivial, ta142, trivial⟩⟩⟩, ta143, ⟨⟨⟨⟨trivial, ta144, trivial⟩, ta145, trivial⟩, ta146, ⟨trivial, ta147, trivial⟩⟩, ta148, ⟨⟨trivial, ta149, trivial⟩, ta150, ⟨trivial, ta151, trivial⟩⟩⟩⟩⟩⟩⟩, ta152, ⟨⟨⟨⟨⟨⟨⟨⟨trivial, ta153, trivial⟩, ta154, trivial⟩, ta155, ⟨trivial, ta156, trivial⟩⟩, ta157, ⟨⟨⟨trivial, ta158, trivial⟩, ta159, trivial⟩, ta160, ⟨trivial, ta161, trivial⟩⟩⟩, ta162, ⟨⟨⟨⟨trivial, ta163, trivial⟩, ta164, trivial⟩, ta165, ⟨trivial, ta166, trivial⟩⟩, ta167, ⟨⟨trivial, ta168, trivial⟩, ta169, ⟨trivial, ta170, trivial⟩⟩⟩⟩, ta171, ⟨⟨⟨⟨⟨trivial, ta172, trivial⟩, ta173, trivial⟩, ta174, ⟨trivial, ta175, trivial⟩⟩, ta176, ⟨⟨⟨trivial, ta177, trivial⟩, ta178, trivial⟩, ta179, ⟨trivial, ta180, trivial⟩⟩⟩, ta181, ⟨⟨⟨⟨trivial, ta182, trivial⟩, ta183, trivial⟩, ta184, ⟨trivial, ta185, trivial⟩⟩, ta186, ⟨⟨trivial, ta187, trivial⟩, ta188, ⟨trivial, ta189, trivial⟩⟩⟩⟩⟩, ta190, ⟨⟨⟨⟨⟨⟨trivial, ta191, trivial⟩, ta192, trivial⟩, ta193, ⟨trivial, ta194, trivial⟩⟩, ta195, ⟨⟨⟨trivial, ta196, trivial⟩, ta197, trivial⟩, ta198, ⟨trivial, ta199, trivial⟩⟩⟩, ta200, ⟨⟨⟨⟨trivial, ta201, trivial⟩, ta202, trivial⟩, ta203, ⟨trivial, ta204, trivial⟩⟩, ta205, ⟨⟨trivial, ta206, trivial⟩, ta207, ⟨trivial, ta208, trivial⟩⟩⟩⟩, ta209, ⟨⟨⟨⟨⟨trivial, ta210, trivial⟩, ta211, trivial⟩, ta212, ⟨trivial, ta213, trivial⟩⟩, ta214, ⟨⟨trivial, ta215, trivial⟩, ta216, ⟨trivial, ta217, trivial⟩⟩⟩, ta218, ⟨⟨⟨⟨trivial, ta219, trivial⟩, ta220, trivial⟩, ta221, ⟨trivial, ta222, trivial⟩⟩, ta223, ⟨⟨trivial, ta224, trivial⟩, ta225, ⟨trivial, ta226, trivial⟩⟩⟩⟩⟩⟩, ta227, ⟨⟨⟨⟨⟨⟨⟨trivial, ta228, trivial⟩, ta229, trivial⟩, ta230, ⟨trivial, ta231, trivial⟩⟩, ta233, ⟨⟨⟨trivial, ta234, trivial⟩, ta235, trivial⟩, ta236, ⟨trivial, ta237, trivial⟩⟩⟩, ta238, ⟨⟨⟨⟨trivial, ta239, trivial⟩, ta241, trivial⟩, ta242, ⟨trivial, ta243, trivial⟩⟩, ta244, ⟨⟨trivial, ta245, trivial⟩, ta246, ⟨trivial, ta248, trivial⟩⟩⟩⟩, ta249, ⟨⟨⟨⟨⟨trivial, ta250, trivial⟩, ta251, trivial⟩, ta252, ⟨trivial, ta253, trivial⟩⟩, ta254, ⟨⟨trivial, ta255, trivial⟩, ta256, ⟨trivial, ta257, trivial⟩⟩⟩, ta258, ⟨⟨⟨⟨trivial, ta259, trivial⟩, ta261, trivial⟩, ta262, ⟨trivial, ta263, trivial⟩⟩, ta266, ⟨⟨trivial, ta267, trivial⟩, ta269, ⟨trivial, ta270, trivial⟩⟩⟩⟩⟩, ta272, ⟨⟨⟨⟨⟨⟨trivial, ta273, trivial⟩, ta274, trivial⟩, ta275, ⟨trivial, ta276, trivial⟩⟩, ta277, ⟨⟨⟨trivial, ta278, trivial⟩, ta279, trivial⟩, ta280, ⟨trivial, ta281, trivial⟩⟩⟩, ta282, ⟨⟨⟨⟨trivial, ta283, trivial⟩, ta284, trivial⟩, ta285, ⟨trivial, ta286, trivial⟩⟩, ta287, ⟨⟨trivial, ta288, trivial⟩, ta290, ⟨trivial, ta291, trivial⟩⟩⟩⟩, ta292, ⟨⟨⟨⟨⟨trivial, ta293, trivial⟩, ta294, trivial⟩, ta295, ⟨trivial, ta296, trivial⟩⟩, ta297, ⟨⟨trivial, ta298, trivial⟩, ta300, ⟨trivial, ta301, trivial⟩⟩⟩, ta302, ⟨⟨⟨⟨trivial, ta303, trivial⟩, ta304, trivial⟩, ta305, ⟨trivial, ta306, trivial⟩⟩, ta307, ⟨⟨trivial, ta308, trivial⟩, ta309, ⟨trivial, ta310, trivial⟩⟩⟩⟩⟩⟩⟩⟩⟩
end Go.Proofs.YtfopgaijfeeioaaGreat
/- PACK: bytes of numbers, what is read of bytes; plain. -/

set_option linter.unusedVariables false
set_option linter.unusedSimpArgs false
namespace Go.Proofs.YtfopgaijfeeioaaGreat
open Go Go.RowKit HL
def Fits64 (x : Int) : Prop := -9223372036854775808 ≤ x ∧ x ≤ 9223372036854775807
def be : Nat → Int → List UInt8
  | 0, _ => []
  | k + 1, z => be k (z / 256) ++ [UInt8.ofNat (z % 256).toNat]
def unb (l : List UInt8) : Nat := l.foldl (fun n b => n * 256 + b.toNat) 0
theorem be_len : ∀ (k : Nat) (z : Int), (be k z).length = k
  | 0, _ => rfl
  | k + 1, z => by rw [be, List.length_append, be_len k]; rfl
theorem unb_snoc (l : List UInt8) (b : UInt8) : unb (l ++ [b]) = unb l * 256 + b.toNat := by
  unfold unb
  rw [List.foldl_append]
  rfl
theorem snoc_cases {α : Type} {l : List α} {k : Nat} (h : l.length = k + 1) : ∃ m b, l = m ++ [b] ∧ m.length = k := by
  have hne : l ≠ [] := by intro e; rw [e] at h; simp at h
  refine ⟨l.dropLast, l.getLast hne, (List.dropLast_concat_getLast hne).symm, ?_⟩
  rw [List.length_dropLast]
  omega
theorem unb_lt : ∀ (k : Nat) (l : List UInt8), l.length = k → unb l < 256 ^ k
  | 0, l, h => by rw [List.length_eq_zero_iff.1 h]; decide
  | k + 1, l, h => by
    obtain ⟨m, b, rfl, hm⟩ := snoc_cases h
    rw [unb_snoc]
    have h1 := unb_lt k m hm
    have h2 : b.toNat < 256 := b.toNat_lt
    rw [Nat.pow_succ]
    omega
theorem emod_step (z : Int) (p : Int) (hp : 0 < p) : z % (p * 256) = z / 256 % p * 256 + z % 256 := by
  have h1 : z = 256 * (z / 256) + z % 256 := (Int.mul_ediv_add_emod z 256).symm
  have h2 : z / 256 = p * (z / 256 / p) + z / 256 % p := (Int.mul_ediv_add_emod (z / 256) p).symm
  have h3 := Int.emod_nonneg z (show (256 : Int) ≠ 0 by decide)
  have h4 := Int.emod_lt_of_pos z (show (0 : Int) < 256 by decide)
  have h5 := Int.emod_nonneg (z / 256) (show p ≠ 0 by omega)
  have h6 := Int.emod_lt_of_pos (z / 256) hp
  have h7 : z = (z / 256 % p * 256 + z % 256) + (p * 256) * (z / 256 / p) := by
    have h8 : (p * 256) * (z / 256 / p) = 256 * (p * (z / 256 / p)) := by
      rw [Int.mul_comm p 256, Int.mul_assoc]
    rw [h8]
    omega
  conv => lhs; rw [h7]
  rw [Int.add_mul_emod_self_left]
  refine Int.emod_eq_of_lt (by omega) ?_
  have h9 : (z / 256 % p + 1) * 256 ≤ p * 256 := Int.mul_le_mul_of_nonneg_right (by omega) (by decide)
  omega
theorem byte_toNat (z : Int) : ((UInt8.ofNat (z % 256).toNat).toNat : Int) = z % 256 := by
  have h3 := Int.emod_nonneg z (show (256 : Int) ≠ 0 by decide)
  have h4 := Int.emod_lt_of_pos z (show (0 : Int) < 256 by decide)
  rw [UInt8.toNat_ofNat', Nat.mod_eq_of_lt (by omega)]
  omega
theorem unb_be : ∀ (k : Nat) (z : Int), (unb (be k z) : Int) = z % (256 : Int) ^ k
  | 0, z => by
    show ((0 : Nat) : Int) = z % (256 : Int) ^ 0
    rw [Int.pow_zero, Int.emod_one]
    rfl
  | k + 1, z => by
    rw [be, unb_snoc, Int.pow_succ, emod_step _ _ (Int.pow_pos (by decide)), ← unb_be k]
    have := byte_toNat z
    omega
theorem be_unb : ∀ (k : Nat) (l : List UInt8), l.length = k → be k (unb l) = l
  | 0, l, h => by rw [List.length_eq_zero_iff.1 h]; rfl
  | k + 1, l, h => by
    obtain ⟨m, b, rfl, hm⟩ := snoc_cases h
    have h2 : b.toNat < 256 := b.toNat_lt
    have h3 : ((unb m * 256 + b.toNat : Nat) : Int) / 256 = (unb m : Int) := by omega
    have h4 : (((unb m * 256 + b.toNat : Nat) : Int) % 256).toNat = b.toNat := by omega
    rw [unb_snoc, be, h3, h4, be_unb k m hm]
    simp
theorem be_mod : ∀ (k : Nat) (z : Int), be k (z % (256 : Int) ^ k) = be k z := fun k z => by
  have h := be_unb k (be k z) (be_len k z)
  rwa [unb_be] at h
theorem be_at : ∀ (k : Nat) (z : Int) (j : Nat), j < k → (be k z).getD j 0 = UInt8.ofNat ((z / (256 : Int) ^ (k - 1 - j)) % 256).toNat
  | 0, _, j, h => by omega
  | k + 1, z, j, h => by
    rw [be]
    by_cases e : j < k
    · rw [List.getD_eq_getElem?_getD, List.getElem?_append_left (by rw [be_len]; exact e), ← List.getD_eq_getElem?_getD, be_at k _ j e]
      have h1 : k + 1 - 1 - j = (k - 1 - j) + 1 := by omega
      rw [h1, Int.pow_succ', Int.ediv_ediv_of_nonneg (by decide)]
    · have h1 : j = k := by omega
      subst h1
      rw [List.getD_eq_getElem?_getD, List.getElem?_append_right (by rw [be_len]; exact Nat.le_refl _), be_len]
      simp
theorem be_take {k : Nat} {z : Int} {j : Nat} (h : j < k) : (be k z).take (j + 1) = (be k z).take j ++ [UInt8.ofNat ((z / (256 : Int) ^ (k - 1 - j)) % 256).toNat] := by
  rw [take_getD (d := 0) (by rw [be_len]; exact h), be_at k z j h]
abbrev Pr (α : Type) := List UInt8 → Option (α × List UInt8)
def pU (k : Nat) : Pr Nat := fun b => if k ≤ b.length then some (unb (b.take k), b.drop k) else none
def sgn (n : Nat) : Int := if n < 9223372036854775808 then n else (n : Int) - 18446744073709551616
def pI : Pr Int := fun b => (pU 8 b).map fun q => (sgn q.1, q.2)
def pText (most : Nat) : Pr ByteArray := fun b => (pU 2 b).bind fun q => if q.1 ≤ most ∧ q.1 ≤ q.2.length then some (⟨(q.2.take q.1).toArray⟩, q.2.drop q.1) else none
def pCount (most : Nat) : Pr Nat := fun b => (pU 2 b).bind fun q => if q.1 ≤ most then some q else none
theorem pU_put (k : Nat) (z : Int) (t : List UInt8) : pU k (be k z ++ t) = some ((z % (256 : Int) ^ k).toNat, t) := by
  unfold pU
  rw [if_pos (by rw [List.length_append, be_len]; omega), List.take_left' (be_len k z), List.drop_left' (be_len k z)]
  have := unb_be k z
  congr 2
  omega
theorem pU_put' {k : Nat} {z : Int} (h0 : 0 ≤ z) (h1 : z < (256 : Int) ^ k) (t : List UInt8) : pU k (be k z ++ t) = some (z.toNat, t) := by
  rw [pU_put, Int.emod_eq_of_lt h0 h1]
theorem pU_inv {k : Nat} {b t : List UInt8} {n : Nat} (h : pU k b = some (n, t)) : b = be k n ++ t ∧ n < 256 ^ k := by
  unfold pU at h
  split at h
  · rename_i hk
    injection h with h
    injection h with h1 h2
    subst h1
    subst h2
    have hl : (b.take k).length = k := by rw [List.length_take]; omega
    exact ⟨by rw [be_unb k _ hl, List.take_append_drop], unb_lt k _ hl⟩
  · cases h
theorem pI_put {z : Int} (h : Fits64 z) (t : List UInt8) : pI (be 8 z ++ t) = some (z, t) := by
  unfold pI
  rw [pU_put]
  have h2 : (256 : Int) ^ 8 = 18446744073709551616 := by decide
  unfold Fits64 at h
  rw [h2]
  show some (sgn _, t) = _
  unfold sgn
  congr 2
  split <;> omega
theorem pI_inv {b t : List UInt8} {z : Int} (h : pI b = some (z, t)) : b = be 8 z ++ t ∧ Fits64 z := by
  unfold pI at h
  obtain ⟨⟨n, t'⟩, h1, h2⟩ := Option.map_eq_some_iff.1 h
  injection h2 with h2 h3
  simp only at h2 h3
  subst h3
  obtain ⟨h4, h5⟩ := pU_inv h1
  have h6 : (256 : Int) ^ 8 = 18446744073709551616 := by decide
  have h7 : (256 : Nat) ^ 8 = 18446744073709551616 := by decide
  rw [h7] at h5
  unfold sgn at h2
  have h8 : (n : Int) = z % (256 : Int) ^ 8 := by rw [h6]; split at h2 <;> omega
  refine ⟨by rw [h4, h8, be_mod], ?_⟩
  unfold Fits64
  split at h2 <;> omega
def textB (s : ByteArray) : List UInt8 := be 2 s.size ++ s.data.toList
theorem size_data (s : ByteArray) : s.data.toList.length = s.size := Array.length_toList
theorem pText_put {s : ByteArray} {most : Nat} (h : s.size ≤ most) (h2 : s.size < 65536) (t : List UInt8) : pText most (textB s ++ t) = some (s, t) := by
  unfold pText textB
  rw [List.append_assoc, pU_put' (by omega) (by rw [show (256 : Int) ^ 2 = 65536 by decide]; omega)]
  have hl := size_data s
  show (if _ then _ else _) = _
  rw [if_pos (by simp only [Int.toNat_natCast, List.length_append]; omega)]
  simp only [Int.toNat_natCast]
  rw [List.take_left' hl, List.drop_left' hl]
theorem pText_inv {b t : List UInt8} {s : ByteArray} {most : Nat} (h : pText most b = some (s, t)) : b = textB s ++ t ∧ s.size ≤ most := by
  unfold pText at h
  obtain ⟨⟨n, u⟩, h1, h2⟩ := Option.bind_eq_some_iff.1 h
  obtain ⟨h3, h4⟩ := pU_inv h1
  simp only at h2
  split at h2
  · rename_i hn
    injection h2 with h2
    injection h2 with h5 h6
    subst h5
    subst h6
    have hs : (⟨(u.take n).toArray⟩ : ByteArray).size = n := by simp [ByteArray.size]; omega
    refine ⟨?_, by rw [hs]; exact hn.1⟩
    unfold textB
    rw [hs, h3, List.append_assoc, List.take_append_drop]
  · cases h2
def flagB (f : Bool) : List UInt8 := be 1 (if f then 1 else 0)
theorem pCount_put {n most : Nat} (h : n ≤ most) (h2 : n < 65536) (t : List UInt8) : pCount most (be 2 n ++ t) = some (n, t) := by
  unfold pCount
  rw [pU_put' (by omega) (by rw [show (256 : Int) ^ 2 = 65536 by decide]; omega)]
  show (if _ then _ else _) = _
  rw [if_pos (by simpa using h)]
  rfl
theorem pCount_inv {b t : List UInt8} {n most : Nat} (h : pCount most b = some (n, t)) : b = be 2 n ++ t ∧ n ≤ most := by
  unfold pCount at h
  obtain ⟨⟨m, u⟩, h1, h2⟩ := Option.bind_eq_some_iff.1 h
  obtain ⟨h3, h4⟩ := pU_inv h1
  simp only at h2
  split at h2
  · rename_i hn
    injection h2 with h2
    injection h2 with h5 h6
    subst h5
    subst h6
    exact ⟨h3, hn⟩
  · cases h2
structure Rd where
  o : Nat
  bad : Bool
def tot {α : Type} (d : α) (p : Pr α) (all : List UInt8) (s : Rd) : α × Rd :=
  if s.bad then (d, s) else match p (all.drop s.o) with
    | some (x, t) => (x, ⟨all.length - t.length, false⟩)
    | none => (d, ⟨s.o, true⟩)
theorem tot_bad {α : Type} {d : α} {p : Pr α} {all : List UInt8} {s : Rd} (h : s.bad = true) : tot d p all s = (d, s) := by
  unfold tot
  rw [if_pos h]
def Cuts {α : Type} (p : Pr α) : Prop := ∀ b x t, p b = some (x, t) → ∃ k, t = b.drop k ∧ k ≤ b.length
theorem Cuts.bind {α β : Type} {p : Pr α} {f : α → Pr β} (hp : Cuts p) (hf : ∀ x, Cuts (f x)) : Cuts fun b => (p b).bind fun q => f q.1 q.2 := fun b x t h => by
  obtain ⟨⟨y, u⟩, h1, h2⟩ := Option.bind_eq_some_iff.1 h
  obtain ⟨k, rfl, hk⟩ := hp _ _ _ h1
  obtain ⟨j, rfl, hj⟩ := hf _ _ _ _ h2
  refine ⟨k + j, by rw [List.drop_drop], ?_⟩
  rw [List.length_drop] at hj
  omega
end Go.Proofs.YtfopgaijfeeioaaGreat
/- PACK: the writer, walked. -/



set_option linter.unusedVariables false
set_option linter.unusedSimpArgs false
set_option maxRecDepth 100000
namespace Go.Proofs.YtfopgaijfeeioaaGreat
open Go Go.RowKit HL
instance : ElT Tryz.prog 5 byteEn := ⟨⟩
abbrev wr (g : Nat) (A : Option Addr) (n c : Nat) (bad : Bool) : Res := Res.va g 160 [.one (.kb true), .one (.b bad), .one (.sl 901 A n c)]
abbrev wrow (A : Option Addr) (c : Nat) (b : List UInt8) : Res := Res.rows A c 5 byteEn b
def wput (b : List UInt8) (bad : Bool) (x : List UInt8) : List UInt8 := if bad then b else b ++ x
theorem wput_nil (b : List UInt8) (bad : Bool) : wput b bad [] = b := by unfold wput; split <;> simp
theorem wput_app (b : List UInt8) (bad : Bool) (x y : List UInt8) : wput (wput b bad x) bad y = wput b bad (x ++ y) := by unfold wput; split <;> simp
theorem wput_len (b : List UInt8) (bad : Bool) (x : List UInt8) : (wput b bad x).length ≤ b.length + x.length := by unfold wput; split <;> simp
def WPost (g : Nat) (b : List UInt8) (bad : Bool) (x : List UInt8) (o : Out) (L : List Res) : Prop := o = .ret (.tup []) ∧ ∃ A c, L = [wr g A (wput b bad x).length c bad, wrow A c (wput b bad x)]
theorem wpost_bad {g : Nat} {A : Option Addr} {c : Nat} {bad : Bool} {b x : List UInt8} (h : bad = true) : WPost g b bad x (.ret (.tup [])) [wr g A b.length c bad, wrow A c b] := by
  subst h
  exact ⟨rfl, A, c, rfl⟩
theorem wpost_ok {g : Nat} {A : Option Addr} {c : Nat} {bad : Bool} {b x bb : List UInt8} (h : bad = false) (e : bb = b ++ x) : WPost g b bad x (.ret (.tup [])) [wr g A bb.length c bad, wrow A c bb] := by
  subst h
  subst e
  exact ⟨rfl, A, c, rfl⟩
theorem small_below {z : Int} {q : Nat} (hz : 0 ≤ z ∧ z < (256 : Int) ^ q) (hm : q ≤ 4) : (0 ≤ z ∧ z < 18446744073709551616) ∧ z / 2 ^ (8 * (q : Int)).toNat = 0 := by
  have h1 : (256 : Int) ^ q ≤ 256 ^ 4 := by exact_mod_cast Nat.pow_le_pow_right (n := 256) (by decide) hm
  have h2 : (256 : Int) ^ 4 = 4294967296 := by decide
  refine ⟨⟨hz.1, by omega⟩, ?_⟩
  have h3 : (8 * (q : Int)).toNat = 8 * q := by omega
  rw [h3, show (2 : Int) ^ (8 * q) = 256 ^ q from by rw [Int.pow_mul]; rfl]
  exact Int.ediv_eq_zero_of_lt hz.1 hz.2
theorem byte_den {z p : Int} {m : Nat} (hp : p = ((8 * m : Nat) : Int)) : (TV.s (.one (.i .u8 (IntKind.u8.wrap (z / 2 ^ p.toNat))))).den = (TV.s (.one (.i .u8 ((UInt8.ofNat ((z / (256 : Int) ^ m) % 256).toNat).toNat : Nat)))).den := by
  subst hp
  show Value.int .u8 _ = Value.int .u8 _
  rw [byte_toNat, Int.toNat_natCast, show (2 : Int) ^ (8 * m) = 256 ^ m from by rw [Int.pow_mul]; rfl]
  congr 1
theorem may_spec (g : Nat) (A : Option Addr) (n c : Nat) (bad : Bool) : CSpec Tryz.prog 201 [.one (.ptr 900 ⟨g, 0, none⟩)] [(900, wr g A n c bad)] [] fun o L => o = .ret (vb (!bad)) ∧ L = [] := by
  refine v_enter Tryz.func201 (h := fun w0 => ?_)
  refine v_code [] (hk := ?_)
  refine v_ret rfl [] (.cons (.tmp rfl) .nil) (h := ?_)
  exact ⟨rfl, rfl⟩
theorem number_spec (g : Nat) (A : Option Addr) (c : Nat) (bad : Bool) (b : List UInt8) (z : Int) (q : Nat) (hz : 0 ≤ z ∧ z < 18446744073709551616) (hm : q ≤ 8) (hb : b.length ≤ 70368744177664) : CSpec Tryz.prog 204 [.one (.ptr 900 ⟨g, 0, none⟩), .one (.i .u64 z), .one (.i .i64 q)] [] [(900, wr g A b.length c bad), (901, wrow A c b)] (WPost g b bad (be q z)) := by
  refine v_enter Tryz.func204 (h := fun w0 => ?_)
  refine v_code [24] (hk := ?_)
  refine v_call 20350 [(900, 900), (901, 901), (910, 910), (911, 911), (920, 920), (921, 921), (930, 930), (931, 931)] (may_spec g A b.length c bad) Tryz.func201 (h := ?_)
  rintro _ _ (⟨rfl, rfl⟩)
  refine v_ops [24] (hk := ?_)
  first | refine c_ifd rfl (fun h8 => ?_) (fun h8 => ?_) | refine c_ifn rfl (fun h8 => ?_) (fun h8 => ?_) | refine c_if rfl (fun h8 => ?_) (fun h8 => ?_)
  · refine v_code [24] (hk := ?_)
    refine v_ret rfl [900, 901] .nil (h := ?_)
    exact wpost_bad (by simpa using h8)
  · refine v_code [24] (hk := ?_)
    refine v_loop (fun m E H => ∃ (j : Nat) (A2 : Option Addr) (c2 : Nat) (bb : List UInt8), E = [(2, vint ((q : Int) - 1 - ((j : Nat) : Int)))] ∧ H = [(900, wr g A2 bb.length c2 bad), (901, wrow A2 c2 bb)] ∧ m = q - j ∧ j ≤ q ∧ (bb = b ++ (be q z).take j) ∧ (bb.length = b.length + j)) [0, 1] (q) ([(2, vint ((q : Int) - 1 - ((0 : Nat) : Int)))]) ([(900, wr g (A) (b).length (c) bad), (901, wrow (A) (c) (b))]) (h0 := ⟨0, A, c, b, rfl, rfl, by omega, by omega, by simp, by simp⟩) (hr := ?_)
    rintro _ _ _ ⟨j, A2, c2, bb, rfl, rfl, hmj, hj, hij0, hij1⟩
    refine v_code [24] (hk := ?_)
    first | refine c_ifd rfl (fun h12 => ?_) (fun h12 => ?_) | refine c_ifn rfl (fun h12 => ?_) (fun h12 => ?_) | refine c_if rfl (fun h12 => ?_) (fun h12 => ?_)
    · refine v_code [24] (hk := ?_)
      refine v_draw (.q 0 (.q 1 (.q 2 (.q 3 (.q 5 (.q 6 (.q 7 (.q 8 (.q 9 (.s2 4 (.s 10 (.s 11 (.q 12 (.q 13 (.s 14 .nil))))) 10 (.s 4 (.s 11 (.q 12 (.q 13 (.s 14 .nil))))))))))))))) [] (hm := by kernel_rfl) (hs := by kernel_rfl) (hk := by kernel_rfl) (h := ?_)
      refine v_sch [24] (hk := ?_)
      refine q_rd rfl (r_shr (h1 := by show _ ≤ (64 : Int); omega)) ?_
      refine v_sch [24] (hk := ?_)
      refine s_two ?_ ?_
      · refine v_sch [24] (hk := ?_)
        refine k_valC 24 (.s (.one (.i .u8 ((UInt8.ofNat ((z / (256 : Int) ^ (q - 1 - j)) % 256).toNat).toNat : Nat)))) rfl (byte_den (by omega)) ?_
        refine s_do rfl (d_bslice [UInt8.ofNat ((z / (256 : Int) ^ (q - 1 - j)) % 256).toNat]) (fun B25 => ?_)
        refine s_do rfl d_append (fun p26 => ?_)
        refine v_sch [24] (hk := ?_)
        refine v_again (q - (j + 1)) ⟨j + 1, p26.1, p26.2, bb ++ [UInt8.ofNat ((z / (256 : Int) ^ (q - 1 - j)) % 256).toNat], rfl, rfl, by omega, by omega, by rw [be_take (by omega), hij0, List.append_assoc], by rw [List.length_append, hij1]; rfl⟩
      · refine k_valC 24 (.s (.one (.i .u8 ((UInt8.ofNat ((z / (256 : Int) ^ (q - 1 - j)) % 256).toNat).toNat : Nat)))) rfl (byte_den (by omega)) ?_
        refine s_do rfl (d_bslice [UInt8.ofNat ((z / (256 : Int) ^ (q - 1 - j)) % 256).toNat]) (fun B25 => ?_)
        refine v_sch [24] (hk := ?_)
        refine s_do rfl d_append (fun p26 => ?_)
        refine v_sch [24] (hk := ?_)
        refine v_again (q - (j + 1)) ⟨j + 1, p26.1, p26.2, bb ++ [UInt8.ofNat ((z / (256 : Int) ^ (q - 1 - j)) % 256).toNat], rfl, rfl, by omega, by omega, by rw [be_take (by omega), hij0, List.append_assoc], by rw [List.length_append, hij1]; rfl⟩
    · refine v_code [24] (hk := ?_)
      refine v_ret rfl [900, 901] .nil (h := ?_)
      refine wpost_ok (by simpa using h8) ?_
      rw [hij0, List.take_of_length_le (by rw [be_len]; omega)]
abbrev unmet : List PanicEntry := [{ v := .iface 259 (SV.agg []).den, recovered := false }]
theorem wmust_spec (b : Bool) : CSpec Tryz.prog 203 [.one (.b b)] [] [] fun o L => (b = true ∧ o = .ret (.tup []) ∧ L = []) ∨ (b = false ∧ o = .pan unmet ∧ L = []) := by
  refine v_enter Tryz.func203 (h := fun w0 => ?_)
  refine v_code [] (hk := ?_)
  first | refine c_ifd rfl (fun h3 => ?_) (fun h3 => ?_) | refine c_ifn rfl (fun h3 => ?_) (fun h3 => ?_) | refine c_if rfl (fun h3 => ?_) (fun h3 => ?_)
  · refine v_code [] (hk := ?_)
    refine l_rd r_iface ?_
    refine l_panic (h := ?_)
    refine v_ex [] (hk := ?_)
    refine k_pan [] (h := ?_)
    exact .inr ⟨by simpa using h3, rfl, rfl⟩
  · refine v_code [] (hk := ?_)
    refine v_ret rfl [] .nil (h := ?_)
    exact .inl ⟨by simpa using h3, rfl, rfl⟩
theorem caught_nil (i g : Nat) (xs : List At) : CSpec Tryz.prog 174 [.one (.ptr i ⟨g, 0, none⟩), .one .ifn] [] [] fun o L => o = .ret (.tup []) ∧ L = [] := by
  refine v_enter Tryz.func174 (h := fun w0 => ?_)
  refine v_code [] (hk := ?_)
  refine v_ret rfl [] .nil (h := ?_)
  exact ⟨rfl, rfl⟩
theorem below1_ret (g0 g : Nat) (A : Option Addr) (n c : Nat) (bad : Bool) : CSpecD Tryz.prog 202 [.one (.ptr 0 ⟨g0, 0, none⟩)] [] [(0, Res.va g0 84 [.one (.ptr 900 ⟨g, 0, none⟩)]), (900, wr g A n c bad)] .returning fun o u L => o = .ret (.tup []) ∧ u = .returning ∧ L = [Res.va g0 84 [.one (.ptr 900 ⟨g, 0, none⟩)], wr g A n c bad] := by
  refine d_enter Tryz.func202 (h := fun w0 c₀ cs0 hu => ?_)
  refine d_regionD [[0, 1, 2, 3, 4], [0, 1, 3, 2, 4], [0, 3, 1, 2, 4], [3, 0, 1, 2, 4]] (by kernel_rfl) (by kernel_rfl) ⟨?_, ?_, ?_, ?_, trivial⟩
  · refine d_rd2 (w := false) (h := ?_)
    refine d_rd2 (w := false) (h := ?_)
    refine d_rd2 (w := false) (h := ?_)
    refine d_norecover hu (h := ?_)
    refine v_call 20250 [(900, 900), (901, 901), (910, 910), (911, 911), (920, 920), (921, 921), (930, 930), (931, 931)] (caught_nil 900 g []) Tryz.func174 (h := ?_)
    rintro _ _ (⟨rfl, rfl⟩)
    refine v_ops [] (hk := ?_)
    refine d_ret rfl [0, 900] (.tup []) .nil (h := ?_)
    exact ⟨rfl, rfl, rfl⟩
  · refine d_rd2 (w := false) (h := ?_)
    refine d_rd2 (w := false) (h := ?_)
    refine d_norecover hu (h := ?_)
    refine v_ops [] (hk := ?_)
    refine v_call 20250 [(900, 900), (901, 901), (910, 910), (911, 911), (920, 920), (921, 921), (930, 930), (931, 931)] (caught_nil 900 g []) Tryz.func174 (h := ?_)
    rintro _ _ (⟨rfl, rfl⟩)
    refine v_ops [] (hk := ?_)
    refine d_ret rfl [0, 900] (.tup []) .nil (h := ?_)
    exact ⟨rfl, rfl, rfl⟩
  · refine d_rd2 (w := false) (h := ?_)
    refine d_norecover hu (h := ?_)
    refine v_ops [] (hk := ?_)
    refine v_call 20250 [(900, 900), (901, 901), (910, 910), (911, 911), (920, 920), (921, 921), (930, 930), (931, 931)] (caught_nil 900 g []) Tryz.func174 (h := ?_)
    rintro _ _ (⟨rfl, rfl⟩)
    refine v_ops [] (hk := ?_)
    refine d_ret rfl [0, 900] (.tup []) .nil (h := ?_)
    exact ⟨rfl, rfl, rfl⟩
  · refine d_norecover hu (h := ?_)
    refine v_ops [] (hk := ?_)
    refine v_call 20250 [(900, 900), (901, 901), (910, 910), (911, 911), (920, 920), (921, 921), (930, 930), (931, 931)] (caught_nil 900 g []) Tryz.func174 (h := ?_)
    rintro _ _ (⟨rfl, rfl⟩)
    refine v_ops [] (hk := ?_)
    refine d_ret rfl [0, 900] (.tup []) .nil (h := ?_)
    exact ⟨rfl, rfl, rfl⟩
theorem below_spec (g : Nat) (A : Option Addr) (c : Nat) (bad : Bool) (b : List UInt8) (z : Int) (q : Nat) (hz : 0 ≤ z ∧ z < (256 : Int) ^ q) (hm : q ≤ 4) (hb : b.length ≤ 70368744177664) : CSpec Tryz.prog 126 [.one (.ptr 900 ⟨g, 0, none⟩), .one (.i .i64 z), .one (.i .i64 q)] [] [(900, wr g A b.length c bad), (901, wrow A c b)] (WPost g b bad (be q z)) := by
  obtain ⟨h64, hsh⟩ := small_below hz hm
  have kn8 : kmin IntKind.u64 = 0 := rfl
  have kx8 : kmax IntKind.u64 = 18446744073709551615 := rfl
  refine v_enterD Tryz.func126 (h := fun w0 => ?_)
  refine v_code [] (hk := ?_)
  refine l_do d_box (fun g3 => ?_)
  refine v_ops [] (hk := ?_)
  refine v_call 20350 [(900, 900), (901, 901), (910, 910), (911, 911), (920, 920), (921, 921), (930, 930), (931, 931)] (may_spec g A b.length c bad) Tryz.func201 (h := ?_)
  rintro _ _ (⟨rfl, rfl⟩)
  refine v_ops [] (hk := ?_)
  first | refine c_ifd rfl (fun h8 => ?_) (fun h8 => ?_) | refine c_ifn rfl (fun h8 => ?_) (fun h8 => ?_) | refine c_if rfl (fun h8 => ?_) (fun h8 => ?_)
  · refine v_code [] (hk := ?_)
    refine v_leave _ rfl ?_
    refine v_left [900, 901] (.tup []) .nil (h := ?_)
    exact wpost_bad (by simpa using h8)
  · refine v_code [] (hk := ?_)
    refine l_defer (h := ?_)
    refine v_ops [] (hk := ?_)
    refine k_val 12 (vb true) rfl (by show Value.bool _ = Value.bool _; rw [decide_eq_true (show ((0 : Nat) : Int) ≤ z from hz.1)]) ?_
    refine k_val 13 (vint z) rfl (if_pos (decide_eq_true hz.1)) ?_
    refine k_val 15 (vint (8 * (q : Int))) rfl (if_pos (decide_eq_true hz.1)) ?_
    refine l_rd (r_shr (h1 := by show _ ≤ (64 : Int); omega)) ?_
    refine v_know 12 true rfl rfl ?_
    refine v_ops [] (hk := ?_)
    refine v_call 20950 [(900, 900), (901, 901), (910, 910), (911, 911), (920, 920), (921, 921), (930, 930), (931, 931)] (wmust_spec _) Tryz.func203 (h := ?_)
    rintro _ _ (⟨-, rfl, rfl⟩ | ⟨h, -, -⟩)
    · refine v_ops [] (hk := ?_)
      refine v_call 21200 [(900, 900), (901, 901), (910, 910), (911, 911), (920, 920), (921, 921), (930, 930), (931, 931)] (number_spec g A c bad b z q h64 (by omega) hb) Tryz.func204 (h := ?_)
      rintro _ _ (⟨rfl, A24, c24, rfl⟩)
      refine k_ren 21200 900 rfl ?_
      refine k_ren 21201 901 rfl ?_
      refine v_ops [] (hk := ?_)
      refine v_leave _ rfl ?_
      refine v_defers (args := []) 30000 (fun x => if x = 0 then 10003 else x) (below1_ret g3 g A24 (wput b bad (be q z)).length c24 bad) Tryz.func202 (h := ?_)
      rintro _ _ _ ⟨rfl, rfl, rfl⟩
      refine v_left [30001, 901] (.tup []) .nil (h := ?_)
      exact ⟨rfl, A24, c24, rfl⟩
    · rw [decide_eq_true (show z / 2 ^ (8 * (q : Int)).toNat = ((0 : Nat) : Int) from hsh)] at h
      cases h
end Go.Proofs.YtfopgaijfeeioaaGreat
/- PACK: the writer, walked (2). -/

set_option linter.unusedVariables false
set_option linter.unusedSimpArgs false
set_option maxRecDepth 100000
namespace Go.Proofs.YtfopgaijfeeioaaGreat
open Go Go.RowKit HL
instance : Df UInt8 0 := ⟨⟩
theorem u8_spec (g : Nat) (A : Option Addr) (c : Nat) (bad : Bool) (b : List UInt8) (z : Int) (hz : 0 ≤ z ∧ z < 256) (hb : b.length ≤ 70368744177664) : CSpec Tryz.prog 60 [.one (.ptr 900 ⟨g, 0, none⟩), .one (.i .i64 z)] [] [(900, wr g A b.length c bad), (901, wrow A c b)] (WPost g b bad (be 1 z)) := by
  refine v_enter Tryz.func60 (h := fun w0 => ?_)
  refine v_code [] (hk := ?_)
  refine v_call 20300 [(900, 900), (901, 901), (910, 910), (911, 911), (920, 920), (921, 921), (930, 930), (931, 931)] (below_spec g A c bad b z 1 hz (by omega) hb) Tryz.func126 (h := ?_)
  rintro _ _ (⟨rfl, A6, c6, rfl⟩)
  refine k_ren 20300 900 rfl ?_
  refine k_ren 20301 901 rfl ?_
  refine v_ops [] (hk := ?_)
  refine v_ret rfl [900, 901] .nil (h := ?_)
  exact ⟨rfl, A6, c6, rfl⟩
theorem u16_spec (g : Nat) (A : Option Addr) (c : Nat) (bad : Bool) (b : List UInt8) (z : Int) (hz : 0 ≤ z ∧ z < 65536) (hb : b.length ≤ 70368744177664) : CSpec Tryz.prog 243 [.one (.ptr 900 ⟨g, 0, none⟩), .one (.i .i64 z)] [] [(900, wr g A b.length c bad), (901, wrow A c b)] (WPost g b bad (be 2 z)) := by
  refine v_enter Tryz.func243 (h := fun w0 => ?_)
  refine v_code [] (hk := ?_)
  refine v_call 20300 [(900, 900), (901, 901), (910, 910), (911, 911), (920, 920), (921, 921), (930, 930), (931, 931)] (below_spec g A c bad b z 2 hz (by omega) hb) Tryz.func126 (h := ?_)
  rintro _ _ (⟨rfl, A6, c6, rfl⟩)
  refine k_ren 20300 900 rfl ?_
  refine k_ren 20301 901 rfl ?_
  refine v_ops [] (hk := ?_)
  refine v_ret rfl [900, 901] .nil (h := ?_)
  exact ⟨rfl, A6, c6, rfl⟩
theorem u32_spec (g : Nat) (A : Option Addr) (c : Nat) (bad : Bool) (b : List UInt8) (z : Int) (hz : 0 ≤ z ∧ z < 4294967296) (hb : b.length ≤ 70368744177664) : CSpec Tryz.prog 246 [.one (.ptr 900 ⟨g, 0, none⟩), .one (.i .i64 z)] [] [(900, wr g A b.length c bad), (901, wrow A c b)] (WPost g b bad (be 4 z)) := by
  refine v_enter Tryz.func246 (h := fun w0 => ?_)
  refine v_code [] (hk := ?_)
  refine v_call 20300 [(900, 900), (901, 901), (910, 910), (911, 911), (920, 920), (921, 921), (930, 930), (931, 931)] (below_spec g A c bad b z 4 hz (by omega) hb) Tryz.func126 (h := ?_)
  rintro _ _ (⟨rfl, A6, c6, rfl⟩)
  refine k_ren 20300 900 rfl ?_
  refine k_ren 20301 901 rfl ?_
  refine v_ops [] (hk := ?_)
  refine v_ret rfl [900, 901] .nil (h := ?_)
  exact ⟨rfl, A6, c6, rfl⟩
theorem u64_spec (g : Nat) (A : Option Addr) (c : Nat) (bad : Bool) (b : List UInt8) (z : Int) (hz : 0 ≤ z ∧ z < 18446744073709551616) (hb : b.length ≤ 70368744177664) : CSpec Tryz.prog 247 [.one (.ptr 900 ⟨g, 0, none⟩), .one (.i .u64 z)] [] [(900, wr g A b.length c bad), (901, wrow A c b)] (WPost g b bad (be 8 z)) := by
  refine v_enter Tryz.func247 (h := fun w0 => ?_)
  refine v_code [] (hk := ?_)
  refine v_call 20300 [(900, 900), (901, 901), (910, 910), (911, 911), (920, 920), (921, 921), (930, 930), (931, 931)] (number_spec g A c bad b z 8 hz (by omega) hb) Tryz.func204 (h := ?_)
  rintro _ _ (⟨rfl, A6, c6, rfl⟩)
  refine k_ren 20300 900 rfl ?_
  refine k_ren 20301 901 rfl ?_
  refine v_ops [] (hk := ?_)
  refine v_ret rfl [900, 901] .nil (h := ?_)
  exact ⟨rfl, A6, c6, rfl⟩
theorem be_wrap (z : Int) : be 8 (IntKind.u64.wrap z) = be 8 z := by
  have := be_mod 8 z
  rw [show (256 : Int) ^ 8 = 18446744073709551616 by decide] at this
  rw [wrapU, this]
theorem i64_spec (g : Nat) (A : Option Addr) (c : Nat) (bad : Bool) (b : List UInt8) (z : Int) (hb : b.length ≤ 70368744177664) : CSpec Tryz.prog 245 [.one (.ptr 900 ⟨g, 0, none⟩), .one (.i .i64 z)] [] [(900, wr g A b.length c bad), (901, wrow A c b)] (WPost g b bad (be 8 z)) := by
  have hw : 0 ≤ IntKind.u64.wrap z ∧ IntKind.u64.wrap z < 18446744073709551616 := by rw [wrapU]; exact ⟨Int.emod_nonneg _ (by decide), Int.emod_lt_of_pos _ (by decide)⟩
  rw [← be_wrap z]
  refine v_enter Tryz.func245 (h := fun w0 => ?_)
  refine v_code [6] (hk := ?_)
  refine v_call 20350 [(900, 900), (901, 901), (910, 910), (911, 911), (920, 920), (921, 921), (930, 930), (931, 931)] (number_spec g A c bad b (IntKind.u64.wrap z) 8 hw (by omega) hb) Tryz.func204 (h := ?_)
  rintro _ _ (⟨rfl, A7, c7, rfl⟩)
  refine k_ren 20350 900 rfl ?_
  refine k_ren 20351 901 rfl ?_
  refine v_ops [6] (hk := ?_)
  refine v_ret rfl [900, 901] .nil (h := ?_)
  exact ⟨rfl, A7, c7, rfl⟩
theorem raw_spec (g : Nat) (A X : Option Addr) (c n d : Nat) (bad : Bool) (b x : List UInt8) (hn : n = x.length) (hb : b.length + x.length ≤ 70368744177664) : CSpec Tryz.prog 276 [.one (.ptr 900 ⟨g, 0, none⟩), .one (.sl 1 X n d)] [(1, Res.rd X byteEn x)] [(900, wr g A b.length c bad), (901, wrow A c b)] (WPost g b bad x) := by
  refine v_enter Tryz.func276 (h := fun w0 => ?_)
  refine v_code [] (hk := ?_)
  refine v_call 20250 [(900, 900), (901, 901), (910, 910), (911, 911), (920, 920), (921, 921), (930, 930), (931, 931)] (may_spec g A b.length c bad) Tryz.func201 (h := ?_)
  rintro _ _ (⟨rfl, rfl⟩)
  refine v_ops [] (hk := ?_)
  first | refine c_ifd rfl (fun h5 => ?_) (fun h5 => ?_) | refine c_ifn rfl (fun h5 => ?_) (fun h5 => ?_) | refine c_if rfl (fun h5 => ?_) (fun h5 => ?_)
  · refine v_code [] (hk := ?_)
    refine l_do d_append (fun p12 => ?_)
    refine v_ops [] (hk := ?_)
    refine v_ret rfl [900, 901] .nil (h := ?_)
    exact wpost_ok (by simpa using h5) rfl
  · refine v_code [] (hk := ?_)
    refine v_ret rfl [900, 901] .nil (h := ?_)
    exact wpost_bad (by simpa using h5)
theorem hash_spec (g : Nat) (A : Option Addr) (c : Nat) (bad : Bool) (b : List UInt8) (h : Hash) (hb : b.length ≤ 70368744177632) : CSpec Tryz.prog 219 [.one (.ptr 900 ⟨g, 0, none⟩), .agg [.hash h]] [] [(900, wr g A b.length c bad), (901, wrow A c b)] (WPost g b bad h.toList) := by
  have hl : h.toList.length = 32 := by simp
  refine v_enter Tryz.func219 (h := fun w0 => ?_)
  refine v_code [] (hk := ?_)
  refine l_do d_box (fun g3 => ?_)
  refine v_ops [] (hk := ?_)
  refine v_call 20300 [(900, 900), (901, 901), (910, 910), (911, 911), (920, 920), (921, 921), (930, 930), (931, 931)] (raw_spec g A (some ⟨g3, 0, none⟩) c 32 32 bad b h.toList hl.symm (by omega)) Tryz.func276 (h := ?_)
  rintro _ _ (⟨rfl, A6, c6, rfl⟩)
  refine k_ren 20300 900 rfl ?_
  refine k_ren 20301 901 rfl ?_
  refine v_ops [] (hk := ?_)
  refine v_ret rfl [900, 901] .nil (h := ?_)
  exact ⟨rfl, A6, c6, rfl⟩
theorem text_spec (g : Nat) (A : Option Addr) (c : Nat) (bad : Bool) (b : List UInt8) (s : ByteArray) (hs : s.size < 65536) (hb : b.length ≤ 70368744100000) : CSpec Tryz.prog 244 [.one (.ptr 900 ⟨g, 0, none⟩), .one (.s s)] [] [(900, wr g A b.length c bad), (901, wrow A c b)] (WPost g b bad (textB s)) := by
  have hl := size_data s
  have hl2 := wput_len b bad (be 2 s.size)
  have hl3 := be_len 2 s.size
  refine v_enter Tryz.func244 (h := fun w0 => ?_)
  refine v_code [] (hk := ?_)
  refine v_call 20350 [(900, 900), (901, 901), (910, 910), (911, 911), (920, 920), (921, 921), (930, 930), (931, 931)] (u16_spec g A c bad b s.size ⟨by omega, by omega⟩ (by omega)) Tryz.func243 (h := ?_)
  rintro _ _ (⟨rfl, A7, c7, rfl⟩)
  refine k_ren 20350 900 rfl ?_
  refine k_ren 20351 901 rfl ?_
  refine v_ops [] (hk := ?_)
  refine l_do d_toBytes (fun p10 => ?_)
  refine v_call 20550 [(900, 900), (901, 901), (910, 910), (911, 911), (920, 920), (921, 921), (930, 930), (931, 931)] (raw_spec g A7 (some ⟨p10.1, 0, none⟩) c7 s.size p10.2 bad (wput b bad (be 2 s.size)) s.data.toList hl.symm (by omega)) Tryz.func276 (hB := ⟨⟨_, rfl, view_strB⟩, trivial⟩) (h := ?_)
  rintro _ _ (⟨rfl, A11, c11, rfl⟩)
  refine k_ren 20550 900 rfl ?_
  refine k_ren 20551 901 rfl ?_
  refine v_ops [] (hk := ?_)
  refine v_ret rfl [900, 901] .nil (h := ?_)
  exact ⟨rfl, A11, c11, by unfold textB; rw [wput_app]; rfl⟩
theorem flag_spec (g : Nat) (A : Option Addr) (c : Nat) (bad : Bool) (b : List UInt8) (f : Bool) (hb : b.length ≤ 70368744177664) : CSpec Tryz.prog 218 [.one (.ptr 900 ⟨g, 0, none⟩), .one (.b f)] [] [(900, wr g A b.length c bad), (901, wrow A c b)] (WPost g b bad (flagB f)) := by
  refine v_enter Tryz.func218 (h := fun w0 => ?_)
  refine v_code [] (hk := ?_)
  refine v_cut (fun E H => E = [(4, vint (if f then 1 else 0))] ∧ H = []) [0, 6, 7] [] (h1 := ?_) (h2 := ?_)
  · first | refine c_ifd rfl (fun h5 => ?_) (fun h5 => ?_) | refine c_ifn rfl (fun h5 => ?_) (fun h5 => ?_) | refine c_if rfl (fun h5 => ?_) (fun h5 => ?_)
    · subst h5
      refine v_code [] (hk := ?_)
      refine v_join (⟨rfl, rfl⟩)
    · subst h5
      refine v_code [] (hk := ?_)
      refine v_join (⟨rfl, rfl⟩)
  · rintro _ _ (⟨rfl, rfl⟩)
    refine v_ex [] (hk := ?_)
    refine v_call 20400 [(900, 900), (901, 901), (910, 910), (911, 911), (920, 920), (921, 921), (930, 930), (931, 931)] (u8_spec g A c bad b (if f then 1 else 0) (by cases f <;> decide) hb) Tryz.func60 (h := ?_)
    rintro _ _ (⟨rfl, A8, c8, rfl⟩)
    refine k_ren 20400 900 rfl ?_
    refine k_ren 20401 901 rfl ?_
    refine v_ops [] (hk := ?_)
    refine v_ret rfl [900, 901] .nil (h := ?_)
    exact ⟨rfl, A8, c8, rfl⟩
theorem spoil0_spec (g : Nat) (A : Option Addr) (n c : Nat) (bad : Bool) : CSpec Tryz.prog 333 [.one (.ptr 900 ⟨g, 0, none⟩)] [] [(900, wr g A n c bad)] fun o L => o = .ret (.tup []) ∧ L = [wr g A n c true] := by
  refine v_enter Tryz.func333 (h := fun w0 => ?_)
  refine v_code [] (hk := ?_)
  refine v_ret rfl [900] .nil (h := ?_)
  exact ⟨rfl, rfl⟩
theorem spoil_spec (g : Nat) (A : Option Addr) (n c : Nat) (bad : Bool) : CSpec Tryz.prog 335 [.one (.ptr 900 ⟨g, 0, none⟩)] [] [(900, wr g A n c bad)] fun o L => o = .ret (.tup []) ∧ L = [wr g A n c true] := by
  refine v_enter Tryz.func335 (h := fun w0 => ?_)
  refine v_code [] (hk := ?_)
  refine v_call 20350 [(900, 900), (901, 901), (910, 910), (911, 911), (920, 920), (921, 921), (930, 930), (931, 931)] (spoil0_spec g A n c bad) Tryz.func333 (h := ?_)
  rintro _ _ (⟨rfl, rfl⟩)
  refine v_ops [] (hk := ?_)
  refine v_ret rfl [20350] .nil (h := ?_)
  exact ⟨rfl, rfl⟩
theorem rd_none {α : Type} {E : En α} {l : List α} {w : World} (h : (Res.rd none E l).holds w) : l = [] := by
  cases l with
  | nil => rfl
  | cons x l =>
    obtain ⟨ad, e, _⟩ := rds_some (rd_reads h) (by simp)
    cases e
theorem clone_spec (A : Option Addr) (c : Nat) (l : List UInt8) (n : Nat) (hn : n = l.length) (hl : l.length ≤ 70368744177664) : CSpec Tryz.prog 84 [.one (.sl 0 A n c)] [(0, Res.rd A byteEn l)] [] fun o L => ∃ B d, o = .ret (vsl 0 B l.length d) ∧ L = [wrow B d l] := by
  refine v_enter Tryz.func84 (h := fun w0 => ?_)
  refine v_code [] (hk := ?_)
  first | refine c_ifd rfl (fun h4 => ?_) (fun h4 => ?_) | refine c_ifn rfl (fun h4 => ?_) (fun h4 => ?_) | refine c_if rfl (fun h4 => ?_) (fun h4 => ?_)
  · obtain rfl : A = none := by simpa using h4
    refine k_fact (fun w hf => rd_none (hf 0 _ rfl)) (fun e => ?_)
    subst e
    subst hn
    refine v_code [] (hk := ?_)
    refine k_nil 700 5 byteEn ?_
    refine v_ret rfl [700] (.cons (.tmp rfl) .nil) (h := ?_)
    exact ⟨none, 0, rfl, rfl⟩
  · refine v_code [] (hk := ?_)
    refine l_do (d_bslice ([] : List UInt8)) (fun B5 => ?_)
    refine v_ops [] (hk := ?_)
    refine l_do d_append (fun p7 => ?_)
    refine v_ops [] (hk := ?_)
    refine k_ret [10005] (vsl 0 p7.1 l.length p7.2) (.cons (.tmp rfl) .nil) (h := ?_)
    exact ⟨p7.1, p7.2, rfl, rfl⟩
theorem bytes_spec (g : Nat) (A : Option Addr) (c : Nat) (bad : Bool) (b : List UInt8) (hb : b.length ≤ 70368744177664) : CSpec Tryz.prog 39 [.one (.ptr 900 ⟨g, 0, none⟩)] [(900, wr g A b.length c bad), (901, wrow A c b)] [] fun o L => ∃ B d, o = .ret (.tup [.one (.sl 0 B (if bad then [] else b).length d), .one (.i .i64 (if bad then 2 else 0))]) ∧ L = [wrow B d (if bad then [] else b)] := by
  refine v_enter Tryz.func39 (h := fun w0 => ?_)
  refine v_code [] (hk := ?_)
  first | refine c_ifd rfl (fun h15 => ?_) (fun h15 => ?_) | refine c_ifn rfl (fun h15 => ?_) (fun h15 => ?_) | refine c_if rfl (fun h15 => ?_) (fun h15 => ?_)
  · subst h15
    refine v_code [] (hk := ?_)
    refine k_nil 700 5 byteEn ?_
    refine k_ret [700] (.tup [.one (.sl 0 none 0 0), .one (.i .i64 2)]) (.cons (.tmp rfl) (.cons (.tmp rfl) .nil)) (h := ?_)
    exact ⟨none, 0, rfl, rfl⟩
  · subst h15
    refine v_code [] (hk := ?_)
    refine v_call 21250 [(0, 901), (900, 900), (901, 901), (910, 910), (911, 911), (920, 920), (921, 921), (930, 930), (931, 931)] (clone_spec A c b b.length rfl hb) Tryz.func84 (h := ?_)
    rintro _ _ (⟨B, d, rfl, rfl⟩)
    refine v_ops [] (hk := ?_)
    refine k_ret [21250] (.tup [.one (.sl 0 B b.length d), .one (.i .i64 0)]) (.cons (.tmp rfl) (.cons (.tmp rfl) .nil)) (h := ?_)
    exact ⟨B, d, rfl, rfl⟩
theorem newWriter_spec : CSpec Tryz.prog 37 [] [] [] fun o L => ∃ g, o = .ret (vp 0 ⟨g, 0, none⟩) ∧ L = [wr g none 0 0 false, wrow none 0 []] := by
  refine v_enter Tryz.func37 (h := fun w0 => ?_)
  refine v_code [] (hk := ?_)
  refine l_do d_box (fun g3 => ?_)
  refine v_ops [] (hk := ?_)
  refine k_nil 901 5 byteEn ?_
  refine k_ret [10003, 901] (vp 0 ⟨g3, 0, none⟩) (.cons (.tmp rfl) .nil) (h := ?_)
  exact ⟨g3, rfl, rfl⟩
end Go.Proofs.YtfopgaijfeeioaaGreat
/- PACK: the reader, walked: what is taken. -/

set_option linter.unusedVariables false
set_option linter.unusedSimpArgs false
set_option maxRecDepth 100000
namespace Go.Proofs.YtfopgaijfeeioaaGreat
open Go Go.RowKit HL
abbrev rdr (g : Nat) (B : Option Addr) (c n : Nat) (s : Rd) : Res := Res.va g 130 [.one (.kb true), .one (.b s.bad), .one (.sl 911 B (n - s.o) (c - s.o))]
def TailOk (A : Option Addr) (c o : Nat) (B : Option Addr) : Prop := o < c → B = tailA A c o 1
theorem rows_room {α : Type} {A : Option Addr} {c : Nat} {e : TypeId} {E : En α} {l : List α} {w : World} (h : (Res.rows A c e E l).holds w) : l.length ≤ c := by
  unfold Res.rows Res.row at h
  exact (show seg w e E.sz A l.length c _ from h).2.1
theorem TailOk.step {A B : Option Addr} {c o m : Nat} (h : TailOk A c o B) : TailOk A c (o + m) (tailA B (c - o) m 1) := fun hlt => by
  rw [h (by omega)]
  unfold tailA
  rw [if_neg (by omega), if_neg (by omega), if_neg (by omega)]
  cases A with
  | none => rfl
  | some a => simp [add_of_add]
theorem rdr_step (g : Nat) (B : Option Addr) (c n o m : Nat) : Res.va g 130 [.one (.kb true), .one (.b false), .one (.stl 911 B (c - o) 1 m (n - o - m) (c - o - m))] = rdr g (tailA B (c - o) m 1) c n ⟨o + m, false⟩ := by
  unfold rdr
  rw [← Nat.sub_sub, ← Nat.sub_sub]
  rfl
def TakePost (g : Nat) (A : Option Addr) (c : Nat) (all : List UInt8) (o m : Nat) (v : TV) (r : Out) (L : List Res) : Prop := (m ≤ all.length - o ∧ r = .ret v ∧ ∃ B, TailOk A c (o + m) B ∧ L = [rdr g B c all.length ⟨o + m, false⟩]) ∨ (¬ m ≤ all.length - o ∧ r = .pan unmet ∧ ∃ B, TailOk A c o B ∧ L = [rdr g B c all.length ⟨o, false⟩])
theorem take_spec (g : Nat) (A B : Option Addr) (c : Nat) (all : List UInt8) (o m : Nat) (hB : TailOk A c o B) (ho : o ≤ all.length) (hm : m ≤ 1048576) (hl : all.length ≤ 70368744177664) : CSpec Tryz.prog 284 [.one (.ptr 910 ⟨g, 0, none⟩), .one (.i .i64 m)] [(911, wrow A c all)] [(910, rdr g B c all.length ⟨o, false⟩)] (TakePost g A c all o m (vsl 0 B m (c - o))) := by
  refine v_enter Tryz.func284 (h := fun w0 => ?_)
  refine v_code [] (hk := ?_)
  refine v_call 20850 [(900, 900), (901, 901), (910, 910), (911, 911), (920, 920), (921, 921), (930, 930), (931, 931)] (wmust_spec _) Tryz.func203 (h := ?_)
  rintro _ _ (⟨h, rfl, rfl⟩ | ⟨h, rfl, rfl⟩)
  · have hm2 : m ≤ all.length - o := by simpa using h
    refine k_fact (fun w hf => rows_room (hf 911 _ rfl)) (fun hroom => ?_)
    refine v_ops [] (hk := ?_)
    refine k_res 910 (rdr g (tailA B (c - o) m 1) c all.length ⟨o + m, false⟩) rfl (rdr_step ..) ?_
    refine k_ret [910] (vsl 0 B m (c - o)) (.cons (.tmp rfl) .nil) (h := ?_)
    exact .inl ⟨hm2, rfl, _, hB.step, rfl⟩
  · refine v_ex [] (hk := ?_)
    refine k_pan [910] (h := ?_)
    exact .inr ⟨by simpa using h, rfl, B, hB, rfl⟩
theorem shl8 {n : Nat} (h : n < 72057594037927936) : IntKind.u64.wrap ((n : Int) * 2 ^ ((8 : Nat) : Int).toNat) = ((n * 256 : Nat) : Int) := by
  rw [wrapU, show (2 : Int) ^ ((8 : Nat) : Int).toNat = 256 from rfl, Int.emod_eq_of_lt (by omega) (by omega)]
  omega
theorem take_at {all : List UInt8} {o m j : Nat} (hm : m ≤ all.length - o) (hj : j < m) : ((all.drop o).take m).take (j + 1) = ((all.drop o).take m).take j ++ [all.getD (o + j) 0] := by
  have hl : ((all.drop o).take m).length = m := by rw [List.length_take, List.length_drop]; omega
  rw [take_getD (d := 0) (by omega)]
  congr 2
  rw [List.getD_eq_getElem?_getD, List.getElem?_take_of_lt hj, List.getElem?_drop, List.getD_eq_getElem?_getD]
theorem unb_pre {all : List UInt8} {o m j : Nat} (hm : m ≤ all.length - o) (hj : j ≤ m) (h7 : j ≤ 7) : unb (((all.drop o).take m).take j) < 72057594037927936 := by
  have hl : (((all.drop o).take m).take j).length = j := by rw [List.length_take, List.length_take, List.length_drop]; omega
  have h1 := unb_lt j _ hl
  have h2 : 256 ^ j ≤ 256 ^ 7 := Nat.pow_le_pow_right (by decide) h7
  rw [show (256 : Nat) ^ 7 = 72057594037927936 by decide] at h2
  omega
theorem rnumber_spec (g : Nat) (A B : Option Addr) (c : Nat) (all : List UInt8) (o q : Nat) (hB : TailOk A c o B) (ho : o ≤ all.length) (hm : q ≤ 8) (hl : all.length ≤ 70368744177664) : CSpec Tryz.prog 278 [.one (.ptr 910 ⟨g, 0, none⟩), .one (.i .i64 q)] [(911, wrow A c all)] [(910, rdr g B c all.length ⟨o, false⟩)] (TakePost g A c all o q (.s (.one (.i .u64 ((unb ((all.drop o).take q) : Nat) : Int))))) := by
  have kn8 : kmin IntKind.u64 = 0 := rfl
  have kx8 : kmax IntKind.u64 = 18446744073709551615 := rfl
  refine v_enter Tryz.func278 (h := fun w0 => ?_)
  refine v_code [] (hk := ?_)
  refine v_call 20500 [(900, 900), (901, 901), (910, 910), (911, 911), (920, 920), (921, 921), (930, 930), (931, 931)] (take_spec g A B c all o q hB ho (by omega) hl) Tryz.func284 (h := ?_)
  rintro _ _ (⟨h, rfl, B2, hB2, rfl⟩ | ⟨h, rfl, B2, hB2, rfl⟩)
  · refine k_ren 20500 910 rfl ?_
    refine k_fact (fun w hf => rows_room (hf 911 _ rfl)) (fun hroom => ?_)
    refine v_ops [] (hk := ?_)
    refine v_loop (fun m E H => ∃ (j : Nat) (n : Nat), E = [(12, vn j), (5, vi .u64 ((n : Nat) : Int))] ∧ H = [] ∧ m = q - j ∧ j ≤ q ∧ (n = unb (((all.drop o).take q).take j))) [4, 10, 11, 22] (q) ([(12, vn 0), (5, vi .u64 (((0) : Nat) : Int))]) ([]) (h0 := ⟨0, 0, rfl, rfl, by omega, by omega, by rfl⟩) (hr := ?_)
    rintro _ _ _ ⟨j, n, rfl, rfl, hmj, hj, hij0⟩
    refine v_code [] (hk := ?_)
    first | refine c_ifd rfl (fun h13 => ?_) (fun h13 => ?_) | refine c_ifn rfl (fun h13 => ?_) (fun h13 => ?_) | refine c_if rfl (fun h13 => ?_) (fun h13 => ?_)
    · have hbt : (all.getD (o + j) 0).toNat < 256 := UInt8.toNat_lt _
      have hnb := unb_pre (o := o) (m := q) (j := j) h (by omega) (by omega)
      rw [← hij0] at hnb
      refine k_val 10 (.s (.one (.stl 911 A c 1 o q (c - o)))) rfl (by show Value.slice _ _ _ = Value.slice _ _ _; rw [hB (by omega)]) ?_
      refine v_code [] (hk := ?_)
      refine l_rd r_shl ?_
      refine v_ops [] (hk := ?_)
      refine l_rd (r_orLow (m := n) (b := (all.getD (o + j) 0).toNat) (hp := shl8 hnb) (hq := rfl) (hb := hbt) (hm := by omega)) ?_
      refine v_ops [] (hk := ?_)
      refine k_val 10 (vsl 20500 B q (c - o)) rfl (by show Value.slice _ _ _ = Value.slice _ _ _; rw [hB (by omega)]) ?_
      refine v_again (q - (j + 1)) ⟨j + 1, n * 256 + (all.getD (o + j) 0).toNat, rfl, rfl, by omega, by omega, by rw [take_at h (by omega), unb_snoc, ← hij0]⟩
    · refine v_code [] (hk := ?_)
      refine v_ret rfl [910] (.cons (.tmp rfl) .nil) (h := ?_)
      have hjm : j = q := by omega
      rw [hjm, List.take_of_length_le (by rw [List.length_take]; omega)] at hij0
      exact .inl ⟨h, by rw [← hij0]; rfl, B2, hB2, rfl⟩
  · refine k_ren 20500 910 rfl ?_
    refine v_ex [] (hk := ?_)
    refine k_pan [910] (h := ?_)
    exact .inr ⟨h, rfl, B2, hB2, rfl⟩
end Go.Proofs.YtfopgaijfeeioaaGreat
/- PACK: the reader, walked: asks. -/

set_option linter.unusedVariables false
set_option linter.unusedSimpArgs false
set_option maxRecDepth 100000
namespace Go.Proofs.YtfopgaijfeeioaaGreat
open Go Go.RowKit HL
def AskPost {α : Type} (enc : α → SV) (p : Pr α) (g : Nat) (A : Option Addr) (c : Nat) (all : List UInt8) (o : Nat) (r : Out) (L : List Res) : Prop := (∃ x t, p (all.drop o) = some (x, t) ∧ r = .ret (.s (enc x)) ∧ ∃ B, TailOk A c (all.length - t.length) B ∧ L = [rdr g B c all.length ⟨all.length - t.length, false⟩]) ∨ (p (all.drop o) = none ∧ r = .pan unmet ∧ ∃ o2 B, TailOk A c o2 B ∧ L = [rdr g B c all.length ⟨o2, false⟩])
theorem left_len {all : List UInt8} {o q : Nat} (h : q ≤ all.length - o) (ho : o ≤ all.length) : all.length - ((all.drop o).drop q).length = o + q := by
  rw [List.length_drop, List.length_drop]
  omega
theorem ask_ret {α : Type} {enc : α → SV} {p : Pr α} {g : Nat} {A B : Option Addr} {c : Nat} {all : List UInt8} {o q : Nat} {x : α} (ho : o ≤ all.length) (h : q ≤ all.length - o) (hp : p (all.drop o) = some (x, (all.drop o).drop q)) (hB : TailOk A c (o + q) B) : AskPost enc p g A c all o (.ret (.s (enc x))) [rdr g B c all.length ⟨o + q, false⟩] :=
  .inl ⟨x, _, hp, rfl, B, by rw [left_len h ho]; exact hB, by rw [left_len h ho]⟩
theorem ask_pan {α : Type} {enc : α → SV} {p : Pr α} {g : Nat} {A B : Option Addr} {c : Nat} {all : List UInt8} {o o2 : Nat} (hp : p (all.drop o) = none) (hB : TailOk A c o2 B) : AskPost enc p g A c all o (.pan unmet) [rdr g B c all.length ⟨o2, false⟩] := .inr ⟨hp, rfl, o2, B, hB, rfl⟩
theorem pU_yes {all : List UInt8} {o q : Nat} (h : q ≤ all.length - o) : pU q (all.drop o) = some (unb ((all.drop o).take q), (all.drop o).drop q) := by
  unfold pU
  rw [if_pos (by rw [List.length_drop]; exact h)]
theorem pU_no {all : List UInt8} {o q : Nat} (h : ¬ q ≤ all.length - o) : pU q (all.drop o) = none := by
  unfold pU
  rw [if_neg (by rw [List.length_drop]; exact h)]
theorem unb_4 {all : List UInt8} {o q : Nat} (h : q ≤ all.length - o) (hq : q ≤ 4) : unb ((all.drop o).take q) ≤ 4294967295 := by
  have h1 := unb_lt q _ (show ((all.drop o).take q).length = q by rw [List.length_take, List.length_drop]; omega)
  have h2 : 256 ^ q ≤ 256 ^ 4 := Nat.pow_le_pow_right (by decide) hq
  rw [show (256 : Nat) ^ 4 = 4294967296 by decide] at h2
  omega
theorem unb_8 {all : List UInt8} {o : Nat} (h : 8 ≤ all.length - o) : unb ((all.drop o).take 8) < 18446744073709551616 := by
  have h1 := unb_lt 8 _ (show ((all.drop o).take 8).length = 8 by rw [List.length_take, List.length_drop]; omega)
  rwa [show (256 : Nat) ^ 8 = 18446744073709551616 by decide] at h1
theorem sgn_wrap {n : Nat} (h : n < 18446744073709551616) : IntKind.i64.wrap (n : Int) = sgn n := by
  rw [wrapI]
  unfold sgn64 sgn
  split <;> split <;> omega
abbrev encN : Nat → SV := fun n => .one (.i .i64 (n : Int))
abbrev encZ : Int → SV := fun n => .one (.i .i64 n)
abbrev encU : Nat → SV := fun n => .one (.i .u64 (n : Int))
abbrev encS : ByteArray → SV := fun s => .one (.s s)
abbrev rcell (g0 g : Nat) : Res := Res.va g0 60 [.one (.ptr 910 ⟨g, 0, none⟩)]
theorem askU8_spec (g0 g : Nat) (A B : Option Addr) (c : Nat) (all : List UInt8) (o : Nat) (hB : TailOk A c o B) (ho : o ≤ all.length) (hl : all.length ≤ 70368744177664) : CSpec Tryz.prog 291 [.one (.ptr 7 ⟨g0, 0, none⟩)] [(7, rcell g0 g), (911, wrow A c all)] [(910, rdr g B c all.length ⟨o, false⟩)] (AskPost encN (pU 1) g A c all o) := by
  have kn8 : kmin IntKind.i64 = -9223372036854775808 := rfl
  have kx8 : kmax IntKind.i64 = 9223372036854775807 := rfl
  refine v_enter Tryz.func291 (h := fun w0 => ?_)
  refine v_code [] (hk := ?_)
  refine v_call 20150 [(900, 900), (901, 901), (910, 910), (911, 911), (920, 920), (921, 921), (930, 930), (931, 931)] (rnumber_spec g A B c all o 1 hB ho (by omega) hl) Tryz.func278 (h := ?_)
  rintro _ _ (⟨h, rfl, B2, hB2, rfl⟩ | ⟨h, rfl, B2, hB2, rfl⟩)
  · refine k_ren 20150 910 rfl ?_
    have hub := unb_4 h (by omega)
    refine v_ops [] (hk := ?_)
    refine k_ret [910] (.s (encN (unb ((all.drop o).take 1)))) (.cons (.tmp rfl) .nil) (h := ?_)
    exact ask_ret ho h (pU_yes h) hB2
  · refine k_ren 20150 910 rfl ?_
    refine v_ex [] (hk := ?_)
    refine k_pan [910] (h := ?_)
    exact ask_pan (pU_no h) hB2
theorem askU32_spec (g0 g : Nat) (A B : Option Addr) (c : Nat) (all : List UInt8) (o : Nat) (hB : TailOk A c o B) (ho : o ≤ all.length) (hl : all.length ≤ 70368744177664) : CSpec Tryz.prog 281 [.one (.ptr 7 ⟨g0, 0, none⟩)] [(7, rcell g0 g), (911, wrow A c all)] [(910, rdr g B c all.length ⟨o, false⟩)] (AskPost encN (pU 4) g A c all o) := by
  have kn8 : kmin IntKind.i64 = -9223372036854775808 := rfl
  have kx8 : kmax IntKind.i64 = 9223372036854775807 := rfl
  refine v_enter Tryz.func281 (h := fun w0 => ?_)
  refine v_code [] (hk := ?_)
  refine v_call 20150 [(900, 900), (901, 901), (910, 910), (911, 911), (920, 920), (921, 921), (930, 930), (931, 931)] (rnumber_spec g A B c all o 4 hB ho (by omega) hl) Tryz.func278 (h := ?_)
  rintro _ _ (⟨h, rfl, B2, hB2, rfl⟩ | ⟨h, rfl, B2, hB2, rfl⟩)
  · refine k_ren 20150 910 rfl ?_
    have hub := unb_4 h (by omega)
    refine v_ops [] (hk := ?_)
    refine k_ret [910] (.s (encN (unb ((all.drop o).take 4)))) (.cons (.tmp rfl) .nil) (h := ?_)
    exact ask_ret ho h (pU_yes h) hB2
  · refine k_ren 20150 910 rfl ?_
    refine v_ex [] (hk := ?_)
    refine k_pan [910] (h := ?_)
    exact ask_pan (pU_no h) hB2
theorem askU64_spec (g0 g : Nat) (A B : Option Addr) (c : Nat) (all : List UInt8) (o : Nat) (hB : TailOk A c o B) (ho : o ≤ all.length) (hl : all.length ≤ 70368744177664) : CSpec Tryz.prog 288 [.one (.ptr 7 ⟨g0, 0, none⟩)] [(7, rcell g0 g), (911, wrow A c all)] [(910, rdr g B c all.length ⟨o, false⟩)] (AskPost encU (pU 8) g A c all o) := by
  refine v_enter Tryz.func288 (h := fun w0 => ?_)
  refine v_code [] (hk := ?_)
  refine v_call 20150 [(900, 900), (901, 901), (910, 910), (911, 911), (920, 920), (921, 921), (930, 930), (931, 931)] (rnumber_spec g A B c all o 8 hB ho (by omega) hl) Tryz.func278 (h := ?_)
  rintro _ _ (⟨h, rfl, B2, hB2, rfl⟩ | ⟨h, rfl, B2, hB2, rfl⟩)
  · refine k_ren 20150 910 rfl ?_
    refine v_ops [] (hk := ?_)
    refine k_ret [910] (.s (encU (unb ((all.drop o).take 8)))) (.cons (.tmp rfl) .nil) (h := ?_)
    exact ask_ret ho h (pU_yes h) hB2
  · refine k_ren 20150 910 rfl ?_
    refine v_ex [] (hk := ?_)
    refine k_pan [910] (h := ?_)
    exact ask_pan (pU_no h) hB2
theorem askI64_spec (g0 g : Nat) (A B : Option Addr) (c : Nat) (all : List UInt8) (o : Nat) (hB : TailOk A c o B) (ho : o ≤ all.length) (hl : all.length ≤ 70368744177664) : CSpec Tryz.prog 280 [.one (.ptr 7 ⟨g0, 0, none⟩)] [(7, rcell g0 g), (911, wrow A c all)] [(910, rdr g B c all.length ⟨o, false⟩)] (AskPost encZ (pI) g A c all o) := by
  refine v_enter Tryz.func280 (h := fun w0 => ?_)
  refine v_code [4] (hk := ?_)
  refine v_call 20150 [(900, 900), (901, 901), (910, 910), (911, 911), (920, 920), (921, 921), (930, 930), (931, 931)] (rnumber_spec g A B c all o 8 hB ho (by omega) hl) Tryz.func278 (h := ?_)
  rintro _ _ (⟨h, rfl, B2, hB2, rfl⟩ | ⟨h, rfl, B2, hB2, rfl⟩)
  · refine k_ren 20150 910 rfl ?_
    refine v_ops [4] (hk := ?_)
    refine k_val 1 (.s (encZ (sgn (unb ((all.drop o).take 8))))) rfl (by show Value.int _ _ = Value.int _ _; rw [sgn_wrap (unb_8 h)]) ?_
    refine k_ret [910] (.s (encZ (sgn (unb ((all.drop o).take 8))))) (.cons (.tmp rfl) .nil) (h := ?_)
    exact ask_ret ho h (by unfold pI; rw [pU_yes h]; rfl) hB2
  · refine k_ren 20150 910 rfl ?_
    refine v_ex [4] (hk := ?_)
    refine k_pan [910] (h := ?_)
    exact ask_pan (by unfold pI; rw [pU_no h]; rfl) hB2
theorem view_left {A B : Option Addr} {c : Nat} {all : List UInt8} {o q : Nat} (hB : TailOk A c o B) (hc : all.length ≤ c) (h : q ≤ all.length - o) (ho : o ≤ all.length) : RowM (wrow A c all) B q byteEn ((all.drop o).take q) := by
  refine ⟨?_, by rw [List.length_take, List.length_drop]; omega⟩
  by_cases h0 : q = 0
  · subst h0
    rw [List.take_zero]
    refine ⟨fun w _ => .inl ?_⟩
    rw [dens_byte]
    rfl
  · rw [hB (by omega)]
    exact View.row (view_take (view_tail view_rows hc ho))
theorem ba_arr (l : List UInt8) : ba l = ⟨l.toArray⟩ := by
  apply ByteArray.ext
  apply Array.toList_inj.1
  rw [ba_data]
theorem askCount_spec (g0 g : Nat) (A B : Option Addr) (c : Nat) (all : List UInt8) (o : Nat) (hB : TailOk A c o B) (ho : o ≤ all.length) (hl : all.length ≤ 70368744177664) (g1 most : Nat) : CSpec Tryz.prog 277 [.one (.ptr 7 ⟨g0, 0, none⟩), .one (.ptr 8 ⟨g1, 0, none⟩)] [(7, rcell g0 g), (8, Res.va g1 3 [.one (.i .i64 most)]), (911, wrow A c all)] [(910, rdr g B c all.length ⟨o, false⟩)] (AskPost encN (pCount most) g A c all o) := by
  have kn8 : kmin IntKind.i64 = -9223372036854775808 := rfl
  have kx8 : kmax IntKind.i64 = 9223372036854775807 := rfl
  refine v_enter Tryz.func277 (h := fun w0 => ?_)
  refine v_code [] (hk := ?_)
  refine v_call 20250 [(900, 900), (901, 901), (910, 910), (911, 911), (920, 920), (921, 921), (930, 930), (931, 931)] (rnumber_spec g A B c all o 2 hB ho (by omega) hl) Tryz.func278 (h := ?_)
  rintro _ _ (⟨h, rfl, B2, hB2, rfl⟩ | ⟨h, rfl, B2, hB2, rfl⟩)
  · refine k_ren 20250 910 rfl ?_
    have hub := unb_4 h (by omega)
    refine v_ops [] (hk := ?_)
    refine v_call 20500 [(900, 900), (901, 901), (910, 910), (911, 911), (920, 920), (921, 921), (930, 930), (931, 931)] (wmust_spec _) Tryz.func203 (h := ?_)
    rintro _ _ (⟨hn, rfl, rfl⟩ | ⟨hn, rfl, rfl⟩)
    · have hn2 : unb ((all.drop o).take 2) ≤ most := by have := of_decide_eq_true hn; omega
      refine v_ops [] (hk := ?_)
      refine k_ret [910] (.s (encN (unb ((all.drop o).take 2)))) (.cons (.tmp rfl) .nil) (h := ?_)
      exact ask_ret ho h (by unfold pCount; rw [pU_yes h]; simp only [Option.bind_some]; rw [if_pos hn2]) hB2
    · refine v_ex [] (hk := ?_)
      refine k_pan [910] (h := ?_)
      have hn2 : ¬ unb ((all.drop o).take 2) ≤ most := by have := of_decide_eq_false hn; omega
      exact ask_pan (by unfold pCount; rw [pU_yes h]; simp only [Option.bind_some]; rw [if_neg hn2]) hB2
  · refine k_ren 20250 910 rfl ?_
    refine v_ex [] (hk := ?_)
    refine k_pan [910] (h := ?_)
    exact ask_pan (by unfold pCount; rw [pU_no h]; rfl) hB2
theorem ask_ret2 {α : Type} {enc : α → SV} {p : Pr α} {g : Nat} {A B : Option Addr} {c : Nat} {all : List UInt8} {o q m : Nat} {x : α} (ho : o ≤ all.length) (h : q ≤ all.length - o) (h2 : m ≤ all.length - (o + q)) (hp : p (all.drop o) = some (x, ((all.drop o).drop q).drop m)) (hB : TailOk A c (o + q + m) B) : AskPost enc p g A c all o (.ret (.s (enc x))) [rdr g B c all.length ⟨o + q + m, false⟩] := by
  have e : all.length - (((all.drop o).drop q).drop m).length = o + q + m := by
    rw [List.length_drop, List.length_drop, List.length_drop]
    omega
  exact .inl ⟨x, _, hp, rfl, B, by rw [e]; exact hB, by rw [e]⟩
theorem pText_yes {all : List UInt8} {o most : Nat} (h : 2 ≤ all.length - o) (hn : unb ((all.drop o).take 2) ≤ most) (h2 : unb ((all.drop o).take 2) ≤ all.length - (o + 2)) : pText most (all.drop o) = some (ba ((all.drop (o + 2)).take (unb ((all.drop o).take 2))), ((all.drop o).drop 2).drop (unb ((all.drop o).take 2))) := by
  unfold pText
  rw [pU_yes h]
  simp only [Option.bind_some]
  rw [if_pos ⟨hn, by rw [List.length_drop, List.length_drop]; omega⟩, ba_arr, List.drop_drop]
theorem pText_no {all : List UInt8} {o most : Nat} (h : 2 ≤ all.length - o) (hn : ¬ (unb ((all.drop o).take 2) ≤ most ∧ unb ((all.drop o).take 2) ≤ all.length - (o + 2))) : pText most (all.drop o) = none := by
  unfold pText
  rw [pU_yes h]
  simp only [Option.bind_some]
  rw [if_neg (fun hh => hn ⟨hh.1, by have := hh.2; rw [List.length_drop, List.length_drop] at this; omega⟩)]
theorem askText_spec (g0 g : Nat) (A B : Option Addr) (c : Nat) (all : List UInt8) (o : Nat) (hB : TailOk A c o B) (ho : o ≤ all.length) (hl : all.length ≤ 70368744177664) (g1 most : Nat) : CSpec Tryz.prog 286 [.one (.ptr 7 ⟨g0, 0, none⟩), .one (.ptr 8 ⟨g1, 0, none⟩)] [(7, rcell g0 g), (8, Res.va g1 3 [.one (.i .i64 most)]), (911, wrow A c all)] [(910, rdr g B c all.length ⟨o, false⟩)] (AskPost encS (pText most) g A c all o) := by
  have kn8 : kmin IntKind.i64 = -9223372036854775808 := rfl
  have kx8 : kmax IntKind.i64 = 9223372036854775807 := rfl
  refine v_enter Tryz.func286 (h := fun w0 => ?_)
  refine v_code [] (hk := ?_)
  refine v_call 20250 [(900, 900), (901, 901), (910, 910), (911, 911), (920, 920), (921, 921), (930, 930), (931, 931)] (rnumber_spec g A B c all o 2 hB ho (by omega) hl) Tryz.func278 (h := ?_)
  rintro _ _ (⟨h, rfl, B2, hB2, rfl⟩ | ⟨h, rfl, B2, hB2, rfl⟩)
  · refine k_ren 20250 910 rfl ?_
    have hub := unb_4 h (by omega)
    have hub2 : unb ((all.drop o).take 2) < 65536 := by have := unb_lt 2 _ (show ((all.drop o).take 2).length = 2 by rw [List.length_take, List.length_drop]; omega); rwa [show (256 : Nat) ^ 2 = 65536 by decide] at this
    refine v_ops [] (hk := ?_)
    refine v_call 20500 [(900, 900), (901, 901), (910, 910), (911, 911), (920, 920), (921, 921), (930, 930), (931, 931)] (wmust_spec _) Tryz.func203 (h := ?_)
    rintro _ _ (⟨hn, rfl, rfl⟩ | ⟨hn, rfl, rfl⟩)
    · have hn2 : unb ((all.drop o).take 2) ≤ most := by have := of_decide_eq_true hn; omega
      refine v_ops [] (hk := ?_)
      refine v_call 20650 [(900, 900), (901, 901), (910, 910), (911, 911), (920, 920), (921, 921), (930, 930), (931, 931)] (take_spec g A B2 c all (o + 2) (unb ((all.drop o).take 2)) hB2 (by omega) (by omega) hl) Tryz.func284 (h := ?_)
      rintro _ _ (⟨h3, rfl, B3, hB3, rfl⟩ | ⟨h3, rfl, B3, hB3, rfl⟩)
      · refine k_ren 20650 910 rfl ?_
        refine k_fact (fun w hf => rows_room (hf 911 _ rfl)) (fun hroom => ?_)
        refine k_val 13 (vsl 911 B2 (unb ((all.drop o).take 2)) (c - (o + 2))) rfl rfl ?_
        refine l_rd (r_convStr (hro := view_left hB2 hroom h3 (by omega))) ?_
        refine v_ops [] (hk := ?_)
        refine k_ret [910] (.s (encS (ba ((all.drop (o + 2)).take (unb ((all.drop o).take 2)))))) (.cons (.tmp rfl) .nil) (h := ?_)
        exact ask_ret2 ho h h3 (pText_yes h hn2 h3) hB3
      · refine k_ren 20650 910 rfl ?_
        refine v_ex [] (hk := ?_)
        refine k_pan [910] (h := ?_)
        exact ask_pan (pText_no h fun hh => h3 hh.2) hB3
    · refine v_ex [] (hk := ?_)
      refine k_pan [910] (h := ?_)
      have hn2 : ¬ unb ((all.drop o).take 2) ≤ most := by have := of_decide_eq_false hn; omega
      exact ask_pan (pText_no h fun hh => hn2 hh.1) hB2
  · refine k_ren 20250 910 rfl ?_
    refine v_ex [] (hk := ?_)
    refine k_pan [910] (h := ?_)
    exact ask_pan (by unfold pText; rw [pU_no h]; rfl) hB2
end Go.Proofs.YtfopgaijfeeioaaGreat
/- PACK: the reader, walked: what is asked. -/

set_option linter.unusedVariables false
set_option linter.unusedSimpArgs false
set_option maxRecDepth 100000
namespace Go.Proofs.YtfopgaijfeeioaaGreat
open Go Go.RowKit HL
def RPost {α : Type} (enc : α → SV) (z : α) (p : Pr α) (g : Nat) (A : Option Addr) (c : Nat) (all : List UInt8) (s : Rd) (r : Out) (L : List Res) : Prop := r = .ret (.s (enc (tot z p all s).1)) ∧ ∃ B, TailOk A c (tot z p all s).2.o B ∧ L = [rdr g B c all.length (tot z p all s).2]
theorem tot_yes {α : Type} {d : α} {p : Pr α} {all : List UInt8} {s : Rd} {x : α} {t : List UInt8} (h : s.bad = false) (hp : p (all.drop s.o) = some (x, t)) : tot d p all s = (x, ⟨all.length - t.length, false⟩) := by
  unfold tot
  rw [if_neg (by rw [h]; decide), hp]
theorem tot_no {α : Type} {d : α} {p : Pr α} {all : List UInt8} {s : Rd} (h : s.bad = false) (hp : p (all.drop s.o) = none) : tot d p all s = (d, ⟨s.o, true⟩) := by
  unfold tot
  rw [if_neg (by rw [h]; decide), hp]
theorem caught_unmet (g : Nat) (B : Option Addr) (c n o : Nat) (bad : Bool) : CSpec Tryz.prog 174 [.one (.ptr 910 ⟨g, 0, none⟩), .one (.ifv 259 (SV.agg []).den)] [] [(910, rdr g B c n ⟨o, bad⟩)] fun r L => r = .ret (.tup []) ∧ L = [rdr g B c n ⟨o, true⟩] := by
  refine v_enter Tryz.func174 (h := fun w0 => ?_)
  refine v_code [] (hk := ?_)
  refine l_rd r_assertY ?_
  refine v_ops [] (hk := ?_)
  refine l_do d_alloc (fun g4 => ?_)
  refine v_ops [] (hk := ?_)
  refine v_know 14 false rfl rfl ?_
  refine v_code [] (hk := ?_)
  refine v_ret rfl [910] .nil (h := ?_)
  exact ⟨rfl, rfl⟩
theorem askedI1_ret (g2 g4 g5 g : Nat) (B0 B : Option Addr) (n0 c0 c n o : Nat) (x : Int) : CSpecD Tryz.prog 173 [.one (.ptr 0 ⟨g2, 0, none⟩), .one (.ptr 1 ⟨g5, 0, none⟩), .one (.ptr 2 ⟨g4, 0, none⟩)] [] [(0, rcell g2 g), (1, Res.va g5 58 [.one (.sl 911 B0 n0 c0)]), (2, Res.va g4 3 [.one (.i .i64 x)]), (910, rdr g B c n ⟨o, false⟩)] .returning fun r u L => r = .ret (.tup []) ∧ u = .returning ∧ L = [rcell g2 g, Res.va g5 58 [.one (.sl 911 B0 n0 c0)], Res.va g4 3 [.one (.i .i64 x)], rdr g B c n ⟨o, false⟩] := by
  refine d_enter Tryz.func173 (h := fun w0 c₀ cs0 hu => ?_)
  refine d_seq ?_
  refine d_regionD [[0, 1, 2, 3, 4], [0, 1, 3, 2, 4], [0, 3, 1, 2, 4], [3, 0, 1, 2, 4]] (by kernel_rfl) (by kernel_rfl) ⟨?_, ?_, ?_, ?_, trivial⟩
  · refine d_rd2 (w := false) (h := ?_)
    refine d_rd2 (w := false) (h := ?_)
    refine d_rd2 (w := false) (h := ?_)
    refine d_norecover hu (h := ?_)
    refine v_call 20400 [(900, 900), (901, 901), (910, 910), (911, 911), (920, 920), (921, 921), (930, 930), (931, 931)] (caught_nil 910 g []) Tryz.func174 (h := ?_)
    rintro _ _ (⟨rfl, rfl⟩)
    refine v_ops [] (hk := ?_)
    refine v_know 13 false rfl rfl ?_
    refine v_code [] (hk := ?_)
    refine d_ret rfl [0, 1, 2, 910] (.tup []) .nil (h := ?_)
    exact ⟨rfl, rfl, rfl⟩
  · refine d_rd2 (w := false) (h := ?_)
    refine d_rd2 (w := false) (h := ?_)
    refine d_norecover hu (h := ?_)
    refine v_ops [] (hk := ?_)
    refine v_call 20400 [(900, 900), (901, 901), (910, 910), (911, 911), (920, 920), (921, 921), (930, 930), (931, 931)] (caught_nil 910 g []) Tryz.func174 (h := ?_)
    rintro _ _ (⟨rfl, rfl⟩)
    refine v_ops [] (hk := ?_)
    refine v_know 13 false rfl rfl ?_
    refine v_code [] (hk := ?_)
    refine d_ret rfl [0, 1, 2, 910] (.tup []) .nil (h := ?_)
    exact ⟨rfl, rfl, rfl⟩
  · refine d_rd2 (w := false) (h := ?_)
    refine d_norecover hu (h := ?_)
    refine v_ops [] (hk := ?_)
    refine v_call 20400 [(900, 900), (901, 901), (910, 910), (911, 911), (920, 920), (921, 921), (930, 930), (931, 931)] (caught_nil 910 g []) Tryz.func174 (h := ?_)
    rintro _ _ (⟨rfl, rfl⟩)
    refine v_ops [] (hk := ?_)
    refine v_know 13 false rfl rfl ?_
    refine v_code [] (hk := ?_)
    refine d_ret rfl [0, 1, 2, 910] (.tup []) .nil (h := ?_)
    exact ⟨rfl, rfl, rfl⟩
  · refine d_norecover hu (h := ?_)
    refine v_ops [] (hk := ?_)
    refine v_call 20400 [(900, 900), (901, 901), (910, 910), (911, 911), (920, 920), (921, 921), (930, 930), (931, 931)] (caught_nil 910 g []) Tryz.func174 (h := ?_)
    rintro _ _ (⟨rfl, rfl⟩)
    refine v_ops [] (hk := ?_)
    refine v_know 13 false rfl rfl ?_
    refine v_code [] (hk := ?_)
    refine d_ret rfl [0, 1, 2, 910] (.tup []) .nil (h := ?_)
    exact ⟨rfl, rfl, rfl⟩
theorem askedI1_pan (g2 g4 g5 g : Nat) (B0 B : Option Addr) (c n o0 o : Nat) : CSpecD Tryz.prog 173 [.one (.ptr 0 ⟨g2, 0, none⟩), .one (.ptr 1 ⟨g5, 0, none⟩), .one (.ptr 2 ⟨g4, 0, none⟩)] [] [(0, rcell g2 g), (1, Res.va g5 58 [.one (.sl 911 B0 (n - o0) (c - o0))]), (2, Res.va g4 3 [.one (.i .i64 0)]), (910, rdr g B c n ⟨o, false⟩)] (.panicking unmet) fun r u L => r = .ret (.tup []) ∧ settle u = .returning ∧ L = [rcell g2 g, Res.va g5 58 [.one (.sl 911 B0 (n - o0) (c - o0))], Res.va g4 3 [.one (.i .i64 0)], rdr g B0 c n ⟨o0, true⟩] := by
  refine d_enter Tryz.func173 (h := fun w0 c₀ cs0 hu => ?_)
  refine d_seq ?_
  refine d_regionD [[0, 1, 2, 3, 4], [0, 1, 3, 2, 4], [0, 3, 1, 2, 4], [3, 0, 1, 2, 4]] (by kernel_rfl) (by kernel_rfl) ⟨?_, ?_, ?_, ?_, trivial⟩
  · refine d_rd2 (w := false) (h := ?_)
    refine d_rd2 (w := false) (h := ?_)
    refine d_rd2 (w := false) (h := ?_)
    refine d_recover (.s (.one (.ifv 259 (SV.agg []).den))) rfl hu (h := ?_)
    refine v_call 20400 [(900, 900), (901, 901), (910, 910), (911, 911), (920, 920), (921, 921), (930, 930), (931, 931)] (caught_unmet g B c n o false) Tryz.func174 (h := ?_)
    rintro _ _ (⟨rfl, rfl⟩)
    refine k_ren 20400 910 rfl ?_
    refine v_ops [] (hk := ?_)
    refine v_know 13 true rfl rfl ?_
    refine v_code [] (hk := ?_)
    refine d_ret rfl [0, 1, 2, 910] (.tup []) .nil (h := ?_)
    exact ⟨rfl, rfl, rfl⟩
  · refine d_rd2 (w := false) (h := ?_)
    refine d_rd2 (w := false) (h := ?_)
    refine d_recover (.s (.one (.ifv 259 (SV.agg []).den))) rfl hu (h := ?_)
    refine v_ops [] (hk := ?_)
    refine v_call 20400 [(900, 900), (901, 901), (910, 910), (911, 911), (920, 920), (921, 921), (930, 930), (931, 931)] (caught_unmet g B c n o false) Tryz.func174 (h := ?_)
    rintro _ _ (⟨rfl, rfl⟩)
    refine k_ren 20400 910 rfl ?_
    refine v_ops [] (hk := ?_)
    refine v_know 13 true rfl rfl ?_
    refine v_code [] (hk := ?_)
    refine d_ret rfl [0, 1, 2, 910] (.tup []) .nil (h := ?_)
    exact ⟨rfl, rfl, rfl⟩
  · refine d_rd2 (w := false) (h := ?_)
    refine d_recover (.s (.one (.ifv 259 (SV.agg []).den))) rfl hu (h := ?_)
    refine v_ops [] (hk := ?_)
    refine v_call 20400 [(900, 900), (901, 901), (910, 910), (911, 911), (920, 920), (921, 921), (930, 930), (931, 931)] (caught_unmet g B c n o false) Tryz.func174 (h := ?_)
    rintro _ _ (⟨rfl, rfl⟩)
    refine k_ren 20400 910 rfl ?_
    refine v_ops [] (hk := ?_)
    refine v_know 13 true rfl rfl ?_
    refine v_code [] (hk := ?_)
    refine d_ret rfl [0, 1, 2, 910] (.tup []) .nil (h := ?_)
    exact ⟨rfl, rfl, rfl⟩
  · refine d_recover (.s (.one (.ifv 259 (SV.agg []).den))) rfl hu (h := ?_)
    refine v_ops [] (hk := ?_)
    refine v_call 20400 [(900, 900), (901, 901), (910, 910), (911, 911), (920, 920), (921, 921), (930, 930), (931, 931)] (caught_unmet g B c n o false) Tryz.func174 (h := ?_)
    rintro _ _ (⟨rfl, rfl⟩)
    refine k_ren 20400 910 rfl ?_
    refine v_ops [] (hk := ?_)
    refine v_know 13 true rfl rfl ?_
    refine v_code [] (hk := ?_)
    refine d_ret rfl [0, 1, 2, 910] (.tup []) .nil (h := ?_)
    exact ⟨rfl, rfl, rfl⟩
theorem askedI_spec1 {α : Type} (e : α → Int) (z : α) (hz : e z = 0) (p : Pr α) (g : Nat) (A B : Option Addr) (c : Nat) (all : List UInt8) (s : Rd) (f : FuncId) {fn : Func} (g0 : Nat) (hB : TailOk A c s.o B) (hf : Tryz.prog.funcs[f]? = some fn) (hask : s.bad = false → CSpec Tryz.prog f [.one (.ptr 7 ⟨g0, 0, none⟩)] [(7, rcell g0 g), (911, wrow A c all)] [(910, rdr g B c all.length ⟨s.o, false⟩)] (AskPost (fun x => .one (.i .i64 (e x))) p g A c all s.o)) (hfb : fn.body.isNone = false := by rfl) (hfn : (fn.name == "runtime.NumGoroutine") = false := by rfl) : CSpec Tryz.prog 100 [.one (.ptr 910 ⟨g, 0, none⟩), .one (.fn f [.pointer (some ⟨g0, 0, none⟩)] [7])] [(7, rcell g0 g), (911, wrow A c all)] [(910, rdr g B c all.length s)] (RPost (fun x => .one (.i .i64 (e x))) (z) p g A c all s) := by
  obtain ⟨o, bad⟩ := s
  refine v_enterD Tryz.func100 (h := fun w0 => ?_)
  refine v_code [] (hk := ?_)
  refine l_do d_box (fun g2 => ?_)
  refine l_do d_alloc (fun g4 => ?_)
  refine v_ops [] (hk := ?_)
  first | refine c_ifd rfl (fun h22 => ?_) (fun h22 => ?_) | refine c_ifn rfl (fun h22 => ?_) (fun h22 => ?_) | refine c_if rfl (fun h22 => ?_) (fun h22 => ?_)
  · obtain rfl : bad = true := h22
    refine v_code [] (hk := ?_)
    refine v_leave _ rfl ?_
    refine v_left [910] (.s (.one (.i .i64 0))) (.cons (.cell inferInstance rfl rfl rfl rfl) .nil) (h := ?_)
    exact ⟨by rw [tot_bad rfl]; show _ = Out.ret (.s (.one (.i .i64 (e z)))); rw [hz], B, hB, rfl⟩
  · obtain rfl : bad = false := h22
    refine v_code [] (hk := ?_)
    refine l_do d_alloc (fun g5 => ?_)
    refine v_ops [] (hk := ?_)
    refine l_defer (h := ?_)
    refine v_ops [] (hk := ?_)
    refine v_call 21500 [(7, 7), (900, 900), (901, 901), (910, 910), (911, 911), (920, 920), (921, 921), (930, 930), (931, 931)] (hask rfl) hf (hb := hfb) (hn := hfn) (h := ?_)
    rintro _ _ (⟨x, t, hp, rfl, B2, hB2, rfl⟩ | ⟨hp, rfl, o2, B2, hB2, rfl⟩)
    · refine k_ren 21500 910 rfl ?_
      refine v_ops [] (hk := ?_)
      refine v_leave _ rfl ?_
      refine v_defers (args := []) 30000 (fun x => if x = 0 then 10002 else if x = 1 then 10005 else if x = 2 then 10004 else x) (askedI1_ret g2 g4 g5 g B B2 (all.length - o) (c - o) c all.length (all.length - t.length) (e x)) Tryz.func173 (h := ?_)
      rintro _ _ _ ⟨rfl, rfl, rfl⟩
      refine k_ren 30002 10004 rfl ?_
      refine v_left [30003] (.s ((fun x => .one (.i .i64 (e x))) x)) (.cons (.cell inferInstance rfl rfl rfl rfl) .nil) (h := ?_)
      have ht := tot_yes (d := (z)) (p := p) (all := all) (s := ⟨o, false⟩) rfl hp
      exact ⟨by rw [ht], B2, by rw [ht]; exact hB2, by rw [ht]⟩
    · refine k_ren 21500 910 rfl ?_
      refine v_ex [] (hk := ?_)
      refine v_leave _ rfl ?_
      refine v_defers (args := []) 30000 (fun x => if x = 0 then 10002 else if x = 1 then 10005 else if x = 2 then 10004 else x) (askedI1_pan g2 g4 g5 g B B2 c all.length o o2) Tryz.func173 (h := ?_)
      rintro _ _ _ ⟨rfl, hu, rfl⟩
      rw [hu]
      refine k_ren 30002 10004 rfl ?_
      refine v_left [30003] (.s (.one (.i .i64 0))) (.cons (.cell inferInstance rfl rfl rfl rfl) .nil) (h := ?_)
      have ht := tot_no (d := (z)) (p := p) (all := all) (s := ⟨o, false⟩) rfl hp
      exact ⟨by rw [ht]; show _ = Out.ret (.s (.one (.i .i64 (e z)))); rw [hz], B, by rw [ht]; exact hB, by rw [ht]⟩
theorem askedI_spec2 {α : Type} (e : α → Int) (z : α) (hz : e z = 0) (p : Pr α) (g : Nat) (A B : Option Addr) (c : Nat) (all : List UInt8) (s : Rd) (f : FuncId) {fn : Func} (g0 g1 most : Nat) (hB : TailOk A c s.o B) (hf : Tryz.prog.funcs[f]? = some fn) (hask : s.bad = false → CSpec Tryz.prog f [.one (.ptr 7 ⟨g0, 0, none⟩), .one (.ptr 8 ⟨g1, 0, none⟩)] [(7, rcell g0 g), (8, Res.va g1 3 [.one (.i .i64 most)]), (911, wrow A c all)] [(910, rdr g B c all.length ⟨s.o, false⟩)] (AskPost (fun x => .one (.i .i64 (e x))) p g A c all s.o)) (hfb : fn.body.isNone = false := by rfl) (hfn : (fn.name == "runtime.NumGoroutine") = false := by rfl) : CSpec Tryz.prog 100 [.one (.ptr 910 ⟨g, 0, none⟩), .one (.fn f [.pointer (some ⟨g0, 0, none⟩), .pointer (some ⟨g1, 0, none⟩)] [7, 8])] [(7, rcell g0 g), (8, Res.va g1 3 [.one (.i .i64 most)]), (911, wrow A c all)] [(910, rdr g B c all.length s)] (RPost (fun x => .one (.i .i64 (e x))) (z) p g A c all s) := by
  obtain ⟨o, bad⟩ := s
  refine v_enterD Tryz.func100 (h := fun w0 => ?_)
  refine v_code [] (hk := ?_)
  refine l_do d_box (fun g2 => ?_)
  refine l_do d_alloc (fun g4 => ?_)
  refine v_ops [] (hk := ?_)
  first | refine c_ifd rfl (fun h22 => ?_) (fun h22 => ?_) | refine c_ifn rfl (fun h22 => ?_) (fun h22 => ?_) | refine c_if rfl (fun h22 => ?_) (fun h22 => ?_)
  · obtain rfl : bad = true := h22
    refine v_code [] (hk := ?_)
    refine v_leave _ rfl ?_
    refine v_left [910] (.s (.one (.i .i64 0))) (.cons (.cell inferInstance rfl rfl rfl rfl) .nil) (h := ?_)
    exact ⟨by rw [tot_bad rfl]; show _ = Out.ret (.s (.one (.i .i64 (e z)))); rw [hz], B, hB, rfl⟩
  · obtain rfl : bad = false := h22
    refine v_code [] (hk := ?_)
    refine l_do d_alloc (fun g5 => ?_)
    refine v_ops [] (hk := ?_)
    refine l_defer (h := ?_)
    refine v_ops [] (hk := ?_)
    refine v_call 21500 [(7, 7), (8, 8), (900, 900), (901, 901), (910, 910), (911, 911), (920, 920), (921, 921), (930, 930), (931, 931)] (hask rfl) hf (hb := hfb) (hn := hfn) (h := ?_)
    rintro _ _ (⟨x, t, hp, rfl, B2, hB2, rfl⟩ | ⟨hp, rfl, o2, B2, hB2, rfl⟩)
    · refine k_ren 21500 910 rfl ?_
      refine v_ops [] (hk := ?_)
      refine v_leave _ rfl ?_
      refine v_defers (args := []) 30000 (fun x => if x = 0 then 10002 else if x = 1 then 10005 else if x = 2 then 10004 else x) (askedI1_ret g2 g4 g5 g B B2 (all.length - o) (c - o) c all.length (all.length - t.length) (e x)) Tryz.func173 (h := ?_)
      rintro _ _ _ ⟨rfl, rfl, rfl⟩
      refine k_ren 30002 10004 rfl ?_
      refine v_left [30003] (.s ((fun x => .one (.i .i64 (e x))) x)) (.cons (.cell inferInstance rfl rfl rfl rfl) .nil) (h := ?_)
      have ht := tot_yes (d := (z)) (p := p) (all := all) (s := ⟨o, false⟩) rfl hp
      exact ⟨by rw [ht], B2, by rw [ht]; exact hB2, by rw [ht]⟩
    · refine k_ren 21500 910 rfl ?_
      refine v_ex [] (hk := ?_)
      refine v_leave _ rfl ?_
      refine v_defers (args := []) 30000 (fun x => if x = 0 then 10002 else if x = 1 then 10005 else if x = 2 then 10004 else x) (askedI1_pan g2 g4 g5 g B B2 c all.length o o2) Tryz.func173 (h := ?_)
      rintro _ _ _ ⟨rfl, hu, rfl⟩
      rw [hu]
      refine k_ren 30002 10004 rfl ?_
      refine v_left [30003] (.s (.one (.i .i64 0))) (.cons (.cell inferInstance rfl rfl rfl rfl) .nil) (h := ?_)
      have ht := tot_no (d := (z)) (p := p) (all := all) (s := ⟨o, false⟩) rfl hp
      exact ⟨by rw [ht]; show _ = Out.ret (.s (.one (.i .i64 (e z)))); rw [hz], B, by rw [ht]; exact hB, by rw [ht]⟩
theorem askedJ1_ret (g2 g4 g5 g : Nat) (B0 B : Option Addr) (n0 c0 c n o : Nat) (x : Int) : CSpecD Tryz.prog 301 [.one (.ptr 0 ⟨g2, 0, none⟩), .one (.ptr 1 ⟨g5, 0, none⟩), .one (.ptr 2 ⟨g4, 0, none⟩)] [] [(0, rcell g2 g), (1, Res.va g5 58 [.one (.sl 911 B0 n0 c0)]), (2, Res.va g4 2 [.one (.i .i64 x)]), (910, rdr g B c n ⟨o, false⟩)] .returning fun r u L => r = .ret (.tup []) ∧ u = .returning ∧ L = [rcell g2 g, Res.va g5 58 [.one (.sl 911 B0 n0 c0)], Res.va g4 2 [.one (.i .i64 x)], rdr g B c n ⟨o, false⟩] := by
  refine d_enter Tryz.func301 (h := fun w0 c₀ cs0 hu => ?_)
  refine d_seq ?_
  refine d_regionD [[0, 1, 2, 3, 4], [0, 1, 3, 2, 4], [0, 3, 1, 2, 4], [3, 0, 1, 2, 4]] (by kernel_rfl) (by kernel_rfl) ⟨?_, ?_, ?_, ?_, trivial⟩
  · refine d_rd2 (w := false) (h := ?_)
    refine d_rd2 (w := false) (h := ?_)
    refine d_rd2 (w := false) (h := ?_)
    refine d_norecover hu (h := ?_)
    refine v_call 20400 [(900, 900), (901, 901), (910, 910), (911, 911), (920, 920), (921, 921), (930, 930), (931, 931)] (caught_nil 910 g []) Tryz.func174 (h := ?_)
    rintro _ _ (⟨rfl, rfl⟩)
    refine v_ops [] (hk := ?_)
    refine v_know 13 false rfl rfl ?_
    refine v_code [] (hk := ?_)
    refine d_ret rfl [0, 1, 2, 910] (.tup []) .nil (h := ?_)
    exact ⟨rfl, rfl, rfl⟩
  · refine d_rd2 (w := false) (h := ?_)
    refine d_rd2 (w := false) (h := ?_)
    refine d_norecover hu (h := ?_)
    refine v_ops [] (hk := ?_)
    refine v_call 20400 [(900, 900), (901, 901), (910, 910), (911, 911), (920, 920), (921, 921), (930, 930), (931, 931)] (caught_nil 910 g []) Tryz.func174 (h := ?_)
    rintro _ _ (⟨rfl, rfl⟩)
    refine v_ops [] (hk := ?_)
    refine v_know 13 false rfl rfl ?_
    refine v_code [] (hk := ?_)
    refine d_ret rfl [0, 1, 2, 910] (.tup []) .nil (h := ?_)
    exact ⟨rfl, rfl, rfl⟩
  · refine d_rd2 (w := false) (h := ?_)
    refine d_norecover hu (h := ?_)
    refine v_ops [] (hk := ?_)
    refine v_call 20400 [(900, 900), (901, 901), (910, 910), (911, 911), (920, 920), (921, 921), (930, 930), (931, 931)] (caught_nil 910 g []) Tryz.func174 (h := ?_)
    rintro _ _ (⟨rfl, rfl⟩)
    refine v_ops [] (hk := ?_)
    refine v_know 13 false rfl rfl ?_
    refine v_code [] (hk := ?_)
    refine d_ret rfl [0, 1, 2, 910] (.tup []) .nil (h := ?_)
    exact ⟨rfl, rfl, rfl⟩
  · refine d_norecover hu (h := ?_)
    refine v_ops [] (hk := ?_)
    refine v_call 20400 [(900, 900), (901, 901), (910, 910), (911, 911), (920, 920), (921, 921), (930, 930), (931, 931)] (caught_nil 910 g []) Tryz.func174 (h := ?_)
    rintro _ _ (⟨rfl, rfl⟩)
    refine v_ops [] (hk := ?_)
    refine v_know 13 false rfl rfl ?_
    refine v_code [] (hk := ?_)
    refine d_ret rfl [0, 1, 2, 910] (.tup []) .nil (h := ?_)
    exact ⟨rfl, rfl, rfl⟩
theorem askedJ1_pan (g2 g4 g5 g : Nat) (B0 B : Option Addr) (c n o0 o : Nat) : CSpecD Tryz.prog 301 [.one (.ptr 0 ⟨g2, 0, none⟩), .one (.ptr 1 ⟨g5, 0, none⟩), .one (.ptr 2 ⟨g4, 0, none⟩)] [] [(0, rcell g2 g), (1, Res.va g5 58 [.one (.sl 911 B0 (n - o0) (c - o0))]), (2, Res.va g4 2 [.one (.i .i64 0)]), (910, rdr g B c n ⟨o, false⟩)] (.panicking unmet) fun r u L => r = .ret (.tup []) ∧ settle u = .returning ∧ L = [rcell g2 g, Res.va g5 58 [.one (.sl 911 B0 (n - o0) (c - o0))], Res.va g4 2 [.one (.i .i64 0)], rdr g B0 c n ⟨o0, true⟩] := by
  refine d_enter Tryz.func301 (h := fun w0 c₀ cs0 hu => ?_)
  refine d_seq ?_
  refine d_regionD [[0, 1, 2, 3, 4], [0, 1, 3, 2, 4], [0, 3, 1, 2, 4], [3, 0, 1, 2, 4]] (by kernel_rfl) (by kernel_rfl) ⟨?_, ?_, ?_, ?_, trivial⟩
  · refine d_rd2 (w := false) (h := ?_)
    refine d_rd2 (w := false) (h := ?_)
    refine d_rd2 (w := false) (h := ?_)
    refine d_recover (.s (.one (.ifv 259 (SV.agg []).den))) rfl hu (h := ?_)
    refine v_call 20400 [(900, 900), (901, 901), (910, 910), (911, 911), (920, 920), (921, 921), (930, 930), (931, 931)] (caught_unmet g B c n o false) Tryz.func174 (h := ?_)
    rintro _ _ (⟨rfl, rfl⟩)
    refine k_ren 20400 910 rfl ?_
    refine v_ops [] (hk := ?_)
    refine v_know 13 true rfl rfl ?_
    refine v_code [] (hk := ?_)
    refine d_ret rfl [0, 1, 2, 910] (.tup []) .nil (h := ?_)
    exact ⟨rfl, rfl, rfl⟩
  · refine d_rd2 (w := false) (h := ?_)
    refine d_rd2 (w := false) (h := ?_)
    refine d_recover (.s (.one (.ifv 259 (SV.agg []).den))) rfl hu (h := ?_)
    refine v_ops [] (hk := ?_)
    refine v_call 20400 [(900, 900), (901, 901), (910, 910), (911, 911), (920, 920), (921, 921), (930, 930), (931, 931)] (caught_unmet g B c n o false) Tryz.func174 (h := ?_)
    rintro _ _ (⟨rfl, rfl⟩)
    refine k_ren 20400 910 rfl ?_
    refine v_ops [] (hk := ?_)
    refine v_know 13 true rfl rfl ?_
    refine v_code [] (hk := ?_)
    refine d_ret rfl [0, 1, 2, 910] (.tup []) .nil (h := ?_)
    exact ⟨rfl, rfl, rfl⟩
  · refine d_rd2 (w := false) (h := ?_)
    refine d_recover (.s (.one (.ifv 259 (SV.agg []).den))) rfl hu (h := ?_)
    refine v_ops [] (hk := ?_)
    refine v_call 20400 [(900, 900), (901, 901), (910, 910), (911, 911), (920, 920), (921, 921), (930, 930), (931, 931)] (caught_unmet g B c n o false) Tryz.func174 (h := ?_)
    rintro _ _ (⟨rfl, rfl⟩)
    refine k_ren 20400 910 rfl ?_
    refine v_ops [] (hk := ?_)
    refine v_know 13 true rfl rfl ?_
    refine v_code [] (hk := ?_)
    refine d_ret rfl [0, 1, 2, 910] (.tup []) .nil (h := ?_)
    exact ⟨rfl, rfl, rfl⟩
  · refine d_recover (.s (.one (.ifv 259 (SV.agg []).den))) rfl hu (h := ?_)
    refine v_ops [] (hk := ?_)
    refine v_call 20400 [(900, 900), (901, 901), (910, 910), (911, 911), (920, 920), (921, 921), (930, 930), (931, 931)] (caught_unmet g B c n o false) Tryz.func174 (h := ?_)
    rintro _ _ (⟨rfl, rfl⟩)
    refine k_ren 20400 910 rfl ?_
    refine v_ops [] (hk := ?_)
    refine v_know 13 true rfl rfl ?_
    refine v_code [] (hk := ?_)
    refine d_ret rfl [0, 1, 2, 910] (.tup []) .nil (h := ?_)
    exact ⟨rfl, rfl, rfl⟩
theorem askedJ_spec1 {α : Type} (e : α → Int) (z : α) (hz : e z = 0) (p : Pr α) (g : Nat) (A B : Option Addr) (c : Nat) (all : List UInt8) (s : Rd) (f : FuncId) {fn : Func} (g0 : Nat) (hB : TailOk A c s.o B) (hf : Tryz.prog.funcs[f]? = some fn) (hask : s.bad = false → CSpec Tryz.prog f [.one (.ptr 7 ⟨g0, 0, none⟩)] [(7, rcell g0 g), (911, wrow A c all)] [(910, rdr g B c all.length ⟨s.o, false⟩)] (AskPost (fun x => .one (.i .i64 (e x))) p g A c all s.o)) (hfb : fn.body.isNone = false := by rfl) (hfn : (fn.name == "runtime.NumGoroutine") = false := by rfl) : CSpec Tryz.prog 279 [.one (.ptr 910 ⟨g, 0, none⟩), .one (.fn f [.pointer (some ⟨g0, 0, none⟩)] [7])] [(7, rcell g0 g), (911, wrow A c all)] [(910, rdr g B c all.length s)] (RPost (fun x => .one (.i .i64 (e x))) (z) p g A c all s) := by
  obtain ⟨o, bad⟩ := s
  refine v_enterD Tryz.func279 (h := fun w0 => ?_)
  refine v_code [] (hk := ?_)
  refine l_do d_box (fun g2 => ?_)
  refine l_do d_alloc (fun g4 => ?_)
  refine v_ops [] (hk := ?_)
  first | refine c_ifd rfl (fun h22 => ?_) (fun h22 => ?_) | refine c_ifn rfl (fun h22 => ?_) (fun h22 => ?_) | refine c_if rfl (fun h22 => ?_) (fun h22 => ?_)
  · obtain rfl : bad = true := h22
    refine v_code [] (hk := ?_)
    refine v_leave _ rfl ?_
    refine v_left [910] (.s (.one (.i .i64 0))) (.cons (.cell inferInstance rfl rfl rfl rfl) .nil) (h := ?_)
    exact ⟨by rw [tot_bad rfl]; show _ = Out.ret (.s (.one (.i .i64 (e z)))); rw [hz], B, hB, rfl⟩
  · obtain rfl : bad = false := h22
    refine v_code [] (hk := ?_)
    refine l_do d_alloc (fun g5 => ?_)
    refine v_ops [] (hk := ?_)
    refine l_defer (h := ?_)
    refine v_ops [] (hk := ?_)
    refine v_call 21500 [(7, 7), (900, 900), (901, 901), (910, 910), (911, 911), (920, 920), (921, 921), (930, 930), (931, 931)] (hask rfl) hf (hb := hfb) (hn := hfn) (h := ?_)
    rintro _ _ (⟨x, t, hp, rfl, B2, hB2, rfl⟩ | ⟨hp, rfl, o2, B2, hB2, rfl⟩)
    · refine k_ren 21500 910 rfl ?_
      refine v_ops [] (hk := ?_)
      refine v_leave _ rfl ?_
      refine v_defers (args := []) 30000 (fun x => if x = 0 then 10002 else if x = 1 then 10005 else if x = 2 then 10004 else x) (askedJ1_ret g2 g4 g5 g B B2 (all.length - o) (c - o) c all.length (all.length - t.length) (e x)) Tryz.func301 (h := ?_)
      rintro _ _ _ ⟨rfl, rfl, rfl⟩
      refine k_ren 30002 10004 rfl ?_
      refine v_left [30003] (.s ((fun x => .one (.i .i64 (e x))) x)) (.cons (.cell inferInstance rfl rfl rfl rfl) .nil) (h := ?_)
      have ht := tot_yes (d := (z)) (p := p) (all := all) (s := ⟨o, false⟩) rfl hp
      exact ⟨by rw [ht], B2, by rw [ht]; exact hB2, by rw [ht]⟩
    · refine k_ren 21500 910 rfl ?_
      refine v_ex [] (hk := ?_)
      refine v_leave _ rfl ?_
      refine v_defers (args := []) 30000 (fun x => if x = 0 then 10002 else if x = 1 then 10005 else if x = 2 then 10004 else x) (askedJ1_pan g2 g4 g5 g B B2 c all.length o o2) Tryz.func301 (h := ?_)
      rintro _ _ _ ⟨rfl, hu, rfl⟩
      rw [hu]
      refine k_ren 30002 10004 rfl ?_
      refine v_left [30003] (.s (.one (.i .i64 0))) (.cons (.cell inferInstance rfl rfl rfl rfl) .nil) (h := ?_)
      have ht := tot_no (d := (z)) (p := p) (all := all) (s := ⟨o, false⟩) rfl hp
      exact ⟨by rw [ht]; show _ = Out.ret (.s (.one (.i .i64 (e z)))); rw [hz], B, by rw [ht]; exact hB, by rw [ht]⟩
theorem askedU1_ret (g2 g4 g5 g : Nat) (B0 B : Option Addr) (n0 c0 c n o : Nat) (x : Int) : CSpecD Tryz.prog 304 [.one (.ptr 0 ⟨g2, 0, none⟩), .one (.ptr 1 ⟨g5, 0, none⟩), .one (.ptr 2 ⟨g4, 0, none⟩)] [] [(0, rcell g2 g), (1, Res.va g5 58 [.one (.sl 911 B0 n0 c0)]), (2, Res.va g4 73 [.one (.i .u64 x)]), (910, rdr g B c n ⟨o, false⟩)] .returning fun r u L => r = .ret (.tup []) ∧ u = .returning ∧ L = [rcell g2 g, Res.va g5 58 [.one (.sl 911 B0 n0 c0)], Res.va g4 73 [.one (.i .u64 x)], rdr g B c n ⟨o, false⟩] := by
  refine d_enter Tryz.func304 (h := fun w0 c₀ cs0 hu => ?_)
  refine d_seq ?_
  refine d_regionD [[0, 1, 2, 3, 4], [0, 1, 3, 2, 4], [0, 3, 1, 2, 4], [3, 0, 1, 2, 4]] (by kernel_rfl) (by kernel_rfl) ⟨?_, ?_, ?_, ?_, trivial⟩
  · refine d_rd2 (w := false) (h := ?_)
    refine d_rd2 (w := false) (h := ?_)
    refine d_rd2 (w := false) (h := ?_)
    refine d_norecover hu (h := ?_)
    refine v_call 20400 [(900, 900), (901, 901), (910, 910), (911, 911), (920, 920), (921, 921), (930, 930), (931, 931)] (caught_nil 910 g []) Tryz.func174 (h := ?_)
    rintro _ _ (⟨rfl, rfl⟩)
    refine v_ops [] (hk := ?_)
    refine v_know 13 false rfl rfl ?_
    refine v_code [] (hk := ?_)
    refine d_ret rfl [0, 1, 2, 910] (.tup []) .nil (h := ?_)
    exact ⟨rfl, rfl, rfl⟩
  · refine d_rd2 (w := false) (h := ?_)
    refine d_rd2 (w := false) (h := ?_)
    refine d_norecover hu (h := ?_)
    refine v_ops [] (hk := ?_)
    refine v_call 20400 [(900, 900), (901, 901), (910, 910), (911, 911), (920, 920), (921, 921), (930, 930), (931, 931)] (caught_nil 910 g []) Tryz.func174 (h := ?_)
    rintro _ _ (⟨rfl, rfl⟩)
    refine v_ops [] (hk := ?_)
    refine v_know 13 false rfl rfl ?_
    refine v_code [] (hk := ?_)
    refine d_ret rfl [0, 1, 2, 910] (.tup []) .nil (h := ?_)
    exact ⟨rfl, rfl, rfl⟩
  · refine d_rd2 (w := false) (h := ?_)
    refine d_norecover hu (h := ?_)
    refine v_ops [] (hk := ?_)
    refine v_call 20400 [(900, 900), (901, 901), (910, 910), (911, 911), (920, 920), (921, 921), (930, 930), (931, 931)] (caught_nil 910 g []) Tryz.func174 (h := ?_)
    rintro _ _ (⟨rfl, rfl⟩)
    refine v_ops [] (hk := ?_)
    refine v_know 13 false rfl rfl ?_
    refine v_code [] (hk := ?_)
    refine d_ret rfl [0, 1, 2, 910] (.tup []) .nil (h := ?_)
    exact ⟨rfl, rfl, rfl⟩
  · refine d_norecover hu (h := ?_)
    refine v_ops [] (hk := ?_)
    refine v_call 20400 [(900, 900), (901, 901), (910, 910), (911, 911), (920, 920), (921, 921), (930, 930), (931, 931)] (caught_nil 910 g []) Tryz.func174 (h := ?_)
    rintro _ _ (⟨rfl, rfl⟩)
    refine v_ops [] (hk := ?_)
    refine v_know 13 false rfl rfl ?_
    refine v_code [] (hk := ?_)
    refine d_ret rfl [0, 1, 2, 910] (.tup []) .nil (h := ?_)
    exact ⟨rfl, rfl, rfl⟩
theorem askedU1_pan (g2 g4 g5 g : Nat) (B0 B : Option Addr) (c n o0 o : Nat) : CSpecD Tryz.prog 304 [.one (.ptr 0 ⟨g2, 0, none⟩), .one (.ptr 1 ⟨g5, 0, none⟩), .one (.ptr 2 ⟨g4, 0, none⟩)] [] [(0, rcell g2 g), (1, Res.va g5 58 [.one (.sl 911 B0 (n - o0) (c - o0))]), (2, Res.va g4 73 [.one (.i .u64 0)]), (910, rdr g B c n ⟨o, false⟩)] (.panicking unmet) fun r u L => r = .ret (.tup []) ∧ settle u = .returning ∧ L = [rcell g2 g, Res.va g5 58 [.one (.sl 911 B0 (n - o0) (c - o0))], Res.va g4 73 [.one (.i .u64 0)], rdr g B0 c n ⟨o0, true⟩] := by
  refine d_enter Tryz.func304 (h := fun w0 c₀ cs0 hu => ?_)
  refine d_seq ?_
  refine d_regionD [[0, 1, 2, 3, 4], [0, 1, 3, 2, 4], [0, 3, 1, 2, 4], [3, 0, 1, 2, 4]] (by kernel_rfl) (by kernel_rfl) ⟨?_, ?_, ?_, ?_, trivial⟩
  · refine d_rd2 (w := false) (h := ?_)
    refine d_rd2 (w := false) (h := ?_)
    refine d_rd2 (w := false) (h := ?_)
    refine d_recover (.s (.one (.ifv 259 (SV.agg []).den))) rfl hu (h := ?_)
    refine v_call 20400 [(900, 900), (901, 901), (910, 910), (911, 911), (920, 920), (921, 921), (930, 930), (931, 931)] (caught_unmet g B c n o false) Tryz.func174 (h := ?_)
    rintro _ _ (⟨rfl, rfl⟩)
    refine k_ren 20400 910 rfl ?_
    refine v_ops [] (hk := ?_)
    refine v_know 13 true rfl rfl ?_
    refine v_code [] (hk := ?_)
    refine d_ret rfl [0, 1, 2, 910] (.tup []) .nil (h := ?_)
    exact ⟨rfl, rfl, rfl⟩
  · refine d_rd2 (w := false) (h := ?_)
    refine d_rd2 (w := false) (h := ?_)
    refine d_recover (.s (.one (.ifv 259 (SV.agg []).den))) rfl hu (h := ?_)
    refine v_ops [] (hk := ?_)
    refine v_call 20400 [(900, 900), (901, 901), (910, 910), (911, 911), (920, 920), (921, 921), (930, 930), (931, 931)] (caught_unmet g B c n o false) Tryz.func174 (h := ?_)
    rintro _ _ (⟨rfl, rfl⟩)
    refine k_ren 20400 910 rfl ?_
    refine v_ops [] (hk := ?_)
    refine v_know 13 true rfl rfl ?_
    refine v_code [] (hk := ?_)
    refine d_ret rfl [0, 1, 2, 910] (.tup []) .nil (h := ?_)
    exact ⟨rfl, rfl, rfl⟩
  · refine d_rd2 (w := false) (h := ?_)
    refine d_recover (.s (.one (.ifv 259 (SV.agg []).den))) rfl hu (h := ?_)
    refine v_ops [] (hk := ?_)
    refine v_call 20400 [(900, 900), (901, 901), (910, 910), (911, 911), (920, 920), (921, 921), (930, 930), (931, 931)] (caught_unmet g B c n o false) Tryz.func174 (h := ?_)
    rintro _ _ (⟨rfl, rfl⟩)
    refine k_ren 20400 910 rfl ?_
    refine v_ops [] (hk := ?_)
    refine v_know 13 true rfl rfl ?_
    refine v_code [] (hk := ?_)
    refine d_ret rfl [0, 1, 2, 910] (.tup []) .nil (h := ?_)
    exact ⟨rfl, rfl, rfl⟩
  · refine d_recover (.s (.one (.ifv 259 (SV.agg []).den))) rfl hu (h := ?_)
    refine v_ops [] (hk := ?_)
    refine v_call 20400 [(900, 900), (901, 901), (910, 910), (911, 911), (920, 920), (921, 921), (930, 930), (931, 931)] (caught_unmet g B c n o false) Tryz.func174 (h := ?_)
    rintro _ _ (⟨rfl, rfl⟩)
    refine k_ren 20400 910 rfl ?_
    refine v_ops [] (hk := ?_)
    refine v_know 13 true rfl rfl ?_
    refine v_code [] (hk := ?_)
    refine d_ret rfl [0, 1, 2, 910] (.tup []) .nil (h := ?_)
    exact ⟨rfl, rfl, rfl⟩
theorem askedU_spec1 {α : Type} (e : α → Int) (z : α) (hz : e z = 0) (p : Pr α) (g : Nat) (A B : Option Addr) (c : Nat) (all : List UInt8) (s : Rd) (f : FuncId) {fn : Func} (g0 : Nat) (hB : TailOk A c s.o B) (hf : Tryz.prog.funcs[f]? = some fn) (hask : s.bad = false → CSpec Tryz.prog f [.one (.ptr 7 ⟨g0, 0, none⟩)] [(7, rcell g0 g), (911, wrow A c all)] [(910, rdr g B c all.length ⟨s.o, false⟩)] (AskPost (fun x => .one (.i .u64 (e x))) p g A c all s.o)) (hfb : fn.body.isNone = false := by rfl) (hfn : (fn.name == "runtime.NumGoroutine") = false := by rfl) : CSpec Tryz.prog 287 [.one (.ptr 910 ⟨g, 0, none⟩), .one (.fn f [.pointer (some ⟨g0, 0, none⟩)] [7])] [(7, rcell g0 g), (911, wrow A c all)] [(910, rdr g B c all.length s)] (RPost (fun x => .one (.i .u64 (e x))) (z) p g A c all s) := by
  obtain ⟨o, bad⟩ := s
  refine v_enterD Tryz.func287 (h := fun w0 => ?_)
  refine v_code [] (hk := ?_)
  refine l_do d_box (fun g2 => ?_)
  refine l_do d_alloc (fun g4 => ?_)
  refine v_ops [] (hk := ?_)
  first | refine c_ifd rfl (fun h22 => ?_) (fun h22 => ?_) | refine c_ifn rfl (fun h22 => ?_) (fun h22 => ?_) | refine c_if rfl (fun h22 => ?_) (fun h22 => ?_)
  · obtain rfl : bad = true := h22
    refine v_code [] (hk := ?_)
    refine v_leave _ rfl ?_
    refine v_left [910] (.s (.one (.i .u64 0))) (.cons (.cell inferInstance rfl rfl rfl rfl) .nil) (h := ?_)
    exact ⟨by rw [tot_bad rfl]; show _ = Out.ret (.s (.one (.i .u64 (e z)))); rw [hz], B, hB, rfl⟩
  · obtain rfl : bad = false := h22
    refine v_code [] (hk := ?_)
    refine l_do d_alloc (fun g5 => ?_)
    refine v_ops [] (hk := ?_)
    refine l_defer (h := ?_)
    refine v_ops [] (hk := ?_)
    refine v_call 21500 [(7, 7), (900, 900), (901, 901), (910, 910), (911, 911), (920, 920), (921, 921), (930, 930), (931, 931)] (hask rfl) hf (hb := hfb) (hn := hfn) (h := ?_)
    rintro _ _ (⟨x, t, hp, rfl, B2, hB2, rfl⟩ | ⟨hp, rfl, o2, B2, hB2, rfl⟩)
    · refine k_ren 21500 910 rfl ?_
      refine v_ops [] (hk := ?_)
      refine v_leave _ rfl ?_
      refine v_defers (args := []) 30000 (fun x => if x = 0 then 10002 else if x = 1 then 10005 else if x = 2 then 10004 else x) (askedU1_ret g2 g4 g5 g B B2 (all.length - o) (c - o) c all.length (all.length - t.length) (e x)) Tryz.func304 (h := ?_)
      rintro _ _ _ ⟨rfl, rfl, rfl⟩
      refine k_ren 30002 10004 rfl ?_
      refine v_left [30003] (.s ((fun x => .one (.i .u64 (e x))) x)) (.cons (.cell inferInstance rfl rfl rfl rfl) .nil) (h := ?_)
      have ht := tot_yes (d := (z)) (p := p) (all := all) (s := ⟨o, false⟩) rfl hp
      exact ⟨by rw [ht], B2, by rw [ht]; exact hB2, by rw [ht]⟩
    · refine k_ren 21500 910 rfl ?_
      refine v_ex [] (hk := ?_)
      refine v_leave _ rfl ?_
      refine v_defers (args := []) 30000 (fun x => if x = 0 then 10002 else if x = 1 then 10005 else if x = 2 then 10004 else x) (askedU1_pan g2 g4 g5 g B B2 c all.length o o2) Tryz.func304 (h := ?_)
      rintro _ _ _ ⟨rfl, hu, rfl⟩
      rw [hu]
      refine k_ren 30002 10004 rfl ?_
      refine v_left [30003] (.s (.one (.i .u64 0))) (.cons (.cell inferInstance rfl rfl rfl rfl) .nil) (h := ?_)
      have ht := tot_no (d := (z)) (p := p) (all := all) (s := ⟨o, false⟩) rfl hp
      exact ⟨by rw [ht]; show _ = Out.ret (.s (.one (.i .u64 (e z)))); rw [hz], B, by rw [ht]; exact hB, by rw [ht]⟩
theorem askedS1_ret (g2 g4 g5 g : Nat) (B0 B : Option Addr) (n0 c0 c n o : Nat) (x : ByteArray) : CSpecD Tryz.prog 303 [.one (.ptr 0 ⟨g2, 0, none⟩), .one (.ptr 1 ⟨g5, 0, none⟩), .one (.ptr 2 ⟨g4, 0, none⟩)] [] [(0, rcell g2 g), (1, Res.va g5 58 [.one (.sl 911 B0 n0 c0)]), (2, Res.va g4 9 [.one (.s x)]), (910, rdr g B c n ⟨o, false⟩)] .returning fun r u L => r = .ret (.tup []) ∧ u = .returning ∧ L = [rcell g2 g, Res.va g5 58 [.one (.sl 911 B0 n0 c0)], Res.va g4 9 [.one (.s x)], rdr g B c n ⟨o, false⟩] := by
  refine d_enter Tryz.func303 (h := fun w0 c₀ cs0 hu => ?_)
  refine d_seq ?_
  refine d_regionD [[0, 1, 2, 3, 4], [0, 1, 3, 2, 4], [0, 3, 1, 2, 4], [3, 0, 1, 2, 4]] (by kernel_rfl) (by kernel_rfl) ⟨?_, ?_, ?_, ?_, trivial⟩
  · refine d_rd2 (w := false) (h := ?_)
    refine d_rd2 (w := false) (h := ?_)
    refine d_rd2 (w := false) (h := ?_)
    refine d_norecover hu (h := ?_)
    refine v_call 20400 [(900, 900), (901, 901), (910, 910), (911, 911), (920, 920), (921, 921), (930, 930), (931, 931)] (caught_nil 910 g []) Tryz.func174 (h := ?_)
    rintro _ _ (⟨rfl, rfl⟩)
    refine v_ops [] (hk := ?_)
    refine v_know 13 false rfl rfl ?_
    refine v_code [] (hk := ?_)
    refine d_ret rfl [0, 1, 2, 910] (.tup []) .nil (h := ?_)
    exact ⟨rfl, rfl, rfl⟩
  · refine d_rd2 (w := false) (h := ?_)
    refine d_rd2 (w := false) (h := ?_)
    refine d_norecover hu (h := ?_)
    refine v_ops [] (hk := ?_)
    refine v_call 20400 [(900, 900), (901, 901), (910, 910), (911, 911), (920, 920), (921, 921), (930, 930), (931, 931)] (caught_nil 910 g []) Tryz.func174 (h := ?_)
    rintro _ _ (⟨rfl, rfl⟩)
    refine v_ops [] (hk := ?_)
    refine v_know 13 false rfl rfl ?_
    refine v_code [] (hk := ?_)
    refine d_ret rfl [0, 1, 2, 910] (.tup []) .nil (h := ?_)
    exact ⟨rfl, rfl, rfl⟩
  · refine d_rd2 (w := false) (h := ?_)
    refine d_norecover hu (h := ?_)
    refine v_ops [] (hk := ?_)
    refine v_call 20400 [(900, 900), (901, 901), (910, 910), (911, 911), (920, 920), (921, 921), (930, 930), (931, 931)] (caught_nil 910 g []) Tryz.func174 (h := ?_)
    rintro _ _ (⟨rfl, rfl⟩)
    refine v_ops [] (hk := ?_)
    refine v_know 13 false rfl rfl ?_
    refine v_code [] (hk := ?_)
    refine d_ret rfl [0, 1, 2, 910] (.tup []) .nil (h := ?_)
    exact ⟨rfl, rfl, rfl⟩
  · refine d_norecover hu (h := ?_)
    refine v_ops [] (hk := ?_)
    refine v_call 20400 [(900, 900), (901, 901), (910, 910), (911, 911), (920, 920), (921, 921), (930, 930), (931, 931)] (caught_nil 910 g []) Tryz.func174 (h := ?_)
    rintro _ _ (⟨rfl, rfl⟩)
    refine v_ops [] (hk := ?_)
    refine v_know 13 false rfl rfl ?_
    refine v_code [] (hk := ?_)
    refine d_ret rfl [0, 1, 2, 910] (.tup []) .nil (h := ?_)
    exact ⟨rfl, rfl, rfl⟩
theorem askedS1_pan (g2 g4 g5 g : Nat) (B0 B : Option Addr) (c n o0 o : Nat) : CSpecD Tryz.prog 303 [.one (.ptr 0 ⟨g2, 0, none⟩), .one (.ptr 1 ⟨g5, 0, none⟩), .one (.ptr 2 ⟨g4, 0, none⟩)] [] [(0, rcell g2 g), (1, Res.va g5 58 [.one (.sl 911 B0 (n - o0) (c - o0))]), (2, Res.va g4 9 [.one (.s ⟨#[]⟩)]), (910, rdr g B c n ⟨o, false⟩)] (.panicking unmet) fun r u L => r = .ret (.tup []) ∧ settle u = .returning ∧ L = [rcell g2 g, Res.va g5 58 [.one (.sl 911 B0 (n - o0) (c - o0))], Res.va g4 9 [.one (.s ⟨#[]⟩)], rdr g B0 c n ⟨o0, true⟩] := by
  refine d_enter Tryz.func303 (h := fun w0 c₀ cs0 hu => ?_)
  refine d_seq ?_
  refine d_regionD [[0, 1, 2, 3, 4], [0, 1, 3, 2, 4], [0, 3, 1, 2, 4], [3, 0, 1, 2, 4]] (by kernel_rfl) (by kernel_rfl) ⟨?_, ?_, ?_, ?_, trivial⟩
  · refine d_rd2 (w := false) (h := ?_)
    refine d_rd2 (w := false) (h := ?_)
    refine d_rd2 (w := false) (h := ?_)
    refine d_recover (.s (.one (.ifv 259 (SV.agg []).den))) rfl hu (h := ?_)
    refine v_call 20400 [(900, 900), (901, 901), (910, 910), (911, 911), (920, 920), (921, 921), (930, 930), (931, 931)] (caught_unmet g B c n o false) Tryz.func174 (h := ?_)
    rintro _ _ (⟨rfl, rfl⟩)
    refine k_ren 20400 910 rfl ?_
    refine v_ops [] (hk := ?_)
    refine v_know 13 true rfl rfl ?_
    refine v_code [] (hk := ?_)
    refine d_ret rfl [0, 1, 2, 910] (.tup []) .nil (h := ?_)
    exact ⟨rfl, rfl, rfl⟩
  · refine d_rd2 (w := false) (h := ?_)
    refine d_rd2 (w := false) (h := ?_)
    refine d_recover (.s (.one (.ifv 259 (SV.agg []).den))) rfl hu (h := ?_)
    refine v_ops [] (hk := ?_)
    refine v_call 20400 [(900, 900), (901, 901), (910, 910), (911, 911), (920, 920), (921, 921), (930, 930), (931, 931)] (caught_unmet g B c n o false) Tryz.func174 (h := ?_)
    rintro _ _ (⟨rfl, rfl⟩)
    refine k_ren 20400 910 rfl ?_
    refine v_ops [] (hk := ?_)
    refine v_know 13 true rfl rfl ?_
    refine v_code [] (hk := ?_)
    refine d_ret rfl [0, 1, 2, 910] (.tup []) .nil (h := ?_)
    exact ⟨rfl, rfl, rfl⟩
  · refine d_rd2 (w := false) (h := ?_)
    refine d_recover (.s (.one (.ifv 259 (SV.agg []).den))) rfl hu (h := ?_)
    refine v_ops [] (hk := ?_)
    refine v_call 20400 [(900, 900), (901, 901), (910, 910), (911, 911), (920, 920), (921, 921), (930, 930), (931, 931)] (caught_unmet g B c n o false) Tryz.func174 (h := ?_)
    rintro _ _ (⟨rfl, rfl⟩)
    refine k_ren 20400 910 rfl ?_
    refine v_ops [] (hk := ?_)
    refine v_know 13 true rfl rfl ?_
    refine v_code [] (hk := ?_)
    refine d_ret rfl [0, 1, 2, 910] (.tup []) .nil (h := ?_)
    exact ⟨rfl, rfl, rfl⟩
  · refine d_recover (.s (.one (.ifv 259 (SV.agg []).den))) rfl hu (h := ?_)
    refine v_ops [] (hk := ?_)
    refine v_call 20400 [(900, 900), (901, 901), (910, 910), (911, 911), (920, 920), (921, 921), (930, 930), (931, 931)] (caught_unmet g B c n o false) Tryz.func174 (h := ?_)
    rintro _ _ (⟨rfl, rfl⟩)
    refine k_ren 20400 910 rfl ?_
    refine v_ops [] (hk := ?_)
    refine v_know 13 true rfl rfl ?_
    refine v_code [] (hk := ?_)
    refine d_ret rfl [0, 1, 2, 910] (.tup []) .nil (h := ?_)
    exact ⟨rfl, rfl, rfl⟩
theorem askedS_spec2 (p : Pr ByteArray) (g : Nat) (A B : Option Addr) (c : Nat) (all : List UInt8) (s : Rd) (f : FuncId) {fn : Func} (g0 g1 most : Nat) (hB : TailOk A c s.o B) (hf : Tryz.prog.funcs[f]? = some fn) (hask : s.bad = false → CSpec Tryz.prog f [.one (.ptr 7 ⟨g0, 0, none⟩), .one (.ptr 8 ⟨g1, 0, none⟩)] [(7, rcell g0 g), (8, Res.va g1 3 [.one (.i .i64 most)]), (911, wrow A c all)] [(910, rdr g B c all.length ⟨s.o, false⟩)] (AskPost encS p g A c all s.o)) (hfb : fn.body.isNone = false := by rfl) (hfn : (fn.name == "runtime.NumGoroutine") = false := by rfl) : CSpec Tryz.prog 285 [.one (.ptr 910 ⟨g, 0, none⟩), .one (.fn f [.pointer (some ⟨g0, 0, none⟩), .pointer (some ⟨g1, 0, none⟩)] [7, 8])] [(7, rcell g0 g), (8, Res.va g1 3 [.one (.i .i64 most)]), (911, wrow A c all)] [(910, rdr g B c all.length s)] (RPost encS (⟨#[]⟩) p g A c all s) := by
  obtain ⟨o, bad⟩ := s
  refine v_enterD Tryz.func285 (h := fun w0 => ?_)
  refine v_code [] (hk := ?_)
  refine l_do d_box (fun g2 => ?_)
  refine l_do d_alloc (fun g4 => ?_)
  refine v_ops [] (hk := ?_)
  first | refine c_ifd rfl (fun h22 => ?_) (fun h22 => ?_) | refine c_ifn rfl (fun h22 => ?_) (fun h22 => ?_) | refine c_if rfl (fun h22 => ?_) (fun h22 => ?_)
  · obtain rfl : bad = true := h22
    refine v_code [] (hk := ?_)
    refine v_leave _ rfl ?_
    refine v_left [910] (.s (encS (⟨#[]⟩))) (.cons (.cell inferInstance rfl rfl rfl rfl) .nil) (h := ?_)
    exact ⟨rfl, B, hB, rfl⟩
  · obtain rfl : bad = false := h22
    refine v_code [] (hk := ?_)
    refine l_do d_alloc (fun g5 => ?_)
    refine v_ops [] (hk := ?_)
    refine l_defer (h := ?_)
    refine v_ops [] (hk := ?_)
    refine v_call 21500 [(7, 7), (8, 8), (900, 900), (901, 901), (910, 910), (911, 911), (920, 920), (921, 921), (930, 930), (931, 931)] (hask rfl) hf (hb := hfb) (hn := hfn) (h := ?_)
    rintro _ _ (⟨x, t, hp, rfl, B2, hB2, rfl⟩ | ⟨hp, rfl, o2, B2, hB2, rfl⟩)
    · refine k_ren 21500 910 rfl ?_
      refine v_ops [] (hk := ?_)
      refine v_leave _ rfl ?_
      refine v_defers (args := []) 30000 (fun x => if x = 0 then 10002 else if x = 1 then 10005 else if x = 2 then 10004 else x) (askedS1_ret g2 g4 g5 g B B2 (all.length - o) (c - o) c all.length (all.length - t.length) x) Tryz.func303 (h := ?_)
      rintro _ _ _ ⟨rfl, rfl, rfl⟩
      refine k_ren 30002 10004 rfl ?_
      refine v_left [30003] (.s (encS x)) (.cons (.cell inferInstance rfl rfl rfl rfl) .nil) (h := ?_)
      have ht := tot_yes (d := (⟨#[]⟩)) (p := p) (all := all) (s := ⟨o, false⟩) rfl hp
      exact ⟨by rw [ht], B2, by rw [ht]; exact hB2, by rw [ht]⟩
    · refine k_ren 21500 910 rfl ?_
      refine v_ex [] (hk := ?_)
      refine v_leave _ rfl ?_
      refine v_defers (args := []) 30000 (fun x => if x = 0 then 10002 else if x = 1 then 10005 else if x = 2 then 10004 else x) (askedS1_pan g2 g4 g5 g B B2 c all.length o o2) Tryz.func303 (h := ?_)
      rintro _ _ _ ⟨rfl, hu, rfl⟩
      rw [hu]
      refine k_ren 30002 10004 rfl ?_
      refine v_left [30003] (.s (encS (⟨#[]⟩))) (.cons (.cell inferInstance rfl rfl rfl rfl) .nil) (h := ?_)
      have ht := tot_no (d := (⟨#[]⟩)) (p := p) (all := all) (s := ⟨o, false⟩) rfl hp
      exact ⟨by rw [ht], B, by rw [ht]; exact hB, by rw [ht]⟩
end Go.Proofs.YtfopgaijfeeioaaGreat
/- PACK: the reader, walked: its methods. -/

set_option linter.unusedVariables false
set_option linter.unusedSimpArgs false
set_option maxRecDepth 100000
namespace Go.Proofs.YtfopgaijfeeioaaGreat
open Go Go.RowKit HL
theorem rU8_spec (g : Nat) (A B : Option Addr) (c : Nat) (all : List UInt8) (s : Rd) (hB : TailOk A c s.o B) (ho : s.o ≤ all.length) (hl : all.length ≤ 70368744177664) : CSpec Tryz.prog 235 [.one (.ptr 910 ⟨g, 0, none⟩)] [(911, wrow A c all)] [(910, rdr g B c all.length s)] (RPost encN 0 (pU 1) g A c all s) := by
  refine v_enter Tryz.func235 (h := fun w0 => ?_)
  refine v_code [] (hk := ?_)
  refine l_do d_box (fun g1 => ?_)
  refine v_ops [] (hk := ?_)
  refine v_call 20250 [(7, 10001), (900, 900), (901, 901), (910, 910), (911, 911), (920, 920), (921, 921), (930, 930), (931, 931)] (askedI_spec1 (fun n : Nat => (n : Int)) 0 rfl (pU 1) g A B c all s 291 g1 hB Tryz.func291 (fun _ => askU8_spec g1 g A B c all s.o hB ho hl)) Tryz.func100 (h := ?_)
  rintro _ _ (⟨rfl, B2, hB2, rfl⟩)
  refine k_ren 20250 910 rfl ?_
  refine v_ops [] (hk := ?_)
  refine v_ret rfl [910] (.cons (.tmp rfl) .nil) (h := ?_)
  exact ⟨rfl, B2, hB2, rfl⟩
theorem rU32_spec (g : Nat) (A B : Option Addr) (c : Nat) (all : List UInt8) (s : Rd) (hB : TailOk A c s.o B) (ho : s.o ≤ all.length) (hl : all.length ≤ 70368744177664) : CSpec Tryz.prog 229 [.one (.ptr 910 ⟨g, 0, none⟩)] [(911, wrow A c all)] [(910, rdr g B c all.length s)] (RPost encN 0 (pU 4) g A c all s) := by
  refine v_enter Tryz.func229 (h := fun w0 => ?_)
  refine v_code [] (hk := ?_)
  refine l_do d_box (fun g1 => ?_)
  refine v_ops [] (hk := ?_)
  refine v_call 20250 [(7, 10001), (900, 900), (901, 901), (910, 910), (911, 911), (920, 920), (921, 921), (930, 930), (931, 931)] (askedI_spec1 (fun n : Nat => (n : Int)) 0 rfl (pU 4) g A B c all s 281 g1 hB Tryz.func281 (fun _ => askU32_spec g1 g A B c all s.o hB ho hl)) Tryz.func100 (h := ?_)
  rintro _ _ (⟨rfl, B2, hB2, rfl⟩)
  refine k_ren 20250 910 rfl ?_
  refine v_ops [] (hk := ?_)
  refine v_ret rfl [910] (.cons (.tmp rfl) .nil) (h := ?_)
  exact ⟨rfl, B2, hB2, rfl⟩
theorem rU64_spec (g : Nat) (A B : Option Addr) (c : Nat) (all : List UInt8) (s : Rd) (hB : TailOk A c s.o B) (ho : s.o ≤ all.length) (hl : all.length ≤ 70368744177664) : CSpec Tryz.prog 232 [.one (.ptr 910 ⟨g, 0, none⟩)] [(911, wrow A c all)] [(910, rdr g B c all.length s)] (RPost encU 0 (pU 8) g A c all s) := by
  refine v_enter Tryz.func232 (h := fun w0 => ?_)
  refine v_code [] (hk := ?_)
  refine l_do d_box (fun g1 => ?_)
  refine v_ops [] (hk := ?_)
  refine v_call 20250 [(7, 10001), (900, 900), (901, 901), (910, 910), (911, 911), (920, 920), (921, 921), (930, 930), (931, 931)] (askedU_spec1 (fun n : Nat => (n : Int)) 0 rfl (pU 8) g A B c all s 288 g1 hB Tryz.func288 (fun _ => askU64_spec g1 g A B c all s.o hB ho hl)) Tryz.func287 (h := ?_)
  rintro _ _ (⟨rfl, B2, hB2, rfl⟩)
  refine k_ren 20250 910 rfl ?_
  refine v_ops [] (hk := ?_)
  refine v_ret rfl [910] (.cons (.tmp rfl) .nil) (h := ?_)
  exact ⟨rfl, B2, hB2, rfl⟩
theorem rI64_spec (g : Nat) (A B : Option Addr) (c : Nat) (all : List UInt8) (s : Rd) (hB : TailOk A c s.o B) (ho : s.o ≤ all.length) (hl : all.length ≤ 70368744177664) : CSpec Tryz.prog 227 [.one (.ptr 910 ⟨g, 0, none⟩)] [(911, wrow A c all)] [(910, rdr g B c all.length s)] (RPost encZ 0 (pI) g A c all s) := by
  refine v_enter Tryz.func227 (h := fun w0 => ?_)
  refine v_code [] (hk := ?_)
  refine l_do d_box (fun g1 => ?_)
  refine v_ops [] (hk := ?_)
  refine v_call 20250 [(7, 10001), (900, 900), (901, 901), (910, 910), (911, 911), (920, 920), (921, 921), (930, 930), (931, 931)] (askedJ_spec1 (fun n : Int => n) 0 rfl (pI) g A B c all s 280 g1 hB Tryz.func280 (fun _ => askI64_spec g1 g A B c all s.o hB ho hl)) Tryz.func279 (h := ?_)
  rintro _ _ (⟨rfl, B2, hB2, rfl⟩)
  refine k_ren 20250 910 rfl ?_
  refine v_ops [] (hk := ?_)
  refine v_ret rfl [910] (.cons (.tmp rfl) .nil) (h := ?_)
  exact ⟨rfl, B2, hB2, rfl⟩
theorem rCount_spec (g : Nat) (A B : Option Addr) (c : Nat) (all : List UInt8) (s : Rd) (most : Nat) (hB : TailOk A c s.o B) (ho : s.o ≤ all.length) (hl : all.length ≤ 70368744177664) : CSpec Tryz.prog 223 [.one (.ptr 910 ⟨g, 0, none⟩), .one (.i .i64 most)] [(911, wrow A c all)] [(910, rdr g B c all.length s)] (RPost encN 0 (pCount most) g A c all s) := by
  refine v_enter Tryz.func223 (h := fun w0 => ?_)
  refine v_code [] (hk := ?_)
  refine l_do d_box (fun g2 => ?_)
  refine l_do d_box (fun g3 => ?_)
  refine v_ops [] (hk := ?_)
  refine v_call 20350 [(7, 10002), (8, 10003), (900, 900), (901, 901), (910, 910), (911, 911), (920, 920), (921, 921), (930, 930), (931, 931)] (askedI_spec2 (fun n : Nat => (n : Int)) 0 rfl (pCount most) g A B c all s 277 g2 g3 most hB Tryz.func277 (fun _ => askCount_spec g2 g A B c all s.o hB ho hl g3 most)) Tryz.func100 (h := ?_)
  rintro _ _ (⟨rfl, B2, hB2, rfl⟩)
  refine k_ren 20350 910 rfl ?_
  refine v_ops [] (hk := ?_)
  refine v_ret rfl [910] (.cons (.tmp rfl) .nil) (h := ?_)
  exact ⟨rfl, B2, hB2, rfl⟩
theorem rText_spec (g : Nat) (A B : Option Addr) (c : Nat) (all : List UInt8) (s : Rd) (most : Nat) (hB : TailOk A c s.o B) (ho : s.o ≤ all.length) (hl : all.length ≤ 70368744177664) : CSpec Tryz.prog 231 [.one (.ptr 910 ⟨g, 0, none⟩), .one (.i .i64 most)] [(911, wrow A c all)] [(910, rdr g B c all.length s)] (RPost encS ⟨#[]⟩ (pText most) g A c all s) := by
  refine v_enter Tryz.func231 (h := fun w0 => ?_)
  refine v_code [] (hk := ?_)
  refine l_do d_box (fun g2 => ?_)
  refine l_do d_box (fun g3 => ?_)
  refine v_ops [] (hk := ?_)
  refine v_call 20350 [(7, 10002), (8, 10003), (900, 900), (901, 901), (910, 910), (911, 911), (920, 920), (921, 921), (930, 930), (931, 931)] (askedS_spec2 (pText most) g A B c all s 286 g2 g3 most hB Tryz.func286 (fun _ => askText_spec g2 g A B c all s.o hB ho hl g3 most)) Tryz.func285 (h := ?_)
  rintro _ _ (⟨rfl, B2, hB2, rfl⟩)
  refine k_ren 20350 910 rfl ?_
  refine v_ops [] (hk := ?_)
  refine v_ret rfl [910] (.cons (.tmp rfl) .nil) (h := ?_)
  exact ⟨rfl, B2, hB2, rfl⟩
theorem rErr_spec (g : Nat) (B : Option Addr) (c n : Nat) (s : Rd) : CSpec Tryz.prog 31 [.one (.ptr 910 ⟨g, 0, none⟩)] [(910, rdr g B c n s)] [] fun r L => r = .ret (vint (if s.bad then 4 else 0)) ∧ L = [] := by
  obtain ⟨o, bad⟩ := s
  refine v_enter Tryz.func31 (h := fun w0 => ?_)
  refine v_code [] (hk := ?_)
  first | refine c_ifd rfl (fun h14 => ?_) (fun h14 => ?_) | refine c_ifn rfl (fun h14 => ?_) (fun h14 => ?_) | refine c_if rfl (fun h14 => ?_) (fun h14 => ?_)
  · obtain rfl : bad = true := h14
    refine v_code [] (hk := ?_)
    refine v_ret rfl [] (.cons (.tmp rfl) .nil) (h := ?_)
    exact ⟨rfl, rfl⟩
  · obtain rfl : bad = false := h14
    refine v_code [] (hk := ?_)
    refine v_ret rfl [] (.cons (.tmp rfl) .nil) (h := ?_)
    exact ⟨rfl, rfl⟩
theorem rSpoil0_spec (g : Nat) (B : Option Addr) (c n : Nat) (s : Rd) : CSpec Tryz.prog 333 [.one (.ptr 910 ⟨g, 0, none⟩)] [] [(910, rdr g B c n s)] fun r L => r = .ret (.tup []) ∧ L = [rdr g B c n ⟨s.o, true⟩] := by
  refine v_enter Tryz.func333 (h := fun w0 => ?_)
  refine v_code [] (hk := ?_)
  refine v_ret rfl [910] .nil (h := ?_)
  exact ⟨rfl, rfl⟩
theorem rSpoil_spec (g : Nat) (B : Option Addr) (c n : Nat) (s : Rd) : CSpec Tryz.prog 332 [.one (.ptr 910 ⟨g, 0, none⟩)] [] [(910, rdr g B c n s)] fun r L => r = .ret (.tup []) ∧ L = [rdr g B c n ⟨s.o, true⟩] := by
  refine v_enter Tryz.func332 (h := fun w0 => ?_)
  refine v_code [] (hk := ?_)
  refine v_call 20350 [(900, 900), (901, 901), (910, 910), (911, 911), (920, 920), (921, 921), (930, 930), (931, 931)] (rSpoil0_spec g B c n s) Tryz.func333 (h := ?_)
  rintro _ _ (⟨rfl, rfl⟩)
  refine v_ops [] (hk := ?_)
  refine v_ret rfl [20350] .nil (h := ?_)
  exact ⟨rfl, rfl⟩
theorem newReader_spec (A : Option Addr) (c n : Nat) (l : List UInt8) (hn : n = l.length) (hl : l.length ≤ 70368744177664) : CSpec Tryz.prog 26 [.one (.sl 0 A n c)] [(0, Res.rd A byteEn l)] [] fun r L => ∃ g B d, r = .ret (vp 0 ⟨g, 0, none⟩) ∧ L = [rdr g B d l.length ⟨0, false⟩, wrow B d l] := by
  refine v_enter Tryz.func26 (h := fun w0 => ?_)
  refine v_code [] (hk := ?_)
  refine v_call 20250 [(900, 900), (901, 901), (910, 910), (911, 911), (920, 920), (921, 921), (930, 930), (931, 931)] (clone_spec A c l n hn hl) Tryz.func84 (h := ?_)
  rintro _ _ (⟨B, d, rfl, rfl⟩)
  refine k_ren 20250 911 rfl ?_
  refine k_val 5 (vsl 911 B l.length d) rfl rfl ?_
  refine v_ops [] (hk := ?_)
  refine l_do d_box (fun g7 => ?_)
  refine v_ops [] (hk := ?_)
  refine k_ret [10007, 911] (vp 0 ⟨g7, 0, none⟩) (.cons (.tmp rfl) .nil) (h := ?_)
  exact ⟨g7, B, d, rfl, rfl⟩
end Go.Proofs.YtfopgaijfeeioaaGreat
