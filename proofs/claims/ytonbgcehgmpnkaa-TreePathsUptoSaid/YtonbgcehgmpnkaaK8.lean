/- SYMBOLIC STATES: maps, and going through one. My own text; it names no program. -/
import Derived.Test.YtonbgcehgmpnkaaK7
import Derived.Maps.RangeRun
set_option linter.unusedVariables false
set_option linter.unusedSimpArgs false
set_option linter.unusedSectionVars false
namespace Go.Proofs.Ytonbgcehgmpnkaa
namespace HL
open Go Go.RowKit
abbrev vm (id g : Nat) : TV := .s (.one (.mp id g))
section
variable {κ ν : Type} [DecidableEq κ]
/-- Keys that a map tells apart. -/
structure KeyOk (P : Program) (kt : TypeId) (kenc : κ → Value) : Prop where
  chk : ∀ (em : Bool) (k : κ) (w : World), (Instr.checkKey em 10000 kt (kenc k)).run P w = .ok () w
  find : ∀ {ν : Type} (venc : ν → Value) (k : κ) (w : World) (l : List (κ × ν × Nat)), (Instr.findKey kt (kenc k) (l.map (ment kenc venc))).run P w = .ok ((l.findIdx? (fun x => x.1 = k)).bind fun j => (l[j]?).map fun x => (j, venc x.2.1)) w
  stays : ∀ k w, (Instr.keyThatStays (kenc k) (kenc k)).run P w = .ok (kenc k) w
theorem KeyTy.ok {P : Program} {kt : TypeId} {kenc : κ → Value} {n : Nat} (H : KeyTy P kt kenc n) : KeyOk P kt kenc := ⟨fun em k w => H.eq.chk 10000 H.le em k w, fun venc k w l => run_findKey H k w l, fun k w => by
  unfold Instr.keyThatStays
  simp only [H.same k, if_true, Sem.run_pure]⟩
variable {P : Program} {kt et T : TypeId} {kenc : κ → Value} {venc : ν → Value} {l : List (κ × ν × Nat)} {g c : Nat} {w : World}
theorem lookupK (H : KeyOk P kt kenc) (hT : P.underlying T = some (.map kt et)) (hb : w.heap[g]? = some (mobj kenc venc l c)) {agg : Bool} {sz bytes : Nat} {z : Value} (hz : TyIs P et agg sz z bytes) (k : κ) (ok : Bool) :
    (Instr.lookup T (.map (some g)) (kenc k) ok).run P w = .ok (if ok then .tuple #[((mlook l k).map venc).getD z, .bool (mhas l k)] else ((mlook l k).map venc).getD z) w := by
  have hg : (getObj g).run P w = .ok (mobj kenc venc l c) w := by simp [getObj, Sem.run, hb, mobj]
  unfold Instr.lookup
  simp only [Sem.run_bind, run_underlying hT, Result.andThen_ok, hg, mobj, Sem.run_pure, H.chk _ k w, H.find venc k w l]
  cases hm : mlook l k with
  | none =>
    rw [idx_none hm]
    simp only [Option.bind_none, Sem.run_bind, hz.zero w, Result.andThen_ok, Sem.run_pure, Option.map_none, Option.getD_none, mhas, hm, Option.isSome_none]
  | some v =>
    obtain ⟨j, b, h1, h2⟩ := idx_some hm
    simp only [h1, Option.bind_some, h2, Option.map_some, Sem.run_bind, Result.andThen_ok, Sem.run_pure, Option.getD_some, mhas, hm, Option.isSome_some]
theorem lookupK_nil (H : KeyOk P kt kenc) (hT : P.underlying T = some (.map kt et)) {agg : Bool} {sz bytes : Nat} {z : Value} (hz : TyIs P et agg sz z bytes) (k : κ) (ok : Bool) (w : World) :
    (Instr.lookup T (.map none) (kenc k) ok).run P w = .ok (if ok then .tuple #[z, .bool false] else z) w := by
  have h0 := H.find (ν := Nat) (fun _ => undef) k w []
  simp only [List.map_nil, List.findIdx?_nil, Option.bind_none] at h0
  unfold Instr.lookup
  simp only [Sem.run_bind, run_underlying hT, Result.andThen_ok, Sem.run_pure, H.chk _ k w, h0, hz.zero w]
theorem updateK (H : KeyOk P kt kenc) (hT : P.underlying T = some (.map kt et)) (hb : w.heap[g]? = some (mobj kenc venc l c)) (k : κ) (v : ν) :
    (Instr.mapUpdate T (.map (some g)) (kenc k) (venc v)).run P w = .ok () { w with heap := w.heap.setIfInBounds g (mobj kenc venc (mput l c k v) (mclk l c k)) } := by
  have hg : (getObj g).run P w = .ok (mobj kenc venc l c) w := by simp [getObj, Sem.run, hb, mobj]
  have hs : ∀ o, (setObj g o).run P w = .ok () { w with heap := w.heap.setIfInBounds g o } := fun o => by simp [setObj, Sem.run, hb, mobj]
  unfold Instr.mapUpdate
  simp only [Sem.run_bind, run_underlying hT, Result.andThen_ok, hg, mobj, H.chk _ k w, H.find venc k w l]
  cases hm : mlook l k with
  | none =>
    rw [idx_none hm]
    simp only [Option.bind_none, hs]
    have e1 : mput l c k v = l ++ [(k, v, c)] := by simp [mput, mhas, hm]
    have e2 : mclk l c k = c + 1 := by simp [mclk, mhas, hm]
    rw [e1, e2]
    simp [ment]
  | some u =>
    obtain ⟨j, b, h1, h2⟩ := idx_some hm
    have e1 : mput l c k v = l.set j (k, v, b) := by simp only [mput, mhas, hm, Option.isSome_some, if_true]; exact mset_at v h1 h2
    have e2 : mclk l c k = c := by simp [mclk, mhas, hm]
    have h3 : (l.map (ment kenc venc))[j]? = some (ment kenc venc (k, u, b)) := by rw [List.getElem?_map, h2]; rfl
    simp only [h1, Option.bind_some, h2, Option.map_some, Sem.run_bind, List.getElem?_toArray, h3, Option.getD_some]
    have hk : (Instr.keyThatStays (ment kenc venc (k, u, b)).key (kenc k)).run P w = .ok (kenc k) w := H.stays k w
    simp only [hk, Result.andThen_ok, hs, modify_set _ _ _ _ h3]
    rw [e1, e2, List.map_set]
    rfl
end
/-! ### the rules -/
section
variable {κ ν : Type} [DecidableEq κ]
variable {P : Program} {env : Env} {D : List Deferred} {n : Nat} {w0 : World} {M : Nat → Prop} {B L : Hp}
variable {dst : Option Tmp} {d : Nat} {ty : TypeId} {pos : String} {af : Array Edge} {gd : Option (Nat × Bool)} {x y z : Operand} {T T' : TypeId}
def kdn {κ : Type} (Ek : En κ) : κ → Value := fun k => (Ek.f k).den
def Res.mp (g : Nat) (Ek : En κ) (Ev : En ν) (l : List (κ × ν × Nat)) (c : Nat) : Res := Res.map g (kdn Ek) (kdn Ev) l c
/-- A resource that has a map in it. -/
structure MapOf (R : Res) (g : Nat) (Ek : En κ) (Ev : En ν) (l : List (κ × ν × Nat)) (c : Nat) : Prop where
  m : ∀ w, R.holds w → w.heap[g]? = some (mobj (kdn Ek) (kdn Ev) l c)
theorem mapOf_mp {g c : Nat} {Ek : En κ} {Ev : En ν} {l : List (κ × ν × Nat)} : MapOf (Res.mp g Ek Ev l c) g Ek Ev l c := ⟨fun _ h => by unfold Res.mp at h; exact map_heap h⟩
class KeyT (P : Program) (kt : TypeId) {κ : outParam Type} [DecidableEq κ] (Ek : outParam (En κ)) : Prop where
  ok : KeyOk P kt (kdn Ek)
class ZeroOf {ν : Type} (Ev : En ν) (zv : outParam ν) (z : outParam SV) : Prop where
  is : (Ev.f zv).den = z.den
instance : ZeroOf boolEn false (.one (.b false)) := ⟨rfl⟩
instance {k : IntKind} : ZeroOf (intEn k) 0 (.one (.i k 0)) := ⟨rfl⟩
instance : ZeroOf strEn ⟨#[]⟩ (.one (.s ⟨#[]⟩)) := ⟨rfl⟩
instance : ZeroOf hashEn hz (.agg [.hash hz]) := ⟨rfl⟩
instance (priority := low) {P : Program} {kt : TypeId} [h : HashT P kt] : KeyT P kt hashEn := ⟨h.key.ok⟩
theorem getD_map {Ev : En ν} {zv : ν} {z : SV} (h : (Ev.f zv).den = z.den) (o : Option ν) : (o.map (kdn Ev)).getD z.den = (Ev.f (o.getD zv)).den := by
  cases o
  · exact h.symm
  · rfl
theorem r_lookup1 {kt et : TypeId} {i g c : Nat} {R : Res} {Ek : En κ} {Ev : En ν} {l : List (κ × ν × Nat)} {k : κ} {zv : ν} {agg : Bool} {sz bytes : Nat} {zz : SV} [hu : UD P T (.map kt et)] [hk : KeyT P kt Ek] [hT : TyA P et agg sz zz bytes]
    (hx : ev env x = some (vm i g) := by rfl) (hR : lk2 B L i = some R := by rfl) (hm : MapOf R g Ek Ev l c := by first | exact mapOf_mp | assumption) (hy : ev env y = some (.s (Ek.f k)) := by rfl) (hzv : ZeroOf Ev zv zz := by infer_instance) :
    Reads P ⟨dst, .lookup T x y false, ty, pos, af, gd⟩ env n B L (.s (Ev.f ((mlook l k).getD zv))) := fun a w ht hf => by
  have h1 : a.eval x = .map (some g) := ev_sound ht hx
  have h2 : a.eval y = kdn Ek k := ev_sound ht hy
  unfold execOp
  simp only [h1, h2]
  have := lookupK hk.ok hu.is (hm.m w (hf i _ hR)) hT.is k false
  simp only [Bool.false_eq_true, if_false, getD_map hzv.is] at this
  simp [Sem.run_bind, this]
  rfl
theorem r_lookup2 {kt et : TypeId} {i g c : Nat} {R : Res} {Ek : En κ} {Ev : En ν} {l : List (κ × ν × Nat)} {k : κ} {zv : ν} {agg : Bool} {sz bytes : Nat} {zz : SV} [hu : UD P T (.map kt et)] [hk : KeyT P kt Ek] [hT : TyA P et agg sz zz bytes]
    (hx : ev env x = some (vm i g) := by rfl) (hR : lk2 B L i = some R := by rfl) (hm : MapOf R g Ek Ev l c := by first | exact mapOf_mp | assumption) (hy : ev env y = some (.s (Ek.f k)) := by rfl) (hzv : ZeroOf Ev zv zz := by infer_instance) :
    Reads P ⟨dst, .lookup T x y true, ty, pos, af, gd⟩ env n B L (.tup [Ev.f ((mlook l k).getD zv), .one (.b (mhas l k))]) := fun a w ht hf => by
  have h1 : a.eval x = .map (some g) := ev_sound ht hx
  have h2 : a.eval y = kdn Ek k := ev_sound ht hy
  unfold execOp
  simp only [h1, h2]
  have := lookupK hk.ok hu.is (hm.m w (hf i _ hR)) hT.is k true
  simp only [if_true, getD_map hzv.is] at this
  simp [Sem.run_bind, this]
  rfl
theorem r_lookup1N {kt et : TypeId} {Ek : En κ} {k : κ} {agg : Bool} {sz bytes : Nat} {zz : SV} [hu : UD P T (.map kt et)] [hk : KeyT P kt Ek] [hT : TyA P et agg sz zz bytes]
    (hx : ev env x = some (.s (.one .mn)) := by rfl) (hy : ev env y = some (.s (Ek.f k)) := by rfl) :
    Reads P ⟨dst, .lookup T x y false, ty, pos, af, gd⟩ env n B L (.s zz) := fun a w ht hf => by
  have h1 : a.eval x = .map none := ev_sound ht hx
  have h2 : a.eval y = kdn Ek k := ev_sound ht hy
  unfold execOp
  simp only [h1, h2]
  have := lookupK_nil hk.ok hu.is hT.is k false w
  simp only [Bool.false_eq_true, if_false] at this
  simp [Sem.run_bind, this]
  rfl
theorem r_lookup2N {kt et : TypeId} {Ek : En κ} {k : κ} {agg : Bool} {sz bytes : Nat} {zz : SV} [hu : UD P T (.map kt et)] [hk : KeyT P kt Ek] [hT : TyA P et agg sz zz bytes]
    (hx : ev env x = some (.s (.one .mn)) := by rfl) (hy : ev env y = some (.s (Ek.f k)) := by rfl) :
    Reads P ⟨dst, .lookup T x y true, ty, pos, af, gd⟩ env n B L (.tup [zz, .one (.b false)]) := fun a w ht hf => by
  have h1 : a.eval x = .map none := ev_sound ht hx
  have h2 : a.eval y = kdn Ek k := ev_sound ht hy
  unfold execOp
  simp only [h1, h2]
  have := lookupK_nil hk.ok hu.is hT.is k true w
  simp only [if_true] at this
  simp [Sem.run_bind, this]
  rfl
theorem d_makeMap (Ek : En κ) (Ev : En ν) (hd : Nat.blt d n = true := by rfl) : Does P ⟨some d, .makeMap T none, ty, pos, af, gd⟩ env D n w0 M B L (fun g : Nat => (d, vm (10000 + d) g) :: env) (fun g => (10000 + d, Res.mp g Ek Ev [] 0) :: L) [10000 + d] :=
  ⟨fun a w K Q hs h => by
    unfold Oper.wp execOp
    have hr : (Instr.makeMap T none).run P w = .ok (.map (some w.heap.size)) (w.alloc (.map #[] 0)) := by simp [Sem.run_bind, run_makeMap]
    simp only [Option.map_none, Sem.run_bind, hr, Result.andThen_ok, Sem.run_pure]
    refine h w.heap.size _ _ ((hs.put (v := vm (10000 + d) w.heap.size) hd).to (live_new ?_))
    have := hs.st.alloc (.map #[] 0)
    unfold Res.mp Res.map mobj
    exact this, kp_one⟩
theorem d_mapUpdate {kt et : TypeId} {i g c : Nat} {Ek : En κ} {Ev : En ν} {l : List (κ × ν × Nat)} {k : κ} {v : ν} [hu : UD P T (.map kt et)] [hk : KeyT P kt Ek]
    (hx : ev env x = some (vm i g) := by rfl) (hR : lk L i = some (Res.mp g Ek Ev l c) := by rfl) (hy : ev env y = some (.s (Ek.f k)) := by rfl) (hz : ev env z = some (.s (Ev.f v)) := by rfl) :
    Does P ⟨none, .mapUpdate T x y z, ty, pos, af, gd⟩ env D n w0 M B L (fun _ : Unit => env) (fun _ => (i, Res.mp g Ek Ev (mput l c k v) (mclk l c k)) :: L) [i] :=
  ⟨fun a w K Q hs h => by
    have h1 : a.eval x = .map (some g) := ev_sound hs.tm hx
    have h2 : a.eval y = kdn Ek k := ev_sound hs.tm hy
    have h3 : a.eval z = kdn Ev v := ev_sound hs.tm hz
    have hst := live_front hs.st hR
    unfold Res.mp at hst
    have hrun := updateK (T := T) hk.ok hu.is (hst.map_get (i := 0) rfl) k v
    unfold Oper.wp execOp
    simp only [h1, h2, h3, Sem.run_bind]
    rw [hrun]
    refine h () _ _ ((hs.put0 undef).to ?_)
    rw [live_cons]
    unfold Res.mp
    exact hst.mapset (i := 0) rfl, kp_one⟩
/-! ### going through a map -/
structure MWf (l : List (κ × ν × Nat)) (c : Nat) : Prop where
  born : (l.map (·.2.2)).Nodup
  old : ∀ x ∈ l, x.2.2 < c
  keys : (l.map (·.1)).Nodup
theorem MWf.nil : MWf ([] : List (κ × ν × Nat)) 0 := ⟨List.nodup_nil, by simp, List.nodup_nil⟩
theorem mset_born (k : κ) (v : ν) : ∀ (l : List (κ × ν × Nat)), (mset l k v).map (·.2.2) = l.map (·.2.2)
  | [] => rfl
  | x :: l => by
    unfold mset
    split
    · rfl
    · simp [mset_born k v l]
theorem mset_keys (k : κ) (v : ν) : ∀ (l : List (κ × ν × Nat)), (mset l k v).map (·.1) = l.map (·.1)
  | [] => rfl
  | x :: l => by
    unfold mset
    split
    · rename_i h; simp [h]
    · simp [mset_keys k v l]
theorem mhas_keys {l : List (κ × ν × Nat)} {k : κ} : mhas l k = true ↔ k ∈ l.map (·.1) := by
  unfold mhas mlook
  rw [Option.isSome_map, List.find?_isSome]
  simp
theorem MWf.put {l : List (κ × ν × Nat)} {c : Nat} (h : MWf l c) (k : κ) (v : ν) : MWf (mput l c k v) (mclk l c k) := by
  unfold mput mclk
  cases hm : mhas l k with
  | true =>
    simp only [if_true]
    refine ⟨by rw [mset_born]; exact h.born, fun x hx => ?_, by rw [mset_keys]; exact h.keys⟩
    have : x.2.2 ∈ (mset l k v).map (·.2.2) := List.mem_map_of_mem hx
    rw [mset_born] at this
    obtain ⟨y, hy, e⟩ := List.mem_map.1 this
    rw [← e]
    exact h.old y hy
  | false =>
    simp only [Bool.false_eq_true, if_false]
    refine ⟨?_, fun x hx => ?_, ?_⟩
    · rw [List.map_append, List.nodup_append]
      refine ⟨h.born, by simp, fun a ha b hb => ?_⟩
      obtain ⟨y, hy, rfl⟩ := List.mem_map.1 ha
      simp at hb
      have := h.old y hy
      omega
    · rcases List.mem_append.1 hx with hx | hx
      · have := h.old x hx; omega
      · rw [List.mem_singleton.1 hx]; exact Nat.lt_succ_self c
    · rw [List.map_append, List.nodup_append]
      refine ⟨h.keys, by simp, fun a ha b hb => ?_⟩
      simp at hb
      rintro rfl
      subst hb
      rw [← mhas_keys] at ha
      rw [ha] at hm
      cases hm
theorem perm_same {α : Type} : ∀ {l m : List α}, l.Nodup → m.Nodup → (∀ x, x ∈ l ↔ x ∈ m) → l.Perm m
  | [], m, _, _, h => by
    cases m with
    | nil => exact .nil
    | cons x m => exact absurd ((h x).2 (List.mem_cons_self ..)) (by simp)
  | x :: l, m, hl, hm, h => by
    obtain ⟨s, t, rfl⟩ := List.append_of_mem ((h x).1 (List.mem_cons_self ..))
    refine .trans (.cons x (perm_same (m := s ++ t) (List.nodup_cons.1 hl).2 ?_ fun y => ?_)) List.perm_middle.symm
    · exact (List.nodup_cons.1 (List.perm_middle.nodup_iff.1 hm)).2
    · have h1 := (List.nodup_cons.1 hl).1
      have h2 := (List.nodup_cons.1 (List.perm_middle.nodup_iff.1 hm)).1
      have h3 := h y
      rw [List.perm_middle.mem_iff] at h3
      simp only [List.mem_cons] at h3
      constructor
      · intro hy
        rcases h3.1 (.inr hy) with rfl | h4
        · exact absurd hy h1
        · exact h4
      · intro hy
        rcases h3.2 (.inr hy) with rfl | h4
        · exact absurd hy h2
        · exact h4
theorem nodup_of_map {α β : Type} {f : α → β} {l : List α} (h : (l.map f).Nodup) : l.Nodup := by
  induction l with
  | nil => exact List.nodup_nil
  | cons x l ih =>
    rw [List.map_cons, List.nodup_cons] at h
    exact List.nodup_cons.2 ⟨fun hx => h.1 (List.mem_map_of_mem hx), ih h.2⟩
/-- A going through a map: i is the map's id, done what has come. -/
def Res.itr (i r g c : Nat) (done : List (κ × ν × Nat)) : Res := Res.blk r (.mapIter (some g) c (done.map (·.2.2)).toArray c)
theorem blk_heap {g : Nat} {o : Obj} {w : World} (h : (Res.blk g o).holds w) : w.heap[g]? = some o := by
  unfold Res.blk at h
  exact h
theorem holds_blk {g : Nat} {o : Obj} {w : World} (h : w.heap[g]? = some o) : (Res.blk g o).holds w := by
  unfold Res.blk
  exact h
theorem fp_blk {g : Nat} {o : Obj} {b : Nat} : (Res.blk g o).fp b ↔ b = g := by
  unfold Res.blk
  exact Iff.rfl
theorem itr_heap {i r g c : Nat} {done : List (κ × ν × Nat)} {w : World} (h : (Res.itr i r g c done).holds w) : w.heap[r]? = some (.mapIter (some g) c (done.map (·.2.2)).toArray c) := blk_heap h
def nextL (Ek : En κ) (Ev : En ν) : Option (κ × ν × Nat) → List SV
  | none => [.one (.b false)]
  | some e => [.one (.b true), Ek.f e.1, Ev.f e.2.1]
structure Nx (l done : List (κ × ν × Nat)) where
  o : Option (κ × ν × Nat)
  no : o = none → ∀ x ∈ l, x ∈ done
  yes : ∀ e, o = some e → e ∈ l ∧ e ∉ done
theorem d_range {kt et : TypeId} {i g c : Nat} {R : Res} {Ek : En κ} {Ev : En ν} {l : List (κ × ν × Nat)} [hu : UD P T (.map kt et)] (hd : Nat.blt d n = true := by rfl)
    (hx : ev env x = some (vm i g) := by rfl) (hR : lk2 B L i = some R := by rfl) (hm : MapOf R g Ek Ev l c := by first | exact mapOf_mp | assumption) :
    Does P ⟨some d, .range T x, ty, pos, af, gd⟩ env D n w0 M B L (fun r : Nat => (d, vp (10000 + d) ⟨r, 0, none⟩) :: env) (fun r => (10000 + d, Res.itr i r g c ([] : List (κ × ν × Nat))) :: L) [10000 + d] :=
  ⟨fun a w K Q hs h => by
    have h1 : a.eval x = .map (some g) := ev_sound hs.tm hx
    have hb := hm.m w (hs.facts i _ hR)
    have hr := run_range_map (P := P) w T kt et g _ _ hu.is hb
    unfold Oper.wp execOp
    simp only [h1, Sem.run_bind, hr, Result.andThen_ok, Sem.run_pure]
    refine h w.heap.size _ _ ((hs.put (v := vp (10000 + d) ⟨w.heap.size, 0, none⟩) hd).to (live_new ?_))
    exact hs.st.alloc (.mapIter (some g) c #[] c), kp_one⟩
theorem d_next {i j r g c : Nat} {R : Res} {Ek : En κ} {Ev : En ν} {l done : List (κ × ν × Nat)} (hx : ev env x = some (vp j ⟨r, 0, none⟩) := by rfl) (hj : lk L j = some (Res.itr i r g c done) := by rfl)
    (hR : lk2 B L i = some R := by rfl) (hm : MapOf R g Ek Ev l c := by first | exact mapOf_mp | assumption) (hw : MWf l c := by assumption) (hsub : ∀ e ∈ done, e ∈ l := by assumption) (hd : Nat.blt d n = true := by rfl) :
    Does P ⟨some d, .next x false, ty, pos, af, gd⟩ env D n w0 M B L (fun o : Nx l done => (d, .tup (nextL Ek Ev o.o)) :: env) (fun o => (j, Res.itr i r g c (done ++ o.o.toList)) :: L) [j] :=
  ⟨fun a w K Q hs h => by
    have h1 : a.eval x = .pointer (some ⟨r, 0, none⟩) := ev_sound hs.tm hx
    have hb := hm.m w (hs.facts i _ hR)
    have hst := live_front hs.st hj
    have hit : w.heap[r]? = some (.mapIter (some g) c (done.map (·.2.2)).toArray c) := itr_heap (hst.get (i := 0) rfl)
    have hseen : ∀ e : κ × ν × Nat, e ∈ l → (((done.map (·.2.2)).toArray.contains e.2.2) = true ↔ e ∈ done) := fun e he => by
      simp only [List.contains_toArray, List.contains_eq_mem, decide_eq_true_eq]
      constructor
      · intro h'
        obtain ⟨e', h2, h3⟩ := List.mem_map.1 h'
        have : e' = e := by
          obtain ⟨n1, hn1⟩ := List.getElem?_of_mem (hsub e' h2)
          obtain ⟨n2, hn2⟩ := List.getElem?_of_mem he
          have g1 : (l.map (·.2.2))[n1]? = some e.2.2 := by rw [List.getElem?_map, hn1]; exact congrArg some h3
          have g2 : (l.map (·.2.2))[n2]? = some e.2.2 := by rw [List.getElem?_map, hn2]; rfl
          have hlt := (List.getElem?_eq_some_iff.1 g1).1
          have : n1 = n2 := (List.getElem?_inj hlt hw.born).1 (g1.trans g2.symm)
          subst this
          rw [hn1] at hn2
          injection hn2
        exact this ▸ h2
      · exact fun h' => List.mem_map_of_mem h'
    unfold Oper.wp execOp
    simp only [h1, Sem.run_bind]
    rcases run_next_at (P := P) w ty r g c c _ _ c hit hb (fun e he => by
      obtain ⟨e', h2, rfl⟩ := List.mem_map.1 (show e ∈ l.map (ment (kdn Ek) (kdn Ev)) from he)
      exact hw.old e' h2) (Nat.le_refl _) with ⟨hz, hr⟩ | ⟨e, he, w1, hw1, hr⟩
    · rw [hr]
      simp only [Result.andThen_ok, Sem.run_pure]
      refine h ⟨none, fun _ e he => ?_, fun e he => by cases he⟩ _ _ ((hs.put (v := .tup (nextL Ek Ev none)) hd).to ?_)
      · rw [← hseen e he]
        have h0 : leftOf (l.map (ment (kdn Ek) (kdn Ev))).toArray (done.map (·.2.2)).toArray = #[] := Array.eq_empty_of_size_eq_zero hz
        unfold leftOf at h0
        rw [Array.filter_eq_empty_iff] at h0
        have := h0 (ment (kdn Ek) (kdn Ev) e) (by simp only [List.mem_toArray]; exact List.mem_map_of_mem he)
        simpa [ment] using this
      · rw [live_cons]
        simpa using hst
    · rw [hr]
      simp only [Result.andThen_ok, Sem.run_pure]
      unfold leftOf at he
      simp only [Array.toList_filter, List.mem_filter, List.mem_map] at he
      obtain ⟨⟨y, hy, rfl⟩, hns⟩ := he
      have hns' : y ∉ done := fun hyd => by
        have h2 := (hseen y hy).2 hyd
        have h3 : (ment (kdn Ek) (kdn Ev) y).born = y.2.2 := rfl
        rw [h3, h2] at hns
        cases hns
      refine h ⟨some y, fun h' => (by cases h'), fun e' he' => (by cases he'; exact ⟨hy, hns'⟩)⟩ _ _ ((hs.put (v := .tup (nextL Ek Ev (some y))) hd).to ?_)
      rw [live_cons]
      have hst1 : St w0 w1 M (Res.itr i r g c done :: live (del j L)) := by
        rcases hw1 with rfl | rfl
        · exact hst
        · exact hst.drew
      have e1 : (done.map (·.2.2)).toArray.push (ment (kdn Ek) (kdn Ev) y).born = ((done ++ [y]).map (·.2.2)).toArray := by simp [ment]
      rw [e1]
      have hit1 : w1.heap[r]? = some (.mapIter (some g) c (done.map (·.2.2)).toArray c) := itr_heap (hst1.get (i := 0) rfl)
      exact hst1.turn (i := 0) (r' := Res.itr i r g c (done ++ [y])) (w' := ChangeMaps.setBlock w1 r _) rfl rfl rfl rfl (by simp [ChangeMaps.setBlock]) (fun b hb' hn => Array.getElem?_setIfInBounds_ne (fun e => hn (fp_blk.2 e.symm))) (holds_blk (Array.getElem?_setIfInBounds_self_of_lt (lt_of_heap hit1))) (fun b hb' => .inl (fp_blk.2 (fp_blk.1 hb'))), kp_one⟩
theorem r_extractN {Ek : En κ} {Ev : En ν} {o : Option (κ × ν × Nat)} (hx : ev env x = some (.tup (nextL Ek Ev o)) := by rfl) : Reads P ⟨dst, .extract x 0, ty, pos, af, gd⟩ env n B L (vb o.isSome) := fun a w ht hf => by
  cases o <;> exact r_extract (l := nextL Ek Ev _) hx rfl a w ht hf
theorem r_entry {i j r g c : Nat} {R : Res} {Ek : En κ} {Ev : En ν} {l done : List (κ × ν × Nat)} {e : κ × ν × Nat} (hx : ev env x = some (vp j ⟨r, 0, none⟩) := by rfl) (hj : lk2 B L j = some (Res.itr i r g c (done ++ [e])) := by rfl)
    (hR : lk2 B L i = some R := by rfl) (hm : MapOf R g Ek Ev l c := by first | exact mapOf_mp | assumption) (hw : MWf l c := by assumption) (he : e ∈ l := by assumption) : Reads P ⟨dst, .entry x, ty, pos, af, gd⟩ env n B L (.tup [Ek.f e.1, Ev.f e.2.1]) := fun a w ht hf => by
  have h1 : a.eval x = .pointer (some ⟨r, 0, none⟩) := ev_sound ht hx
  have hb := hm.m w (hf i _ hR)
  have hit := itr_heap (hf j _ hj)
  have e1 : ((done ++ [e]).map (·.2.2)).toArray = (done.map (·.2.2)).toArray.push (ment (kdn Ek) (kdn Ev) e).born := by simp [ment]
  rw [e1] at hit
  have hr := run_entry_at (P := P) w r g c _ _ c (ment (kdn Ek) (kdn Ev) e) hit hb (by simpa using List.mem_map_of_mem he) (by
    have : (l.map (ment (kdn Ek) (kdn Ev))).toArray.toList.map (·.born) = l.map (·.2.2) := by simp [ment, Function.comp_def]
    rw [this]
    exact hw.born)
  unfold execOp
  simp only [h1, Sem.run_bind, hr, Result.andThen_ok]
  rfl
theorem l_next {ops : Array Oper} {rest : List Oper} {Q : Exit → Act → World → Prop} {i j r g c : Nat} {R : Res} {Ek : En κ} {Ev : En ν} {l done : List (κ × ν × Nat)}
    (h : ∀ o : Option (κ × ν × Nat), (o = none → ∀ x ∈ l, x ∈ done) → (∀ e, o = some e → e ∈ l ∧ e ∉ done) → Ho ((d, .tup (nextL Ek Ev o)) :: env) D n w0 M B ((j, Res.itr i r g c (done ++ o.toList)) :: L) (wpList P ops Q rest))
    (hx : ev env x = some (vp j ⟨r, 0, none⟩) := by rfl) (hj : lk L j = some (Res.itr i r g c done) := by rfl)
    (hR : lk2 B L i = some R := by rfl) (hm : MapOf R g Ek Ev l c := by first | exact mapOf_mp | assumption) (hw : MWf l c := by assumption) (hsub : ∀ e ∈ done, e ∈ l := by assumption) (hd : Nat.blt d n = true := by rfl) (hg : guarded ops env ⟨some d, .next x false, ty, pos, af, gd⟩ = some true := by rfl) :
    Ho env D n w0 M B L (wpList P ops Q (⟨some d, .next x false, ty, pos, af, gd⟩ :: rest)) :=
  l_do (d_next hx hj hR hm hw hsub hd) (fun o => h o.o o.no o.yes) hg
/-- Once all has come: what came is what is there. -/
theorem iter_perm {l done : List (κ × ν × Nat)} {c : Nat} (hw : MWf l c) (hsub : ∀ e ∈ done, e ∈ l) (hd : done.Nodup) (hall : ∀ x ∈ l, x ∈ done) : done.Perm l := perm_same hd (nodup_of_map hw.born) fun x => ⟨hsub x, hall x⟩
theorem iter_len {α : Type} {l done : List α} (hsub : ∀ e ∈ done, e ∈ l) (hd : done.Nodup) : done.length ≤ l.length := by
  induction done generalizing l with
  | nil => simp
  | cons x done ih =>
    obtain ⟨s, t, rfl⟩ := List.append_of_mem (hsub x (List.mem_cons_self ..))
    have hx := List.nodup_cons.1 hd
    have := ih (l := s ++ t) (fun e he => by
      have h1 := hsub e (List.mem_cons_of_mem _ he)
      simp only [List.mem_append, List.mem_cons] at h1 ⊢
      rcases h1 with h1 | rfl | h1
      · exact .inl h1
      · exact absurd he hx.1
      · exact .inr h1) hx.2
    simp only [List.length_append, List.length_cons] at this ⊢
    omega
theorem iter_snoc {α : Type} {l done : List α} {e : α} (hsub : ∀ e ∈ done, e ∈ l) (hd : done.Nodup) (he : e ∈ l) (hn : e ∉ done) : (∀ x ∈ done ++ [e], x ∈ l) ∧ (done ++ [e]).Nodup ∧ done.length + 1 ≤ l.length := by
  have h1 : ∀ x ∈ done ++ [e], x ∈ l := fun x hx => by
    rcases List.mem_append.1 hx with h | h
    · exact hsub x h
    · rw [List.mem_singleton.1 h]; exact he
  have h2 : (done ++ [e]).Nodup := by
    rw [List.nodup_append]
    refine ⟨hd, by simp, fun a ha b hb => ?_⟩
    rw [List.mem_singleton.1 hb]
    rintro rfl
    exact hn ha
  refine ⟨h1, h2, ?_⟩
  have := iter_len h1 h2
  simpa using this
/-- More that is borrowed: a part of what is there. -/
theorem k_part (i j : Nat) {R : Res} (r : Res) {K : Act → World → Prop} (hr : lk B i = some R := by rfl) (hv : View R r := by assumption) (h : Ho env D n w0 M ((j, r) :: B) L K) : Ho env D n w0 M B L K := fun a w hs =>
  h a w ⟨hs.tm, hs.df, hs.st, fun k q hq => by
    rw [lk_cons] at hq
    split at hq
    · injection hq with hq
      subst hq
      obtain ⟨h1, h2⟩ := hs.bo i R hr
      exact ⟨hv.h w h1, fun b hb => h2 b (hv.f b hb)⟩
    · exact hs.bo k q hq⟩
/-! ### flags, and more of strings -/
theorem eqGuard_bool (o : BinOp) (p q : Bool) (w : World) : (eqGuard o T x y (.bool p) (.bool q)).run P w = .ok () w := by
  unfold eqGuard
  cases o <;> simp
theorem r_boolOp {o : BinOp} {p q r : Bool} (hx : ev env x = some (vb p)) (hy : ev env y = some (vb q)) (h : ∀ w, (binOp o T (.bool p) (.bool q)).run P w = .ok (.bool r) w) : Reads P ⟨dst, .binOp o T x y T', ty, pos, af, gd⟩ env n B L (vb r) := fun a w ht _ => by
  unfold execOp
  have h1 : a.eval x = .bool p := ev_sound ht hx
  have h2 : a.eval y = .bool q := ev_sound ht hy
  simp only [h1, h2]
  rw [Sem.run_bind, Sem.run_bind, eqGuard_bool, Result.andThen_ok, h w]
  rfl
theorem r_eqB {p q : Bool} [hT : UD P T .bool] (hx : ev env x = some (vb p) := by rfl) (hy : ev env y = some (vb q) := by rfl) : Reads P ⟨dst, .binOp .eql T x y T', ty, pos, af, gd⟩ env n B L (vb (p == q)) := r_boolOp hx hy fun w => run_eql_bool w T p q hT.is
theorem r_neB {p q : Bool} [hT : UD P T .bool] (hx : ev env x = some (vb p) := by rfl) (hy : ev env y = some (vb q) := by rfl) : Reads P ⟨dst, .binOp .neq T x y T', ty, pos, af, gd⟩ env n B L (vb (!(p == q))) := r_boolOp hx hy fun w => run_neq_bool w T p q hT.is
theorem r_geqS {p q : ByteArray} (hx : ev env x = some (vs p) := by rfl) (hy : ev env y = some (vs q) := by rfl) : Reads P ⟨dst, .binOp .geq T x y T', ty, pos, af, gd⟩ env n B L (vb (!decide (bltS p q))) := r_strOp hx hy fun w => by simp only [binOp, Op.stringOp, toList_data, bytesLess_bcmp]; rfl
theorem cmp_or (x y : List UInt8) : (decide (bcmp x y < 0) || x == y) = !decide (bcmp y x < 0) := by
  rw [bcmp_swap x y]
  by_cases e : x = y
  · subst e
    simp [bcmp_refl]
  · have h1 : bcmp x y ≠ 0 := fun h => e (bcmp_eq h)
    have h2 : (x == y) = false := by simpa using e
    rw [h2, Bool.or_false]
    by_cases h : bcmp x y < 0
    · rw [decide_eq_true h, decide_eq_false (by omega)]
      rfl
    · rw [decide_eq_false h, decide_eq_true (by omega)]
      rfl
theorem r_gtrS {p q : ByteArray} (hx : ev env x = some (vs p) := by rfl) (hy : ev env y = some (vs q) := by rfl) : Reads P ⟨dst, .binOp .gtr T x y T', ty, pos, af, gd⟩ env n B L (vb (decide (bltS q p))) := r_strOp hx hy fun w => by
  simp only [binOp, Op.stringOp, toList_data, bytesLess_bcmp]
  rw [cmp_or, Bool.not_not]
  rfl
theorem r_leqS {p q : ByteArray} (hx : ev env x = some (vs p) := by rfl) (hy : ev env y = some (vs q) := by rfl) : Reads P ⟨dst, .binOp .leq T x y T', ty, pos, af, gd⟩ env n B L (vb (!decide (bltS q p))) := r_strOp hx hy fun w => by
  simp only [binOp, Op.stringOp, toList_data, bytesLess_bcmp]
  rw [cmp_or]
  rfl
end
end HL
end Go.Proofs.Ytonbgcehgmpnkaa
