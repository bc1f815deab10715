/- slices.SortFunc, as a contract over resources. My own text over the shelf's; it names no program. -/
import Derived.Test.YtonbgcehgmpnkaaK9
import Derived.Shelf.SlSortCmp.NoneTotal
import Derived.Shelf.Lay
import Derived.Ground.SlsfProg
set_option linter.unusedVariables false
set_option linter.unusedSimpArgs false
set_option linter.unusedSectionVars false
namespace Go.Proofs.Ytonbgcehgmpnkaa
namespace HL
open Go Go.RowKit Go.Shelf Go.Lib Go.Sort
theorem flatten_get {α : Type} {k : Nat} (hk : 0 < k) : ∀ (l : List (List α)) (t : Nat), (∀ v ∈ l, v.length = k) → l.flatten[t]? = (l[t / k]?).bind fun v => v[t % k]?
  | [], t, _ => by simp
  | v :: l, t, h => by
    have hv := h v (List.mem_cons_self ..)
    rw [List.flatten_cons]
    by_cases ht : t < k
    · rw [List.getElem?_append_left (by omega), Nat.div_eq_of_lt ht, Nat.mod_eq_of_lt ht]
      rfl
    · rw [List.getElem?_append_right (by omega), hv, flatten_get hk l (t - k) (fun u hu => h u (List.mem_cons_of_mem _ hu))]
      have h1 : t / k = (t - k) / k + 1 := by
        have : t = (t - k) + k := by omega
        rw [this, Nat.add_div_right _ hk]
        simp
      have h2 : t % k = (t - k) % k := by
        have : t = (t - k) + k := by omega
        rw [this, Nat.add_mod_right]
        simp
      rw [h1, h2, List.getElem?_cons_succ]
def encE {α : Type} (E : En α) (x : α) : List Value := flat (vals (E.f x).ats)
theorem encE_len {α : Type} (E : En α) (x : α) : (encE E x).length = E.sz := by
  unfold encE
  rw [length_flat, szs_vals]
  exact (E.ok x).2
theorem dens_flatten {α : Type} (E : En α) (l : List α) : flat (E.dens l) = (l.map (encE E)).flatten := by
  unfold En.dens
  induction l with
  | nil => show flat [] = _; rw [flat_nil]; rfl
  | cons y l ih => rw [List.map_cons, flat_cons, ih, SV.cells_den]; rfl
theorem flatK_dens {α : Type} [Inhabited α] (E : En α) (l : List α) : (flatK (encE E) E.sz l.toArray).toList = flat (E.dens l) := by
  rw [dens_flatten]
  apply List.ext_getElem?
  intro t
  have hlen : (l.map (encE E)).flatten.length = l.length * E.sz := by
    induction l with
    | nil => simp
    | cons x l ih => rw [List.map_cons, List.flatten_cons, List.length_append, ih, encE_len, List.length_cons, Nat.add_mul, Nat.one_mul]; omega
  by_cases ht : t < l.length * E.sz
  · have hd : t / E.sz < l.length := (Nat.div_lt_iff_lt_mul E.pos).2 ht
    have hm : t % E.sz < E.sz := Nat.mod_lt _ E.pos
    rw [flatten_get E.pos _ t (fun v hv => by obtain ⟨x, _, rfl⟩ := List.mem_map.1 hv; exact encE_len E x)]
    rw [List.getElem?_map, List.getElem?_eq_getElem hd]
    simp only [Option.map_some, Option.bind_some]
    rw [show (encE E l[t / E.sz])[t % E.sz]? = some ((encE E l[t / E.sz])[t % E.sz]'(by rw [encE_len]; exact hm)) from List.getElem?_eq_getElem _]
    unfold flatK
    simp only [Array.toList_map, Array.toList_range, List.getElem?_map]
    rw [List.getElem?_range (by simpa using ht)]
    simp only [Option.map_some]
    congr 1
    rw [getElem!_pos l.toArray _ (by simpa using hd), getElem!_pos _ _ (by rw [encE_len]; exact hm)]
    simp
  · rw [List.getElem?_eq_none (by rw [Array.length_toList, size_flatK]; simpa using ht), List.getElem?_eq_none (by omega)]
/-- What is behind a world, none of the old blocks turned, is that world, some draws and blocks on. -/
theorem grow_of_st {w w' : World} {L : List Res} (h : St w w' No L) : ∃ q os, w' = grow (w.drewN q) os := by
  refine ⟨w'.drawn - w.drawn, w'.heap.extract w.heap.size w'.heap.size, ?_⟩
  have e1 : w'.heap = w.heap ++ w'.heap.extract w.heap.size w'.heap.size := by
    apply Array.ext_getElem?
    intro b
    by_cases hb : b < w.heap.size
    · rw [h.keep b hb id, Array.getElem?_append_left hb]
    · rw [Array.getElem?_append_right (by omega), Array.getElem?_extract]
      by_cases hb2 : b < w'.heap.size
      · rw [if_pos (by omega)]
        congr 1
        omega
      · rw [if_neg (by omega), Array.getElem?_eq_none (by omega)]
  have hd := h.drawn
  have e2 : w'.drawn = w.drawn + (w'.drawn - w.drawn) := by omega
  obtain ⟨h1, t1, d1, o1, p1⟩ := w'
  obtain ⟨h2, t2, d2, o2, p2⟩ := w
  have a1 := h.os
  have a2 := h.tape
  have a3 := h.output
  simp only at a1 a2 a3 e1 e2 hd
  subst a1 a2 a3
  unfold grow World.drewN
  simp only [World.mk.injEq]
  exact ⟨e1, trivial, e2, trivial, trivial⟩
theorem putCells_mid (F xs pre post : List Value) (h : F.length = xs.length) : putCells id pre.length F.toArray (pre ++ xs ++ post).toArray = (pre ++ F ++ post).toArray := by
  apply Array.ext_getElem?
  intro t
  unfold putCells
  rw [Array.getElem?_mapIdx]
  simp only [List.getElem?_toArray, List.size_toArray, id]
  by_cases h1 : t < pre.length
  · rw [List.append_assoc, List.append_assoc, List.getElem?_append_left h1, List.getElem?_append_left h1]
    cases hp : pre[t]? with
    | none => rfl
    | some v => simp [show ¬ pre.length ≤ t by omega]
  · by_cases h2 : t < pre.length + F.length
    · have e1 : (pre ++ xs ++ post)[t]? = xs[t - pre.length]? := by rw [List.append_assoc, List.getElem?_append_right (by omega), List.getElem?_append_left (by omega)]
      have e2 : (pre ++ F ++ post)[t]? = F[t - pre.length]? := by rw [List.append_assoc, List.getElem?_append_right (by omega), List.getElem?_append_left (by omega)]
      rw [e1, e2]
      rw [List.getElem?_eq_getElem (show t - pre.length < xs.length by omega), List.getElem?_eq_getElem (show t - pre.length < F.length by omega)]
      simp only [Option.map_some]
      rw [if_pos ⟨by omega, h2⟩]
      rw [getElem!_pos F.toArray _ (by simp; omega)]
      simp
    · have e1 : (pre ++ xs ++ post)[t]? = post[t - (pre.length + xs.length)]? := by rw [List.getElem?_append_right (by simp; omega)]; simp
      have e2 : (pre ++ F ++ post)[t]? = post[t - (pre.length + F.length)]? := by rw [List.getElem?_append_right (by simp; omega)]; simp
      rw [e1, e2, h]
      cases hp : post[t - (pre.length + xs.length)]? with
      | none => rfl
      | some v => simp [show ¬ t < pre.length + xs.length by omega]
section
variable {P : Program} {ρ : Ren} {α : Type} [Inhabited α]
/-- slices.SortFunc. -/
theorem sort_spec (L : SlLaysF0.n6 P ρ) (E : En α) (hag : E.agg = true) (aE : ∀ w, (isAgg (ρ.t 24)).run P w = .ok true w) (zE : ∀ w, (Go.sizeOf (ρ.t 24)).run P w = .ok E.sz w) (cf : α → α → Int) (hO : SWO (ltOf cf)) (hT : ∀ x y, (ltOf cf) x y = false → (ltOf cf) y x = false → x = y)
    (g : FuncId) (hc : ∀ x y, CSpec P g [E.f x, E.f y] [] [] fun o L => o = .ret (vint (cf x y)) ∧ L = []) (eg : ∀ args w, (callFunc g args).run P w = .ok (.enter g args) w) {f : FuncId} (hf : ρ.f 6 = f) (e : TypeId) (A : Option Addr) (c : Nat) (l : List α) (hl : l.length ≤ 4611686018427387903) :
    CSpec P f [.one (.sl 0 A l.length c), .one (.fn g [] [])] [] [(0, Res.rows A c e E l)] fun o L => o = .ret (.tup []) ∧ L = [Res.rows A c e E (l.mergeSort fun x y => !(ltOf cf) y x)] := fun w _ hr _ _ => by
  subst hf
  have hrow : (Res.rows A c e E l).holds w := hr _ (by simp [live])
  have hfp : (fun b => ∃ r ∈ live [(0, Res.rows A c e E l)], r.fp b) = (Res.rows A c e E l).fp := by
    have e0 : live [(0, Res.rows A c e E l)] = [Res.rows A c e E l] := live_nodup (by simp)
    funext b
    rw [e0]
    simp
  rw [hfp]
  show Calls P (ρ.f 6) #[.slice A l.length c, .func (.func g) #[] #[]] w _
  by_cases h0 : l = []
  · subst h0
    refine (AnyF.slices_SortFunc_none L A c _ w).mono fun e' w' ⟨h1, h2⟩ => ?_
    subst h2
    refine ⟨.ret (.tup []), [Res.rows A c e E []], by rw [h1]; rfl, ⟨rfl, by simp⟩, ?_⟩
    exact St.start1 hrow
  · have hrow' := hrow
    unfold Res.rows Res.row at hrow'
    obtain ⟨s1, s2, s3, s4⟩ := hrow'
    have hpos : 0 < l.length := List.length_pos_iff.2 h0
    rcases s4 with ⟨_, h2, _⟩ | ⟨b, off, pre, post, rfl, hb, hpre, hcap⟩
    · omega
    subst hpre
    have hlt : b < w.heap.size := lt_of_heap hb
    have henc : ∀ x, (E.f x).den = .agg (encE E x).toArray := fun x => by
      have h1 := (E.ok x).1
      unfold encE
      rw [hag] at h1
      have h2 := SV.cells_den (E.f x)
      have h3 := (E.f x).isAgg_den
      rw [h1] at h3
      generalize (E.f x).den = u at h2 h3 ⊢
      rw [← h2]
      cases u <;> first | (cases h3; done) | simp [Value.cells]
    have hH : HoldsK (encE E) E.sz w b pre.length l.toArray := by
      intro j hj
      rw [size_flatK] at hj
      have hj' : j < l.length * E.sz := by simpa using hj
      have e1 : (flatK (encE E) E.sz l.toArray)[j]! = (flat (E.dens l))[j]'(by rw [s1]; exact hj') := by
        rw [getElem!_pos _ _ (by rw [size_flatK]; exact hj)]
        rw [← Array.getElem_toList]
        simp only [flatK_dens]
      constructor
      · unfold World.cell?
        simp only [hb]
        rw [show (id (flatK (encE E) E.sz l.toArray)[j]!) = (flatK (encE E) E.sz l.toArray)[j]! from rfl, e1]
        simp only [Option.isSome_none, Bool.false_eq_true, if_false, List.getElem?_toArray]
        rw [List.append_assoc, List.getElem?_append_right (by omega), List.getElem?_append_left (by rw [s1]; omega)]
        rw [show pre.length + j - pre.length = j by omega]
        exact List.getElem?_eq_getElem _
      · unfold World.frozen?
        simp [hb]
    have hcmp : CmpLays P g #[] (encE E) E.sz cf b pre.length l.toArray.size w := fun m os dk _ x y => by
      have := hc x y (sortWorldK (encE E) E.sz w b pre.length m dk os) (fun i r h => by cases h) (by simp [live]) (by simp [live]) (fun i r h => by cases h)
      have e1 : ([E.f x, E.f y].map SV.den).toArray = #[.agg (encE E x).toArray, .agg (encE E y).toArray] ++ #[] := by simp [henc]
      rw [e1] at this
      refine this.mono fun e' w' ⟨o, L', he, ⟨ho, hL⟩, hst⟩ => ?_
      subst ho; subst he
      refine ⟨rfl, grow_of_st (L := L') ?_⟩
      have e2 : (fun b => ∃ r ∈ live ([] : Hp), r.fp b) = No := by funext b; simp [live]
      rw [e2] at hst
      exact hst
    have hs := AnyQ.slices_SortFunc_total L E.sz aE zE (encE E) (encE_len E) (fun x v hv => by
      have h1 := (E.f x).ok1
      rw [henc] at h1
      exact h1 v (show v ∈ (encE E x).toArray.toList from hv)) cf hO g #[] b pre.length c l.toArray w eg hcmp hH hlt (by simp; omega) hT
    rw [show l.toArray.size = l.length by simp] at hs
    refine hs.mono fun e' w' ⟨h1, n, os, h2⟩ => ?_
    subst h1
    have hperm : (l.mergeSort fun x y => !(ltOf cf) y x).length = l.length := (List.mergeSort_perm ..).length_eq
    have hF : (flatK (encE E) E.sz (l.mergeSort fun x y => !(ltOf cf) y x).toArray) = (flat (E.dens (l.mergeSort fun x y => !(ltOf cf) y x))).toArray := by
      apply Array.toList_inj.1
      rw [flatK_dens]
    have hFl : (flat (E.dens (l.mergeSort fun x y => !(ltOf cf) y x))).length = (flat (E.dens l)).length := by
      rw [s1, ← flatK_dens, Array.length_toList, size_flatK]
      simp [hperm]
    have hheap : w'.heap[b]? = some (.cells (pre ++ flat (E.dens (l.mergeSort fun x y => !(ltOf cf) y x)) ++ post).toArray e (0, 0)) := by
      rw [h2]
      unfold sortWorldK putRowK putRow mapBlock grow Sort.ahead
      simp only
      rw [Array.getElem?_append_left (by simpa using hlt), Array.getElem?_modify, if_pos rfl, hb]
      simp only [Option.map_some, onCells, hF]
      rw [putCells_mid _ _ _ _ hFl]
    refine ⟨.ret (.tup []), _, rfl, ⟨rfl, rfl⟩, ⟨?_, ?_, ?_, ?_, ?_, fun k hk hn => ?_, ?_, by simp, ?_⟩⟩
    · rw [h2]; rfl
    · rw [h2]; rfl
    · rw [h2]; rfl
    · rw [h2]; exact Nat.le_add_right _ _
    · rw [h2]
      unfold sortWorldK putRowK putRow mapBlock grow Sort.ahead
      simp
    · rw [h2]
      unfold sortWorldK putRowK putRow mapBlock grow Sort.ahead
      simp only
      have hkb : b ≠ k := fun e => hn (by subst e; unfold Res.rows; exact fp_row.2 rfl)
      rw [Array.getElem?_append_left (by simpa using hk), Array.getElem?_modify, if_neg hkb]
    · intro r hr
      obtain rfl := List.mem_singleton.1 hr
      unfold Res.rows
      refine holds_row ⟨?_, ?_, s3, .inr ⟨b, pre.length, pre, post, rfl, hheap, rfl, ?_⟩⟩
      · rw [hFl, s1, hperm]
      · rw [hperm]; exact s2
      · rw [List.length_append] at hcap ⊢; omega
    · intro r hr b' hb'
      obtain rfl := List.mem_singleton.1 hr
      refine .inl ?_
      unfold Res.rows at hb' ⊢
      exact fp_row.2 (fp_row.1 hb')
end
end HL
end Go.Proofs.Ytonbgcehgmpnkaa
