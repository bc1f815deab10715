/- Lemmas and walks: VS, W9, WA, WB, N4, WC, N5, WD, WE, WF, N6, WG, WH, WI, N7, WJ, N8, WK, WL, VT, N9, WM, NA, P1, P2, A1, A2, A3, A4, A5, VU, B1. -/
import Derived.Test.YtlnckcgbpilmdaaGreatZ2
import Derived.Shelf.SlSortCmp.NoneTotal
import Derived.Shelf.Lay
import Derived.Ground.SlsfProg
import Derived.Test.YtlnckcgbpilmdaaGreatZ5
import Derived.Test.YtlnckcgbpilmdaaGreatZ3
/- slices.SortFunc, as a contract over resources. My own text over the shelf's; it names no program. -/




set_option linter.unusedVariables false
set_option linter.unusedSimpArgs false
set_option linter.unusedSectionVars false
namespace Go.Proofs.YtlnckcgbpilmdaaGreat
namespace HL
open Go Go.RowKit Go.Shelf Go.Lib Go.Sort
theorem flatten_get {α : Type} {k : Nat} (hk : 0 < k) : ∀ (l : List (List α)) (t : Nat), (∀ v ∈ l, v.length = k) → l.flatten[t]? = (l[t / k]?).bind fun v => v[t % k]?
  | [], t, _ => by simp
  | v :: l, t, h => by
    have hv := h v (List.mem_cons_self ..)
    rw [List.flatten_cons]
    by_cases ht : t < k
    · rw [List.getElem?_append_left (by omega), Nat.div_eq_of_lt ht, Nat.mod_eq_of_lt ht]
      rfl
    · rw [List.getElem?_append_right (by omega), hv, flatten_get hk l (t - k) (fun u hu => h u (List.mem_cons_of_mem _ hu))]
      have h1 : t / k = (t - k) / k + 1 := by
        have : t = (t - k) + k := by omega
        rw [this, Nat.add_div_right _ hk]
        simp
      have h2 : t % k = (t - k) % k := by
        have : t = (t - k) + k := by omega
        rw [this, Nat.add_mod_right]
        simp
      rw [h1, h2, List.getElem?_cons_succ]
def encE {α : Type} (E : En α) (x : α) : List Value := flat (vals (E.f x).ats)
theorem encE_len {α : Type} (E : En α) (x : α) : (encE E x).length = E.sz := by
  unfold encE
  rw [length_flat, szs_vals]
  exact (E.ok x).2
theorem dens_flatten {α : Type} (E : En α) (l : List α) : flat (E.dens l) = (l.map (encE E)).flatten := by
  unfold En.dens
  induction l with
  | nil => show flat [] = _; rw [flat_nil]; rfl
  | cons y l ih => rw [List.map_cons, flat_cons, ih, SV.cells_den]; rfl
theorem flatK_dens {α : Type} [Inhabited α] (E : En α) (l : List α) : (flatK (encE E) E.sz l.toArray).toList = flat (E.dens l) := by
  rw [dens_flatten]
  apply List.ext_getElem?
  intro t
  have hlen : (l.map (encE E)).flatten.length = l.length * E.sz := by
    induction l with
    | nil => simp
    | cons x l ih => rw [List.map_cons, List.flatten_cons, List.length_append, ih, encE_len, List.length_cons, Nat.add_mul, Nat.one_mul]; omega
  by_cases ht : t < l.length * E.sz
  · have hd : t / E.sz < l.length := (Nat.div_lt_iff_lt_mul E.pos).2 ht
    have hm : t % E.sz < E.sz := Nat.mod_lt _ E.pos
    rw [flatten_get E.pos _ t (fun v hv => by obtain ⟨x, _, rfl⟩ := List.mem_map.1 hv; exact encE_len E x)]
    rw [List.getElem?_map, List.getElem?_eq_getElem hd]
    simp only [Option.map_some, Option.bind_some]
    rw [show (encE E l[t / E.sz])[t % E.sz]? = some ((encE E l[t / E.sz])[t % E.sz]'(by rw [encE_len]; exact hm)) from List.getElem?_eq_getElem _]
    unfold flatK
    simp only [Array.toList_map, Array.toList_range, List.getElem?_map]
    rw [List.getElem?_range (by simpa using ht)]
    simp only [Option.map_some]
    congr 1
    rw [getElem!_pos l.toArray _ (by simpa using hd), getElem!_pos _ _ (by rw [encE_len]; exact hm)]
    simp
  · rw [List.getElem?_eq_none (by rw [Array.length_toList, size_flatK]; simpa using ht), List.getElem?_eq_none (by omega)]
theorem grow_of_st {w w' : World} {L : List Res} (h : St w w' No L) : ∃ q os, w' = grow (w.drewN q) os := by
  refine ⟨w'.drawn - w.drawn, w'.heap.extract w.heap.size w'.heap.size, ?_⟩
  have e1 : w'.heap = w.heap ++ w'.heap.extract w.heap.size w'.heap.size := by
    apply Array.ext_getElem?
    intro b
    by_cases hb : b < w.heap.size
    · rw [h.keep b hb id, Array.getElem?_append_left hb]
    · rw [Array.getElem?_append_right (by omega), Array.getElem?_extract]
      by_cases hb2 : b < w'.heap.size
      · rw [if_pos (by omega)]
        congr 1
        omega
      · rw [if_neg (by omega), Array.getElem?_eq_none (by omega)]
  have hd := h.drawn
  have e2 : w'.drawn = w.drawn + (w'.drawn - w.drawn) := by omega
  obtain ⟨h1, t1, d1, o1, p1⟩ := w'
  obtain ⟨h2, t2, d2, o2, p2⟩ := w
  have a1 := h.os
  have a2 := h.tape
  have a3 := h.output
  simp only at a1 a2 a3 e1 e2 hd
  subst a1 a2 a3
  unfold grow World.drewN
  simp only [World.mk.injEq]
  exact ⟨e1, trivial, e2, trivial, trivial⟩
theorem putCells_mid (F xs pre post : List Value) (h : F.length = xs.length) : putCells id pre.length F.toArray (pre ++ xs ++ post).toArray = (pre ++ F ++ post).toArray := by
  apply Array.ext_getElem?
  intro t
  unfold putCells
  rw [Array.getElem?_mapIdx]
  simp only [List.getElem?_toArray, List.size_toArray, id]
  by_cases h1 : t < pre.length
  · rw [List.append_assoc, List.append_assoc, List.getElem?_append_left h1, List.getElem?_append_left h1]
    cases hp : pre[t]? with
    | none => rfl
    | some v => simp [show ¬ pre.length ≤ t by omega]
  · by_cases h2 : t < pre.length + F.length
    · have e1 : (pre ++ xs ++ post)[t]? = xs[t - pre.length]? := by rw [List.append_assoc, List.getElem?_append_right (by omega), List.getElem?_append_left (by omega)]
      have e2 : (pre ++ F ++ post)[t]? = F[t - pre.length]? := by rw [List.append_assoc, List.getElem?_append_right (by omega), List.getElem?_append_left (by omega)]
      rw [e1, e2]
      rw [List.getElem?_eq_getElem (show t - pre.length < xs.length by omega), List.getElem?_eq_getElem (show t - pre.length < F.length by omega)]
      simp only [Option.map_some]
      rw [if_pos ⟨by omega, h2⟩]
      rw [getElem!_pos F.toArray _ (by simp; omega)]
      simp
    · have e1 : (pre ++ xs ++ post)[t]? = post[t - (pre.length + xs.length)]? := by rw [List.getElem?_append_right (by simp; omega)]; simp
      have e2 : (pre ++ F ++ post)[t]? = post[t - (pre.length + F.length)]? := by rw [List.getElem?_append_right (by simp; omega)]; simp
      rw [e1, e2, h]
      cases hp : post[t - (pre.length + xs.length)]? with
      | none => rfl
      | some v => simp [show ¬ t < pre.length + xs.length by omega]
section
variable {P : Program} {ρ : Ren} {α : Type} [Inhabited α]
theorem sort_spec (L : SlLaysF0.n6 P ρ) (E : En α) (hag : E.agg = true) (aE : ∀ w, (isAgg (ρ.t 24)).run P w = .ok true w) (zE : ∀ w, (Go.sizeOf (ρ.t 24)).run P w = .ok E.sz w) (cf : α → α → Int) (hO : SWO (ltOf cf)) (hT : ∀ x y, (ltOf cf) x y = false → (ltOf cf) y x = false → x = y)
    (g : FuncId) (hc : ∀ x y, CSpec P g [E.f x, E.f y] [] [] fun o L => o = .ret (vint (cf x y)) ∧ L = []) (eg : ∀ args w, (callFunc g args).run P w = .ok (.enter g args) w) {f : FuncId} (hf : ρ.f 6 = f) (e : TypeId) (A : Option Addr) (c : Nat) (l : List α) (hl : l.length ≤ 4611686018427387903) :
    CSpec P f [.one (.sl 0 A l.length c), .one (.fn g [] [])] [] [(0, Res.rows A c e E l)] fun o L => o = .ret (.tup []) ∧ L = [Res.rows A c e E (l.mergeSort fun x y => !(ltOf cf) y x)] := fun w _ hr _ _ => by
  subst hf
  have hrow : (Res.rows A c e E l).holds w := hr _ (by simp [live])
  have hfp : (fun b => ∃ r ∈ live [(0, Res.rows A c e E l)], r.fp b) = (Res.rows A c e E l).fp := by
    have e0 : live [(0, Res.rows A c e E l)] = [Res.rows A c e E l] := live_nodup (by simp)
    funext b
    rw [e0]
    simp
  rw [hfp]
  show Calls P (ρ.f 6) #[.slice A l.length c, .func (.func g) #[] #[]] w _
  by_cases h0 : l = []
  · subst h0
    refine (AnyF.slices_SortFunc_none L A c _ w).mono fun e' w' ⟨h1, h2⟩ => ?_
    subst h2
    refine ⟨.ret (.tup []), [Res.rows A c e E []], by rw [h1]; rfl, ⟨rfl, by simp⟩, ?_⟩
    exact St.start1 hrow
  · have hrow' := hrow
    unfold Res.rows Res.row at hrow'
    obtain ⟨s1, s2, s3, s4⟩ := hrow'
    have hpos : 0 < l.length := List.length_pos_iff.2 h0
    rcases s4 with ⟨_, h2, _⟩ | ⟨b, off, pre, post, rfl, hb, hpre, hcap⟩
    · omega
    subst hpre
    have hlt : b < w.heap.size := lt_of_heap hb
    have henc : ∀ x, (E.f x).den = .agg (encE E x).toArray := fun x => by
      have h1 := (E.ok x).1
      unfold encE
      rw [hag] at h1
      have h2 := SV.cells_den (E.f x)
      have h3 := (E.f x).isAgg_den
      rw [h1] at h3
      generalize (E.f x).den = u at h2 h3 ⊢
      rw [← h2]
      cases u <;> first | (cases h3; done) | simp [Value.cells]
    have hH : HoldsK (encE E) E.sz w b pre.length l.toArray := by
      intro j hj
      rw [size_flatK] at hj
      have hj' : j < l.length * E.sz := by simpa using hj
      have e1 : (flatK (encE E) E.sz l.toArray)[j]! = (flat (E.dens l))[j]'(by rw [s1]; exact hj') := by
        rw [getElem!_pos _ _ (by rw [size_flatK]; exact hj)]
        rw [← Array.getElem_toList]
        simp only [flatK_dens]
      constructor
      · unfold World.cell?
        simp only [hb]
        rw [show (id (flatK (encE E) E.sz l.toArray)[j]!) = (flatK (encE E) E.sz l.toArray)[j]! from rfl, e1]
        simp only [Option.isSome_none, Bool.false_eq_true, if_false, List.getElem?_toArray]
        rw [List.append_assoc, List.getElem?_append_right (by omega), List.getElem?_append_left (by rw [s1]; omega)]
        rw [show pre.length + j - pre.length = j by omega]
        exact List.getElem?_eq_getElem _
      · unfold World.frozen?
        simp [hb]
    have hcmp : CmpLays P g #[] (encE E) E.sz cf b pre.length l.toArray.size w := fun m os dk _ x y => by
      have := hc x y (sortWorldK (encE E) E.sz w b pre.length m dk os) (fun i r h => by cases h) (by simp [live]) (by simp [live]) (fun i r h => by cases h)
      have e1 : ([E.f x, E.f y].map SV.den).toArray = #[.agg (encE E x).toArray, .agg (encE E y).toArray] ++ #[] := by simp [henc]
      rw [e1] at this
      refine this.mono fun e' w' ⟨o, L', he, ⟨ho, hL⟩, hst⟩ => ?_
      subst ho; subst he
      refine ⟨rfl, grow_of_st (L := L') ?_⟩
      have e2 : (fun b => ∃ r ∈ live ([] : Hp), r.fp b) = No := by funext b; simp [live]
      rw [e2] at hst
      exact hst
    have hs := AnyQ.slices_SortFunc_total L E.sz aE zE (encE E) (encE_len E) (fun x v hv => by
      have h1 := (E.f x).ok1
      rw [henc] at h1
      exact h1 v (show v ∈ (encE E x).toArray.toList from hv)) cf hO g #[] b pre.length c l.toArray w eg hcmp hH hlt (by simp; omega) hT
    rw [show l.toArray.size = l.length by simp] at hs
    refine hs.mono fun e' w' ⟨h1, n, os, h2⟩ => ?_
    subst h1
    have hperm : (l.mergeSort fun x y => !(ltOf cf) y x).length = l.length := (List.mergeSort_perm ..).length_eq
    have hF : (flatK (encE E) E.sz (l.mergeSort fun x y => !(ltOf cf) y x).toArray) = (flat (E.dens (l.mergeSort fun x y => !(ltOf cf) y x))).toArray := by
      apply Array.toList_inj.1
      rw [flatK_dens]
    have hFl : (flat (E.dens (l.mergeSort fun x y => !(ltOf cf) y x))).length = (flat (E.dens l)).length := by
      rw [s1, ← flatK_dens, Array.length_toList, size_flatK]
      simp [hperm]
    have hheap : w'.heap[b]? = some (.cells (pre ++ flat (E.dens (l.mergeSort fun x y => !(ltOf cf) y x)) ++ post).toArray e (0, 0)) := by
      rw [h2]
      unfold sortWorldK putRowK putRow mapBlock grow Sort.ahead
      simp only
      rw [Array.getElem?_append_left (by simpa using hlt), Array.getElem?_modify, if_pos rfl, hb]
      simp only [Option.map_some, onCells, hF]
      rw [putCells_mid _ _ _ _ hFl]
    refine ⟨.ret (.tup []), _, rfl, ⟨rfl, rfl⟩, ⟨?_, ?_, ?_, ?_, ?_, fun k hk hn => ?_, ?_, by simp, ?_⟩⟩
    · rw [h2]; rfl
    · rw [h2]; rfl
    · rw [h2]; rfl
    · rw [h2]; exact Nat.le_add_right _ _
    · rw [h2]
      unfold sortWorldK putRowK putRow mapBlock grow Sort.ahead
      simp
    · rw [h2]
      unfold sortWorldK putRowK putRow mapBlock grow Sort.ahead
      simp only
      have hkb : b ≠ k := fun e => hn (by subst e; unfold Res.rows; exact fp_row.2 rfl)
      rw [Array.getElem?_append_left (by simpa using hk), Array.getElem?_modify, if_neg hkb]
    · intro r hr
      obtain rfl := List.mem_singleton.1 hr
      unfold Res.rows
      refine holds_row ⟨?_, ?_, s3, .inr ⟨b, pre.length, pre, post, rfl, hheap, rfl, ?_⟩⟩
      · rw [hFl, s1, hperm]
      · rw [hperm]; exact s2
      · rw [List.length_append] at hcap ⊢; omega
    · intro r hr b' hb'
      obtain rfl := List.mem_singleton.1 hr
      refine .inl ?_
      unfold Res.rows at hb' ⊢
      exact fp_row.2 (fp_row.1 hb')
end
end HL
end Go.Proofs.YtlnckcgbpilmdaaGreat
/- Assets in order: rising. -/


set_option linter.unusedVariables false
set_option linter.unusedSimpArgs false
set_option maxRecDepth 100000
set_option maxHeartbeats 8000000
namespace Go.Proofs.YtlnckcgbpilmdaaGreat
open Go Go.RowKit Go.Shelf Go.Lib Go.Sort HL
shelf_lay_g SlLaysF0.n6 Slsf 6 at Tryz 92 as Tryz.sortAsset
instance : Inhabited NameP := ⟨⟨hz, ⟨#[]⟩⟩⟩
theorem ltOf_nord (a b : NameP) : ltOf nord a b = decide (nord a b < 0) := rfl
theorem nord_swo : SWO (ltOf nord) where
  irrefl x := by rw [ltOf_nord]; exact decide_eq_false nord_irrefl
  trans x y z h1 h2 := by
    rw [ltOf_nord, decide_eq_true_eq] at *
    exact nord_trans h1 h2
  ntrans x y z h1 h2 := by
    rw [ltOf_nord, decide_eq_false_iff_not] at *
    intro h3
    rcases nord_tri x y with h | rfl | h
    · exact h1 h
    · exact h2 h3
    · exact h2 (nord_trans h h3)
theorem nord_total (x y : NameP) (h1 : ltOf nord x y = false) (h2 : ltOf nord y x = false) : x = y := by
  rw [ltOf_nord, decide_eq_false_iff_not] at *
  rcases nord_tri x y with h | h | h
  · exact absurd h h1
  · exact h
  · exact absurd h h2
def nle (x y : NameP) : Bool := !(ltOf nord) y x
def sortN (l : List NameP) : List NameP := l.mergeSort nle
theorem sortN_perm (l : List NameP) : (sortN l).Perm l := List.mergeSort_perm l _
theorem sortN_sorted (l : List NameP) : (sortN l).Pairwise fun a b => nle a b = true :=
  List.pairwise_mergeSort (fun a b c h1 h2 => by
    unfold nle at *
    rw [Bool.not_eq_true'] at *
    exact nord_swo.ntrans _ _ _ h2 h1) (fun a b => by
    unfold nle
    rw [ltOf_nord, ltOf_nord, Bool.or_eq_true, Bool.not_eq_true', Bool.not_eq_true', decide_eq_false_iff_not, decide_eq_false_iff_not]
    by_cases h : nord b a < 0
    · exact .inr (nord_asymm h)
    · exact .inl h) l
theorem sortN_lt {l : List NameP} (hn : l.Nodup) : (sortN l).Pairwise fun a b => nord a b < 0 := by
  have h1 := sortN_sorted l
  have h2 : (sortN l).Nodup := (sortN_perm l).nodup_iff.2 hn
  refine (h1.and h2).imp fun {a b} ⟨h3, h4⟩ => ?_
  unfold nle at h3
  rw [Bool.not_eq_true', ltOf_nord, decide_eq_false_iff_not] at h3
  rcases nord_tri a b with h | h | h
  · exact h
  · exact absurd h h4
  · exact absurd h h3
theorem bundle1_spec (x y : AssetP) : CSpec Tryz.prog 93 [.agg [.hash x.policy, .one (.s x.name), .one (.i .i64 x.amount)], .agg [.hash y.policy, .one (.s y.name), .one (.i .i64 y.amount)]] [] [] fun o L => o = .ret (vint (nord x.key y.key)) ∧ L = [] := by
  refine v_enter Tryz.func93 (h := fun w0 => ?_)
  refine v_code [] (hk := ?_)
  refine l_do d_box (fun g2 => ?_)
  refine l_do d_box (fun g3 => ?_)
  refine v_ops [] (hk := ?_)
  refine v_draw (.q 0 (.q 2 (.s 1 (.s 3 (.s 4 (.q 5 .nil)))))) [10002, 10003, 20300, 20301, 20302, 20303, 20400, 20401, 20402, 20403, 20450, 20451, 20452, 20453] (hm := by kernel_rfl) (hs := by kernel_rfl) (hk := by kernel_rfl) (h := ?_)
  refine v_sch [] (hk := ?_)
  refine v_callS rfl 20300 [] (nameof_spec x) Tryz.func57 (h := ?_)
  rintro _ _ (⟨rfl, rfl⟩)
  refine ⟨cov_of (by repeat (first | exact trivial | refine ⟨rfl, ?_⟩)), ?_⟩
  refine v_callS rfl 20400 [] (nameof_spec y) Tryz.func57 (h := ?_)
  rintro _ _ (⟨rfl, rfl⟩)
  refine ⟨cov_of (by repeat (first | exact trivial | refine ⟨rfl, ?_⟩)), ?_⟩
  refine v_callS rfl 20450 [] (order_spec x.key y.key) Tryz.func84 (h := ?_)
  rintro _ _ (⟨rfl, rfl⟩)
  refine ⟨cov_of (by repeat (first | exact trivial | refine ⟨rfl, ?_⟩)), ?_⟩
  refine v_sch [] (hk := ?_)
  refine v_ret rfl [] (.cons (.tmp rfl) .nil) (h := ?_)
  exact ⟨rfl, rfl⟩
def mkF (f : NameP → Int) (n : NameP) : AssetP := ⟨n.policy, n.name, f n⟩
def nameF (f : NameP → Int) : En NameP := ⟨fun n => assetEn.f (mkF f n), true, 34, fun x => assetEn.ok _, by decide⟩
theorem rows_nameF (A : Option Addr) (c : Nat) (f : NameP → Int) (l : List NameP) : Res.rows A c 57 (nameF f) l = Res.rows A c 57 assetEn (l.map (mkF f)) := by
  have e : (nameF f).dens l = assetEn.dens (l.map (mkF f)) := by
    unfold En.dens
    rw [List.map_map]
    rfl
  unfold Res.rows
  rw [e, List.length_map]
  rfl
theorem amt_of {l : List AssetP} (hn : (l.map AssetP.key).Nodup) : ∀ x ∈ l, amt l x.key = x.amount := by
  induction l with
  | nil => intro x hx; cases hx
  | cons y l ih =>
    intro x hx
    rw [List.map_cons, List.nodup_cons] at hn
    unfold amt atN
    rcases List.mem_cons.1 hx with rfl | hx
    · rw [List.find?_cons]; simp
    · have hne : ¬ y.key = x.key := fun e => hn.1 (by rw [e]; exact List.mem_map_of_mem hx)
      rw [List.find?_cons, decide_eq_false hne]
      exact ih hn.2 x hx
theorem back_F {l : List AssetP} (hn : (l.map AssetP.key).Nodup) : (l.map AssetP.key).map (mkF (amt l)) = l := by
  rw [List.map_map]
  conv => rhs; rw [← List.map_id l]
  refine List.map_congr_left fun x hx => ?_
  show mkF (amt l) x.key = x
  unfold mkF
  rw [amt_of hn x hx]
  rfl
theorem sortAsset_spec (A : Option Addr) (c : Nat) (l : List AssetP) (hl : l.length ≤ 1048576) (hn : (l.map AssetP.key).Nodup) : CSpec Tryz.prog 92 [.one (.sl 0 A l.length c), .one (.fn 93 [] [])] [] [(0, Res.rows A c 57 assetEn l)] fun o L => ∃ m : List AssetP, m.Perm l ∧ Rise AssetP.key m ∧ o = .ret (.tup []) ∧ L = [Res.rows A c 57 assetEn m] := by
  have h := sort_spec Tryz.sortAsset (nameF (amt l)) rfl (by intro w; exact Tryz.isAgg57 w) (by intro w; exact Tryz.sizeOf57 w) nord nord_swo nord_total 93 (fun x y => bundle1_spec (mkF (amt l) x) (mkF (amt l) y)) (enters_of Tryz.func93 (by kernel_rfl) rfl) (f := 92) rfl 57 A c (l.map AssetP.key) (by rw [List.length_map]; omega)
  rw [rows_nameF, rows_nameF, back_F hn, List.length_map] at h
  refine CSpec.mono h fun o L hp => ⟨(sortN (l.map AssetP.key)).map (mkF (amt l)), ?_, ?_, hp.1, hp.2⟩
  · have := (sortN_perm (l.map AssetP.key)).map (mkF (amt l))
    rwa [back_F hn] at this
  · unfold Rise
    rw [List.pairwise_map]
    exact (sortN_lt hn).imp fun {a b} hab => hab
end Go.Proofs.YtlnckcgbpilmdaaGreat
/- The bundle of a purse. -/


set_option linter.unusedVariables false
set_option linter.unusedSimpArgs false
set_option maxRecDepth 100000
namespace Go.Proofs.YtlnckcgbpilmdaaGreat
open Go Go.RowKit HL
theorem bundle_spec (gp gm : Nat) (co : Int) (f : NameP → Int) (mm : List (NameP × Int × Nat)) (cl : Nat) (hj : PM f mm cl) (hw : MWf mm cl) (hm : mm.length ≤ 1048576) : CSpec Tryz.prog 54 [.one (.ptr 0 ⟨gp, 0, none⟩)] [(0, Res.va gp 129 [.one (.i .i64 co), .one (.mp 1 gm)]), (1, Res.mp gm nameEn (intEn .i64) mm cl)] [] fun o L => (∃ A d l, IsB f l ∧ l.length ≤ 30 ∧ o = .ret (.s (.agg [.one (.i .i64 co), .one (.sl 0 A l.length d)])) ∧ L = [Res.rows A d 57 assetEn l]) ∨ ((∀ l, IsB f l → ¬ l.length ≤ 30) ∧ o = .pan thrown ∧ L = []) := by
  refine v_enter Tryz.func54 (h := fun w0 => ?_)
  refine v_code [] (hk := ?_)
  refine l_do d_alloc (fun g2 => ?_)
  refine v_ops [] (hk := ?_)
  refine l_do d_alloc (fun g3 => ?_)
  refine v_ops [] (hk := ?_)
  refine l_do d_range (fun r15 => ?_)
  refine v_ops [] (hk := ?_)
  refine k_nil 10032 57 assetEn ?_
  refine v_loop (fun m E H => ∃ done l A d, E = [] ∧ H = [(10003, Res.va g3 26 [.one (.i .i64 co), .one (.sl 10032 A l.length d)]), (10032, Res.rows A d 57 assetEn l), (10015, Res.itr 1 r15 gm cl done)] ∧ l = asF done ∧ (∀ e ∈ done, e ∈ mm) ∧ done.Nodup ∧ m = mm.length - done.length) [2, 3, 15, 34, 35, 36, 37, 39, 40, 42] (mm.length) ([]) ([(10003, Res.va g3 26 [.one (.i .i64 co), .one (.sl 10032 none 0 0)]), (10032, Res.rows none 0 57 assetEn []), (10015, Res.itr 1 r15 gm cl [])]) (h0 := ⟨[], [], none, 0, rfl, rfl, rfl, by simp, List.nodup_nil, rfl⟩) (hr := ?_)
  rintro _ _ _ ⟨done, l, A, d, rfl, rfl, hla, hsub, hnd, rfl⟩
  refine v_code [] (hk := ?_)
  refine l_next (fun o16 no16 yes16 => ?_)
  refine l_rd (r_extractN) ?_
  refine v_ops [] (hk := ?_)
  first | refine c_ifd rfl (fun h17 => ?_) (fun h17 => ?_) | refine c_ifn rfl (fun h17 => ?_) (fun h17 => ?_) | refine c_if rfl (fun h17 => ?_) (fun h17 => ?_)
  · have hlen2 := asF_len done
    rw [← hla] at hlen2
    obtain ⟨e, rfl⟩ := Option.isSome_iff_exists.1 h17
    obtain ⟨hme, hne⟩ := yes16 e rfl
    obtain ⟨hs2, hn2, hl2⟩ := iter_snoc hsub hnd hme hne
    refine v_code [] (hk := ?_)
    refine l_rd r_entry ?_
    refine v_ops [] (hk := ?_)
    refine l_do d_alloc (fun g4 => ?_)
    refine v_ops [] (hk := ?_)
    first | refine c_ifd rfl (fun h22 => ?_) (fun h22 => ?_) | refine c_ifn rfl (fun h22 => ?_) (fun h22 => ?_) | refine c_if rfl (fun h22 => ?_) (fun h22 => ?_)
    · refine v_code [] (hk := ?_)
      refine l_do (d_bslice [mkA e]) (fun B31 => ?_)
      refine l_do d_append (fun p32 => ?_)
      refine v_ops [] (hk := ?_)
      refine v_again (mm.length - (done.length + 1)) (by first | exact ⟨done ++ [e], l ++ [mkA e], p32.1, p32.2, rfl, rfl, by rw [hla, asF_yes (by simpa using h22)], hs2, hn2, by rw [List.length_append]; rfl⟩ | exact ⟨done ++ [e], l, A, d, rfl, rfl, by rw [hla, asF_no (by simpa using h22)], hs2, hn2, by rw [List.length_append]; rfl⟩)
    · refine v_code [] (hk := ?_)
      refine v_again (mm.length - (done.length + 1)) (by first | exact ⟨done ++ [e], l ++ [mkA e], p32.1, p32.2, rfl, rfl, by rw [hla, asF_yes (by simpa using h22)], hs2, hn2, by rw [List.length_append]; rfl⟩ | exact ⟨done ++ [e], l, A, d, rfl, rfl, by rw [hla, asF_no (by simpa using h22)], hs2, hn2, by rw [List.length_append]; rfl⟩)
  · have hall := no16 (by simpa using h17)
    have hmem := asF_mem hj hsub hall
    have hkeys := asF_keys hw hsub hnd
    have hlen := iter_len hsub hnd
    have hlen2 := asF_len done
    subst hla
    refine v_code [] (hk := ?_)
    refine v_call 21900 [] (must_spec (decide ((asF done).length ≤ 30))) Tryz.func68 (h := ?_)
    rintro _ _ (⟨hr, rfl, rfl⟩ | ⟨hr, rfl, rfl⟩)
    · simp only [decide_eq_true_eq] at hr
      refine v_ops [] (hk := ?_)
      refine v_call 22050 [] (sortAsset_spec A d (asF done) (by omega) hkeys) Tryz.func92 (h := ?_)
      rintro _ _ (⟨bs, hp, hrise, rfl, rfl⟩)
      refine v_ops [] (hk := ?_)
      have hbl := hp.length_eq
      refine k_ret [22050] (.s (.agg [.one (.i .i64 co), .one (.sl 0 A (asF done).length d)])) (.cons (.cell inferInstance rfl rfl rfl rfl) .nil) (h := ?_)
      exact .inl ⟨A, d, bs, isB_perm hrise hp hmem, by rw [hbl]; exact hr, by rw [hbl], rfl⟩
    · simp only [decide_eq_false_iff_not] at hr
      refine v_ex [] (hk := ?_)
      refine k_pan [] (h := ?_)
      exact .inr ⟨fun l hl => by rw [isB_len hl hkeys hmem]; exact hr, rfl, rfl⟩
end Go.Proofs.YtlnckcgbpilmdaaGreat
/- Add. -/

set_option linter.unusedVariables false
set_option linter.unusedSimpArgs false
set_option maxRecDepth 100000
namespace Go.Proofs.YtlnckcgbpilmdaaGreat
open Go Go.RowKit HL
def Adds (l : List ValueM) (co : Int) (p : List AssetP) : Prop := FillOk l ∧ co = csum l ∧ IsB (tot (AL l)) p ∧ p.length ≤ 30
def NoSum (l : List ValueM) : Prop := ∀ co p, ¬ Adds l co p
theorem add1_spec (g : Nat) (A : Option Addr) (l : List ValueM) (c : Nat) (hl : l.length ≤ 30000) (hf : ∀ v ∈ l, FitV v) : CSpec Tryz.prog 52 [.one (.ptr 0 ⟨g, 0, none⟩)] [(0, Res.va g 22 [.one (.sl 1 A l.length c)]), (1, rdValues A l)] [] fun o L => (∃ co B d p, Adds l co p ∧ o = .ret (.s (.agg [.one (.i .i64 co), .one (.sl 0 B p.length d)])) ∧ L = [Res.rows B d 57 assetEn p]) ∨ (NoSum l ∧ o = .pan thrown ∧ L = []) := by
  refine v_enter Tryz.func52 (h := fun w0 => ?_)
  refine v_code [] (hk := ?_)
  refine l_do d_alloc (fun g1 => ?_)
  refine v_ops [] (hk := ?_)
  refine v_call 20150 [] (filled_spec 20151 A l c (by omega) hf) Tryz.func53 (h := ?_)
  rintro _ _ (⟨g3, gm, co, mm, cl, hi, rfl, rfl⟩ | ⟨hno, rfl, rfl⟩)
  · have hlen := hi.j.len
    have hlen2 := AL_len hi.r
    refine v_call 20200 [(0, 20150), (1, 20151)] (bundle_spec g3 gm co (tot (AL l)) mm cl hi.j.pm hi.j.wf (by omega)) Tryz.func54 (h := ?_)
    rintro _ _ (⟨B, d, p, hb, hp, rfl, rfl⟩ | ⟨hno, rfl, rfl⟩)
    · refine v_ops [] (hk := ?_)
      refine k_ret [20200] (.s (.agg [.one (.i .i64 co), .one (.sl 0 B p.length d)])) (.cons (.cell inferInstance rfl rfl rfl rfl) .nil) (h := ?_)
      exact .inl ⟨co, B, d, p, ⟨hi.ok, hi.sum, hb, hp⟩, rfl, rfl⟩
    · refine v_ex [] (hk := ?_)
      refine k_pan [] (h := ?_)
      exact .inr ⟨fun co p h => hno p h.2.2.1 h.2.2.2, rfl, rfl⟩
  · refine v_ex [] (hk := ?_)
    refine k_pan [] (h := ?_)
    exact .inr ⟨fun co p h => hno h.1, rfl, rfl⟩
theorem triedAdd_spec (g : Nat) (A : Option Addr) (l : List ValueM) (c : Nat) (hl : l.length ≤ 30000) (hf : ∀ v ∈ l, FitV v) : CSpec Tryz.prog 51 [.one (.fn 52 [.pointer (some ⟨g, 0, none⟩)] [7])] [(7, Res.va g 22 [.one (.sl 1 A l.length c)]), (1, rdValues A l)] [] fun o L => (∃ co B d p, Adds l co p ∧ o = .ret (.tup [.agg [.one (.i .i64 co), .one (.sl 0 B p.length d)], .one (.b true)]) ∧ L = [Res.rows B d 57 assetEn p]) ∨ (NoSum l ∧ o = .ret (.tup [.agg [.one (.i .i64 0), .one (.sl 0 none 0 0)], .one (.b false)]) ∧ L = []) := by
  refine v_enterD Tryz.func51 (h := fun w0 => ?_)
  refine v_code [] (hk := ?_)
  refine l_do d_alloc (fun g2 => ?_)
  refine l_do d_alloc (fun g3 => ?_)
  refine v_ops [] (hk := ?_)
  refine l_defer (h := ?_)
  refine v_ops [] (hk := ?_)
  refine v_call 20300 [(0, 7), (1, 1)] (add1_spec g A l c hl hf) Tryz.func52 (h := ?_)
  rintro _ _ (⟨co, B, d, p, ha, rfl, rfl⟩ | ⟨hno, rfl, rfl⟩)
  · refine v_ops [] (hk := ?_)
    refine v_leave _ rfl ?_
    refine v_defers (args := []) 10002 (fun x => x + 10002) (tried1_ret g2 g3 [.one (.i .i64 co), .one (.sl 0 B p.length d)] [.one (.b true)]) Tryz.func90 (h := ?_)
    rintro _ _ _ ⟨rfl, rfl, rfl⟩
    refine v_left [20300] (.tup [.agg [.one (.i .i64 co), .one (.sl 0 B p.length d)], .one (.b true)]) (.cons (.cell inferInstance rfl rfl rfl rfl) (.cons (.cell inferInstance rfl rfl rfl rfl) .nil)) (h := ?_)
    exact .inl ⟨co, B, d, p, ha, rfl, rfl⟩
  · refine v_ex [] (hk := ?_)
    refine v_leave _ rfl ?_
    refine v_defers (args := []) 10002 (fun x => x + 10002) (tried1_pan g2 g3 0 none 0 0 false) Tryz.func90 (h := ?_)
    rintro _ _ _ ⟨rfl, hu, rfl⟩
    rw [hu]
    refine v_left [] (.tup [.agg [.one (.i .i64 0), .one (.sl 0 none 0 0)], .one (.b false)]) (.cons (.cell inferInstance rfl rfl rfl rfl) (.cons (.cell inferInstance rfl rfl rfl rfl) .nil)) (h := ?_)
    exact .inr ⟨hno, rfl, rfl⟩
def Told (S : Int → List AssetP → Prop) (ok : Bool) (v : ValueM) : Prop := (ok = true ∧ S v.coin v.assets) ∨ (ok = false ∧ (∀ co p, ¬ S co p) ∧ v.coin = 0 ∧ v.assets = [])
theorem add_spec (A : Option Addr) (l : List ValueM) (c : Nat) (hl : l.length ≤ 30000) (hf : ∀ v ∈ l, FitV v) : CSpec Tryz.prog 11 [.one (.sl 0 A l.length c)] [(0, rdValues A l)] [] fun o L => ∃ v ok, Told (Adds l) ok v ∧ o = .ret (.tup [.agg [.one (.i .i64 v.coin), .one (.sl 0 v.A v.assets.length v.c)], .one (.b ok)]) ∧ L = [Res.rows v.A v.c 57 assetEn v.assets] := by
  refine v_enter Tryz.func11 (h := fun w0 => ?_)
  refine v_code [] (hk := ?_)
  refine l_do d_box (fun g1 => ?_)
  refine l_do d_alloc (fun g2 => ?_)
  refine v_ops [] (hk := ?_)
  refine v_call 20250 [(7, 10001), (1, 0)] (triedAdd_spec g1 A l c hl hf) Tryz.func51 (h := ?_)
  rintro _ _ (⟨co, B, d, p, ha, rfl, rfl⟩ | ⟨hno, rfl, rfl⟩)
  · refine v_ops [] (hk := ?_)
    refine k_ret [20250] (.tup [.agg [.one (.i .i64 co), .one (.sl 0 B p.length d)], .one (.b true)]) (.cons (.cell inferInstance rfl rfl rfl rfl) (.cons (.tmp rfl) .nil)) (h := ?_)
    exact ⟨⟨co, B, d, p⟩, true, .inl ⟨rfl, ha⟩, rfl, rfl⟩
  · refine v_ops [] (hk := ?_)
    refine k_nil 700 57 assetEn ?_
    refine k_ret [700] (.tup [.agg [.one (.i .i64 0), .one (.sl 0 none 0 0)], .one (.b false)]) (.cons (.cell inferInstance rfl rfl rfl rfl) (.cons (.tmp rfl) .nil)) (h := ?_)
    exact ⟨⟨0, none, 0, []⟩, false, .inr ⟨rfl, hno, rfl, rfl⟩, rfl, rfl⟩
end Go.Proofs.YtlnckcgbpilmdaaGreat
/- Differences: plain. -/

set_option linter.unusedVariables false
namespace Go.Proofs.YtlnckcgbpilmdaaGreat
open Go Go.RowKit HL
def Subs (a b : ValueM) (co : Int) (p : List AssetP) : Prop := RightV a.coin a.assets ∧ RightV b.coin b.assets ∧ co = a.coin - b.coin ∧ 0 ≤ co ∧ (∀ n, tot b.assets n ≤ tot a.assets n) ∧ IsB (fun n => tot a.assets n - tot b.assets n) p ∧ p.length ≤ 30
theorem tot_key {P : List AssetP} (hn : (P.map AssetP.key).Nodup) : ∀ x ∈ P, tot P x.key = x.amount := by
  induction P with
  | nil => intro x hx; cases hx
  | cons y P ih =>
    intro x hx
    rw [List.map_cons, List.nodup_cons] at hn
    rw [tot_cons]
    rcases List.mem_cons.1 hx with rfl | hx
    · rw [if_pos rfl]
      have : tot P x.key = 0 := by
        by_cases h : tot P x.key = 0
        · exact h
        · obtain ⟨z, hz, e⟩ := tot_mem h
          exact absurd (by rw [← e]; exact List.mem_map_of_mem hz) hn.1
      omega
    · have hne : ¬ x.key = y.key := fun e => hn.1 (by rw [← e]; exact List.mem_map_of_mem hx)
      rw [if_neg hne, ih hn.2 x hx]
      omega
theorem fill_one {v : ValueM} (hr : RightV v.coin v.assets) (hc : v.coin ≤ Max) (hf : ∀ x ∈ v.assets, x.amount ≤ Max) : FillOk [v] := by
  refine ⟨fun w hw => ?_, ?_, fun n => ?_⟩
  · rw [List.mem_singleton.1 hw]; exact hr
  · rw [csum_one]; exact hc
  · rw [AL_one]
    by_cases h : tot v.assets n = 0
    · rw [h]; decide
    · obtain ⟨x, hx, e⟩ := tot_mem h
      rw [← e, tot_key hr.2.1.2.1.nodup x hx]
      exact hf x hx
theorem fill_one_not {v : ValueM} (hc : v.coin ≤ Max) (hf : ∀ x ∈ v.assets, x.amount ≤ Max) (h : ¬ FillOk [v]) : ¬ RightV v.coin v.assets := fun hr => h (fill_one hr hc hf)
theorem less_over {a P : List AssetP} {k : Nat} {d : AssetP} (hk : k < P.length) {m : List (NameP × Int × Nat)} {c : Nat} (h : PM (fun n => tot a n - tot (P.take k) n) m c) (hp : ∀ x ∈ P, 1 ≤ x.amount) (ho : ¬ (P.getD k d).amount ≤ (mlook m (P.getD k d).key).getD 0) : ¬ ∀ n, tot P n ≤ tot a n := fun hn => by
  have h1 := hn (P.getD k d).key
  rw [split_at (d := d) hk, tot_app, tot_app, tot_one] at h1
  rw [if_pos (by rw [← split_at hk])] at h1
  rw [← split_at hk] at h1
  rw [h.look] at ho
  have h2 := tot_nonneg (P := P.drop (k + 1)) (P.getD k d).key fun x hx => hp x (List.mem_of_mem_drop hx)
  omega
theorem PM.lessD {a P : List AssetP} {k : Nat} {d : AssetP} (hk : k < P.length) {m : List (NameP × Int × Nat)} {c : Nat} (h : PM (fun n => tot a n - tot (P.take k) n) m c) (hp : ∀ x ∈ P, 1 ≤ x.amount) (ho : (P.getD k d).amount ≤ (mlook m (P.getD k d).key).getD 0) : PM (fun n => tot a n - tot (P.take (k + 1)) n) (mput m c (P.getD k d).key ((mlook m (P.getD k d).key).getD 0 - (P.getD k d).amount)) (mclk m c (P.getD k d).key) := by
  rw [take_getD (d := d) hk]
  exact h.less (hp _ (getD_mem hk)) ho
theorem PM.take_all {a P : List AssetP} {k : Nat} (hk : ¬ k < P.length) {m : List (NameP × Int × Nat)} {c : Nat} (h : PM (fun n => tot a n - tot (P.take k) n) m c) : PM (fun n => tot a n - tot P n) m c := by
  rwa [take_all' hk] at h
end Go.Proofs.YtlnckcgbpilmdaaGreat
/- Sub, Covers. -/


set_option linter.unusedVariables false
set_option linter.unusedSimpArgs false
set_option maxRecDepth 100000
namespace Go.Proofs.YtlnckcgbpilmdaaGreat
open Go Go.RowKit HL
theorem sub1_spec (g0 g1 : Nat) (a b : ValueM) (ha : FitV a) (hb : FitV b) : CSpec Tryz.prog 67 [.one (.ptr 0 ⟨g0, 0, none⟩), .one (.ptr 1 ⟨g1, 0, none⟩)] [(0, Res.va g0 26 [.one (.i .i64 b.coin), .one (.sl 2 b.A b.assets.length b.c)]), (1, Res.va g1 26 [.one (.i .i64 a.coin), .one (.sl 3 a.A a.assets.length a.c)]), (2, Res.rd b.A assetEn b.assets), (3, Res.rd a.A assetEn a.assets)] [] fun o L => (∃ co B d p, Subs a b co p ∧ o = .ret (.s (.agg [.one (.i .i64 co), .one (.sl 0 B p.length d)])) ∧ L = [Res.rows B d 57 assetEn p]) ∨ ((∀ co p, ¬ Subs a b co p) ∧ o = .pan thrown ∧ L = []) := by
  have hla := ha.1
  have hlb := hb.1
  refine v_enter Tryz.func67 (h := fun w0 => ?_)
  refine v_code [] (hk := ?_)
  refine l_do d_alloc (fun g2 => ?_)
  refine v_ops [] (hk := ?_)
  refine v_call 20350 [] (right_spec b.coin b.A b.assets b.c hb.1) Tryz.func27 (h := ?_)
  rintro _ _ (⟨rfl, rfl⟩)
  refine v_call 20400 [] (must_spec (decide (RightV b.coin b.assets))) Tryz.func68 (h := ?_)
  rintro _ _ (⟨hr, rfl, rfl⟩ | ⟨hr, rfl, rfl⟩)
  · simp only [decide_eq_true_eq] at hr
    have hrl := hr.2.1.2.2
    refine v_ops [] (hk := ?_)
    refine l_do (d_bslice [a]) (fun B10 => ?_)
    refine v_callD 20550 [] (filled_spec 20551 B10 [a] 1 (by simp) (by intro v hv; rw [List.mem_singleton.1 hv]; exact ha)) Tryz.func53 (hB := ⟨⟨_, (Der.rdn (Der.vw 10010) (Each.cons (Der.vw 3) Each.nil)), rfl⟩, trivial⟩) (h := ?_)
    rintro _ _ (⟨g11, gm, co, m0, cl0, hi, rfl, rfl⟩ | ⟨hno, rfl, rfl⟩)
    · have hra : RightV a.coin a.assets := hi.r a (by simp)
      have hco : co = a.coin := by rw [hi.sum, csum_one]
      subst hco
      have hj0 := hi.j.pm
      rw [AL_one] at hj0
      refine v_ops [] (hk := ?_)
      refine v_draw (.q 0 (.q 1 (.q 2 (.q 3 (.q 4 (.q 6 (.q 7 (.s 5 (.s 8 (.q 9 (.q 10 (.s 11 .nil)))))))))))) [10002] (hm := by kernel_rfl) (hs := by kernel_rfl) (hk := by kernel_rfl) (h := ?_)
      refine v_sch [] (hk := ?_)
      refine v_callS rfl 21000 [] (less_spec ⟨g11, 0, none⟩ a.coin b.coin ⟨hr.1, hb.2.1.2⟩ ha.2.1) Tryz.func69 (h := ?_)
      rintro _ _ (⟨hc, rfl, rfl⟩ | ⟨hc, rfl, rfl⟩)
      · refine ⟨cov_of (by repeat (first | exact trivial | refine ⟨rfl, ?_⟩)), ?_⟩
        refine v_sch [] (hk := ?_)
        refine v_loop (fun m E H => ∃ (k : Nat) (mm : List (NameP × Int × Nat)) (cl : Nat), E = [(26, vn k)] ∧ H = [(20551, Res.mp gm nameEn (intEn .i64) mm cl)] ∧ m = b.assets.length - k ∧ k ≤ b.assets.length ∧ (PM (fun n => tot a.assets n - tot (b.assets.take k) n) mm cl) ∧ (mm.length ≤ 30 + k)) [2, 3, 24, 25, 48, 49] (b.assets.length) ([(26, vn 0)]) ([(20551, Res.mp gm nameEn (intEn .i64) (m0) (cl0))]) (h0 := ⟨0, m0, cl0, rfl, rfl, by omega, by omega, by simpa [tot_nil] using hj0, by have := hi.j.len; rw [AL_one] at this; have := hra.2.1.2.2; omega⟩) (hr := ?_)
        rintro _ _ _ ⟨k, mm, cl, rfl, rfl, hmk, hk, hik0, hik1⟩
        refine v_code [] (hk := ?_)
        first | refine c_ifd rfl (fun h27 => ?_) (fun h27 => ?_) | refine c_ifn rfl (fun h27 => ?_) (fun h27 => ?_) | refine c_if rfl (fun h27 => ?_) (fun h27 => ?_)
        · have hx := hb.2.2 _ (getD_mem (d := asset0) h27)
          have hx1 := hr.2.2 _ (getD_mem (d := asset0) h27)
          refine v_code [] (hk := ?_)
          refine l_do d_alloc (fun g5 => ?_)
          refine v_ops [] (hk := ?_)
          refine v_draw (.q 0 (.q 1 (.q 2 (.q 3 (.q 4 (.q 6 (.q 7 (.q 8 (.q 9 (.q 10 (.q 11 (.q 14 (.q 15 (.s 5 (.s 12 (.s 13 (.s 16 (.s 17 .nil)))))))))))))))))) [20550, 10005, 10002] (hm := by kernel_rfl) (hs := by kernel_rfl) (hk := by kernel_rfl) (h := ?_)
          refine v_sch [] (hk := ?_)
          refine v_callS rfl 21750 [] (nameof_spec (b.assets.getD k asset0)) Tryz.func57 (h := ?_)
          rintro _ _ (⟨rfl, rfl⟩)
          refine ⟨cov_of (by repeat (first | exact trivial | refine ⟨rfl, ?_⟩)), ?_⟩
          refine v_callS rfl 22100 [] (nameof_spec (b.assets.getD k asset0)) Tryz.func57 (h := ?_)
          rintro _ _ (⟨rfl, rfl⟩)
          refine ⟨cov_of (by repeat (first | exact trivial | refine ⟨rfl, ?_⟩)), ?_⟩
          refine s_rd rfl (r_lookup1 (k := (b.assets.getD k asset0).key)) ?_
          refine v_callS rfl 22300 [] (less_spec ⟨g11, 0, none⟩ ((mlook mm (b.assets.getD k asset0).key).getD 0) (b.assets.getD k asset0).amount ⟨by omega, hx.2⟩ (by have h1 := hik0.rng (b.assets.getD k asset0).key; have h2 := hik0.look (b.assets.getD k asset0).key; exact ⟨by omega, by rw [h2]; exact h1.2⟩)) Tryz.func69 (h := ?_)
          rintro _ _ (⟨hc2, rfl, rfl⟩ | ⟨hc2, rfl, rfl⟩)
          · refine ⟨cov_of (by repeat (first | exact trivial | refine ⟨rfl, ?_⟩)), ?_⟩
            refine s_do1 rfl (d_mapUpdate (k := (b.assets.getD k asset0).key)) ?_
            refine v_sch [] (hk := ?_)
            refine v_again (b.assets.length - (k + 1)) ⟨k + 1, mput mm cl (b.assets.getD k asset0).key ((mlook mm (b.assets.getD k asset0).key).getD 0 - (b.assets.getD k asset0).amount), mclk mm cl (b.assets.getD k asset0).key, rfl, rfl, by omega, by omega, hik0.lessD h27 hr.2.2 hc2, by have := mput_len mm cl (b.assets.getD k asset0).key ((mlook mm (b.assets.getD k asset0).key).getD 0 - (b.assets.getD k asset0).amount); omega⟩
          · refine v_ex [] (hk := ?_)
            refine k_pan [] (h := ?_)
            exact .inr ⟨fun co p h => less_over h27 hik0 hr.2.2 hc2 h.2.2.2.2.1, rfl, rfl⟩
        · refine v_code [] (hk := ?_)
          refine v_call 22450 [(0, 20550), (1, 20551)] (bundle_spec g11 gm (a.coin - b.coin) (fun n => tot a.assets n - tot b.assets n) mm cl (hik0.take_all h27) hik0.wf (by omega)) Tryz.func54 (h := ?_)
          rintro _ _ (⟨B, d, p, hb2, hp, rfl, rfl⟩ | ⟨hno, rfl, rfl⟩)
          · refine v_ops [] (hk := ?_)
            refine k_ret [22450] (.s (.agg [.one (.i .i64 (a.coin - b.coin)), .one (.sl 0 B p.length d)])) (.cons (.cell inferInstance rfl rfl rfl rfl) .nil) (h := ?_)
            exact .inl ⟨_, B, d, p, ⟨hra, hr, rfl, by omega, fun n => by have := (hik0.take_all h27).rng n; omega, hb2, hp⟩, rfl, rfl⟩
          · refine v_ex [] (hk := ?_)
            refine k_pan [] (h := ?_)
            exact .inr ⟨fun co p h => hno p h.2.2.2.2.2.1 h.2.2.2.2.2.2, rfl, rfl⟩
      · refine v_ex [] (hk := ?_)
        refine k_pan [] (h := ?_)
        exact .inr ⟨fun co p h => by have := h.2.2.1; have := h.2.2.2.1; omega, rfl, rfl⟩
    · refine v_ex [] (hk := ?_)
      refine k_pan [] (h := ?_)
      exact .inr ⟨fun co p h => fill_one_not ha.2.1.2 (fun x hx => (ha.2.2 x hx).2) hno h.1, rfl, rfl⟩
  · simp only [decide_eq_false_iff_not] at hr
    refine v_ex [] (hk := ?_)
    refine k_pan [] (h := ?_)
    exact .inr ⟨fun co p h => hr h.2.1, rfl, rfl⟩
theorem triedSub_spec (g0 g1 : Nat) (a b : ValueM) (ha : FitV a) (hb : FitV b) : CSpec Tryz.prog 51 [.one (.fn 67 [.pointer (some ⟨g0, 0, none⟩), .pointer (some ⟨g1, 0, none⟩)] [7, 8])] [(7, Res.va g0 26 [.one (.i .i64 b.coin), .one (.sl 5 b.A b.assets.length b.c)]), (8, Res.va g1 26 [.one (.i .i64 a.coin), .one (.sl 6 a.A a.assets.length a.c)]), (5, Res.rd b.A assetEn b.assets), (6, Res.rd a.A assetEn a.assets)] [] fun o L => (∃ co B d p, Subs a b co p ∧ o = .ret (.tup [.agg [.one (.i .i64 co), .one (.sl 0 B p.length d)], .one (.b true)]) ∧ L = [Res.rows B d 57 assetEn p]) ∨ ((∀ co p, ¬ Subs a b co p) ∧ o = .ret (.tup [.agg [.one (.i .i64 0), .one (.sl 0 none 0 0)], .one (.b false)]) ∧ L = []) := by
  refine v_enterD Tryz.func51 (h := fun w0 => ?_)
  refine v_code [] (hk := ?_)
  refine l_do d_alloc (fun g2 => ?_)
  refine l_do d_alloc (fun g3 => ?_)
  refine v_ops [] (hk := ?_)
  refine l_defer (h := ?_)
  refine v_ops [] (hk := ?_)
  refine v_call 20300 [(0, 7), (1, 8), (2, 5), (3, 6)] (sub1_spec g0 g1 a b ha hb) Tryz.func67 (h := ?_)
  rintro _ _ (⟨co, B, d, p, hs, rfl, rfl⟩ | ⟨hno, rfl, rfl⟩)
  · refine v_ops [] (hk := ?_)
    refine v_leave _ rfl ?_
    refine v_defers (args := []) 10002 (fun x => x + 10002) (tried1_ret g2 g3 [.one (.i .i64 co), .one (.sl 0 B p.length d)] [.one (.b true)]) Tryz.func90 (h := ?_)
    rintro _ _ _ ⟨rfl, rfl, rfl⟩
    refine v_left [20300] (.tup [.agg [.one (.i .i64 co), .one (.sl 0 B p.length d)], .one (.b true)]) (.cons (.cell inferInstance rfl rfl rfl rfl) (.cons (.cell inferInstance rfl rfl rfl rfl) .nil)) (h := ?_)
    exact .inl ⟨co, B, d, p, hs, rfl, rfl⟩
  · refine v_ex [] (hk := ?_)
    refine v_leave _ rfl ?_
    refine v_defers (args := []) 10002 (fun x => x + 10002) (tried1_pan g2 g3 0 none 0 0 false) Tryz.func90 (h := ?_)
    rintro _ _ _ ⟨rfl, hu, rfl⟩
    rw [hu]
    refine v_left [] (.tup [.agg [.one (.i .i64 0), .one (.sl 0 none 0 0)], .one (.b false)]) (.cons (.cell inferInstance rfl rfl rfl rfl) (.cons (.cell inferInstance rfl rfl rfl rfl) .nil)) (h := ?_)
    exact .inr ⟨hno, rfl, rfl⟩
theorem sub_spec (a b : ValueM) (ha : FitV a) (hb : FitV b) : CSpec Tryz.prog 24 [.agg [.one (.i .i64 a.coin), .one (.sl 101 a.A a.assets.length a.c)], .agg [.one (.i .i64 b.coin), .one (.sl 201 b.A b.assets.length b.c)]] [(101, Res.rd a.A assetEn a.assets), (201, Res.rd b.A assetEn b.assets)] [] fun o L => ∃ v ok, Told (Subs a b) ok v ∧ o = .ret (.tup [.agg [.one (.i .i64 v.coin), .one (.sl 0 v.A v.assets.length v.c)], .one (.b ok)]) ∧ L = [Res.rows v.A v.c 57 assetEn v.assets] := by
  refine v_enter Tryz.func24 (h := fun w0 => ?_)
  refine v_code [] (hk := ?_)
  refine l_do d_box (fun g2 => ?_)
  refine l_do d_box (fun g3 => ?_)
  refine l_do d_alloc (fun g4 => ?_)
  refine v_ops [] (hk := ?_)
  refine v_call 20350 [(7, 10003), (8, 10002), (5, 201), (6, 101)] (triedSub_spec g3 g2 a b ha hb) Tryz.func51 (h := ?_)
  rintro _ _ (⟨co, B, d, p, ha, rfl, rfl⟩ | ⟨hno, rfl, rfl⟩)
  · refine v_ops [] (hk := ?_)
    refine k_ret [20350] (.tup [.agg [.one (.i .i64 co), .one (.sl 0 B p.length d)], .one (.b true)]) (.cons (.cell inferInstance rfl rfl rfl rfl) (.cons (.tmp rfl) .nil)) (h := ?_)
    exact ⟨⟨co, B, d, p⟩, true, .inl ⟨rfl, ha⟩, rfl, rfl⟩
  · refine v_ops [] (hk := ?_)
    refine k_nil 700 57 assetEn ?_
    refine k_ret [700] (.tup [.agg [.one (.i .i64 0), .one (.sl 0 none 0 0)], .one (.b false)]) (.cons (.cell inferInstance rfl rfl rfl rfl) (.cons (.tmp rfl) .nil)) (h := ?_)
    exact ⟨⟨0, none, 0, []⟩, false, .inr ⟨rfl, hno, rfl, rfl⟩, rfl, rfl⟩
theorem covers_spec (a b : ValueM) (ha : FitV a) (hb : FitV b) : CSpec Tryz.prog 26 [.agg [.one (.i .i64 a.coin), .one (.sl 101 a.A a.assets.length a.c)], .agg [.one (.i .i64 b.coin), .one (.sl 201 b.A b.assets.length b.c)]] [(101, Res.rd a.A assetEn a.assets), (201, Res.rd b.A assetEn b.assets)] [] fun o L => ∃ v ok, Told (Subs a b) ok v ∧ o = .ret (vb ok) ∧ L = [] := by
  refine v_enter Tryz.func26 (h := fun w0 => ?_)
  refine v_code [] (hk := ?_)
  refine l_do d_box (fun g2 => ?_)
  refine l_do d_box (fun g3 => ?_)
  refine v_ops [] (hk := ?_)
  refine v_call 20500 [] (sub_spec a b ha hb) Tryz.func24 (h := ?_)
  rintro _ _ (⟨v, ok, ht, rfl, rfl⟩)
  refine v_ops [] (hk := ?_)
  refine l_do d_alloc (fun g5 => ?_)
  refine v_ops [] (hk := ?_)
  refine v_ret rfl [] (.cons (.tmp rfl) .nil) (h := ?_)
  exact ⟨v, ok, ht, rfl, rfl⟩
end Go.Proofs.YtlnckcgbpilmdaaGreat
/- Wide numbers: plain. -/

set_option linter.unusedVariables false
namespace Go.Proofs.YtlnckcgbpilmdaaGreat
open Go Go.RowKit HL
structure WideP where
  hi : Int
  lo : Int
  deriving DecidableEq
def wz : WideP := ⟨0, 0⟩
def wrap64 (n : Int) : Int := if n % 18446744073709551616 ≥ 9223372036854775808 then n % 18446744073709551616 - 18446744073709551616 else n % 18446744073709551616
theorem wrap_i64 (n : Int) : IntKind.i64.wrap n = wrap64 n := by
  unfold IntKind.wrap wrap64
  simp [IntKind.signed, IntKind.bits]
theorem wrap_u64 (n : Int) : IntKind.u64.wrap n = n % 18446744073709551616 := by
  unfold IntKind.wrap
  simp [IntKind.signed, IntKind.bits]
def wOf (x : Int) : WideP := ⟨wrap64 (x / 18446744073709551616), x % 18446744073709551616⟩
def num (w : WideP) : Int := w.hi * 18446744073709551616 + w.lo
def WOk (w : WideP) : Prop := -9223372036854775808 ≤ w.hi ∧ w.hi ≤ 9223372036854775807 ∧ 0 ≤ w.lo ∧ w.lo < 18446744073709551616
theorem wOf_ok (x : Int) : WOk (wOf x) := by
  unfold WOk wOf wrap64
  simp only
  split <;> omega
theorem wOf_num {w : WideP} (h : WOk w) : wOf (num w) = w := by
  obtain ⟨h1, h2, h3, h4⟩ := h
  cases w with
  | mk a b =>
    simp only at h1 h2 h3 h4
    unfold wOf num wrap64
    simp only [WideP.mk.injEq]
    constructor
    · split <;> omega
    · omega
theorem wOf_eq {x y : Int} : wOf x = wOf y ↔ (x - y) % 340282366920938463463374607431768211456 = 0 := by
  unfold wOf wrap64
  simp only [WideP.mk.injEq]
  constructor
  · rintro ⟨h1, h2⟩
    split at h1 <;> split at h1 <;> omega
  · intro h
    constructor
    · split <;> split <;> omega
    · omega
theorem num_wOf (x : Int) : (num (wOf x) - x) % 340282366920938463463374607431768211456 = 0 := wOf_eq.1 (wOf_num (wOf_ok x))
theorem wOf_add (x y : Int) : wOf (num (wOf x) + y) = wOf (x + y) := by
  rw [wOf_eq]
  have := num_wOf x
  omega
theorem wOf_addR (x y : Int) : wOf (x + num (wOf y)) = wOf (x + y) := by
  rw [Int.add_comm, wOf_add, Int.add_comm]
theorem wOf_cancel {x y : Int} (m : Int) : wOf (x + m) = wOf (y + m) ↔ wOf x = wOf y := by
  rw [wOf_eq, wOf_eq]
  constructor <;> intro h <;> omega
theorem wOf_carry {a b : WideP} (ha : WOk a) (hb : WOk b) : (⟨IntKind.i64.wrap ((IntKind.u64.wrap a.hi + IntKind.u64.wrap b.hi + (a.lo + b.lo) / 18446744073709551616) % 18446744073709551616), (a.lo + b.lo) % 18446744073709551616⟩ : WideP) = wOf (num a + num b) := by
  obtain ⟨h1, h2, h3, h4⟩ := ha
  obtain ⟨g1, g2, g3, g4⟩ := hb
  rw [wrap_i64, wrap_u64, wrap_u64]
  unfold wOf num wrap64
  simp only [WideP.mk.injEq]
  have e1 : (a.hi * 18446744073709551616 + a.lo + (b.hi * 18446744073709551616 + b.lo)) / 18446744073709551616 = a.hi + b.hi + (a.lo + b.lo) / 18446744073709551616 := by omega
  constructor
  · rw [e1]
    generalize (a.lo + b.lo) / 18446744073709551616 = c
    have e2 : (a.hi % 18446744073709551616 + b.hi % 18446744073709551616 + c) % 18446744073709551616 % 18446744073709551616 = (a.hi + b.hi + c) % 18446744073709551616 := by omega
    rw [e2]
  · omega
theorem wOf_int {n : Int} (h : -9223372036854775808 ≤ n ∧ n ≤ 9223372036854775807) : (⟨n / 2 ^ Int.toNat 63, IntKind.u64.wrap n⟩ : WideP) = wOf n := by
  rw [wrap_u64]
  unfold wOf wrap64
  simp only [WideP.mk.injEq, and_true]
  rw [show (2 : Int) ^ Int.toNat 63 = 9223372036854775808 from by decide]
  split <;> omega
theorem wOf_zero : wOf 0 = wz := by decide
end Go.Proofs.YtlnckcgbpilmdaaGreat
/- Wide, Plus. -/


set_option linter.unusedVariables false
set_option linter.unusedSimpArgs false
set_option maxRecDepth 100000
namespace Go.Proofs.YtlnckcgbpilmdaaGreat
open Go Go.RowKit HL
def wideEn : En WideP := ⟨fun x => .agg [.one (.i .i64 x.hi), .one (.i .u64 x.lo)], true, 2, fun _ => ⟨rfl, rfl⟩, by decide⟩
instance : Df WideP wz := ⟨⟩
instance : ElT Tryz.prog 35 wideEn := ⟨⟩
theorem wide_spec (n : Int) (h : Fits64 n) : CSpec Tryz.prog 39 [.one (.i .i64 n)] [] [] fun o L => o = .ret (.s (.agg [.one (.i .i64 (wOf n).hi), .one (.i .u64 (wOf n).lo)])) ∧ L = [] := by
  refine v_enter Tryz.func39 (h := fun w0 => ?_)
  refine v_code [6] (hk := ?_)
  refine l_do d_alloc (fun g2 => ?_)
  refine v_ops [6] (hk := ?_)
  refine l_rd (r_shr) ?_
  refine v_ops [6] (hk := ?_)
  refine v_ret rfl [] (.cons (.cell inferInstance rfl rfl rfl rfl) .nil) (h := ?_)
  rw [← wOf_int h]
  exact ⟨rfl, rfl⟩
def add64E : Array Value → Sem Value := fun args => do
  let (x, y, c) ← Extern.MathBitsCarry.three "Add64" args
  pure (Extern.MathBitsCarry.pair ((x + y + c) % Extern.MathBitsCarry.m64) ((x + y + c) / Extern.MathBitsCarry.m64))
theorem run_add64 {a : Act} {w : World} {x y z : Operand} {p q c : Int} {tys : Array TypeId} {dst : Option Tmp} {ty : TypeId} {pos : String} {af : Array Edge} {gd : Option (Nat × Bool)} (h1 : a.eval x = .int .u64 p) (h2 : a.eval y = .int .u64 q) (h3 : a.eval z = .int .u64 c) (hp : 0 ≤ p) (hq : 0 ≤ q) (hc : 0 ≤ c ∧ c ≤ 1) : (execOp a.eval ⟨dst, .call { callee := .value (.func 80), args := #[x, y, z], argTypes := tys }, ty, pos, af, gd⟩).run Tryz.prog w = .ok (.value (TV.tup [.one (.i .u64 ((p + q + c) % 18446744073709551616)), .one (.i .u64 ((p + q + c) / 18446744073709551616))]).den) w := by
  refine run_ext (args := #[.int .u64 p, .int .u64 q, .int .u64 c]) (by simp [h1, h2, h3]) ?_
  refine run_stand Tryz.func80 (by kernel_rfl) rfl (by kernel_rfl) (e := add64E) (by kernel_rfl) ?_
  obtain ⟨p, rfl⟩ : ∃ k : Nat, p = k := ⟨p.toNat, by omega⟩
  obtain ⟨q, rfl⟩ : ∃ k : Nat, q = k := ⟨q.toNat, by omega⟩
  obtain ⟨c, rfl⟩ : ∃ k : Nat, c = k := ⟨c.toNat, by omega⟩
  have hc' : ¬ c > 1 := by omega
  rw [show add64E #[.int .u64 (p : Int), .int .u64 (q : Int), .int .u64 (c : Int)] = (do
    let (x, y, c) ← (do
      let c := (← asInt (.int .u64 (c : Int))).toNat
      if c > 1 then unsupported (.noEntry ("extern/math/bits." ++ "Add64" ++ ": a carry that is neither 0 nor 1"))
      pure ((← asInt (.int .u64 (p : Int))).toNat, (← asInt (.int .u64 (q : Int))).toNat, c) : Sem (Nat × Nat × Nat))
    pure (Extern.MathBitsCarry.pair ((x + y + c) % Extern.MathBitsCarry.m64) ((x + y + c) / Extern.MathBitsCarry.m64))) from rfl]
  simp only [Sem.run_bind, asInt, Sem.run_pure, Result.andThen_ok, Int.toNat_natCast, hc', if_false]
  simp only [asIntOf, Sem.run_pure, Result.andThen_ok, Int.toNat_natCast, hc', if_false, Sem.run_bind]
  have e1 : ((p : Int) + q + c) % 18446744073709551616 = (((p + q + c) % Extern.MathBitsCarry.m64 : Nat) : Int) := by
    rw [show Extern.MathBitsCarry.m64 = 18446744073709551616 from rfl]
    omega
  have e2 : ((p : Int) + q + c) / 18446744073709551616 = (((p + q + c) / Extern.MathBitsCarry.m64 : Nat) : Int) := by
    rw [show Extern.MathBitsCarry.m64 = 18446744073709551616 from rfl]
    omega
  rw [e1, e2]
  rfl
def wsum (l : List WideP) : Int := (l.map num).sum
theorem wsum_snoc {l : List WideP} {k : Nat} {d : WideP} (hk : k < l.length) : wsum (l.take (k + 1)) = wsum (l.take k) + num (l.getD k d) := by
  unfold wsum
  rw [take_getD (d := d) hk, List.map_append, List.sum_append_int]
  simp
theorem plus_spec (A : Option Addr) (l : List WideP) (c : Nat) (hl : l.length ≤ 1048576) (hw : ∀ w ∈ l, WOk w) : CSpec Tryz.prog 36 [.one (.sl 0 A l.length c)] [(0, Res.rd A wideEn l)] [] fun o L => o = .ret (.s (.agg [.one (.i .i64 (wOf (wsum l)).hi), .one (.i .u64 (wOf (wsum l)).lo)])) ∧ L = [] := by
  refine v_enter Tryz.func36 (h := fun w0 => ?_)
  refine v_code [26, 29, 35] (hk := ?_)
  refine l_do d_alloc (fun g2 => ?_)
  refine v_ops [26, 29, 35] (hk := ?_)
  refine v_loop (fun m E H => ∃ (k : Nat) (s : WideP), E = [(11, vn k)] ∧ H = [(10002, Res.va g2 35 [.one (.i .i64 s.hi), .one (.i .u64 s.lo)])] ∧ m = l.length - k ∧ k ≤ l.length ∧ (s = wOf (wsum (l.take k)))) [2, 9, 10, 39] (l.length) ([(11, vn 0)]) ([(10002, Res.va g2 35 [.one (.i .i64 (wz).hi), .one (.i .u64 (wz).lo)])]) (h0 := ⟨0, wz, rfl, rfl, by omega, by omega, by rw [List.take_zero]; exact wOf_zero.symm⟩) (hr := ?_)
  rintro _ _ _ ⟨k, s, rfl, rfl, hmk, hk, hik0⟩
  refine v_code [26, 29, 35] (hk := ?_)
  first | refine c_ifd rfl (fun h12 => ?_) (fun h12 => ?_) | refine c_ifn rfl (fun h12 => ?_) (fun h12 => ?_) | refine c_if rfl (fun h12 => ?_) (fun h12 => ?_)
  · have hx := hw _ (getD_mem (d := wz) h12)
    have hy : WOk s := by rw [hik0]; exact wOf_ok _
    refine v_code [26, 29, 35] (hk := ?_)
    refine l_do d_alloc (fun g4 => ?_)
    refine v_ops [26, 29, 35] (hk := ?_)
    refine l_rd (v := .tup [.one (.i .u64 ((s.lo + (l.getD k wz).lo + 0) % 18446744073709551616)), .one (.i .u64 ((s.lo + (l.getD k wz).lo + 0) / 18446744073709551616))]) (fun a w ht hf => run_add64 (ev_sound (v := vi .u64 s.lo) ht rfl) (ev_sound (v := vi .u64 (l.getD k wz).lo) ht rfl) (ev_sound (v := vi .u64 0) ht rfl) hy.2.2.1 hx.2.2.1 (by omega)) ?_
    refine v_ops [26, 29, 35] (hk := ?_)
    have hcar : 0 ≤ (s.lo + (l.getD k wz).lo + 0) / 18446744073709551616 ∧ (s.lo + (l.getD k wz).lo + 0) / 18446744073709551616 ≤ 1 := by have := hx.2.2; have := hy.2.2; omega
    have hu1 : 0 ≤ IntKind.u64.wrap s.hi := by rw [wrap_u64]; omega
    have hu2 : 0 ≤ IntKind.u64.wrap (l.getD k wz).hi := by rw [wrap_u64]; omega
    refine l_rd (v := .tup [.one (.i .u64 ((IntKind.u64.wrap s.hi + IntKind.u64.wrap (l.getD k wz).hi + (s.lo + (l.getD k wz).lo + 0) / 18446744073709551616) % 18446744073709551616)), .one (.i .u64 ((IntKind.u64.wrap s.hi + IntKind.u64.wrap (l.getD k wz).hi + (s.lo + (l.getD k wz).lo + 0) / 18446744073709551616) / 18446744073709551616))]) (fun a w ht hf => run_add64 (ev_sound (v := vi .u64 (IntKind.u64.wrap s.hi)) ht rfl) (ev_sound (v := vi .u64 (IntKind.u64.wrap (l.getD k wz).hi)) ht rfl) (ev_sound (v := vi .u64 ((s.lo + (l.getD k wz).lo + 0) / 18446744073709551616)) ht rfl) hu1 hu2 hcar) ?_
    refine v_ops [26, 29, 35] (hk := ?_)
    refine v_again (l.length - (k + 1)) ⟨k + 1, ⟨IntKind.i64.wrap ((IntKind.u64.wrap s.hi + IntKind.u64.wrap (l.getD k wz).hi + (s.lo + (l.getD k wz).lo + 0) / 18446744073709551616) % 18446744073709551616), (s.lo + (l.getD k wz).lo + 0) % 18446744073709551616⟩, rfl, rfl, by omega, by omega, by rw [Int.add_zero, wOf_carry hy hx, hik0, wOf_add, wsum_snoc h12]⟩
  · refine v_code [26, 29, 35] (hk := ?_)
    refine v_ret rfl [] (.cons (.cell inferInstance rfl rfl rfl rfl) .nil) (h := ?_)
    rw [take_all' h12] at hik0
    subst hik0
    exact ⟨rfl, rfl⟩
end Go.Proofs.YtlnckcgbpilmdaaGreat
/- Books: wide sums by names. -/

set_option linter.unusedVariables false
set_option linter.unusedSimpArgs false
set_option maxRecDepth 100000
namespace Go.Proofs.YtlnckcgbpilmdaaGreat
open Go Go.RowKit HL
instance : ZeroOf wideEn wz (.agg [.one (.i .i64 0), .one (.i .u64 0)]) := ⟨rfl⟩
theorem badd_spec (g : Nat) (mm : List (NameP × WideP × Nat)) (cl : Nat) (n : NameP) (x : WideP) (hx : WOk x) (hm : WOk ((mlook mm n).getD wz)) : CSpec Tryz.prog 56 [.one (.mp 0 g), .agg [.hash n.policy, .one (.s n.name)], .agg [.one (.i .i64 x.hi), .one (.i .u64 x.lo)]] [] [(0, Res.mp g nameEn wideEn mm cl)] fun o L => o = .ret (.tup []) ∧ L = [Res.mp g nameEn wideEn (mput mm cl n (wOf (num ((mlook mm n).getD wz) + num x))) (mclk mm cl n)] := by
  have hsum : wsum [(mlook mm n).getD wz, x] = num ((mlook mm n).getD wz) + num x := by unfold wsum; simp
  refine v_enter Tryz.func56 (h := fun w0 => ?_)
  refine v_code [] (hk := ?_)
  refine l_do d_box (fun g4 => ?_)
  refine l_do d_box (fun g5 => ?_)
  refine v_ops [] (hk := ?_)
  refine v_draw (.q 0 (.q 1 (.q 2 (.q 3 (.q 5 (.s 4 (.s 6 (.s 7 (.s 8 .nil))))))))) [10004, 10005] (hm := by kernel_rfl) (hs := by kernel_rfl) (hk := by kernel_rfl) (h := ?_)
  refine v_sch [] (hk := ?_)
  refine s_rd rfl (r_lookup1 (k := n)) ?_
  refine s_do rfl (d_bslice [(mlook mm n).getD wz, x]) (fun B12 => ?_)
  refine v_callS rfl 20650 [] (plus_spec B12 [(mlook mm n).getD wz, x] 2 (by simp) (by intro w hw; simp at hw; rcases hw with rfl | rfl; exact hm; exact hx)) Tryz.func36 (h := ?_)
  rintro _ _ (⟨rfl, rfl⟩)
  refine ⟨cov_of (by repeat (first | exact trivial | refine ⟨rfl, ?_⟩)), ?_⟩
  refine s_do1 rfl (d_mapUpdate (k := n) (v := wOf (wsum [(mlook mm n).getD wz, x]))) ?_
  refine v_sch [] (hk := ?_)
  refine k_ret [0] (.tup []) .nil (h := ?_)
  rw [hsum]
  exact ⟨rfl, rfl⟩
end Go.Proofs.YtlnckcgbpilmdaaGreat
/- Totals in memory; held against each other; in order. -/


set_option linter.unusedVariables false
set_option linter.unusedSimpArgs false
set_option maxRecDepth 100000
set_option maxHeartbeats 8000000
namespace Go.Proofs.YtlnckcgbpilmdaaGreat
open Go Go.RowKit Go.Shelf Go.Lib Go.Sort HL
structure TotalP where
  policy : Hash
  name : ByteArray
  sum : WideP
  deriving DecidableEq
def total0 : TotalP := ⟨hz, ⟨#[]⟩, wz⟩
instance : Df TotalP total0 := ⟨⟩
def TotalP.key (x : TotalP) : NameP := ⟨x.policy, x.name⟩
def totalEn : En TotalP := ⟨fun x => .agg [.hash x.policy, .one (.s x.name), .one (.i .i64 x.sum.hi), .one (.i .u64 x.sum.lo)], true, 35, fun _ => ⟨rfl, rfl⟩, by decide⟩
instance : ElT Tryz.prog 75 totalEn := ⟨⟩
theorem fits_u64 (T : TypeId) {bytes : Nat} {z : SV} [TyA Tryz.prog T false 1 z bytes] (b : Int) : Fits Tryz.prog T (.int .u64 b) := fits_sv (P := Tryz.prog) (T := T) (v := .one (.i .u64 b)) rfl rfl
theorem eqV_wide : EqV Tryz.prog 35 (fun x : WideP => (wideEn.f x).den) 3 := eqV_struct
    [⟨Int, inferInstance, Value.int .i64, 1, WideP.hi, 2, 1, (eqTy_int (UD.is (P := Tryz.prog) (T := 2))).v, fits_i64 _, fun _ => rfl⟩, ⟨Int, inferInstance, Value.int .u64, 1, WideP.lo, 33, 1, (eqTy_int (UD.is (P := Tryz.prog) (T := 33))).v, fits_u64 _, fun _ => rfl⟩]
    Tryz.underlying35 (by kernel_rfl) (by kernel_rfl) (by kernel_rfl) (by intro F hF; simp at hF; rcases hF with rfl | rfl <;> simp) (fun x => SV.den_agg _) (fun x y => by cases x; cases y; simp [FE.same, Bool.decide_and])
instance eqE_wide : EqE Tryz.prog 35 wideEn := ⟨⟨3, by omega, eqV_wide⟩, by kernel_rfl, rfl⟩
theorem wide_den (x : WideP) : (wideEn.f x).den = .agg #[.int .i64 x.hi, .int .u64 x.lo] := by
  rw [show (wideEn.f x).den = mkS (vals [.one (.i .i64 x.hi), .one (.i .u64 x.lo)]) from SV.den_agg _]
  unfold mkS
  simp [vals, flat, At.val, PV.den, Value.cells]
theorem wide_cells (x : WideP) : (wideEn.f x).den.cells.size = 2 := by
  rw [wide_den]
  rfl
theorem fits_wide (x : WideP) : Fits Tryz.prog 35 (wideEn.f x).den := fits_sv (P := Tryz.prog) (T := 35) (v := wideEn.f x) rfl rfl
instance eqE_total : EqE Tryz.prog 75 totalEn := ⟨⟨4, by omega, eqV_struct
    [⟨Hash, inferInstance, hval, 2, TotalP.policy, 50, 32, (HashT.key (P := Tryz.prog) (T := 50)).eq.v, fits_hash, size_hval⟩, ⟨ByteArray, inferInstance, Value.string, 1, TotalP.name, 9, 1, (eqTy_str (UD.is (P := Tryz.prog) (T := 9))).v, fits_str _, fun _ => rfl⟩,
      ⟨WideP, inferInstance, fun x => (wideEn.f x).den, 3, TotalP.sum, 35, 2, eqV_wide, fits_wide, wide_cells⟩]
    Tryz.underlying75 (by kernel_rfl) (by kernel_rfl) (by kernel_rfl) (by intro F hF; simp at hF; rcases hF with rfl | rfl | rfl <;> simp) (fun x => by
      rw [show (totalEn.f x).den = mkS (vals [.hash x.policy, .one (.s x.name), .one (.i .i64 x.sum.hi), .one (.i .u64 x.sum.lo)]) from SV.den_agg _]
      unfold mkS
      congr 2
      simp only [FE.vals, List.map_cons, List.map_nil, vals, flat, List.flatMap_cons, List.flatMap_nil, At.val, wide_den]
      rfl) (fun x y => by cases x; cases y; simp [FE.same, Bool.decide_and])⟩, by kernel_rfl, rfl⟩
theorem sameTotals_spec (A B : Option Addr) (l l2 : List TotalP) (c d : Nat) (hl : l.length ≤ 1048576) : CSpec Tryz.prog 16 [.one (.sl 0 A l.length c), .one (.sl 1 B l2.length d)] [(0, Res.rd A totalEn l), (1, Res.rd B totalEn l2)] [] fun o L => o = .ret (vb (decide (l = l2))) ∧ L = [] := by
  refine v_enter Tryz.func16 (h := fun w0 => ?_)
  refine v_code [] (hk := ?_)
  first | refine c_ifd rfl (fun h10 => ?_) (fun h10 => ?_) | refine c_ifn rfl (fun h10 => ?_) (fun h10 => ?_) | refine c_if rfl (fun h10 => ?_) (fun h10 => ?_)
  · refine v_code [] (hk := ?_)
    refine v_ret rfl [] (.cons (.tmp rfl) .nil) (h := ?_)
    exact ⟨outB (decide_eq_false (fun e => h10 (by rw [e]))).symm, rfl⟩
  · refine v_code [] (hk := ?_)
    refine v_loop (fun m E H => ∃ (k : Nat), E = [(5, vn k)] ∧ H = [] ∧ m = l.length - k ∧ k ≤ l.length ∧ (l.take k = l2.take k)) [0, 1] (l.length) ([(5, vn 0)]) ([]) (h0 := ⟨0, rfl, rfl, by omega, by omega, rfl⟩) (hr := ?_)
    rintro _ _ _ ⟨k, rfl, rfl, hmk, hk, hik0⟩
    refine v_code [] (hk := ?_)
    first | refine c_ifd rfl (fun h14 => ?_) (fun h14 => ?_) | refine c_ifn rfl (fun h14 => ?_) (fun h14 => ?_) | refine c_if rfl (fun h14 => ?_) (fun h14 => ?_)
    · refine v_code [] (hk := ?_)
      refine v_draw (.q 0 (.q 1 (.q 2 (.q 3 (.q 4 (.q 5 (.q 6 (.q 7 (.q 8 .nil))))))))) [10007, 10009, 10013] (hm := by kernel_rfl) (hs := by kernel_rfl) (hk := by kernel_rfl) (h := ?_)
      refine v_sch [] (hk := ?_)
      refine q_rd rfl (r_neSt (u := l.getD k total0) (v := l2.getD k total0)) ?_
      refine v_sch [] (hk := ?_)
      first | refine c_ifd rfl (fun h25 => ?_) (fun h25 => ?_) | refine c_ifn rfl (fun h25 => ?_) (fun h25 => ?_) | refine c_if rfl (fun h25 => ?_) (fun h25 => ?_)
      · refine v_code [] (hk := ?_)
        refine v_ret rfl [] (.cons (.tmp rfl) .nil) (h := ?_)
        exact ⟨outB (decide_eq_false (fun e => h25 (by rw [e]))).symm, rfl⟩
      · refine v_code [] (hk := ?_)
        refine v_again (l.length - (k + 1)) ⟨k + 1, rfl, rfl, by omega, by omega, by rw [take_getD (d := total0) h14, take_getD (d := total0) (by omega), hik0, h25]⟩
    · refine v_code [] (hk := ?_)
      refine v_ret rfl [] (.cons (.tmp rfl) .nil) (h := ?_)
      rw [take_all' h14, take_all' (by omega)] at hik0
      exact ⟨outB (decide_eq_true hik0).symm, rfl⟩
theorem equalTotals_spec (A B : Option Addr) (l l2 : List TotalP) (c d : Nat) (hl : l.length ≤ 1048576) : CSpec Tryz.prog 63 [.one (.sl 0 A l.length c), .one (.sl 1 B l2.length d)] [(0, Res.rd A totalEn l), (1, Res.rd B totalEn l2)] [] fun o L => o = .ret (vb (decide (l = l2))) ∧ L = [] := by
  refine v_enter Tryz.func63 (h := fun w0 => ?_)
  refine v_code [] (hk := ?_)
  first | refine c_ifd rfl (fun h10 => ?_) (fun h10 => ?_) | refine c_ifn rfl (fun h10 => ?_) (fun h10 => ?_) | refine c_if rfl (fun h10 => ?_) (fun h10 => ?_)
  · refine v_code [] (hk := ?_)
    refine v_ret rfl [] (.cons (.tmp rfl) .nil) (h := ?_)
    exact ⟨outB (decide_eq_false (fun e => h10 (by rw [e]))).symm, rfl⟩
  · refine v_code [] (hk := ?_)
    refine v_loop (fun m E H => ∃ (k : Nat), E = [(13, vn k)] ∧ H = [] ∧ m = l.length - k ∧ k ≤ l.length ∧ (l.take k = l2.take k)) [0, 1, 12] (l.length) ([(13, vn 0)]) ([]) (h0 := ⟨0, rfl, rfl, by omega, by omega, rfl⟩) (hr := ?_)
    rintro _ _ _ ⟨k, rfl, rfl, hmk, hk, hik0⟩
    refine v_code [] (hk := ?_)
    first | refine c_ifd rfl (fun h14 => ?_) (fun h14 => ?_) | refine c_ifn rfl (fun h14 => ?_) (fun h14 => ?_) | refine c_if rfl (fun h14 => ?_) (fun h14 => ?_)
    · refine v_code [] (hk := ?_)
      refine v_draw (.q 0 (.q 1 (.q 2 (.q 3 (.q 4 (.q 5 (.q 6 (.q 7 (.q 8 .nil))))))))) [10007, 10009, 10012] (hm := by kernel_rfl) (hs := by kernel_rfl) (hk := by kernel_rfl) (h := ?_)
      refine v_sch [] (hk := ?_)
      refine q_rd rfl (r_neSt (u := l.getD k total0) (v := l2.getD k total0)) ?_
      refine v_sch [] (hk := ?_)
      first | refine c_ifd rfl (fun h24 => ?_) (fun h24 => ?_) | refine c_ifn rfl (fun h24 => ?_) (fun h24 => ?_) | refine c_if rfl (fun h24 => ?_) (fun h24 => ?_)
      · refine v_code [] (hk := ?_)
        refine v_ret rfl [] (.cons (.tmp rfl) .nil) (h := ?_)
        exact ⟨outB (decide_eq_false (fun e => h24 (by rw [e]))).symm, rfl⟩
      · refine v_code [] (hk := ?_)
        refine v_again (l.length - (k + 1)) ⟨k + 1, rfl, rfl, by omega, by omega, by rw [take_getD (d := total0) h14, take_getD (d := total0) (by omega), hik0, h24]⟩
    · refine v_code [] (hk := ?_)
      refine v_ret rfl [] (.cons (.tmp rfl) .nil) (h := ?_)
      rw [take_all' h14, take_all' (by omega)] at hik0
      exact ⟨outB (decide_eq_true hik0).symm, rfl⟩
shelf_lay_g SlLaysF0.n6 Slsf 6 at Tryz 95 as Tryz.sortTotal
theorem totals1_spec (x y : TotalP) : CSpec Tryz.prog 96 [totalEn.f x, totalEn.f y] [] [] fun o L => o = .ret (vint (nord x.key y.key)) ∧ L = [] := by
  refine v_enter Tryz.func96 (h := fun w0 => ?_)
  refine v_code [] (hk := ?_)
  refine l_do d_box (fun g2 => ?_)
  refine l_do d_box (fun g3 => ?_)
  refine v_ops [] (hk := ?_)
  refine v_call 20750 [] (order_spec x.key y.key) Tryz.func84 (h := ?_)
  rintro _ _ (⟨rfl, rfl⟩)
  refine v_ops [] (hk := ?_)
  refine v_ret rfl [] (.cons (.tmp rfl) .nil) (h := ?_)
  exact ⟨rfl, rfl⟩
def mkG (f : NameP → WideP) (n : NameP) : TotalP := ⟨n.policy, n.name, f n⟩
def nameG (f : NameP → WideP) : En NameP := ⟨fun n => totalEn.f (mkG f n), true, 35, fun x => totalEn.ok _, by decide⟩
theorem rows_nameG (A : Option Addr) (c : Nat) (f : NameP → WideP) (l : List NameP) : Res.rows A c 75 (nameG f) l = Res.rows A c 75 totalEn (l.map (mkG f)) := by
  have e : (nameG f).dens l = totalEn.dens (l.map (mkG f)) := by
    unfold En.dens
    rw [List.map_map]
    rfl
  unfold Res.rows
  rw [e, List.length_map]
  rfl
def amtT (l : List TotalP) (n : NameP) : WideP := ((atN TotalP.key l n).map TotalP.sum).getD wz
theorem amtT_of {l : List TotalP} (hn : (l.map TotalP.key).Nodup) : ∀ x ∈ l, amtT l x.key = x.sum := by
  induction l with
  | nil => intro x hx; cases hx
  | cons y l ih =>
    intro x hx
    rw [List.map_cons, List.nodup_cons] at hn
    unfold amtT atN
    rcases List.mem_cons.1 hx with rfl | hx
    · rw [List.find?_cons]; simp
    · have hne : ¬ y.key = x.key := fun e => hn.1 (by rw [e]; exact List.mem_map_of_mem hx)
      rw [List.find?_cons, decide_eq_false hne]
      exact ih hn.2 x hx
theorem back_G {l : List TotalP} (hn : (l.map TotalP.key).Nodup) : (l.map TotalP.key).map (mkG (amtT l)) = l := by
  rw [List.map_map]
  conv => rhs; rw [← List.map_id l]
  refine List.map_congr_left fun x hx => ?_
  show mkG (amtT l) x.key = x
  unfold mkG
  rw [amtT_of hn x hx]
  rfl
theorem sortTotal_spec (A : Option Addr) (c : Nat) (l : List TotalP) (hl : l.length ≤ 1048576) (hn : (l.map TotalP.key).Nodup) : CSpec Tryz.prog 95 [.one (.sl 0 A l.length c), .one (.fn 96 [] [])] [] [(0, Res.rows A c 75 totalEn l)] fun o L => ∃ m : List TotalP, m.Perm l ∧ Rise TotalP.key m ∧ o = .ret (.tup []) ∧ L = [Res.rows A c 75 totalEn m] := by
  have h := sort_spec Tryz.sortTotal (nameG (amtT l)) rfl (by intro w; exact Tryz.isAgg75 w) (by intro w; exact Tryz.sizeOf75 w) nord nord_swo nord_total 96 (fun x y => totals1_spec (mkG (amtT l) x) (mkG (amtT l) y)) (enters_of Tryz.func96 (by kernel_rfl) rfl) (f := 95) rfl 75 A c (l.map TotalP.key) (by rw [List.length_map]; omega)
  rw [rows_nameG, rows_nameG, back_G hn, List.length_map] at h
  refine CSpec.mono h fun o L hp => ⟨(sortN (l.map TotalP.key)).map (mkG (amtT l)), ?_, ?_, hp.1, hp.2⟩
  · have := (sortN_perm (l.map TotalP.key)).map (mkG (amtT l))
    rwa [back_G hn] at this
  · unfold Rise
    rw [List.pairwise_map]
    exact (sortN_lt hn).imp fun {a b} hab => hab
end Go.Proofs.YtlnckcgbpilmdaaGreat
/- Totals: plain. -/


set_option linter.unusedVariables false
namespace Go.Proofs.YtlnckcgbpilmdaaGreat
open Go Go.RowKit HL
def IsT (g : NameP → WideP) (l : List TotalP) : Prop := Rise TotalP.key l ∧ ∀ x, x ∈ l ↔ x.sum ≠ wz ∧ g x.key = x.sum
theorem IsT.unique {g : NameP → WideP} {l m : List TotalP} (h1 : IsT g l) (h2 : IsT g m) : l = m := rise_ext h1.1 h2.1 fun x => by rw [h1.2, h2.2]
theorem IsT.congr {g g' : NameP → WideP} {l : List TotalP} (h : IsT g l) (he : ∀ n, g n = g' n) : IsT g' l := by
  have : g = g' := funext he
  rwa [← this]
theorem IsT.same {g g' : NameP → WideP} {l : List TotalP} (h1 : IsT g l) (h2 : IsT g' l) (n : NameP) : g n = g' n := by
  by_cases h : g n = wz
  · by_cases h' : g' n = wz
    · rw [h, h']
    · have := (h2.2 ⟨n.policy, n.name, g' n⟩).2 ⟨h', rfl⟩
      have := ((h1.2 _).1 this).2
      exact this
  · have := (h1.2 ⟨n.policy, n.name, g n⟩).2 ⟨h, rfl⟩
    have := ((h2.2 _).1 this).2
    exact this.symm
theorem IsT.eq_iff {g g' : NameP → WideP} {l l' : List TotalP} (h1 : IsT g l) (h2 : IsT g' l') : l = l' ↔ ∀ n, g n = g' n :=
  ⟨fun h => by subst h; exact h1.same h2, fun h => (h1.congr h).unique h2⟩
structure BM (f : NameP → Int) (m : List (NameP × WideP × Nat)) (c : Nat) : Prop where
  wf : MWf m c
  look : ∀ n, (mlook m n).getD wz = wOf (f n)
theorem BM.nil : BM (fun _ => 0) [] 0 := ⟨MWf.nil, fun n => by rw [wOf_zero]; simp [mlook]⟩
theorem BM.ok {f : NameP → Int} {m : List (NameP × WideP × Nat)} {c : Nat} (h : BM f m c) (n : NameP) : WOk ((mlook m n).getD wz) := by
  rw [h.look]
  exact wOf_ok _
theorem BM.add {f f' : NameP → Int} {m : List (NameP × WideP × Nat)} {c : Nat} (h : BM f m c) {k : NameP} {v : WideP} {x : Int} (hv : wOf (num v) = wOf x) (hf : ∀ n, f' n = f n + if n = k then x else 0) : BM f' (mput m c k (wOf (num ((mlook m k).getD wz) + num v))) (mclk m c k) where
  wf := h.wf.put _ _
  look n := by
    rw [mlook_put, hf n]
    by_cases e : n = k
    · subst e
      rw [if_pos rfl, if_pos rfl, h.look, wOf_add]
      show wOf (f n + num v) = wOf (f n + x)
      rw [Int.add_comm, Int.add_comm (f n), wOf_cancel]
      exact hv
    · rw [if_neg e, if_neg e, h.look, Int.add_zero]
theorem BM.congr {f f' : NameP → Int} {m : List (NameP × WideP × Nat)} {c : Nat} (h : BM f m c) (he : ∀ n, f n = f' n) : BM f' m c := by
  have : f = f' := funext he
  rwa [← this]
def mkT (e : NameP × WideP × Nat) : TotalP := ⟨e.1.policy, e.1.name, e.2.1⟩
def asT (done : List (NameP × WideP × Nat)) : List TotalP := (done.filter fun e => decide (e.2.1 ≠ wz)).map mkT
theorem asT_yes {done : List (NameP × WideP × Nat)} {e : NameP × WideP × Nat} (h : e.2.1 ≠ wz) : asT (done ++ [e]) = asT done ++ [mkT e] := by
  unfold asT
  rw [List.filter_append, List.map_append]
  simp [h]
theorem asT_no {done : List (NameP × WideP × Nat)} {e : NameP × WideP × Nat} (h : ¬ e.2.1 ≠ wz) : asT (done ++ [e]) = asT done := by
  unfold asT
  rw [List.filter_append, List.map_append]
  have h' : e.2.1 = wz := by simpa using h
  simp [h']
theorem asT_len (done : List (NameP × WideP × Nat)) : (asT done).length ≤ done.length := by
  unfold asT
  rw [List.length_map]
  exact List.length_filter_le _ _
theorem asT_keys {m done : List (NameP × WideP × Nat)} {c : Nat} (hw : MWf m c) (hs : ∀ e ∈ done, e ∈ m) (hn : done.Nodup) : ((asT done).map TotalP.key).Nodup := by
  unfold asT
  rw [List.map_map]
  have h := keys_done hw (done := done.filter fun e => decide (e.2.1 ≠ wz)) (fun e he => hs e (List.mem_filter.1 he).1) (hn.filter _)
  exact h
theorem asT_mem {m done : List (NameP × WideP × Nat)} {c : Nat} (hw : MWf m c) (hs : ∀ e ∈ done, e ∈ m) (ha : ∀ e ∈ m, e ∈ done) (x : TotalP) : x ∈ asT done ↔ x.sum ≠ wz ∧ (mlook m x.key).getD wz = x.sum := by
  unfold asT
  constructor
  · intro hx
    obtain ⟨e, he, rfl⟩ := List.mem_map.1 hx
    obtain ⟨he, hp⟩ := List.mem_filter.1 he
    have hp' : e.2.1 ≠ wz := by simpa using hp
    refine ⟨hp', ?_⟩
    show (mlook m e.1).getD wz = e.2.1
    rw [mlook_mem hw (hs e he)]
    rfl
  · rintro ⟨h1, h2⟩
    cases hm : mlook m x.key with
    | none => rw [hm] at h2; exact absurd h2.symm h1
    | some v =>
      rw [hm] at h2
      obtain ⟨b, hb⟩ := mem_mlook hm
      have hv : v = x.sum := h2
      refine List.mem_map.2 ⟨(x.key, v, b), List.mem_filter.2 ⟨ha _ hb, ?_⟩, ?_⟩
      · simp [hv, h1]
      · subst hv; rfl
theorem isT_perm {g : NameP → WideP} {l bs : List TotalP} (hr : Rise TotalP.key l) (hp : l.Perm bs) (hm : ∀ x, x ∈ bs ↔ x.sum ≠ wz ∧ g x.key = x.sum) : IsT g l := ⟨hr, fun x => by rw [hp.mem_iff, hm]⟩
end Go.Proofs.YtlnckcgbpilmdaaGreat
/- The totals of a book; sums. -/

set_option linter.unusedVariables false
set_option linter.unusedSimpArgs false
set_option maxRecDepth 100000
namespace Go.Proofs.YtlnckcgbpilmdaaGreat
open Go Go.RowKit HL
theorem totals_spec (g : Nat) (mm : List (NameP × WideP × Nat)) (cl : Nat) (hw : MWf mm cl) (hm : mm.length ≤ 1048576) : CSpec Tryz.prog 58 [.one (.mp 0 g)] [(0, Res.mp g nameEn wideEn mm cl)] [] fun o L => ∃ A d l, IsT (fun n => (mlook mm n).getD wz) l ∧ l.length ≤ 1048576 ∧ o = .ret (vsl 0 A l.length d) ∧ L = [Res.rows A d 75 totalEn l] := by
  refine v_enter Tryz.func58 (h := fun w0 => ?_)
  refine v_code [] (hk := ?_)
  refine l_do d_range (fun r7 => ?_)
  refine v_ops [] (hk := ?_)
  refine k_nil 10024 75 totalEn ?_
  refine v_loop (fun m E H => ∃ done l A d, E = [(3, vsl 10024 A l.length d)] ∧ H = [(10024, Res.rows A d 75 totalEn l), (10007, Res.itr 0 r7 g cl done)] ∧ l = asT done ∧ (∀ e ∈ done, e ∈ mm) ∧ done.Nodup ∧ m = mm.length - done.length) [2, 7, 25, 27] (mm.length) ([(3, vsl 10024 none 0 0)]) ([(10024, Res.rows none 0 75 totalEn []), (10007, Res.itr 0 r7 g cl [])]) (h0 := ⟨[], [], none, 0, rfl, rfl, rfl, by simp, List.nodup_nil, rfl⟩) (hr := ?_)
  rintro _ _ _ ⟨done, l, A, d, rfl, rfl, hla, hsub, hnd, rfl⟩
  refine v_code [] (hk := ?_)
  refine l_next (fun o8 no8 yes8 => ?_)
  refine l_rd (r_extractN) ?_
  refine v_ops [] (hk := ?_)
  first | refine c_ifd rfl (fun h9 => ?_) (fun h9 => ?_) | refine c_ifn rfl (fun h9 => ?_) (fun h9 => ?_) | refine c_if rfl (fun h9 => ?_) (fun h9 => ?_)
  · have hlen2 := asT_len done
    rw [← hla] at hlen2
    obtain ⟨e, rfl⟩ := Option.isSome_iff_exists.1 h9
    obtain ⟨hme, hne⟩ := yes8 e rfl
    obtain ⟨hs2, hn2, hl2⟩ := iter_snoc hsub hnd hme hne
    refine v_code [] (hk := ?_)
    refine l_rd r_entry ?_
    refine v_ops [] (hk := ?_)
    refine l_do d_alloc (fun g4 => ?_)
    refine l_do d_alloc (fun g5 => ?_)
    refine v_ops [] (hk := ?_)
    refine l_rd (r_neSt (u := e.2.1) (v := wz)) ?_
    refine v_ops [] (hk := ?_)
    first | refine c_ifd rfl (fun h15 => ?_) (fun h15 => ?_) | refine c_ifn rfl (fun h15 => ?_) (fun h15 => ?_) | refine c_if rfl (fun h15 => ?_) (fun h15 => ?_)
    · refine v_code [] (hk := ?_)
      refine l_do (d_bslice [mkT e]) (fun B23 => ?_)
      refine l_do d_append (fun p24 => ?_)
      refine v_ops [] (hk := ?_)
      refine v_again (mm.length - (done.length + 1)) (by first | exact ⟨done ++ [e], l ++ [mkT e], p24.1, p24.2, rfl, rfl, by rw [hla, asT_yes (by simpa using h15)], hs2, hn2, by rw [List.length_append]; rfl⟩ | exact ⟨done ++ [e], l, A, d, rfl, rfl, by rw [hla, asT_no (by simpa using h15)], hs2, hn2, by rw [List.length_append]; rfl⟩)
    · refine v_code [] (hk := ?_)
      refine v_again (mm.length - (done.length + 1)) (by first | exact ⟨done ++ [e], l ++ [mkT e], p24.1, p24.2, rfl, rfl, by rw [hla, asT_yes (by simpa using h15)], hs2, hn2, by rw [List.length_append]; rfl⟩ | exact ⟨done ++ [e], l, A, d, rfl, rfl, by rw [hla, asT_no (by simpa using h15)], hs2, hn2, by rw [List.length_append]; rfl⟩)
  · have hall := no8 (by simpa using h9)
    have hmem := asT_mem hw hsub hall
    have hkeys := asT_keys hw hsub hnd
    have hlen := iter_len hsub hnd
    have hlen2 := asT_len done
    subst hla
    refine v_code [] (hk := ?_)
    refine v_call 21300 [] (sortTotal_spec A d (asT done) (by omega) hkeys) Tryz.func95 (h := ?_)
    rintro _ _ (⟨bs, hp, hrise, rfl, rfl⟩)
    refine v_ops [] (hk := ?_)
    have hbl := hp.length_eq
    refine k_ret [21300] (vsl 0 A (asT done).length d) (.cons (.tmp rfl) .nil) (h := ?_)
    exact ⟨A, d, bs, isT_perm hrise hp hmem, by omega, by rw [hbl], rfl⟩
end Go.Proofs.YtlnckcgbpilmdaaGreat
/- Sums. -/

set_option linter.unusedVariables false
set_option linter.unusedSimpArgs false
set_option maxRecDepth 100000
namespace Go.Proofs.YtlnckcgbpilmdaaGreat
open Go Go.RowKit HL
theorem csum_snoc {l : List ValueM} {k : Nat} {d : ValueM} (hk : k < l.length) : csum (l.take (k + 1)) = csum (l.take k) + (l.getD k d).coin := by
  rw [take_getD (d := d) hk, csum_app, csum_one]
theorem wsum_two (a b : WideP) : wsum [a, b] = num a + num b := by unfold wsum; simp
theorem AL_snoc {l : List ValueM} {k : Nat} {d : ValueM} (hk : k < l.length) : AL (l.take (k + 1)) = AL (l.take k) ++ (l.getD k d).assets := by
  rw [take_getD (d := d) hk, AL_app, AL_one]
theorem tot_snoc {P Q : List AssetP} {j : Nat} {d : AssetP} (hj : j < Q.length) (n : NameP) : tot (P ++ Q.take (j + 1)) n = tot (P ++ Q.take j) n + if n = (Q.getD j d).key then (Q.getD j d).amount else 0 := by
  rw [take_getD (d := d) hj, ← List.append_assoc, tot_app, tot_one]
def FitS (v : ValueM) : Prop := v.assets.length ≤ 1000 ∧ Fits64 v.coin ∧ ∀ x ∈ v.assets, Fits64 x.amount
theorem sums_spec (A : Option Addr) (l : List ValueM) (c : Nat) (hl : l.length ≤ 1000) (hf : ∀ v ∈ l, FitS v) : CSpec Tryz.prog 13 [.one (.sl 0 A l.length c)] [(0, rdValues A l)] [] fun o L => ∃ B d t, IsT (fun n => wOf (tot (AL l) n)) t ∧ t.length ≤ 1048576 ∧ o = .ret (.tup [.agg [.one (.i .i64 (wOf (csum l)).hi), .one (.i .u64 (wOf (csum l)).lo)], .one (.sl 0 B t.length d)]) ∧ L = [Res.rows B d 75 totalEn t] := by
  refine v_enter Tryz.func13 (h := fun w0 => ?_)
  refine v_code [] (hk := ?_)
  refine l_do d_alloc (fun g2 => ?_)
  refine v_ops [] (hk := ?_)
  refine l_do (d_makeMap nameEn wideEn) (fun g9 => ?_)
  refine v_ops [] (hk := ?_)
  refine v_loop (fun m E H => ∃ (k : Nat) (s : WideP) (m0 : List (NameP × WideP × Nat)) (cl0 : Nat), E = [(12, vn k)] ∧ H = [(10002, Res.va g2 35 [.one (.i .i64 s.hi), .one (.i .u64 s.lo)]), (10009, Res.mp g9 nameEn wideEn m0 cl0)] ∧ m = l.length - k ∧ k ≤ l.length ∧ (s = wOf (csum (l.take k))) ∧ (BM (tot (AL (l.take k))) m0 cl0) ∧ (m0.length ≤ 1000 * k)) [2, 3, 4, 10, 11, 38, 39, 40] (l.length) ([(12, vn 0)]) ([(10002, Res.va g2 35 [.one (.i .i64 (wz).hi), .one (.i .u64 (wz).lo)]), (10009, Res.mp g9 nameEn wideEn ([]) (0))]) (h0 := ⟨0, wz, [], 0, rfl, rfl, by omega, by omega, by exact wOf_zero.symm, BM.nil, by simp⟩) (hr := ?_)
  rintro _ _ _ ⟨k, s, m0, cl0, rfl, rfl, hmk, hk, hik0, hik1, hik2⟩
  refine v_code [] (hk := ?_)
  first | refine c_ifd rfl (fun h13 => ?_) (fun h13 => ?_) | refine c_ifn rfl (fun h13 => ?_) (fun h13 => ?_) | refine c_if rfl (fun h13 => ?_) (fun h13 => ?_)
  · have hv := hf _ (getD_mem (d := value0) h13)
    have hv1 := hv.1
    refine v_code [] (hk := ?_)
    refine l_do d_alloc (fun g6 => ?_)
    refine v_ops [] (hk := ?_)
    refine v_draw (.q 1 (.q 2 (.s2 0 (.s 3 (.s 4 (.s 5 (.s 6 .nil)))) 3 (.s 0 (.s 4 (.s 5 (.s 6 .nil))))))) [10006] (hm := by kernel_rfl) (hs := by kernel_rfl) (hk := by kernel_rfl) (h := ?_)
    refine v_sch [] (hk := ?_)
    refine s_two ?_ ?_
    · refine v_sch [] (hk := ?_)
      refine v_callS rfl 20950 [] (wide_spec (l.getD k value0).coin hv.2.1) Tryz.func39 (h := ?_)
      rintro _ _ (⟨rfl, rfl⟩)
      refine ⟨cov_of (by repeat (first | exact trivial | refine ⟨rfl, ?_⟩)), ?_⟩
      refine s_do rfl (d_bslice [s, wOf (l.getD k value0).coin]) (fun B20 => ?_)
      refine v_callS rfl 21050 [] (plus_spec B20 [s, wOf (l.getD k value0).coin] 2 (by simp) (by intro w hw; simp at hw; rcases hw with rfl | rfl; rw [hik0]; exact wOf_ok _; exact wOf_ok _)) Tryz.func36 (h := ?_)
      rintro _ _ (⟨rfl, rfl⟩)
      refine ⟨cov_of (by repeat (first | exact trivial | refine ⟨rfl, ?_⟩)), ?_⟩
      refine v_sch [] (hk := ?_)
      refine v_loop (fun m E H => ∃ (j : Nat) (mm : List (NameP × WideP × Nat)) (cl : Nat), E = [(25, vn j)] ∧ H = [(10009, Res.mp g9 nameEn wideEn mm cl)] ∧ m = (l.getD k value0).assets.length - j ∧ j ≤ (l.getD k value0).assets.length ∧ (BM (tot (AL (l.take k) ++ (l.getD k value0).assets.take j)) mm cl) ∧ (mm.length ≤ 1000 * k + j)) [2, 3, 4, 6, 10, 11, 12, 13, 14, 15, 16, 17, 18, 19, 20, 21, 22, 23, 24, 37, 38, 39, 40] ((l.getD k value0).assets.length) ([(25, vn 0)]) ([(10009, Res.mp g9 nameEn wideEn (m0) (cl0))]) (h0 := ⟨0, m0, cl0, rfl, rfl, by omega, by omega, by rw [List.take_zero, List.append_nil]; exact hik1, by omega⟩) (hr := ?_)
      rintro _ _ _ ⟨j, mm, cl, rfl, rfl, hmj, hj, hij0, hij1⟩
      refine v_code [] (hk := ?_)
      first | refine c_ifd rfl (fun h26 => ?_) (fun h26 => ?_) | refine c_ifn rfl (fun h26 => ?_) (fun h26 => ?_) | refine c_if rfl (fun h26 => ?_) (fun h26 => ?_)
      · have hx := hv.2.2 _ (getD_mem (d := asset0) h26)
        refine v_code [] (hk := ?_)
        refine l_do d_alloc (fun g8 => ?_)
        refine v_ops [] (hk := ?_)
        refine v_draw (.q 0 (.q 1 (.q 3 (.q 4 (.s 2 (.s 5 (.s 6 .nil))))))) [10008] (hm := by kernel_rfl) (hs := by kernel_rfl) (hk := by kernel_rfl) (h := ?_)
        refine v_sch [] (hk := ?_)
        refine v_callS rfl 21550 [] (nameof_spec ((l.getD k value0).assets.getD j asset0)) Tryz.func57 (h := ?_)
        rintro _ _ (⟨rfl, rfl⟩)
        refine ⟨cov_of (by repeat (first | exact trivial | refine ⟨rfl, ?_⟩)), ?_⟩
        refine v_callS rfl 21700 [] (wide_spec ((l.getD k value0).assets.getD j asset0).amount hx) Tryz.func39 (h := ?_)
        rintro _ _ (⟨rfl, rfl⟩)
        refine ⟨cov_of (by repeat (first | exact trivial | refine ⟨rfl, ?_⟩)), ?_⟩
        refine v_callS rfl 21750 [] (badd_spec g9 mm cl ((l.getD k value0).assets.getD j asset0).key (wOf ((l.getD k value0).assets.getD j asset0).amount) (wOf_ok _) (hij0.ok _)) Tryz.func56 (h := ?_)
        rintro _ _ (⟨rfl, rfl⟩)
        refine ⟨cov_of (by repeat (first | exact trivial | refine ⟨rfl, ?_⟩)), ?_⟩
        refine v_sch [] (hk := ?_)
        refine k_ren 21750 10009 rfl ?_
        refine v_again ((l.getD k value0).assets.length - (j + 1)) ⟨j + 1, mput mm cl ((l.getD k value0).assets.getD j asset0).key (wOf (num ((mlook mm ((l.getD k value0).assets.getD j asset0).key).getD wz) + num (wOf ((l.getD k value0).assets.getD j asset0).amount))), mclk mm cl ((l.getD k value0).assets.getD j asset0).key, rfl, rfl, by omega, by omega, hij0.add (wOf_num (wOf_ok _)) (tot_snoc (d := asset0) h26), by have := mput_len mm cl ((l.getD k value0).assets.getD j asset0).key (wOf (num ((mlook mm ((l.getD k value0).assets.getD j asset0).key).getD wz) + num (wOf ((l.getD k value0).assets.getD j asset0).amount))); omega⟩
      · refine v_code [] (hk := ?_)
        refine v_again (l.length - (k + 1)) ⟨k + 1, wOf (wsum [s, wOf (l.getD k value0).coin]), mm, cl, rfl, rfl, by omega, by omega, by rw [csum_snoc (d := value0) h13, wsum_two, hik0, wOf_add, wOf_addR], by rw [AL_snoc (d := value0) h13]; rw [take_all' h26] at hij0; exact hij0, by omega⟩
    · refine v_callS rfl 20950 [] (wide_spec (l.getD k value0).coin hv.2.1) Tryz.func39 (h := ?_)
      rintro _ _ (⟨rfl, rfl⟩)
      refine ⟨cov_of (by repeat (first | exact trivial | refine ⟨rfl, ?_⟩)), ?_⟩
      refine v_sch [] (hk := ?_)
      refine s_do rfl (d_bslice [s, wOf (l.getD k value0).coin]) (fun B20 => ?_)
      refine v_callS rfl 21050 [] (plus_spec B20 [s, wOf (l.getD k value0).coin] 2 (by simp) (by intro w hw; simp at hw; rcases hw with rfl | rfl; rw [hik0]; exact wOf_ok _; exact wOf_ok _)) Tryz.func36 (h := ?_)
      rintro _ _ (⟨rfl, rfl⟩)
      refine ⟨cov_of (by repeat (first | exact trivial | refine ⟨rfl, ?_⟩)), ?_⟩
      refine v_sch [] (hk := ?_)
      refine v_loop (fun m E H => ∃ (j : Nat) (mm : List (NameP × WideP × Nat)) (cl : Nat), E = [(25, vn j)] ∧ H = [(10009, Res.mp g9 nameEn wideEn mm cl)] ∧ m = (l.getD k value0).assets.length - j ∧ j ≤ (l.getD k value0).assets.length ∧ (BM (tot (AL (l.take k) ++ (l.getD k value0).assets.take j)) mm cl) ∧ (mm.length ≤ 1000 * k + j)) [2, 3, 4, 6, 10, 11, 12, 13, 14, 15, 16, 17, 18, 19, 20, 21, 22, 23, 24, 37, 38, 39, 40] ((l.getD k value0).assets.length) ([(25, vn 0)]) ([(10009, Res.mp g9 nameEn wideEn (m0) (cl0))]) (h0 := ⟨0, m0, cl0, rfl, rfl, by omega, by omega, by rw [List.take_zero, List.append_nil]; exact hik1, by omega⟩) (hr := ?_)
      rintro _ _ _ ⟨j, mm, cl, rfl, rfl, hmj, hj, hij0, hij1⟩
      refine v_code [] (hk := ?_)
      first | refine c_ifd rfl (fun h26 => ?_) (fun h26 => ?_) | refine c_ifn rfl (fun h26 => ?_) (fun h26 => ?_) | refine c_if rfl (fun h26 => ?_) (fun h26 => ?_)
      · have hx := hv.2.2 _ (getD_mem (d := asset0) h26)
        refine v_code [] (hk := ?_)
        refine l_do d_alloc (fun g8 => ?_)
        refine v_ops [] (hk := ?_)
        refine v_draw (.q 0 (.q 1 (.q 3 (.q 4 (.s 2 (.s 5 (.s 6 .nil))))))) [10008] (hm := by kernel_rfl) (hs := by kernel_rfl) (hk := by kernel_rfl) (h := ?_)
        refine v_sch [] (hk := ?_)
        refine v_callS rfl 21550 [] (nameof_spec ((l.getD k value0).assets.getD j asset0)) Tryz.func57 (h := ?_)
        rintro _ _ (⟨rfl, rfl⟩)
        refine ⟨cov_of (by repeat (first | exact trivial | refine ⟨rfl, ?_⟩)), ?_⟩
        refine v_callS rfl 21700 [] (wide_spec ((l.getD k value0).assets.getD j asset0).amount hx) Tryz.func39 (h := ?_)
        rintro _ _ (⟨rfl, rfl⟩)
        refine ⟨cov_of (by repeat (first | exact trivial | refine ⟨rfl, ?_⟩)), ?_⟩
        refine v_callS rfl 21750 [] (badd_spec g9 mm cl ((l.getD k value0).assets.getD j asset0).key (wOf ((l.getD k value0).assets.getD j asset0).amount) (wOf_ok _) (hij0.ok _)) Tryz.func56 (h := ?_)
        rintro _ _ (⟨rfl, rfl⟩)
        refine ⟨cov_of (by repeat (first | exact trivial | refine ⟨rfl, ?_⟩)), ?_⟩
        refine v_sch [] (hk := ?_)
        refine k_ren 21750 10009 rfl ?_
        refine v_again ((l.getD k value0).assets.length - (j + 1)) ⟨j + 1, mput mm cl ((l.getD k value0).assets.getD j asset0).key (wOf (num ((mlook mm ((l.getD k value0).assets.getD j asset0).key).getD wz) + num (wOf ((l.getD k value0).assets.getD j asset0).amount))), mclk mm cl ((l.getD k value0).assets.getD j asset0).key, rfl, rfl, by omega, by omega, hij0.add (wOf_num (wOf_ok _)) (tot_snoc (d := asset0) h26), by have := mput_len mm cl ((l.getD k value0).assets.getD j asset0).key (wOf (num ((mlook mm ((l.getD k value0).assets.getD j asset0).key).getD wz) + num (wOf ((l.getD k value0).assets.getD j asset0).amount))); omega⟩
      · refine v_code [] (hk := ?_)
        refine v_again (l.length - (k + 1)) ⟨k + 1, wOf (wsum [s, wOf (l.getD k value0).coin]), mm, cl, rfl, rfl, by omega, by omega, by rw [csum_snoc (d := value0) h13, wsum_two, hik0, wOf_add, wOf_addR], by rw [AL_snoc (d := value0) h13]; rw [take_all' h26] at hij0; exact hij0, by omega⟩
  · refine v_code [] (hk := ?_)
    refine v_draw (.q 1 (.s2 0 (.s 2 (.s 3 (.q 4 .nil))) 2 (.s 0 (.s 3 (.q 4 .nil))))) [10009, 10011, 10006, 20950, 20951, 20952, 20953, 10020, 21050, 21051, 21052, 21053, 10024, 10008, 21550, 21551, 21552, 21553, 21700, 21701, 21702, 21703, 21750, 21751, 21752, 21753, 22000, 22001, 22002, 22003] (hm := by kernel_rfl) (hs := by kernel_rfl) (hk := by kernel_rfl) (h := ?_)
    refine v_sch [] (hk := ?_)
    refine s_two ?_ ?_
    · refine v_sch [] (hk := ?_)
      refine v_callS rfl 22000 [] (totals_spec g9 m0 cl0 hik1.wf (by omega)) Tryz.func58 (h := ?_)
      rintro _ _ (⟨B, d, t, ht, htl, rfl, rfl⟩)
      refine ⟨cov_of (by repeat (first | exact trivial | refine ⟨rfl, ?_⟩)), ?_⟩
      refine v_sch [] (hk := ?_)
      rw [take_all' h13] at hik0 hik1
      refine k_ret [22000] (.tup [.agg [.one (.i .i64 s.hi), .one (.i .u64 s.lo)], .one (.sl 0 B t.length d)]) (.cons (.cell inferInstance rfl rfl rfl rfl) (.cons (.tmp rfl) .nil)) (h := ?_)
      subst hik0
      exact ⟨B, d, t, ht.congr hik1.look, htl, rfl, rfl⟩
    · refine v_callS rfl 22000 [] (totals_spec g9 m0 cl0 hik1.wf (by omega)) Tryz.func58 (h := ?_)
      rintro _ _ (⟨B, d, t, ht, htl, rfl, rfl⟩)
      refine ⟨cov_of (by repeat (first | exact trivial | refine ⟨rfl, ?_⟩)), ?_⟩
      refine v_sch [] (hk := ?_)
      rw [take_all' h13] at hik0 hik1
      refine k_ret [22000] (.tup [.agg [.one (.i .i64 s.hi), .one (.i .u64 s.lo)], .one (.sl 0 B t.length d)]) (.cons (.cell inferInstance rfl rfl rfl rfl) (.cons (.tmp rfl) .nil)) (h := ?_)
      subst hik0
      exact ⟨B, d, t, ht.congr hik1.look, htl, rfl, rfl⟩
end Go.Proofs.YtlnckcgbpilmdaaGreat
/- Balance. -/

set_option linter.unusedVariables false
set_option linter.unusedSimpArgs false
set_option maxRecDepth 100000
namespace Go.Proofs.YtlnckcgbpilmdaaGreat
open Go Go.RowKit HL
theorem rd_none {α : Type} {E : En α} {l : List α} {w : World} (h : (Res.rd none E l).holds w) : l = [] := by
  cases l with
  | nil => rfl
  | cons x l => exact absurd rfl (show (none : Option Addr) ≠ none from fun _ => by
      obtain ⟨ad, h1, _⟩ := rds_some (rd_reads h) (by simp)
      cases h1)
theorem clone_spec (A : Option Addr) (l : List ValueM) (c : Nat) (hl : l.length ≤ 1048576) : CSpec Tryz.prog 62 [.one (.sl 0 A l.length c)] [(0, Res.rd A valueEn l)] [] fun o L => ∃ B d, o = .ret (vsl 0 B l.length d) ∧ L = [Res.rows B d 26 valueEn l] := by
  refine v_enter Tryz.func62 (h := fun w0 => ?_)
  refine v_code [] (hk := ?_)
  first | refine c_ifd rfl (fun h4 => ?_) (fun h4 => ?_) | refine c_ifn rfl (fun h4 => ?_) (fun h4 => ?_) | refine c_if rfl (fun h4 => ?_) (fun h4 => ?_)
  · have hA : A = none := by simpa using h4
    subst hA
    refine k_fact (p := l = []) (fun w hf => rd_none (hf 0 _ rfl)) (fun hn => ?_)
    subst hn
    refine v_code [] (hk := ?_)
    refine k_nil 700 26 valueEn ?_
    refine k_ret [700] (vsl 0 none 0 0) (.cons (.tmp rfl) .nil) (h := ?_)
    exact ⟨none, 0, rfl, rfl⟩
  · refine v_code [] (hk := ?_)
    refine l_do (d_bslice ([] : List ValueM)) (fun B5 => ?_)
    refine v_ops [] (hk := ?_)
    refine l_do d_append (fun p7 => ?_)
    refine v_ops [] (hk := ?_)
    refine k_ret [10005] (vsl 0 p7.1 ([] ++ l).length p7.2) (.cons (.tmp rfl) .nil) (h := ?_)
    exact ⟨p7.1, p7.2, rfl, rfl⟩
def Bal (inn : List ValueM) (mint : List AssetP) (out : List ValueM) (fee : Int) : Prop := wOf (csum inn) = wOf (csum out + fee) ∧ ∀ n, wOf (tot (AL inn ++ mint) n) = wOf (tot (AL out) n)
theorem AL_with (l : List ValueM) (v : ValueM) : AL (l ++ [v]) = AL l ++ v.assets := by rw [AL_app, AL_one]
theorem csum_with (l : List ValueM) (v : ValueM) : csum (l ++ [v]) = csum l + v.coin := by rw [csum_app, csum_one]
theorem balance_spec (A M C : Option Addr) (inn out : List ValueM) (mint : List AssetP) (c d e : Nat) (fee : Int) (h1 : inn.length ≤ 900) (h2 : out.length ≤ 900) (f1 : ∀ v ∈ inn, FitS v) (f2 : ∀ v ∈ out, FitS v) (hm : mint.length ≤ 1000 ∧ ∀ x ∈ mint, Fits64 x.amount) (hfee : Fits64 fee) : CSpec Tryz.prog 17 [.one (.sl 0 A inn.length c), .one (.sl 1 M mint.length d), .one (.sl 2 C out.length e), .one (.i .i64 fee)] [(0, rdValues A inn), (1, Res.rd M assetEn mint), (2, rdValues C out)] [] fun o L => ∃ b : Bool, (b = true ↔ Bal inn mint out fee) ∧ o = .ret (vb b) ∧ L = [] := by
  have g1 : ∀ v ∈ inn ++ [⟨0, M, d, mint⟩], FitS v := by
    intro v hv
    rcases List.mem_append.1 hv with hv | hv
    · exact f1 v hv
    · rw [List.mem_singleton.1 hv]; exact ⟨hm.1, ⟨by show (-9223372036854775808 : Int) ≤ 0; decide, by show (0 : Int) ≤ 9223372036854775807; decide⟩, hm.2⟩
  have g2 : ∀ v ∈ out ++ [⟨fee, none, 0, []⟩], FitS v := by
    intro v hv
    rcases List.mem_append.1 hv with hv | hv
    · exact f2 v hv
    · rw [List.mem_singleton.1 hv]; exact ⟨by simp, hfee, by simp⟩
  refine v_enter Tryz.func17 (h := fun w0 => ?_)
  refine v_code [] (hk := ?_)
  refine v_call 20750 [] (clone_spec A inn c (by omega)) Tryz.func62 (hB := ⟨⟨_, rfl, view_head⟩, trivial⟩) (h := ?_)
  rintro _ _ (⟨B, k, rfl, rfl⟩)
  refine v_ops [] (hk := ?_)
  refine l_do (d_bslice [(⟨0, M, d, mint⟩ : ValueM)]) (fun B18 => ?_)
  refine l_do d_append (fun p19 => ?_)
  refine v_callD 21000 [] (sums_spec p19.1 (inn ++ [⟨0, M, d, mint⟩]) p19.2 (by simp; omega) g1) Tryz.func13 (hB := ⟨⟨_, (Der.rdn (Der.vw 20750) (Each.app (Each.rdn 0) (Each.cons (Der.vw 1) Each.nil))), rfl⟩, trivial⟩) (h := ?_)
  rintro _ _ (⟨B2, k2, t, ht, htl, rfl, rfl⟩)
  refine v_ops [] (hk := ?_)
  refine l_do d_alloc (fun g9 => ?_)
  refine v_ops [] (hk := ?_)
  refine v_call 21250 [] (clone_spec C out e (by omega)) Tryz.func62 (hB := ⟨⟨_, rfl, view_head⟩, trivial⟩) (h := ?_)
  rintro _ _ (⟨B3, k3, rfl, rfl⟩)
  refine v_ops [] (hk := ?_)
  refine l_do (d_bslice [(⟨fee, none, 0, []⟩ : ValueM)]) (fun B28 => ?_)
  refine l_do d_append (fun p29 => ?_)
  refine v_callD 21500 [] (sums_spec p29.1 (out ++ [⟨fee, none, 0, []⟩]) p29.2 (by simp; omega) g2) Tryz.func13 (hB := ⟨⟨_, (Der.rdn (Der.vw 21250) (Each.app (Each.rdn 2) (Each.cons Der.nl Each.nil))), rfl⟩, trivial⟩) (h := ?_)
  rintro _ _ (⟨B4, k4, u, hu, hul, rfl, rfl⟩)
  refine v_ops [] (hk := ?_)
  refine l_do d_alloc (fun g11 => ?_)
  refine v_ops [] (hk := ?_)
  refine l_rd (r_eqSt (u := wOf (csum (inn ++ [⟨0, M, d, mint⟩]))) (v := wOf (csum (out ++ [⟨fee, none, 0, []⟩])))) ?_
  refine v_ops [] (hk := ?_)
  refine l_callG [] [37, 38] ⟨_, _, ⟨_, .inl ⟨rfl, rfl⟩⟩, ⟨_, _, ⟨_, .inl ⟨rfl, rfl⟩⟩, rfl, rfl⟩, rfl⟩ (fun hg => equalTotals_spec B2 B4 t u k2 k4 htl) Tryz.func63 (h := ?_)
  refine v_ops [] (hk := ?_)
  refine v_ret rfl [] (.cons (.tmp rfl) .nil) (h := ?_)
  refine ⟨_, ?_, rfl, rfl⟩
  rw [Bool.and_eq_true, decide_eq_true_iff, decide_eq_true_iff, csum_with, csum_with, ht.eq_iff hu]
  unfold Bal
  simp only [AL_with, List.append_nil, Int.add_zero]
end Go.Proofs.YtlnckcgbpilmdaaGreat
/- The chapter's examples: plain. -/

set_option linter.unusedVariables false
namespace Go.Proofs.YtlnckcgbpilmdaaGreat
open Go Go.RowKit HL
theorem Told.none {S : Int → List AssetP → Prop} {ok : Bool} {v : ValueM} (h : Told S ok v) (hn : ∀ co p, ¬ S co p) : ok = false ∧ v.coin = 0 ∧ v.assets = [] := by
  rcases h with ⟨_, h⟩ | h
  · exact absurd h (hn _ _)
  · exact ⟨h.1, h.2.2⟩
theorem Told.some {S : Int → List AssetP → Prop} {ok : Bool} {v : ValueM} (h : Told S ok v) {co : Int} {p : List AssetP} (hs : S co p) : ok = true ∧ S v.coin v.assets := by
  rcases h with h | h
  · exact h
  · exact absurd hs (h.2.1 co p)
theorem Told.yes {S : Int → List AssetP → Prop} {v : ValueM} (h : Told S true v) : S v.coin v.assets := by
  rcases h with h | h
  · exact h.2
  · cases h.1
theorem Told.no {S : Int → List AssetP → Prop} {v : ValueM} (h : Told S false v) : (∀ co p, ¬ S co p) ∧ v.coin = 0 ∧ v.assets = [] := by
  rcases h with h | h
  · cases h.1
  · exact h.2
abbrev coinV (n : Int) : ValueM := ⟨n, none, 0, []⟩
theorem isB_nil : IsB (fun _ => 0) [] := ⟨List.Pairwise.nil, fun x => ⟨fun h => (by cases h), fun h => by have h1 := h.1; have h2 : (0 : Int) = x.amount := h.2; omega⟩⟩
theorem right_coin {n : Int} (h : 0 ≤ n) : RightV n [] := ⟨h, ⟨by simp, List.Pairwise.nil, by simp⟩, by simp⟩
theorem ex_far {co : Int} {p : List AssetP} : ¬ Adds [coinV 5, coinV 9223372036854775807] co p := fun h => by
  exact absurd h.1.2.1 (by decide)
theorem ex_five : Adds [coinV 2, coinV 3] 5 [] := by
  refine ⟨⟨?_, by decide, ?_⟩, by decide, ?_, by simp⟩
  · intro v hv
    simp at hv
    rcases hv with rfl | rfl <;> exact right_coin (by decide)
  · intro n
    show (0 : Int) ≤ _
    decide
  · exact isB_nil
theorem Adds.unique {l : List ValueM} {c c' : Int} {p p' : List AssetP} (h : Adds l c p) (h' : Adds l c' p') : c = c' ∧ p = p' := ⟨h.2.1.trans h'.2.1.symm, h.2.2.1.unique h'.2.2.1⟩
theorem Subs.unique {a b : ValueM} {c c' : Int} {p p' : List AssetP} (h : Subs a b c p) (h' : Subs a b c' p') : c = c' ∧ p = p' := ⟨h.2.2.1.trans h'.2.2.1.symm, h.2.2.2.2.2.1.unique h'.2.2.2.2.2.1⟩
theorem sub_self {a : ValueM} (h : RightV a.coin a.assets) : Subs a a 0 [] := by
  refine ⟨h, h, by omega, by omega, fun n => by omega, ?_, by simp⟩
  have : (fun n => tot a.assets n - tot a.assets n) = fun _ => 0 := by funext n; omega
  rw [this]
  exact isB_nil
def exX : AssetP := ⟨hset hz [(0, 1)], ⟨#[120]⟩, 4⟩
theorem ex_right : RightV 3 [exX] := ⟨by decide, ⟨by intro x hx; rw [List.mem_singleton.1 hx]; decide, by simp [Rise], by simp⟩, by intro x hx; rw [List.mem_singleton.1 hx]; decide⟩
theorem ex_bal : Bal [coinV 9223372036854775807, coinV 9223372036854775807] [] [coinV 9223372036854775807, coinV 9223372036854775806] 1 := ⟨by decide, fun n => rfl⟩
theorem fit_coin {n : Int} (h : -9223372036854775808 ≤ n ∧ n ≤ 9223372036854775807) : FitV (coinV n) := ⟨by simp, h, by simp⟩
theorem fits_coin {n : Int} (h : -9223372036854775808 ≤ n ∧ n ≤ 9223372036854775807) : FitS (coinV n) := ⟨by simp, h, by simp⟩
end Go.Proofs.YtlnckcgbpilmdaaGreat
/- The chapter's examples. -/

set_option linter.unusedVariables false
set_option linter.unusedSimpArgs false
set_option maxRecDepth 100000
namespace Go.Proofs.YtlnckcgbpilmdaaGreat
open Go Go.RowKit HL
theorem ofv_spec (coin : Int) (A : Option Addr) (n c : Nat) : CSpec Tryz.prog 46 [.one (.i .i64 coin), .one (.sl 0 A n c)] [] [] fun o L => o = .ret (.s (.agg [.one (.i .i64 coin), .one (.sl 0 A n c)])) ∧ L = [] := by
  refine v_enter Tryz.func46 (h := fun w0 => ?_)
  refine v_code [] (hk := ?_)
  refine l_do d_alloc (fun g4 => ?_)
  refine v_ops [] (hk := ?_)
  refine v_ret rfl [] (.cons (.cell inferInstance rfl rfl rfl rfl) .nil) (h := ?_)
  exact ⟨rfl, rfl⟩
theorem asset_spec (p : UInt8) (name : ByteArray) (amount : Int) : CSpec Tryz.prog 47 [.one (.i .u8 p.toNat), .one (.s name), .one (.i .i64 amount)] [] [] fun o L => o = .ret (.s (.agg [.hash (hset hz [(0, p)]), .one (.s name), .one (.i .i64 amount)])) ∧ L = [] := by
  refine v_enter Tryz.func47 (h := fun w0 => ?_)
  refine v_code [] (hk := ?_)
  refine l_do d_alloc (fun g6 => ?_)
  refine v_ops [] (hk := ?_)
  refine l_rd (r_buildH [(0, p)] ⟨rfl, ⟨_, rfl, rfl⟩, trivial⟩) ?_
  refine v_ops [] (hk := ?_)
  refine v_ret rfl [] (.cons (.cell inferInstance rfl rfl rfl rfl) .nil) (h := ?_)
  exact ⟨rfl, rfl⟩
theorem awake_spec : CSpec Tryz.prog 8 [] [] [] fun o L => o = .ret (vb true) ∧ L = [] := by
  have fx : FitV ⟨3, none, 1, [exX]⟩ := ⟨by simp, ⟨by show (-9223372036854775808 : Int) ≤ 3; decide, by show (3 : Int) ≤ 9223372036854775807; decide⟩, fun x hx => by rw [List.mem_singleton.1 hx]; exact ⟨by decide, by decide⟩⟩
  refine v_enter Tryz.func8 (h := fun w0 => ?_)
  refine v_code [] (hk := ?_)
  refine v_call 20450 [] (ofv_spec 5 none 0 0) Tryz.func46 (h := ?_)
  rintro _ _ (⟨rfl, rfl⟩)
  refine v_call 20500 [] (ofv_spec 9223372036854775807 none 0 0) Tryz.func46 (h := ?_)
  rintro _ _ (⟨rfl, rfl⟩)
  refine l_do (d_bslice [coinV 5, coinV 9223372036854775807]) (fun B11 => ?_)
  refine v_callD 20600 [] (add_spec B11 [coinV 5, coinV 9223372036854775807] 2 (by simp) (by intro v hv; simp at hv; rcases hv with rfl | rfl <;> exact fit_coin (by decide))) Tryz.func11 (hB := ⟨⟨_, (Der.rdn (Der.vw 10011) (Each.cons Der.nl (Each.cons Der.nl Each.nil))), rfl⟩, trivial⟩) (h := ?_)
  rintro _ _ (⟨v, ok, ht, rfl, rfl⟩)
  obtain ⟨rfl, -, -⟩ := ht.none fun co p => ex_far
  refine k_val 12 (.tup [.agg [.one (.i .i64 v.coin), .one (.sl 20600 v.A v.assets.length v.c)], .one (.kb false)]) rfl rfl ?_
  refine v_ops [] (hk := ?_)
  refine l_do d_alloc (fun g1 => ?_)
  refine v_ops [] (hk := ?_)
  refine v_call 20750 [] (asset_spec 1 ⟨#[120]⟩ 4) Tryz.func47 (h := ?_)
  rintro _ _ (⟨rfl, rfl⟩)
  refine l_do (d_bslice [exX]) (fun B16 => ?_)
  refine v_call 20850 [] (ofv_spec 3 B16 1 1) Tryz.func46 (h := ?_)
  rintro _ _ (⟨rfl, rfl⟩)
  refine l_do d_alloc (fun g3 => ?_)
  refine v_ops [] (hk := ?_)
  refine v_callD 21050 [] (sub_spec ⟨3, B16, 1, [exX]⟩ ⟨3, B16, 1, [exX]⟩ fx fx) Tryz.func24 (hB := ⟨⟨_, (Der.vw 10016), rfl⟩, ⟨⟨_, (Der.vw 10016), rfl⟩, trivial⟩⟩) (h := ?_)
  rintro _ _ (⟨v2, ok2, ht2, rfl, rfl⟩)
  obtain ⟨rfl, hs2⟩ := ht2.some (sub_self (a := ⟨3, B16, 1, [exX]⟩) ex_right)
  obtain ⟨hc2, hp2⟩ := hs2.unique (sub_self (a := ⟨3, B16, 1, [exX]⟩) ex_right)
  refine k_val 21 (.tup [.agg [.one (.i .i64 v2.coin), .one (.sl 21050 v2.A v2.assets.length v2.c)], .one (.kb true)]) rfl rfl ?_
  refine v_ops [] (hk := ?_)
  refine l_do d_alloc (fun g4 => ?_)
  refine v_ops [] (hk := ?_)
  refine v_call 21250 [] (ofv_spec 2 none 0 0) Tryz.func46 (h := ?_)
  rintro _ _ (⟨rfl, rfl⟩)
  refine v_call 21300 [] (ofv_spec 3 none 0 0) Tryz.func46 (h := ?_)
  rintro _ _ (⟨rfl, rfl⟩)
  refine l_do (d_bslice [coinV 2, coinV 3]) (fun B27 => ?_)
  refine v_callD 21400 [] (add_spec B27 [coinV 2, coinV 3] 2 (by simp) (by intro v hv; simp at hv; rcases hv with rfl | rfl <;> exact fit_coin (by decide))) Tryz.func11 (hB := ⟨⟨_, (Der.rdn (Der.vw 10027) (Each.cons Der.nl (Each.cons Der.nl Each.nil))), rfl⟩, trivial⟩) (h := ?_)
  rintro _ _ (⟨v3, ok3, ht3, rfl, rfl⟩)
  obtain ⟨rfl, hs3⟩ := ht3.some ex_five
  obtain ⟨hc3, hp3⟩ := hs3.unique ex_five
  refine k_val 28 (.tup [.agg [.one (.i .i64 v3.coin), .one (.sl 21400 v3.A v3.assets.length v3.c)], .one (.kb true)]) rfl rfl ?_
  refine v_ops [] (hk := ?_)
  refine l_do d_alloc (fun g6 => ?_)
  refine v_ops [] (hk := ?_)
  refine k_val 36 (vb true) rfl rfl ?_
  refine v_callD 21950 [] (sameValue_spec v2 ⟨0, none, 0, []⟩ (by rw [hp2]; simp)) Tryz.func15 (hB := ⟨⟨_, (Der.vw 21050), rfl⟩, ⟨⟨_, Der.nl, rfl⟩, trivial⟩⟩) (h := ?_)
  rintro _ _ (⟨rfl, rfl⟩)
  refine v_know 39 true rfl (by simp [hc2, hp2]) ?_
  refine v_know 36 true rfl rfl ?_
  refine v_ops [] (hk := ?_)
  refine v_know 49 true rfl (by simp [hc3]) ?_
  refine k_val 49 (vb true) rfl rfl ?_
  refine v_callD 22500 [] (ofv_spec 9223372036854775807 none 0 0) Tryz.func46 (hB := trivial) (h := ?_)
  rintro _ _ (⟨rfl, rfl⟩)
  refine v_callD 22550 [] (ofv_spec 9223372036854775807 none 0 0) Tryz.func46 (hB := trivial) (h := ?_)
  rintro _ _ (⟨rfl, rfl⟩)
  refine l_do (d_bslice [coinV 9223372036854775807, coinV 9223372036854775807]) (fun B52 => ?_)
  refine v_callD 22650 [] (ofv_spec 9223372036854775807 none 0 0) Tryz.func46 (hB := trivial) (h := ?_)
  rintro _ _ (⟨rfl, rfl⟩)
  refine v_callD 22700 [] (ofv_spec 9223372036854775806 none 0 0) Tryz.func46 (hB := trivial) (h := ?_)
  rintro _ _ (⟨rfl, rfl⟩)
  refine l_do (d_bslice [coinV 9223372036854775807, coinV 9223372036854775806]) (fun B55 => ?_)
  refine v_callD 22800 [] (balance_spec B52 none B55 [coinV 9223372036854775807, coinV 9223372036854775807] [coinV 9223372036854775807, coinV 9223372036854775806] [] 2 0 2 1 (by simp) (by simp) (by intro v hv; simp at hv; rcases hv with rfl | rfl <;> exact fits_coin (by decide)) (by intro v hv; simp at hv; rcases hv with rfl | rfl <;> exact fits_coin (by decide)) ⟨by simp, by simp⟩ ⟨by decide, by decide⟩) Tryz.func17 (hB := ⟨⟨_, (Der.rdn (Der.vw 10052) (Each.cons Der.nl (Each.cons Der.nl Each.nil))), rfl⟩, ⟨⟨_, Der.nl, rfl⟩, ⟨⟨_, (Der.rdn (Der.vw 10055) (Each.cons Der.nl (Each.cons Der.nl Each.nil))), rfl⟩, trivial⟩⟩⟩) (h := ?_)
  rintro _ _ (⟨b, hb, rfl, rfl⟩)
  have hb2 := hb.2 ex_bal
  subst hb2
  refine v_ops [] (hk := ?_)
  refine v_ret rfl [] (.cons (.tmp rfl) .nil) (h := ?_)
  exact ⟨rfl, rfl⟩
end Go.Proofs.YtlnckcgbpilmdaaGreat
/- The ring of bundles: plain. -/

set_option linter.unusedVariables false
namespace Go.Proofs.YtlnckcgbpilmdaaGreat
open Go Go.RowKit HL
theorem tot_amt {P : List AssetP} (hr : Rise AssetP.key P) (n : NameP) : amt P n = tot P n := by
  by_cases h : ∃ x ∈ P, x.key = n
  · obtain ⟨x, hx, rfl⟩ := h
    rw [amt_of hr.nodup x hx, tot_key hr.nodup x hx]
  · have h1 : tot P n = 0 := by
      by_cases h0 : tot P n = 0
      · exact h0
      · exact absurd (tot_mem h0) h
    rw [h1]
    unfold amt
    rw [atN_none (fun x hx e => h ⟨x, hx, e⟩)]
    rfl
theorem IsB.tots {f : NameP → Int} {p : List AssetP} (h : IsB f p) {n : NameP} (hp : 0 ≤ f n) : tot p n = f n := by
  rw [← tot_amt h.1, h.amt hp]
theorem IsB.congr {f g : NameP → Int} {p : List AssetP} (h : IsB f p) (he : ∀ n, f n = g n) : IsB g p := by
  have : f = g := funext he
  rwa [← this]
theorem Told.same {S S' : Int → List AssetP → Prop} {ok is : Bool} {v w : ValueM} (h : Told S ok v) (h' : Told S' is w) (he : ∀ co p, S co p ↔ S' co p) (hu : ∀ co p co' p', S co p → S co' p' → co = co' ∧ p = p') : ok = is ∧ v.coin = w.coin ∧ v.assets = w.assets := by
  rcases h with ⟨rfl, h⟩ | ⟨rfl, h1, h2, h3⟩
  · rcases h' with ⟨rfl, h'⟩ | ⟨rfl, h1', h2', h3'⟩
    · exact ⟨rfl, hu _ _ _ _ h ((he _ _).2 h')⟩
    · exact absurd ((he _ _).1 h) (h1' _ _)
  · rcases h' with ⟨rfl, h'⟩ | ⟨rfl, h1', h2', h3'⟩
    · exact absurd ((he _ _).2 h') (h1 _ _)
    · exact ⟨rfl, by rw [h2, h2'], by rw [h3, h3']⟩
theorem csum_perm {l m : List ValueM} (h : l.Perm m) : csum l = csum m := by
  induction h with
  | nil => rfl
  | @cons x l m _ ih => rw [show x :: l = [x] ++ l from rfl, show x :: m = [x] ++ m from rfl, csum_app, csum_app, ih]
  | swap x y l =>
    rw [show y :: x :: l = [y] ++ ([x] ++ l) from rfl, show x :: y :: l = [x] ++ ([y] ++ l) from rfl]
    simp only [csum_app]
    omega
  | trans _ _ h1 h2 => rw [h1, h2]
theorem totAL_perm {l m : List ValueM} (h : l.Perm m) (n : NameP) : tot (AL l) n = tot (AL m) n := by
  induction h with
  | nil => rfl
  | @cons x l m _ ih => rw [show x :: l = [x] ++ l from rfl, show x :: m = [x] ++ m from rfl, AL_app, AL_app, tot_app, tot_app, ih]
  | swap x y l =>
    rw [show y :: x :: l = [y] ++ ([x] ++ l) from rfl, show x :: y :: l = [x] ++ ([y] ++ l) from rfl]
    simp only [AL_app, tot_app]
    omega
  | trans _ _ h1 h2 => rw [h1, h2]
theorem Adds.perm {l m : List ValueM} (hp : l.Perm m) {co : Int} {p : List AssetP} (h : Adds l co p) : Adds m co p := by
  obtain ⟨⟨h1, h2, h3⟩, h4, h5, h6⟩ := h
  refine ⟨⟨fun v hv => h1 v (hp.mem_iff.2 hv), by rw [← csum_perm hp]; exact h2, fun n => by rw [← totAL_perm hp]; exact h3 n⟩, by rw [h4, csum_perm hp], h5.congr fun n => totAL_perm hp n, h6⟩
theorem Adds.right {l : List ValueM} {co : Int} {p : List AssetP} (h : Adds l co p) : RightV co p := by
  obtain ⟨⟨h1, h2, h3⟩, h4, h5, h6⟩ := h
  refine ⟨by rw [h4]; exact Rights.csum h1, ⟨fun x hx => ?_, h5.1, h6⟩, fun x hx => ((h5.2 x).1 hx).1⟩
  have hx' := (h5.2 x).1 hx
  obtain ⟨y, hy, e⟩ := tot_mem (P := AL l) (n := x.key) (by omega)
  obtain ⟨v, hv, hy⟩ := List.mem_flatMap.1 hy
  have := (h1 v hv).2.1.1 y hy
  have e2 : y.name = x.name := congrArg NameP.name e
  rwa [e2] at this
theorem Adds.nonneg {l : List ValueM} {co : Int} {p : List AssetP} (h : Adds l co p) (n : NameP) : 0 ≤ tot (AL l) n := tot_nonneg n h.1.1.pos
theorem Adds.tots {l : List ValueM} {co : Int} {p : List AssetP} (h : Adds l co p) (n : NameP) : tot p n = tot (AL l) n := h.2.2.1.tots (h.nonneg n)
theorem ex_put {p : List AssetP} (hr : Rise AssetP.key p) (z : AssetP) : ∃ q, Rise AssetP.key q ∧ ∀ y, y ∈ q ↔ (y ∈ p ∧ y.key ≠ z.key) ∨ y = z := by
  refine ⟨(p.filter fun y => decide (nord y.key z.key < 0)) ++ ([z] ++ (p.filter fun y => decide (nord z.key y.key < 0))), ?_, fun y => ?_⟩
  · unfold Rise at *
    refine List.pairwise_append.2 ⟨hr.sublist (List.filter_sublist), List.pairwise_append.2 ⟨by simp, hr.sublist (List.filter_sublist), fun a ha b hb => ?_⟩, fun a ha b hb => ?_⟩
    · rw [List.mem_singleton.1 ha]
      simpa using (List.mem_filter.1 hb).2
    · have h1 : nord a.key z.key < 0 := by simpa using (List.mem_filter.1 ha).2
      rcases List.mem_append.1 hb with hb | hb
      · rw [List.mem_singleton.1 hb]; exact h1
      · have h2 : nord z.key b.key < 0 := by simpa using (List.mem_filter.1 hb).2
        exact nord_trans h1 h2
  · rw [List.mem_append, List.mem_append, List.mem_filter, List.mem_filter, List.mem_singleton]
    constructor
    · rintro (⟨h1, h2⟩ | h | ⟨h1, h2⟩)
      · exact .inl ⟨h1, fun e => by rw [e] at h2; simp [nord_refl] at h2⟩
      · exact .inr h
      · exact .inl ⟨h1, fun e => by rw [e] at h2; simp [nord_refl] at h2⟩
    · rintro (⟨h1, h2⟩ | h)
      · rcases nord_tri y.key z.key with h | h | h
        · exact .inl ⟨h1, by simpa using h⟩
        · exact absurd h h2
        · exact .inr (.inr ⟨h1, by simpa using h⟩)
      · exact .inr (.inl h)
theorem ex_isB : ∀ {P : List AssetP}, (∀ x ∈ P, 1 ≤ x.amount) → ∃ p, IsB (tot P) p
  | [], _ => ⟨[], isB_nil.congr fun n => (tot_nil n).symm⟩
  | x :: P, h => by
    obtain ⟨p, hp⟩ := ex_isB (P := P) fun y hy => h y (List.mem_cons_of_mem _ hy)
    have hn := tot_nonneg (P := P) x.key fun y hy => h y (List.mem_cons_of_mem _ hy)
    have hx := h x (List.mem_cons_self ..)
    obtain ⟨q, hq1, hq2⟩ := ex_put hp.1 ⟨x.policy, x.name, tot P x.key + x.amount⟩
    refine ⟨q, hq1, fun y => ?_⟩
    rw [hq2, tot_cons, hp.2]
    have ek : AssetP.key ⟨x.policy, x.name, tot P x.key + x.amount⟩ = x.key := rfl
    constructor
    · rintro (⟨⟨h1, h2⟩, h3⟩ | rfl)
      · rw [ek] at h3
        rw [if_neg h3]
        exact ⟨h1, by omega⟩
      · rw [ek, if_pos rfl]
        exact ⟨by show 1 ≤ tot P x.key + x.amount; omega, by show x.amount + tot P x.key = tot P x.key + x.amount; omega⟩
    · rintro ⟨h1, h2⟩
      by_cases e : y.key = x.key
      · right
        rw [if_pos e, e] at h2
        cases y with
        | mk a b c =>
          have e1 : a = x.policy := congrArg NameP.policy e
          have e2 : b = x.name := congrArg NameP.name e
          subst e1; subst e2
          simp only [AssetP.mk.injEq, true_and]
          simp only at h2
          omega
      · left
        rw [if_neg e] at h2
        exact ⟨⟨h1, by omega⟩, by rw [ek]; exact e⟩
theorem len_names {p q : List AssetP} (hp : Rise AssetP.key p) (h : ∀ x ∈ p, ∃ y ∈ q, y.key = x.key) : p.length ≤ q.length := by
  have h1 := iter_len (l := q.map AssetP.key) (done := p.map AssetP.key) (fun k hk => by
    obtain ⟨x, hx, rfl⟩ := List.mem_map.1 hk
    obtain ⟨y, hy, e⟩ := h x hx
    rw [← e]
    exact List.mem_map_of_mem hy) hp.nodup
  simpa using h1
theorem Adds.some {l m : List ValueM} {co : Int} {p : List AssetP} (h : Adds (l ++ m) co p) : ∃ co' p', Adds l co' p' := by
  have hl : Rights l := fun v hv => h.1.1 v (List.mem_append_left _ hv)
  have hm : Rights m := fun v hv => h.1.1 v (List.mem_append_right _ hv)
  obtain ⟨q, hq⟩ := ex_isB (P := AL l) hl.pos
  have hc := hm.csum
  have h2 := h.1.2.1
  rw [csum_app] at h2
  refine ⟨csum l, q, ⟨hl, by omega, fun n => ?_⟩, rfl, hq, ?_⟩
  · have h3 := h.1.2.2 n
    rw [AL_app, tot_app] at h3
    have := tot_nonneg n hm.pos
    omega
  · have h6 := h.2.2.2
    refine Nat.le_trans (len_names hq.1 fun x hx => ?_) h6
    have hx' := (hq.2 x).1 hx
    have h7 := tot_nonneg x.key hm.pos
    exact ⟨⟨x.policy, x.name, tot (AL (l ++ m)) x.key⟩, (h.2.2.1.2 _).2 ⟨by show 1 ≤ tot (AL (l ++ m)) x.key; rw [AL_app, tot_app]; omega, rfl⟩, rfl⟩
theorem Adds.left {l m : List ValueM} {x s : ValueM} (hp : l.Perm (m ++ [x])) (h : Adds l s.coin s.assets) {co : Int} {p : List AssetP} (hm : Adds m co p) : Subs s x co p := by
  have h' := h.perm hp
  have h1 := h'.2.1
  rw [csum_app, csum_one] at h1
  have h2 := hm.2.1
  have hx : RightV x.coin x.assets := h'.1.1 x (by simp)
  have e : ∀ n, tot s.assets n = tot (AL m) n + tot x.assets n := fun n => by rw [h'.tots, AL_app, AL_one, tot_app]
  refine ⟨h.right, hx, by omega, hm.right.1, fun n => by rw [e]; have := hm.nonneg n; omega, hm.2.2.1.congr fun n => by rw [e]; omega, hm.2.2.2⟩
theorem Told.fit {l : List ValueM} {ok : Bool} {v : ValueM} (h : Told (Adds l) ok v) : FitV v := by
  rcases h with ⟨rfl, h⟩ | ⟨rfl, _, h2, h3⟩
  · have hr := h.right
    have h4 := h.1.2.1
    have h5 := h.2.1
    refine ⟨by have := h.2.2.2; omega, ⟨by have := hr.1; omega, by rw [h5]; exact h4⟩, fun x hx => ?_⟩
    have hx' := (h.2.2.1.2 x).1 hx
    have := h.1.2.2 x.key
    exact ⟨by omega, by rw [← hx'.2]; exact this⟩
  · exact ⟨by rw [h3]; simp, ⟨by rw [h2]; decide, by rw [h2]; decide⟩, by rw [h3]; simp⟩
end Go.Proofs.YtlnckcgbpilmdaaGreat
/- ValueRing, walked. -/


set_option linter.unusedVariables false
set_option linter.unusedSimpArgs false
set_option maxRecDepth 100000
namespace Go.Proofs.YtlnckcgbpilmdaaGreat
open Go Go.RowKit HL
structure Ring (a b c s ab : ValueM) (two : Bool) : Prop where
  s : Adds [a, b, c] s.coin s.assets
  two : two = true
  ab : Adds [a, b] ab.coin ab.assets
theorem Ring.mk' {a b c s ab : ValueM} {two : Bool} (h : Adds [a, b, c] s.coin s.assets) (h2 : Told (Adds [a, b]) two ab) : Ring a b c s ab two := by
  obtain ⟨co, p, hs⟩ := Adds.some (l := [a, b]) (m := [c]) h
  obtain ⟨h3, h4⟩ := h2.some hs
  exact ⟨h, h3, h4⟩
theorem Ring.left {a b c s ab lf : ValueM} {two less : Bool} (h : Ring a b c s ab two) (h3 : Told (Subs s c) less lf) : less = true ∧ lf.coin = ab.coin ∧ lf.assets = ab.assets := by
  have h4 := Adds.left (l := [a, b, c]) (m := [a, b]) (x := c) (s := s) (List.Perm.refl _) h.s h.ab
  obtain ⟨h5, h6⟩ := h3.some h4
  exact ⟨h5, h6.unique h4⟩
end Go.Proofs.YtlnckcgbpilmdaaGreat
/- Copies of bundles. -/

set_option linter.unusedVariables false
set_option linter.unusedSimpArgs false
set_option maxRecDepth 100000
namespace Go.Proofs.YtlnckcgbpilmdaaGreat
open Go Go.RowKit HL
def ownA (v : ValueM) : Res := Res.rows v.A v.c 57 assetEn v.assets
def SameVs (l m : List ValueM) : Prop := l.map (fun v => (v.coin, v.assets)) = m.map (fun v => (v.coin, v.assets))
theorem SameVs.snoc {l m : List ValueM} {k : Nat} {d v : ValueM} (h : SameVs m (l.take k)) (hk : k < l.length) (hc : v.coin = (l.getD k d).coin) (ha : v.assets = (l.getD k d).assets) : SameVs (m ++ [v]) (l.take (k + 1)) := by
  unfold SameVs at *
  rw [take_getD (d := d) hk, List.map_append, List.map_append, h]
  simp [hc, ha]
end Go.Proofs.YtlnckcgbpilmdaaGreat
/- SYMBOLIC STATES, COMPUTED: own rows made short: their elements become room. My own text; it names no program. -/

set_option linter.unusedVariables false
set_option linter.unusedSimpArgs false
set_option linter.unusedSectionVars false
namespace Go.Proofs.YtlnckcgbpilmdaaGreat
namespace HL
open Go Go.RowKit
theorem St.swap {w0 w : World} {M : Nat → Prop} {r r' : Res} {L : List Res} (h : St w0 w M (r :: L)) (hh : r'.holds w) (hf : ∀ b, r'.fp b → r.fp b) : St w0 w M (r' :: L) := by
  have hd := List.pairwise_cons.1 h.dis
  refine ⟨h.os, h.tape, h.output, h.drawn, h.size, h.keep, fun s hs => ?_, List.pairwise_cons.2 ⟨fun s hs b hb => hd.1 s hs b (hf b hb), hd.2⟩, fun s hs b hb => ?_⟩
  · rcases List.mem_cons.1 hs with rfl | hs
    · exact hh
    · exact h.res s (List.mem_cons_of_mem _ hs)
  · rcases List.mem_cons.1 hs with rfl | hs
    · exact h.own r (List.mem_cons_self ..) b (hf b hb)
    · exact h.own s (List.mem_cons_of_mem _ hs) b hb
theorem run_zeros {P : Program} (w : World) (t tn ty e : TypeId) (i : TypeInfo) (z : Value) (k kn : IntKind) (ht : P.underlying t = some (.slice e)) (htn : P.underlying tn = some (.int kn)) (hi : P.info? e = some i) (hz : i.zero = some z)
    (n : Nat) (h0 : 0 < n) (hs : 0 < i.size) (h63 : (n : Int) ≤ 9223372036854775807) (h48 : n * i.bytes ≤ 281474976710656) :
    (Builtin.append_ #[t, tn] ty #[.slice none 0 0, .int k n]).run P w =
      .ok (.slice (some ⟨w.heap.size, 0, none⟩) n (grownCap w n 0 e)) (w.drew.alloc (.cells (Builtin.zeroCells z.cells n ++ Builtin.zeroCells z.cells (grownCap w n 0 e - n)) e)) := by
  have hn : n ≠ 0 := by omega
  have hw : IntKind.i64.wrap (n : Int) = n := by
    unfold IntKind.wrap
    simp [IntKind.signed, IntKind.bits]
    omega
  have h63' : ¬ (9223372036854775807 < (n : Int)) := by omega
  have h48' : ¬ (281474976710656 < Builtin.nextslicecap n 0 * i.bytes) := by rw [nextslicecap_zero h0]; omega
  have h48i : ¬ (281474976710656 < (n : Int) * (i.bytes : Int)) := by
    rw [← Int.natCast_mul]
    omega
  have hneg : ¬ ((n : Int) < 0) := by omega
  have hns : ¬ (n * i.size = 0) := Nat.mul_ne_zero hn (by omega)
  simp [Builtin.append_, run_underlying ht, run_underlying htn, sizeOf, typeInfo, zeroValue, hi, hz, asInt, asIntOf, hw, hn, hneg, hns, h63', h48', h48i, Question.forced, run_firstCells_none, newRow, grownCap]
theorem r_cap {P : Program} {env : Env} {n : Nat} {B L : Hp} {dst : Option Tmp} {x : Operand} {T ty e : TypeId} {pos : String} {af : Array Edge} {gd : Option (Nat × Bool)} {i m c : Nat} {A : Option Addr} [hT : UD P T (.slice e)] (hx : ev env x = some (vsl i A m c) := by rfl) : Reads P ⟨dst, .call { callee := .builtin .cap, args := #[x], argTypes := #[T] }, ty, pos, af, gd⟩ env n B L (vint c) := fun a w ht _ => by
  unfold execOp
  have h1 : a.eval x = .slice A m c := ev_sound ht hx
  simp [resolve, invoke, builtin, Builtin.cap_, h1, run_underlying hT.is, goInt, TV.den, SV.den, PV.den, Sem.run_bind]
theorem d_zeros {α : Type} {P : Program} {env : Env} {D : List Deferred} {n d m bytes sz : Nat} {w0 : World} {M : Nat → Prop} {B L : Hp} {x y : Operand} {T T2 e ty : TypeId} {E : En α} {agg : Bool} {z v : SV} {kn k : IntKind} {pos : String} {af : Array Edge} {gd : Option (Nat × Bool)}
    [hu : UD P T (.slice e)] [hT : TyA P e agg sz z bytes] [hn : UD P T2 (.int kn)] (E0 : En α) (hE : E0 = E := by rfl) (hx : ev env x = some (vsl 0 none 0 0) := by rfl) (hy : ev env y = some (.s v) := by rfl) (hv : v.den = .int k (m : Int) := by rfl) (hz : sz = E.sz := by rfl) (h0 : 0 < m := by omega)
    (hb : m * bytes ≤ 140737488355328 ∧ m ≤ 140737488355328 := by omega) (hd : Nat.blt d n = true := by rfl) :
    Does P ⟨some d, .call { callee := .builtin .append, args := #[x, y], argTypes := #[T, T2] }, ty, pos, af, gd⟩ env D n w0 M B L (fun p : Option Addr × Nat => (d, vsl (10000 + d) p.1 m p.2) :: env) (fun p => (10000 + d, Res.rows p.1 p.2 e E []) :: L) [10000 + d] :=
  ⟨fun a w K Q hs hk => by
    subst hz
    have h1 : a.eval x = .slice none 0 0 := ev_sound hs.tm hx
    have h2 : a.eval y = .int k (m : Int) := by rw [← hv]; exact ev_sound hs.tm hy
    obtain ⟨i, hi, he⟩ := Option.map_eq_some_iff.1 hT.is.info
    simp only [Prod.mk.injEq] at he
    obtain ⟨hzz, hisz, hib⟩ := he
    have hrun := run_zeros (P := P) w T T2 ty e i z.den k kn hu.is hn.is hi hzz m h0 (by rw [hisz]; exact E.pos) (by omega) (by rw [hib]; omega)
    unfold Oper.wp execOp
    simp only [resolve, invoke, builtin, Sem.run_bind, Sem.run_pure, Result.andThen_ok, List.map_toArray, List.map_cons, List.map_nil, h1, h2]
    rw [hrun]
    refine hk (some ⟨w.heap.size, 0, none⟩, grownCap w m 0 e) _ _ ?_
    have h3 := hs.put (v := vsl (10000 + d) (some ⟨w.heap.size, 0, none⟩) m (grownCap w m 0 e)) hd
    have hge := grownCap_ge w m 0 e
    have hmx : m ≤ maxLen := by simp only [maxLen]; omega
    have hzs : z.den.cells.size = E.sz := by rw [z.sz_den, hT.zs]
    refine h3.to (live_new ?_)
    refine hs.st.new (w' := w.drew.alloc (.cells (Builtin.zeroCells z.den.cells m ++ Builtin.zeroCells z.den.cells (grownCap w m 0 e - m)) e)) rfl rfl rfl (by simp) (fun b hb => Below.heap_alloc w.drew _ b hb) ?_ (fun b hb => ?_) (Nat.le_succ _)
    · unfold Res.rows Res.row
      have e0 : E.dens ([] : List α) = [] := rfl
      rw [e0, flat_nil]
      refine ⟨by simp, Nat.zero_le _, grownCap_le_maxLen w m 0 e hmx, .inr ⟨w.heap.size, 0, [], (Builtin.zeroCells z.den.cells m ++ Builtin.zeroCells z.den.cells (grownCap w m 0 e - m)).toList, rfl, ?_, rfl, ?_⟩⟩
      · rw [show (w.drew.alloc (.cells (Builtin.zeroCells z.den.cells m ++ Builtin.zeroCells z.den.cells (grownCap w m 0 e - m)) e)).heap[w.heap.size]? = some (.cells (Builtin.zeroCells z.den.cells m ++ Builtin.zeroCells z.den.cells (grownCap w m 0 e - m)) e) from heap_alloc_new w.drew _]
        congr 2
      · rw [List.nil_append, Array.length_toList, Array.size_append, size_zeroCells, size_zeroCells, hzs, ← Nat.add_mul]
        exact Nat.mul_le_mul_right _ (by omega)
    · have := fp_row.1 (show (Res.row _ _ _ _ _ _).fp b from hb)
      simp [obl] at this
      omega, kp_one⟩
end HL
end Go.Proofs.YtlnckcgbpilmdaaGreat
/- Exact sums: plain. -/


set_option linter.unusedVariables false
namespace Go.Proofs.YtlnckcgbpilmdaaGreat
open Go Go.RowKit HL
def ttot (l : List TotalP) (n : NameP) : Int := ((l.filter fun x => decide (x.key = n)).map fun x => num x.sum).sum
theorem ttot_nil (n : NameP) : ttot [] n = 0 := rfl
theorem ttot_app (l m : List TotalP) (n : NameP) : ttot (l ++ m) n = ttot l n + ttot m n := by
  unfold ttot
  rw [List.filter_append, List.map_append, List.sum_append_int]
theorem ttot_one (x : TotalP) (n : NameP) : ttot [x] n = if n = x.key then num x.sum else 0 := by
  unfold ttot
  by_cases h : x.key = n
  · simp [h]
  · have : ¬ n = x.key := fun e => h e.symm
    simp [h, this]
theorem ttot_cons (x : TotalP) (l : List TotalP) (n : NameP) : ttot (x :: l) n = (if n = x.key then num x.sum else 0) + ttot l n := by
  rw [show x :: l = [x] ++ l from rfl, ttot_app, ttot_one]
theorem ttot_no {n : NameP} : ∀ {l : List TotalP}, (∀ x ∈ l, x.key ≠ n) → ttot l n = 0
  | [], _ => rfl
  | x :: l, h => by
    rw [ttot_cons, if_neg (fun e => h x (List.mem_cons_self ..) e.symm), ttot_no fun y hy => h y (List.mem_cons_of_mem _ hy)]
    rfl
theorem ttot_key : ∀ {l : List TotalP}, (l.map TotalP.key).Nodup → ∀ x ∈ l, ttot l x.key = num x.sum
  | [], _, x, hx => by cases hx
  | y :: l, hn, x, hx => by
    rw [List.map_cons, List.nodup_cons] at hn
    rcases List.mem_cons.1 hx with rfl | hx
    · rw [ttot_cons, if_pos rfl, ttot_no fun z hz e => hn.1 (by rw [← e]; exact List.mem_map_of_mem hz)]
      omega
    · have hne : ¬ x.key = y.key := fun e => hn.1 (by rw [← e]; exact List.mem_map_of_mem hx)
      rw [ttot_cons, if_neg hne, ttot_key hn.2 x hx]
      omega
theorem IsT.nodup {g : NameP → WideP} {l : List TotalP} (h : IsT g l) : (l.map TotalP.key).Nodup := h.1.nodup
theorem IsT.ttot {g : NameP → WideP} {l : List TotalP} (h : IsT g l) (n : NameP) : ttot l n = num (g n) := by
  by_cases e : g n = wz
  · rw [e]
    refine ttot_no fun x hx ek => ?_
    obtain ⟨h1, h2⟩ := (h.2 x).1 hx
    rw [ek, e] at h2
    exact h1 h2.symm
  · have hm := (h.2 ⟨n.policy, n.name, g n⟩).2 ⟨e, rfl⟩
    exact ttot_key h.nodup _ hm
structure SlT where
  A : Option Addr
  c : Nat
  l : List TotalP
def slt0 : SlT := ⟨none, 0, []⟩
instance : Df SlT slt0 := ⟨⟩
def sltEn : En SlT := ⟨fun v => .one (.sl 0 v.A v.l.length v.c), false, 1, fun _ => ⟨rfl, rfl⟩, by decide⟩
def sltS (v : SlT) (_ : Nat) : RS := .rd total0 v.A totalEn v.l
instance : ElT Tryz.prog 36 sltEn := ⟨⟩
abbrev rdRows (A : Option Addr) (l : List SlT) : Res := (RS.rdn slt0 A sltEn l 1 sltS).den
def TL (l : List SlT) : List TotalP := l.flatMap SlT.l
theorem TL_app (l m : List SlT) : TL (l ++ m) = TL l ++ TL m := by unfold TL; rw [List.flatMap_append]
theorem TL_one (v : SlT) : TL [v] = v.l := by unfold TL; simp
theorem TL_snoc {l : List SlT} {k : Nat} {d : SlT} (hk : k < l.length) : TL (l.take (k + 1)) = TL (l.take k) ++ (l.getD k d).l := by
  rw [take_getD (d := d) hk, TL_app, TL_one]
theorem ttot_snoc {l : List TotalP} {k : Nat} {d : TotalP} (hk : k < l.length) (n : NameP) : ttot (l.take (k + 1)) n = ttot (l.take k) n + if n = (l.getD k d).key then num (l.getD k d).sum else 0 := by
  rw [take_getD (d := d) hk, ttot_app, ttot_one]
theorem gD {α : Type} {l : List α} {k : Nat} {d : α} (hk : k < l.length) : l.getD k d = l[k] := by rw [List.getD_eq_getElem?_getD, List.getElem?_eq_getElem hk]; rfl
theorem AL_drop {l : List ValueM} {k : Nat} {d : ValueM} (hk : k < l.length) : AL (l.drop k) = (l.getD k d).assets ++ AL (l.drop (k + 1)) := by
  rw [List.drop_eq_getElem_cons hk, show l[k] :: l.drop (k + 1) = [l[k]] ++ l.drop (k + 1) from rfl, AL_app, AL_one, gD hk]
theorem wOf_rows {x y z : Int} (h : wOf x = wOf y) : wOf (x + num (wOf z)) = wOf (z + y) := by
  rw [wOf_addR, Int.add_comm z y, wOf_cancel]
  exact h
theorem SameVs.csum : ∀ {l m : List ValueM}, SameVs l m → csum l = csum m
  | [], [], _ => rfl
  | [], y :: m, h => by simp [SameVs] at h
  | x :: l, [], h => by simp [SameVs] at h
  | x :: l, y :: m, h => by
    unfold SameVs at h
    simp only [List.map_cons, List.cons.injEq, Prod.mk.injEq] at h
    have ih := SameVs.csum (l := l) (m := m) h.2
    rw [show x :: l = [x] ++ l from rfl, show y :: m = [y] ++ m from rfl, csum_app, csum_app, csum_one, csum_one, ih, h.1.1]
theorem SameVs.AL : ∀ {l m : List ValueM}, SameVs l m → AL l = AL m
  | [], [], _ => rfl
  | [], y :: m, h => by simp [SameVs] at h
  | x :: l, [], h => by simp [SameVs] at h
  | x :: l, y :: m, h => by
    unfold SameVs at h
    simp only [List.map_cons, List.cons.injEq, Prod.mk.injEq] at h
    have ih := SameVs.AL (l := l) (m := m) h.2
    rw [show x :: l = [x] ++ l from rfl, show y :: m = [y] ++ m from rfl, AL_app, AL_app, AL_one, AL_one, ih, h.1.2]
theorem SameVs.fit : ∀ {l m : List ValueM}, SameVs l m → (∀ v ∈ m, FitS v) → ∀ v ∈ l, FitS v
  | [], _, _, _, v, hv => by cases hv
  | x :: l, [], h, _, v, hv => by simp [SameVs] at h
  | x :: l, y :: m, h, hf, v, hv => by
    unfold SameVs at h
    simp only [List.map_cons, List.cons.injEq, Prod.mk.injEq] at h
    rcases List.mem_cons.1 hv with rfl | hv
    · have := hf y (List.mem_cons_self ..)
      unfold FitS at *
      rw [h.1.1, h.1.2]
      exact this
    · exact SameVs.fit (l := l) (m := m) h.2 (fun w hw => hf w (List.mem_cons_of_mem _ hw)) v hv
theorem Bal.both {inn out out2 : List ValueM} {mint : List AssetP} {fee : Int} (m : ValueM) (hs : SameVs out2 out) : Bal ([m] ++ inn) mint (out2 ++ [m]) fee ↔ Bal inn mint out fee := by
  unfold Bal
  rw [csum_app, csum_app, csum_one, hs.csum, AL_app, AL_one, AL_app, AL_one, hs.AL]
  rw [show m.coin + csum inn = csum inn + m.coin by omega, show csum out + m.coin + fee = (csum out + fee) + m.coin by omega, wOf_cancel]
  refine and_congr_right fun _ => forall_congr' fun n => ?_
  rw [List.append_assoc, tot_app, tot_app (AL out), Int.add_comm (tot m.assets n), wOf_cancel]
theorem Bal.self (l : List ValueM) : Bal l [] l 0 := by
  unfold Bal
  exact ⟨by rw [Int.add_zero], fun n => by rw [List.append_nil]⟩
theorem Bal.mint (v : ValueM) (hc : v.coin = 0) : Bal [] v.assets [v] 0 := by
  unfold Bal
  refine ⟨by rw [csum_one, hc]; rfl, fun n => by rw [AL_one]; rfl⟩
end Go.Proofs.YtlnckcgbpilmdaaGreat
/- Rows of totals put together; totals merged. -/

set_option linter.unusedVariables false
set_option linter.unusedSimpArgs false
set_option maxRecDepth 100000
namespace Go.Proofs.YtlnckcgbpilmdaaGreat
open Go Go.RowKit HL
theorem grow_spec (m : Nat) (hm : m ≤ 1048576) : CSpec Tryz.prog 128 [.one (.sl 0 none 0 0), .one (.i .i64 m)] [] [] fun o L => ∃ A c, o = .ret (vsl 0 A 0 c) ∧ L = [Res.rows A c 75 totalEn []] := by
  refine v_enter Tryz.func128 (h := fun w0 => ?_)
  refine v_code [] (hk := ?_)
  first | refine c_ifd rfl (fun h6 => ?_) (fun h6 => ?_) | refine c_ifn rfl (fun h6 => ?_) (fun h6 => ?_) | refine c_if rfl (fun h6 => ?_) (fun h6 => ?_)
  · first
    | (exfalso; omega; done)
    | ( refine v_code [] (hk := ?_)
        refine l_rd r_iface ?_
        refine l_panic (h := ?_)
        refine v_ex [] (hk := ?_)
        refine k_pan [] (h := ?_)
        exact ⟨rfl, rfl⟩)
  · first
    | (exfalso; omega; done)
    | ( refine v_code [] (hk := ?_)
        refine l_rd r_cap ?_
        refine v_ops [] (hk := ?_)
        first | refine c_ifd rfl (fun h16 => ?_) (fun h16 => ?_) | refine c_ifn rfl (fun h16 => ?_) (fun h16 => ?_) | refine c_if rfl (fun h16 => ?_) (fun h16 => ?_)
        · first
          | (exfalso; omega; done)
          | ( refine v_code [] (hk := ?_)
              refine l_rd r_cap ?_
              refine v_ops [] (hk := ?_)
              refine l_do (d_zeros (m := m) totalEn) (fun p22 => ?_)
              refine v_ops [] (hk := ?_)
              refine k_ret [10022] (vsl 0 p22.1 0 p22.2) (.cons (.tmp rfl) .nil) (h := ?_)
              exact ⟨p22.1, p22.2, rfl, rfl⟩)
        · first
          | (exfalso; omega; done)
          | ( refine v_code [] (hk := ?_)
              refine k_nil 700 75 totalEn ?_
              refine k_ret [700] (vsl 0 none 0 0) (.cons (.tmp rfl) .nil) (h := ?_)
              exact ⟨none, 0, rfl, rfl⟩))
theorem TL_le {l : List SlT} {k : Nat} {d : SlT} (hk : k < l.length) : (TL (l.take k)).length + (l.getD k d).l.length ≤ (TL l).length := by
  rw [← List.length_append, ← TL_snoc hk]
  conv => rhs; rw [← List.take_append_drop (k + 1) l, TL_app, List.length_append]
  omega
theorem concat_spec (A : Option Addr) (l : List SlT) (c : Nat) (hl : l.length ≤ 1048576) (ht : (TL l).length ≤ 1048576) : CSpec Tryz.prog 79 [.one (.sl 0 A l.length c)] [(0, rdRows A l)] [] fun o L => ∃ B d, o = .ret (vsl 0 B (TL l).length d) ∧ L = [Res.rows B d 75 totalEn (TL l)] := by
  refine v_enter Tryz.func79 (h := fun w0 => ?_)
  refine v_code [] (hk := ?_)
  refine v_loop (fun m E H => ∃ (k : Nat) (n : Nat), E = [(11, vn k), (3, vn n)] ∧ H = [] ∧ m = l.length - k ∧ k ≤ l.length ∧ (n = (TL (l.take k)).length)) [0, 2, 6, 8, 9, 10, 23, 24, 25, 26, 27, 28, 29, 30, 31, 32, 33, 34, 35] (l.length) ([(11, vn 0), (3, vn (0))]) ([]) (h0 := ⟨0, 0, rfl, rfl, by omega, by omega, by rfl⟩) (hr := ?_)
  rintro _ _ _ ⟨k, n, rfl, rfl, hmk, hk, hik0⟩
  refine v_code [] (hk := ?_)
  first | refine c_ifd rfl (fun h12 => ?_) (fun h12 => ?_) | refine c_ifn rfl (fun h12 => ?_) (fun h12 => ?_) | refine c_if rfl (fun h12 => ?_) (fun h12 => ?_)
  · have hle := TL_le (d := slt0) h12
    refine v_code [] (hk := ?_)
    first | refine c_ifd rfl (fun h20 => ?_) (fun h20 => ?_) | refine c_ifn rfl (fun h20 => ?_) (fun h20 => ?_) | refine c_if rfl (fun h20 => ?_) (fun h20 => ?_)
    · first
      | (exfalso; omega; done)
      | ( refine v_code [] (hk := ?_)
          refine l_rd r_iface ?_
          refine l_panic (h := ?_)
          refine v_ex [] (hk := ?_)
          refine k_pan [] (h := ?_)
          exact ⟨rfl, rfl⟩)
    · first
      | (exfalso; omega; done)
      | ( refine v_code [] (hk := ?_)
          refine v_again (l.length - (k + 1)) ⟨k + 1, n + (l.getD k slt0).l.length, rfl, rfl, by omega, by omega, by rw [TL_snoc (d := slt0) h12, List.length_append, hik0]⟩)
  · rw [take_all' h12] at hik0
    subst hik0
    refine v_code [] (hk := ?_)
    refine v_call 21200 [] (grow_spec (TL l).length ht) Tryz.func128 (h := ?_)
    rintro _ _ (⟨G, cg, rfl, rfl⟩)
    refine v_ops [] (hk := ?_)
    refine v_loop (fun m E H => ∃ (k : Nat) (A2 : Option Addr) (c2 : Nat) (t : List TotalP), E = [(27, vn k), (6, vsl 21200 A2 t.length c2)] ∧ H = [(21200, Res.rows A2 c2 75 totalEn t)] ∧ m = l.length - k ∧ k ≤ l.length ∧ (t = TL (l.take k))) [2, 25, 26, 35] (l.length) ([(27, vn 0), (6, vsl 21200 (G) ([]).length (cg))]) ([(21200, Res.rows (G) (cg) 75 totalEn ([]))]) (h0 := ⟨0, G, cg, [], rfl, rfl, by omega, by omega, by rfl⟩) (hr := ?_)
    rintro _ _ _ ⟨k, A2, c2, t, rfl, rfl, hmk, hk, hik0⟩
    refine v_code [] (hk := ?_)
    first | refine c_ifd rfl (fun h28 => ?_) (fun h28 => ?_) | refine c_ifn rfl (fun h28 => ?_) (fun h28 => ?_) | refine c_if rfl (fun h28 => ?_) (fun h28 => ?_)
    · have htl : t.length = (TL (l.take k)).length := by rw [hik0]
      have hle2 := TL_le (d := slt0) h28
      have hv : View (rdRows A l) (Res.rd (l.getD k slt0).A totalEn (l.getD k slt0).l) := view_rdn k 0 h28
      refine v_code [] (hk := ?_)
      refine k_val 32 (vsl 0 (l.getD k slt0).A (l.getD k slt0).l.length (l.getD k slt0).c) rfl rfl ?_
      refine l_do d_append (fun p33 => ?_)
      refine v_ops [] (hk := ?_)
      refine v_again (l.length - (k + 1)) ⟨k + 1, p33.1, p33.2, t ++ (l.getD k slt0).l, rfl, rfl, by omega, by omega, by rw [TL_snoc (d := slt0) h28, hik0]⟩
    · refine v_code [] (hk := ?_)
      rw [take_all' h28] at hik0
      subst hik0
      refine k_ret [21200] (vsl 0 A2 (TL l).length c2) (.cons (.tmp rfl) .nil) (h := ?_)
      exact ⟨A2, c2, rfl, rfl⟩
theorem merge_spec (A : Option Addr) (l : List SlT) (c : Nat) (hl : l.length ≤ 1048576) (ht : (TL l).length ≤ 1048576) (hw : ∀ x ∈ TL l, WOk x.sum) : CSpec Tryz.prog 35 [.one (.sl 0 A l.length c)] [(0, rdRows A l)] [] fun o L => ∃ B d t, IsT (fun n => wOf (ttot (TL l) n)) t ∧ t.length ≤ 1048576 ∧ o = .ret (vsl 0 B t.length d) ∧ L = [Res.rows B d 75 totalEn t] := by
  refine v_enter Tryz.func35 (h := fun w0 => ?_)
  refine v_code [] (hk := ?_)
  refine l_do (d_makeMap nameEn wideEn) (fun g6 => ?_)
  refine v_ops [] (hk := ?_)
  refine v_call 20400 [] (concat_spec A l c hl ht) Tryz.func79 (h := ?_)
  rintro _ _ (⟨B8, d8, rfl, rfl⟩)
  refine v_ops [] (hk := ?_)
  refine v_loop (fun m E H => ∃ (k : Nat) (mm : List (NameP × WideP × Nat)) (cl : Nat), E = [(10, vn k)] ∧ H = [(10006, Res.mp g6 nameEn wideEn mm cl)] ∧ m = (TL l).length - k ∧ k ≤ (TL l).length ∧ (BM (ttot ((TL l).take k)) mm cl) ∧ (mm.length ≤ k)) [2, 3, 8, 9, 24, 25] ((TL l).length) ([(10, vn 0)]) ([(10006, Res.mp g6 nameEn wideEn ([]) (0))]) (h0 := ⟨0, [], 0, rfl, rfl, by omega, by omega, BM.nil, by simp⟩) (hr := ?_)
  rintro _ _ _ ⟨k, mm, cl, rfl, rfl, hmk, hk, hik0, hik1⟩
  refine v_code [] (hk := ?_)
  first | refine c_ifd rfl (fun h11 => ?_) (fun h11 => ?_) | refine c_ifn rfl (fun h11 => ?_) (fun h11 => ?_) | refine c_if rfl (fun h11 => ?_) (fun h11 => ?_)
  · have hx := hw _ (getD_mem (d := total0) h11)
    refine v_code [] (hk := ?_)
    refine l_do d_alloc (fun g5 => ?_)
    refine v_ops [] (hk := ?_)
    refine v_call 21100 [] (badd_spec g6 mm cl ((TL l).getD k total0).key ((TL l).getD k total0).sum hx (hik0.ok _)) Tryz.func56 (h := ?_)
    rintro _ _ (⟨rfl, rfl⟩)
    refine v_ops [] (hk := ?_)
    refine k_ren 21100 10006 rfl ?_
    refine v_again ((TL l).length - (k + 1)) ⟨k + 1, mput mm cl ((TL l).getD k total0).key (wOf (num ((mlook mm ((TL l).getD k total0).key).getD wz) + num ((TL l).getD k total0).sum)), mclk mm cl ((TL l).getD k total0).key, rfl, rfl, by omega, by omega, hik0.add rfl (ttot_snoc (d := total0) h11), by have := mput_len mm cl ((TL l).getD k total0).key (wOf (num ((mlook mm ((TL l).getD k total0).key).getD wz) + num ((TL l).getD k total0).sum)); omega⟩
  · refine v_code [] (hk := ?_)
    refine v_call 21250 [] (totals_spec g6 mm cl hik0.wf (by omega)) Tryz.func58 (h := ?_)
    rintro _ _ (⟨B, d, t, ht2, htl, rfl, rfl⟩)
    refine v_ops [] (hk := ?_)
    rw [take_all' h11] at hik0
    refine k_ret [21250] (vsl 0 B t.length d) (.cons (.tmp rfl) .nil) (h := ?_)
    exact ⟨B, d, t, ht2.congr hik0.look, htl, rfl, rfl⟩
end Go.Proofs.YtlnckcgbpilmdaaGreat
/- Exact sums, row by row: plain. -/

set_option linter.unusedVariables false
namespace Go.Proofs.YtlnckcgbpilmdaaGreat
open Go Go.RowKit HL
theorem Each.sub {α : Type} {B L : Hp} {S : List Nat} {F : α → Res} {l l' : List α} (h : Each B L S F l) (hs : ∀ x ∈ l', x ∈ l) : Each B L S F l' := fun x hx => h x (hs x hx)
theorem IsT.len {P : List AssetP} {t : List TotalP} (h : IsT (fun n => wOf (tot P n)) t) : t.length ≤ P.length := by
  have h1 := iter_len (l := P.map AssetP.key) (done := t.map TotalP.key) (fun k hk => by
    obtain ⟨x, hx, rfl⟩ := List.mem_map.1 hk
    obtain ⟨h2, h3⟩ := (h.2 x).1 hx
    have h3' : wOf (tot P x.key) = x.sum := h3
    have h6 : tot P x.key ≠ 0 := fun e => h2 (by rw [← h3', e, wOf_zero])
    obtain ⟨y, hy, e⟩ := tot_mem h6
    exact List.mem_map.2 ⟨y, hy, e⟩) h.nodup
  simpa using h1
theorem IsT.ok {f : NameP → Int} {t : List TotalP} (h : IsT (fun n => wOf (f n)) t) : ∀ x ∈ t, WOk x.sum := fun x hx => by
  have h1 : wOf (f x.key) = x.sum := ((h.2 x).1 hx).2
  rw [← h1]
  exact wOf_ok _
structure RowsOk (inn : List ValueM) (m : Nat) (rows : List SlT) : Prop where
  sum : ∀ n, wOf (ttot (TL rows) n) = wOf (tot (AL (inn.drop m)) n)
  ok : ∀ x ∈ TL rows, WOk x.sum
  len : rows.length = inn.length - m
  tl : (TL rows).length ≤ 200 * rows.length
theorem RowsOk.nil {inn : List ValueM} {m : Nat} (hm : m = inn.length) : RowsOk inn m [] := by
  subst hm
  exact ⟨fun n => by rw [List.drop_length]; rfl, by simp [TL], by simp, by simp [TL]⟩
theorem RowsOk.snoc {inn : List ValueM} {j : Nat} {rows : List SlT} {d : ValueM} {s : SlT} (h : RowsOk inn (j + 1) rows) (hj : j < inn.length) (ht : IsT (fun n => wOf (tot (AL [inn.getD j d]) n)) s.l) (h2 : (inn.getD j d).assets.length ≤ 200) : RowsOk inn j (rows ++ [s]) where
  sum n := by
    rw [TL_app, TL_one, ttot_app, ht.ttot, AL_drop (d := d) hj, tot_app, AL_one]
    exact wOf_rows (h.sum n)
  ok x hx := by
    rw [TL_app, TL_one] at hx
    rcases List.mem_append.1 hx with hx | hx
    · exact h.ok x hx
    · exact ht.ok x hx
  len := by rw [List.length_append, h.len, List.length_singleton]; omega
  tl := by
    have h3 := ht.len
    rw [AL_one] at h3
    have h4 := h.tl
    rw [TL_app, TL_one, List.length_append, List.length_append, List.length_singleton]
    omega
end Go.Proofs.YtlnckcgbpilmdaaGreat
/- The document's sums: plain. -/

set_option linter.unusedVariables false
namespace Go.Proofs.YtlnckcgbpilmdaaGreat
open Go Go.RowKit HL
def tput : List TotalP → TotalP → List TotalP
  | [], x => [x]
  | y :: l, x => if nord x.key y.key < 0 then x :: y :: l else if nord x.key y.key = 0 then ⟨y.policy, y.name, wOf (num y.sum + num x.sum)⟩ :: l else y :: tput l x
theorem tput_none {x : TotalP} : ∀ {l : List TotalP} {m : List TotalP}, (∀ y ∈ l, 0 < nord x.key y.key) → tput (l ++ m) x = l ++ tput m x
  | [], _, _ => rfl
  | y :: l, m, h => by
    have hy := h y (List.mem_cons_self ..)
    show (if nord x.key y.key < 0 then _ else _) = _
    rw [if_neg (by omega), if_neg (by omega)]
    show y :: tput (l ++ m) x = _
    rw [tput_none fun z hz => h z (List.mem_cons_of_mem _ hz)]
    rfl
theorem tput_mem {x z : TotalP} : ∀ {l : List TotalP}, z ∈ tput l x → z.key = x.key ∨ z ∈ l
  | [], h => by
    rw [List.mem_singleton.1 h]
    exact .inl rfl
  | y :: l, h => by
    unfold tput at h
    split at h
    · rcases List.mem_cons.1 h with rfl | h
      · exact .inl rfl
      · exact .inr h
    · split at h
      · rename_i e
        rcases List.mem_cons.1 h with rfl | h
        · exact .inl (nord_eq e).symm
        · exact .inr (List.mem_cons_of_mem _ h)
      · rcases List.mem_cons.1 h with rfl | h
        · exact .inr (List.mem_cons_self ..)
        · exact (tput_mem h).imp id (List.mem_cons_of_mem _)
theorem tput_rise {x : TotalP} : ∀ {l : List TotalP}, Rise TotalP.key l → Rise TotalP.key (tput l x)
  | [], _ => by unfold tput Rise; simp
  | y :: l, h => by
    unfold Rise at h
    have h1 := List.pairwise_cons.1 h
    unfold tput
    split
    · rename_i e
      refine List.pairwise_cons.2 ⟨fun z hz => ?_, h⟩
      rcases List.mem_cons.1 hz with rfl | hz
      · exact e
      · exact nord_trans e (h1.1 z hz)
    · split
      · exact List.pairwise_cons.2 ⟨fun z hz => h1.1 z hz, h1.2⟩
      · rename_i e1 e2
        refine List.pairwise_cons.2 ⟨fun z hz => ?_, tput_rise h1.2⟩
        rcases tput_mem hz with e | hz
        · rw [e]
          rcases nord_tri y.key x.key with h2 | h2 | h2
          · exact h2
          · exact absurd (by rw [h2]; exact nord_refl _) e2
          · exact absurd h2 e1
        · exact h1.1 z hz
theorem tput_ok {x : TotalP} (hx : WOk x.sum) : ∀ {l : List TotalP}, (∀ y ∈ l, WOk y.sum) → ∀ y ∈ tput l x, WOk y.sum
  | [], _, y, hy => by rw [List.mem_singleton.1 hy]; exact hx
  | y :: l, h, z, hz => by
    unfold tput at hz
    split at hz
    · rcases List.mem_cons.1 hz with rfl | hz
      · exact hx
      · exact h z hz
    · split at hz
      · rcases List.mem_cons.1 hz with rfl | hz
        · exact wOf_ok _
        · exact h z (List.mem_cons_of_mem _ hz)
      · rcases List.mem_cons.1 hz with rfl | hz
        · exact h z (List.mem_cons_self ..)
        · exact tput_ok hx (fun w hw => h w (List.mem_cons_of_mem _ hw)) z hz
theorem tput_len {x : TotalP} : ∀ {l : List TotalP}, (tput l x).length ≤ l.length + 1
  | [] => by unfold tput; simp
  | y :: l => by
    have := tput_len (x := x) (l := l)
    unfold tput
    split
    · simp
    · split
      · simp
      · simp only [List.length_cons]; omega
theorem wOf_left {x y z : Int} (h : wOf x = wOf y) : wOf (z + x) = wOf (z + y) := by
  rw [Int.add_comm z, Int.add_comm z, wOf_cancel]
  exact h
theorem tput_sum {x : TotalP} (n : NameP) : ∀ {l : List TotalP}, wOf (ttot (tput l x) n) = wOf (ttot l n + if n = x.key then num x.sum else 0)
  | [] => by
    unfold tput
    rw [ttot_one, ttot_nil, Int.zero_add]
  | y :: l => by
    unfold tput
    split
    · rw [ttot_cons, Int.add_comm]
    · split
      · rename_i e
        have ek := nord_eq e
        rw [ttot_cons, ttot_cons]
        show wOf ((if n = y.key then num (wOf (num y.sum + num x.sum)) else 0) + ttot l n) = _
        rw [ek]
        by_cases hn : n = y.key
        · rw [if_pos hn, if_pos hn, if_pos hn, wOf_add]
          congr 1
          omega
        · rw [if_neg hn, if_neg hn, if_neg hn, Int.add_zero]
      · rw [ttot_cons, ttot_cons, Int.add_assoc]
        exact wOf_left (tput_sum n)
def tsome (l : List TotalP) : List TotalP := l.filter fun x => decide (x.sum ≠ wz)
theorem tsome_isT {f : NameP → Int} {l : List TotalP} (hr : Rise TotalP.key l) (ho : ∀ x ∈ l, WOk x.sum) (hf : ∀ n, wOf (ttot l n) = wOf (f n)) : IsT (fun n => wOf (f n)) (tsome l) := by
  refine ⟨?_, fun x => ?_⟩
  · unfold Rise tsome at *
    exact hr.sublist List.filter_sublist
  · unfold tsome
    rw [List.mem_filter, decide_eq_true_iff]
    constructor
    · rintro ⟨h1, h2⟩
      refine ⟨h2, ?_⟩
      show wOf (f x.key) = _
      rw [← hf, ttot_key hr.nodup x h1, wOf_num (ho x h1)]
    · rintro ⟨h1, h2⟩
      refine ⟨?_, h1⟩
      have h3 : wOf (ttot l x.key) = x.sum := by rw [hf]; exact h2
      by_cases h : ∃ y ∈ l, y.key = x.key
      · obtain ⟨y, hy, e⟩ := h
        rw [← e, ttot_key hr.nodup y hy, wOf_num (ho y hy)] at h3
        have : y = x := by
          cases x; cases y
          simp only [TotalP.key, NameP.mk.injEq] at e
          simp only at h3
          rw [e.1, e.2, h3]
        rw [← this]
        exact hy
      · rw [ttot_no fun y hy e => h ⟨y, hy, e⟩, wOf_zero] at h3
        exact absurd h3.symm h1
end Go.Proofs.YtlnckcgbpilmdaaGreat
/- Sums as bundles: plain. -/

set_option linter.unusedVariables false
namespace Go.Proofs.YtlnckcgbpilmdaaGreat
open Go Go.RowKit HL
def FitsW (w : WideP) : Prop := w.hi = 0 ∧ w.lo ≤ Max
instance (w : WideP) : Decidable (FitsW w) := inferInstanceAs (Decidable (_ ∧ _))
def Near (x : Int) : Prop := -1267650600228229401496703205376 ≤ x ∧ x ≤ 1267650600228229401496703205376
theorem fitsW_iff {x : Int} (h : Near x) : FitsW (wOf x) ↔ 0 ≤ x ∧ x ≤ Max := by
  unfold Near at h
  unfold FitsW wOf wrap64 Max
  simp only
  constructor
  · rintro ⟨h1, h2⟩
    split at h1 <;> omega
  · intro h1
    refine ⟨?_, by omega⟩
    split <;> omega
theorem near_zero {x : Int} (h : Near x) (hz : wOf x = wz) : x = 0 := by
  unfold Near at h
  rw [← wOf_zero, wOf_eq] at hz
  omega
theorem wOf_lo {x : Int} (h : 0 ≤ x ∧ x ≤ Max) : (wOf x).lo = x := by
  have h2 : x ≤ 9223372036854775807 := h.2
  unfold wOf
  simp only
  omega
def toA (x : TotalP) : AssetP := ⟨x.policy, x.name, x.sum.lo⟩
theorem bundle_yes {f : NameP → Int} {t : List TotalP} (hb : ∀ n, Near (f n)) (ht : IsT (fun n => wOf (f n)) t) (hf : ∀ x ∈ t, FitsW x.sum) : (∀ n, 0 ≤ f n ∧ f n ≤ Max) ∧ IsB f (t.map toA) := by
  have h1 : ∀ n, 0 ≤ f n ∧ f n ≤ Max := fun n => by
    by_cases e : wOf (f n) = wz
    · rw [near_zero (hb n) e]; decide
    · have hm := (ht.2 ⟨n.policy, n.name, wOf (f n)⟩).2 ⟨e, rfl⟩
      exact (fitsW_iff (hb n)).1 (hf _ hm)
  refine ⟨h1, ?_, fun x => ?_⟩
  · have := ht.1
    unfold Rise at *
    exact List.pairwise_map.2 this
  · rw [List.mem_map]
    constructor
    · rintro ⟨y, hy, rfl⟩
      obtain ⟨h2, h3⟩ := (ht.2 y).1 hy
      have h3' : wOf (f y.key) = y.sum := h3
      have h4 := h1 y.key
      have h5 : y.sum.lo = f y.key := by rw [← h3', wOf_lo h4]
      have h6 : f y.key ≠ 0 := fun e => h2 (by rw [← h3', e, wOf_zero])
      exact ⟨by show 1 ≤ y.sum.lo; omega, h5.symm⟩
    · rintro ⟨h2, h3⟩
      have h4 := h1 x.key
      have h5 : wOf (f x.key) ≠ wz := fun e => by have := near_zero (hb _) e; omega
      refine ⟨⟨x.policy, x.name, wOf (f x.key)⟩, (ht.2 _).2 ⟨h5, rfl⟩, ?_⟩
      unfold toA
      rw [show (wOf (f x.key)).lo = x.amount by rw [wOf_lo h4, h3]]
theorem bundle_far {f : NameP → Int} {t : List TotalP} (hb : ∀ n, Near (f n)) (ht : IsT (fun n => wOf (f n)) t) {x : TotalP} (hx : x ∈ t) (hn : ¬ FitsW x.sum) : ¬ ∀ n, 0 ≤ f n ∧ f n ≤ Max := fun h => by
  have h1 := ((ht.2 x).1 hx).2
  rw [← show wOf (f x.key) = x.sum from h1] at hn
  exact hn ((fitsW_iff (hb _)).2 (h _))
theorem bundle_many {f : NameP → Int} {t : List TotalP} {p : List AssetP} (ht : IsT (fun n => wOf (f n)) t) (h : ∀ n, 0 ≤ f n ∧ f n ≤ Max) (hp : IsB f p) : t.length ≤ p.length := by
  have h1 := iter_len (l := p.map AssetP.key) (done := t.map TotalP.key) (fun k hk => by
    obtain ⟨x, hx, rfl⟩ := List.mem_map.1 hk
    obtain ⟨h2, h3⟩ := (ht.2 x).1 hx
    have h3' : wOf (f x.key) = x.sum := h3
    have h6 : f x.key ≠ 0 := fun e => h2 (by rw [← h3', e, wOf_zero])
    have h7 := h x.key
    exact List.mem_map.2 ⟨⟨x.policy, x.name, f x.key⟩, (hp.2 _).2 ⟨by show 1 ≤ f x.key; omega, rfl⟩, rfl⟩) ht.nodup
  simpa using h1
def Bundles (f : NameP → Int) (co : Int) (ok : Bool) (v : ValueM) : Prop :=
  (ok = true ∧ v.coin = co ∧ (0 ≤ co ∧ co ≤ Max) ∧ (∀ n, 0 ≤ f n ∧ f n ≤ Max) ∧ IsB f v.assets ∧ v.assets.length ≤ 30) ∨
  (ok = false ∧ v.coin = 0 ∧ v.assets = [] ∧ ¬ ((0 ≤ co ∧ co ≤ Max) ∧ (∀ n, 0 ≤ f n ∧ f n ≤ Max) ∧ ∃ p, IsB f p ∧ p.length ≤ 30))
theorem near_amount {P : List AssetP} (h : ∀ x ∈ P, 1 ≤ x.amount ∧ x.amount ≤ Max) (n : NameP) : 0 ≤ tot P n ∧ tot P n ≤ Max * P.length := by
  induction P with
  | nil => rw [tot_nil]; simp
  | cons x P ih =>
    have h1 := h x (List.mem_cons_self ..)
    have h2 := ih fun y hy => h y (List.mem_cons_of_mem _ hy)
    rw [tot_cons, List.length_cons, Int.natCast_add, Int.mul_add]
    unfold Max at *
    split <;> omega
theorem near_coins {l : List ValueM} (h : ∀ v ∈ l, 0 ≤ v.coin ∧ v.coin ≤ Max) : 0 ≤ csum l ∧ csum l ≤ Max * l.length := by
  induction l with
  | nil => unfold csum; simp
  | cons x P ih =>
    have h1 := h x (List.mem_cons_self ..)
    have h2 := ih fun y hy => h y (List.mem_cons_of_mem _ hy)
    rw [show x :: P = [x] ++ P from rfl, csum_app, csum_one, List.length_append, Int.natCast_add, Int.mul_add]
    unfold Max at *
    simp only [List.length_singleton]
    omega
theorem told_adds {l : List ValueM} (hr : Rights l) {ok : Bool} {v : ValueM} (h : Bundles (tot (AL l)) (csum l) ok v) : Told (Adds l) ok v := by
  rcases h with ⟨h1, h2, h3, h4, h5, h6⟩ | ⟨h1, h2, h3, h4⟩
  · exact .inl ⟨h1, ⟨hr, h3.2, fun n => (h4 n).2⟩, h2, h5, h6⟩
  · refine .inr ⟨h1, fun co p ha => h4 ⟨⟨hr.csum, ha.1.2.1⟩, fun n => ⟨ha.nonneg n, ha.1.2.2 n⟩, p, ha.2.2.1, ha.2.2.2⟩, h2, h3⟩
theorem told_no {l : List ValueM} (hr : ¬ Rights l) : Told (Adds l) false ⟨0, none, 0, []⟩ := .inr ⟨rfl, fun co p ha => hr ha.1.1, rfl, rfl⟩
theorem tot_top {P : List AssetP} (hr : Rise AssetP.key P) (h : ∀ x ∈ P, x.amount ≤ Max) (n : NameP) : tot P n ≤ Max := by
  by_cases hx : ∃ x ∈ P, x.key = n
  · obtain ⟨x, hx, rfl⟩ := hx
    rw [tot_key hr.nodup x hx]
    exact h x hx
  · have h1 : tot P n = 0 := by
      by_cases h0 : tot P n = 0
      · exact h0
      · exact absurd (tot_mem h0) hx
    rw [h1]
    decide
theorem told_subs {a b : ValueM} (ha : RightV a.coin a.assets) (hb : RightV b.coin b.assets) (fa : FitV a) {ok : Bool} {v : ValueM} (h : Bundles (fun n => tot a.assets n - tot b.assets n) (a.coin - b.coin) ok v) : Told (Subs a b) ok v := by
  have hn : ∀ n, 0 ≤ tot b.assets n := fun n => tot_nonneg n hb.2.2
  rcases h with ⟨h1, h2, h3, h4, h5, h6⟩ | ⟨h1, h2, h3, h4⟩
  · refine .inl ⟨h1, ha, hb, h2, by rw [h2]; exact h3.1, fun n => by have h7 : 0 ≤ tot a.assets n - tot b.assets n := (h4 n).1; omega, h5, h6⟩
  · refine .inr ⟨h1, fun co p hs => h4 ?_, h2, h3⟩
    obtain ⟨-, -, s1, s2, s3, s4, s5⟩ := hs
    have f1 := fa.2.1.2
    have hb0 := hb.1
    refine ⟨⟨by omega, by show a.coin - b.coin ≤ 9223372036854775807; omega⟩, fun n => ?_, p, s4, s5⟩
    have h8 := s3 n
    have h7 : tot a.assets n ≤ 9223372036854775807 := tot_top ha.2.1.2.1 (fun x hx => (fa.2.2 x hx).2) n
    have h9 := hn n
    exact ⟨by show 0 ≤ tot a.assets n - tot b.assets n; omega, by show tot a.assets n - tot b.assets n ≤ 9223372036854775807; omega⟩
theorem told_subs_no {a b : ValueM} (h : ¬ (RightV a.coin a.assets ∧ RightV b.coin b.assets)) : Told (Subs a b) false ⟨0, none, 0, []⟩ := .inr ⟨rfl, fun co p hs => h ⟨hs.1, hs.2.1⟩, rfl, rfl⟩
end Go.Proofs.YtlnckcgbpilmdaaGreat
/- The document's order, and bundles that are right. -/

set_option linter.unusedVariables false
set_option linter.unusedSimpArgs false
set_option maxRecDepth 100000
namespace Go.Proofs.YtlnckcgbpilmdaaGreat
open Go Go.RowKit HL
theorem bcmp_vals : ∀ (x y : List UInt8), bcmp x y = -1 ∨ bcmp x y = 0 ∨ bcmp x y = 1
  | [], [] => .inr (.inl rfl)
  | [], _ :: _ => .inl rfl
  | _ :: _, [] => .inr (.inr rfl)
  | a :: x, b :: y => by
    unfold bcmp
    split
    · exact .inl rfl
    · split
      · exact .inr (.inr rfl)
      · exact bcmp_vals x y
theorem bcmp_eqB {p q : ByteArray} (h : bcmp p.data.toList q.data.toList = 0) : p = q := ByteArray.ext (Array.toList_inj.1 (bcmp_eq h))
theorem outI {a b : Int} (h : a = b) : Out.ret (vint a) = Out.ret (vint b) := by rw [h]
theorem baL (l : List UInt8) : (ba l).data.toList = l := ba_data l
theorem key_iff {x : AssetP} {n : NameP} : (decide (x.policy = n.policy) && decide (x.name = n.name)) = true ↔ x.key = n := by
  cases n
  simp [AssetP.key]
theorem texts_spec (p q : ByteArray) : CSpec Tryz.prog 133 [.one (.s p), .one (.s q)] [] [] fun o L => o = .ret (vint (bcmp p.data.toList q.data.toList)) ∧ L = [] := by
  refine v_enter Tryz.func133 (h := fun w0 => ?_)
  refine v_code [] (hk := ?_)
  first | refine c_ifd rfl (fun h7 => ?_) (fun h7 => ?_) | refine c_ifn rfl (fun h7 => ?_) (fun h7 => ?_) | refine c_if rfl (fun h7 => ?_) (fun h7 => ?_)
  · refine v_code [] (hk := ?_)
    refine v_ret rfl [] (.cons (.tmp rfl) .nil) (h := ?_)
    exact ⟨outI (a := 0) (by subst h7; rw [bcmp_refl]), rfl⟩
  · refine v_code [] (hk := ?_)
    first | refine c_ifd rfl (fun h10 => ?_) (fun h10 => ?_) | refine c_ifn rfl (fun h10 => ?_) (fun h10 => ?_) | refine c_if rfl (fun h10 => ?_) (fun h10 => ?_)
    · refine v_code [] (hk := ?_)
      refine v_ret rfl [] (.cons (.tmp rfl) .nil) (h := ?_)
      refine ⟨outI ?_, rfl⟩
      unfold bltS at h10
      rcases bcmp_vals p.data.toList q.data.toList with h | h | h <;> omega
    · refine v_code [] (hk := ?_)
      refine v_ret rfl [] (.cons (.tmp rfl) .nil) (h := ?_)
      refine ⟨outI (a := 1) ?_, rfl⟩
      unfold bltS at h10
      rcases bcmp_vals p.data.toList q.data.toList with h | h | h
      · omega
      · exact absurd (bcmp_eqB h) h7
      · exact h.symm
theorem orderR_spec (n m : NameP) : CSpec Tryz.prog 85 [.agg [.hash n.policy], .one (.s n.name), .agg [.hash m.policy], .one (.s m.name)] [] [] fun o L => o = .ret (vint (nord n m)) ∧ L = [] := by
  refine v_enter Tryz.func85 (h := fun w0 => ?_)
  refine v_code [] (hk := ?_)
  refine l_do d_box (fun g4 => ?_)
  refine l_do d_box (fun g6 => ?_)
  refine v_ops [] (hk := ?_)
  refine v_draw (.q 0 (.q 1 (.q 2 (.q 3 (.s 4 (.q 5 .nil)))))) [10004, 10006, 20700, 20701, 20702, 20703, 21000, 21001, 21002, 21003] (hm := by kernel_rfl) (hs := by kernel_rfl) (hk := by kernel_rfl) (h := ?_)
  refine v_sch [] (hk := ?_)
  first | refine q_rd rfl r_convStrV ?_ | refine q_rd rfl r_convStrE ?_ | refine q_rd rfl r_convStr ?_
  refine v_sch [] (hk := ?_)
  first | refine q_rd rfl r_convStrV ?_ | refine q_rd rfl r_convStrE ?_ | refine q_rd rfl r_convStr ?_
  refine v_callS rfl 20700 [] (texts_spec (ba n.policy.toList) (ba m.policy.toList)) Tryz.func133 (h := ?_)
  rintro _ _ (⟨rfl, rfl⟩)
  refine ⟨cov_of (by repeat (first | exact trivial | refine ⟨rfl, ?_⟩)), ?_⟩
  refine v_sch [] (hk := ?_)
  first | refine c_ifd rfl (fun h16 => ?_) (fun h16 => ?_) | refine c_ifn rfl (fun h16 => ?_) (fun h16 => ?_) | refine c_if rfl (fun h16 => ?_) (fun h16 => ?_)
  · refine v_code [] (hk := ?_)
    refine v_ret rfl [] (.cons (.tmp rfl) .nil) (h := ?_)
    refine ⟨outI ?_, rfl⟩
    rw [baL, baL] at h16 ⊢
    unfold nord
    exact (if_pos h16).symm
  · refine v_code [] (hk := ?_)
    refine v_call 21000 [] (texts_spec n.name m.name) Tryz.func133 (h := ?_)
    rintro _ _ (⟨rfl, rfl⟩)
    refine v_ops [] (hk := ?_)
    refine v_ret rfl [] (.cons (.tmp rfl) .nil) (h := ?_)
    refine ⟨outI ?_, rfl⟩
    rw [baL, baL] at h16
    unfold nord
    exact (if_neg (fun h => h h16)).symm
theorem risingR_spec (A : Option Addr) (l : List AssetP) (c : Nat) (hl : l.length ≤ 1048576) : CSpec Tryz.prog 74 [.one (.sl 0 A l.length c)] [(0, Res.rd A assetEn l)] [] fun o L => o = .ret (vb (decide (Rising l))) ∧ L = [] := by
  refine v_enter Tryz.func74 (h := fun w0 => ?_)
  refine v_code [] (hk := ?_)
  refine v_loop (fun m E H => ∃ (k : Nat), E = [(3, vn k)] ∧ H = [] ∧ m = l.length - k ∧ k ≤ l.length ∧ (∀ x ∈ l.take k, x.name.size ≤ 32) ∧ (Rise AssetP.key (l.take k))) [0, 47, 48, 49] (l.length) ([(3, vn 0)]) ([]) (h0 := ⟨0, rfl, rfl, by omega, by omega, by simp, List.Pairwise.nil⟩) (hr := ?_)
  rintro _ _ _ ⟨k, rfl, rfl, hmk, hk, hik0, hik1⟩
  refine v_code [] (hk := ?_)
  first | refine c_ifd rfl (fun h7 => ?_) (fun h7 => ?_) | refine c_ifn rfl (fun h7 => ?_) (fun h7 => ?_) | refine c_if rfl (fun h7 => ?_) (fun h7 => ?_)
  · refine v_code [] (hk := ?_)
    refine v_draw (.q 0 (.q 1 (.q 2 (.q 3 (.q 4 (.q 5 (.q 6 (.q 7 (.q 8 (.q 9 (.q 10 (.q 11 (.q 12 (.q 13 (.q 14 (.q 15 (.q 16 (.q 17 (.q 18 (.q 19 (.q 20 (.q 21 (.q 22 (.q 23 (.q 24 (.q 25 (.q 26 (.q 27 (.q 28 (.q 29 (.q 30 (.q 31 (.q 32 (.s 33 (.q 34 (.q 35 (.q 36 .nil))))))))))))))))))))))))))))))))))))) [10006, 10015, 22150, 22151, 22152, 22153, 10048] (hm := by kernel_rfl) (hs := by kernel_rfl) (hk := by kernel_rfl) (h := ?_)
    refine v_sch [] (hk := ?_)
    refine s_callG rfl [] [26, 32, 37, 42] ⟨_, _, ⟨_, .inl ⟨rfl, rfl⟩⟩, ⟨_, _, ⟨_, .inl ⟨rfl, rfl⟩⟩, ⟨_, _, ⟨_, .inl ⟨rfl, rfl⟩⟩, ⟨_, _, ⟨_, .inl ⟨rfl, rfl⟩⟩, rfl, rfl⟩, rfl⟩, rfl⟩, rfl⟩ (fun hg => orderR_spec (l.getD ((k : Int) - ((1 : Nat) : Int)).toNat asset0).key (l.getD k asset0).key) Tryz.func85 (h := ?_)
    refine v_sch [] (hk := ?_)
    first | refine c_ifd rfl (fun h46 => ?_) (fun h46 => ?_) | refine c_ifn rfl (fun h46 => ?_) (fun h46 => ?_) | refine c_if rfl (fun h46 => ?_) (fun h46 => ?_)
    · refine v_code [] (hk := ?_)
      refine v_ret rfl [] (.cons (.tmp rfl) .nil) (h := ?_)
      exact ⟨outB (decide_eq_false (rising_less h7 h46)).symm, rfl⟩
    · refine v_code [] (hk := ?_)
      refine v_again (l.length - (k + 1)) ⟨k + 1, rfl, rfl, by omega, by omega, (all_takeD hik0 h7 (rising_more h46).1), (rise_step h7 hik1 (rising_more h46).2)⟩
  · refine v_code [] (hk := ?_)
    refine v_ret rfl [] (.cons (.tmp rfl) .nil) (h := ?_)
    rw [take_all' h7] at hik0 hik1
    exact ⟨outB (decide_eq_decide.2 ⟨fun h => ⟨hik0, hik1, h⟩, fun h => h.2.2⟩), rfl⟩
theorem rightR_spec (coin : Int) (A : Option Addr) (l : List AssetP) (c : Nat) (hl : l.length ≤ 1048576) : CSpec Tryz.prog 28 [.agg [.one (.i .i64 coin), .one (.sl 101 A l.length c)]] [(101, Res.rd A assetEn l)] [] fun o L => o = .ret (vb (decide (RightV coin l))) ∧ L = [] := by
  refine v_enter Tryz.func28 (h := fun w0 => ?_)
  refine v_code [] (hk := ?_)
  refine l_do d_box (fun g1 => ?_)
  refine v_ops [] (hk := ?_)
  refine v_loop (fun m E H => ∃ (k : Nat), E = [(3, vn k)] ∧ H = [] ∧ m = l.length - k ∧ k ≤ l.length ∧ (∀ x ∈ l.take k, 1 ≤ x.amount)) [1, 18, 19, 20, 21, 22, 23, 24, 25] (l.length) ([(3, vn 0)]) ([]) (h0 := ⟨0, rfl, rfl, by omega, by omega, by simp⟩) (hr := ?_)
  rintro _ _ _ ⟨k, rfl, rfl, hmk, hk, hik0⟩
  refine v_code [] (hk := ?_)
  first | refine c_ifd rfl (fun h8 => ?_) (fun h8 => ?_) | refine c_ifn rfl (fun h8 => ?_) (fun h8 => ?_) | refine c_if rfl (fun h8 => ?_) (fun h8 => ?_)
  · refine v_code [] (hk := ?_)
    first | refine c_ifd rfl (fun h17 => ?_) (fun h17 => ?_) | refine c_ifn rfl (fun h17 => ?_) (fun h17 => ?_) | refine c_if rfl (fun h17 => ?_) (fun h17 => ?_)
    · refine v_code [] (hk := ?_)
      refine v_ret rfl [] (.cons (.tmp rfl) .nil) (h := ?_)
      exact ⟨outB (decide_eq_false (fun h => by have := h.2.2 _ (getD_mem (d := asset0) h8); omega)).symm, rfl⟩
    · refine v_code [] (hk := ?_)
      refine v_again (l.length - (k + 1)) ⟨k + 1, rfl, rfl, by omega, by omega, all_takeD (d := asset0) hik0 h8 (by omega)⟩
  · refine v_code [] (hk := ?_)
    refine l_callG [] [23] ⟨_, _, ⟨_, .inl ⟨rfl, rfl⟩⟩, rfl, rfl⟩ (fun hg => risingR_spec A l c hl) Tryz.func74 (h := ?_)
    refine v_ops [] (hk := ?_)
    refine v_ret rfl [] (.cons (.tmp rfl) .nil) (h := ?_)
    rw [take_all' h8] at hik0
    refine ⟨outB ?_, rfl⟩
    rw [Bool.eq_iff_iff, Bool.and_eq_true, decide_eq_true_iff, decide_eq_true_iff, decide_eq_true_iff]
    exact ⟨fun h => ⟨h.1, h.2, hik0⟩, fun h => ⟨h.1, h.2.1⟩⟩
def MintsP (l : List AssetP) : Prop := Rising l ∧ ∀ x ∈ l, x.amount ≠ 0
instance {l : List AssetP} : Decidable (MintsP l) := by unfold MintsP; infer_instance
theorem mintsR_spec (A : Option Addr) (l : List AssetP) (c : Nat) (hl : l.length ≤ 1048576) : CSpec Tryz.prog 30 [.one (.sl 0 A l.length c)] [(0, Res.rd A assetEn l)] [] fun o L => o = .ret (vb (decide (MintsP l))) ∧ L = [] := by
  refine v_enter Tryz.func30 (h := fun w0 => ?_)
  refine v_code [] (hk := ?_)
  refine v_loop (fun m E H => ∃ (k : Nat), E = [(3, vn k)] ∧ H = [] ∧ m = l.length - k ∧ k ≤ l.length ∧ (∀ x ∈ l.take k, x.amount ≠ 0)) [0, 16, 17] (l.length) ([(3, vn 0)]) ([]) (h0 := ⟨0, rfl, rfl, by omega, by omega, by simp⟩) (hr := ?_)
  rintro _ _ _ ⟨k, rfl, rfl, hmk, hk, hik0⟩
  refine v_code [] (hk := ?_)
  first | refine c_ifd rfl (fun h7 => ?_) (fun h7 => ?_) | refine c_ifn rfl (fun h7 => ?_) (fun h7 => ?_) | refine c_if rfl (fun h7 => ?_) (fun h7 => ?_)
  · refine v_code [] (hk := ?_)
    first | refine c_ifd rfl (fun h15 => ?_) (fun h15 => ?_) | refine c_ifn rfl (fun h15 => ?_) (fun h15 => ?_) | refine c_if rfl (fun h15 => ?_) (fun h15 => ?_)
    · refine v_code [] (hk := ?_)
      refine v_ret rfl [] (.cons (.tmp rfl) .nil) (h := ?_)
      exact ⟨outB (decide_eq_false (fun h => h.2 _ (getD_mem (d := asset0) h7) h15)).symm, rfl⟩
    · refine v_code [] (hk := ?_)
      refine v_again (l.length - (k + 1)) ⟨k + 1, rfl, rfl, by omega, by omega, all_takeD hik0 h7 h15⟩
  · refine v_code [] (hk := ?_)
    refine v_call 20850 [] (risingR_spec A l c hl) Tryz.func74 (h := ?_)
    rintro _ _ (⟨rfl, rfl⟩)
    refine v_ops [] (hk := ?_)
    refine v_ret rfl [] (.cons (.tmp rfl) .nil) (h := ?_)
    rw [take_all' h7] at hik0
    exact ⟨outB (decide_eq_decide.2 ⟨fun h => ⟨h, hik0⟩, fun h => h.1⟩), rfl⟩
theorem ofR_spec (v : ValueM) (n : NameP) (hl : v.assets.length ≤ 1048576) : CSpec Tryz.prog 32 [.agg [.one (.i .i64 v.coin), .one (.sl 101 v.A v.assets.length v.c)], .agg [.hash n.policy], .one (.s n.name)] [(101, Res.rd v.A assetEn v.assets)] [] fun o L => o = .ret (vint (amt v.assets n)) ∧ L = [] := by
  refine v_enter Tryz.func32 (h := fun w0 => ?_)
  refine v_code [] (hk := ?_)
  refine l_do d_box (fun g3 => ?_)
  refine l_do d_box (fun g4 => ?_)
  refine v_ops [] (hk := ?_)
  refine v_loop (fun m E H => ∃ (k : Nat), E = [(7, vn k)] ∧ H = [] ∧ m = v.assets.length - k ∧ k ≤ v.assets.length ∧ (∀ x ∈ v.assets.take k, x.key ≠ n)) [2, 3, 4] (v.assets.length) ([(7, vn 0)]) ([]) (h0 := ⟨0, rfl, rfl, by omega, by omega, by simp⟩) (hr := ?_)
  rintro _ _ _ ⟨k, rfl, rfl, hmk, hk, hik0⟩
  refine v_code [] (hk := ?_)
  first | refine c_ifd rfl (fun h12 => ?_) (fun h12 => ?_) | refine c_ifn rfl (fun h12 => ?_) (fun h12 => ?_) | refine c_if rfl (fun h12 => ?_) (fun h12 => ?_)
  · refine v_code [] (hk := ?_)
    refine v_draw (.q 0 (.q 1 (.q 2 (.q 3 (.q 4 (.q 5 (.q 6 (.q 7 (.q 8 (.q 9 (.q 10 (.q 11 (.q 12 (.q 13 (.q 14 (.q 15 (.q 16 (.q 17 .nil)))))))))))))))))) [10003, 10004, 10011] (hm := by kernel_rfl) (hs := by kernel_rfl) (hk := by kernel_rfl) (h := ?_)
    refine v_sch [] (hk := ?_)
    first | refine c_ifd rfl (fun h32 => ?_) (fun h32 => ?_) | refine c_ifn rfl (fun h32 => ?_) (fun h32 => ?_) | refine c_if rfl (fun h32 => ?_) (fun h32 => ?_)
    · refine v_code [] (hk := ?_)
      refine v_ret rfl [] (.cons (.tmp rfl) .nil) (h := ?_)
      refine ⟨outI ?_, rfl⟩
      unfold amt atN
      rw [find_atD (d := asset0) h12 (fun y hy => by simp [hik0 y hy]) (by rw [key_iff.1 h32]; simp)]
      rfl
    · refine v_code [] (hk := ?_)
      refine v_again (v.assets.length - (k + 1)) ⟨k + 1, rfl, rfl, by omega, by omega, all_takeD (d := asset0) hik0 h12 (fun e => by rw [key_iff.2 e] at h32; cases h32)⟩
  · refine v_code [] (hk := ?_)
    refine v_ret rfl [] (.cons (.tmp rfl) .nil) (h := ?_)
    rw [take_all' h12] at hik0
    refine ⟨outI (a := 0) ?_, rfl⟩
    unfold amt
    rw [atN_none hik0]
    rfl
end Go.Proofs.YtlnckcgbpilmdaaGreat
/- Assets that may be minted; the document's wide numbers. -/

set_option linter.unusedVariables false
set_option linter.unusedSimpArgs false
set_option maxRecDepth 100000
namespace Go.Proofs.YtlnckcgbpilmdaaGreat
open Go Go.RowKit HL
theorem mints1_spec (x : AssetP) : CSpec Tryz.prog 75 [.agg [.hash x.policy, .one (.s x.name), .one (.i .i64 x.amount)]] [] [] fun o L => o = .ret (vb (decide (x.amount = 0))) ∧ L = [] := by
  refine v_enter Tryz.func75 (h := fun w0 => ?_)
  refine v_code [] (hk := ?_)
  refine l_do d_box (fun g1 => ?_)
  refine v_ops [] (hk := ?_)
  refine v_ret rfl [] (.cons (.tmp rfl) .nil) (h := ?_)
  exact ⟨rfl, rfl⟩
theorem indexM_spec (A : Option Addr) (l : List AssetP) (c : Nat) (hl : l.length ≤ 1048576) : CSpec Tryz.prog 76 [.one (.sl 0 A l.length c), .one (.fn 75 [] [])] [(0, Res.rd A assetEn l)] [] fun o L => (∃ k : Nat, k < l.length ∧ (l.getD k asset0).amount = 0 ∧ o = .ret (vint k) ∧ L = []) ∨ (∀ x ∈ l, ¬ x.amount = 0) ∧ o = .ret (vint (-1)) ∧ L = [] := by
  refine v_enter Tryz.func76 (h := fun w0 => ?_)
  refine v_code [] (hk := ?_)
  refine v_loop (fun m E H => ∃ (k : Nat), E = [(8, vn k)] ∧ H = [] ∧ m = l.length - k ∧ k ≤ l.length ∧ (∀ x ∈ l.take k, ¬ x.amount = 0)) [0, 1, 7] (l.length) ([(8, vn 0)]) ([]) (h0 := ⟨0, rfl, rfl, by omega, by omega, by simp⟩) (hr := ?_)
  rintro _ _ _ ⟨k, rfl, rfl, hmk, hk, hik0⟩
  refine v_code [] (hk := ?_)
  first | refine c_ifd rfl (fun h9 => ?_) (fun h9 => ?_) | refine c_ifn rfl (fun h9 => ?_) (fun h9 => ?_) | refine c_if rfl (fun h9 => ?_) (fun h9 => ?_)
  · refine v_code [] (hk := ?_)
    refine v_call 20800 [] (mints1_spec (l.getD k asset0)) Tryz.func75 (h := ?_)
    rintro _ _ (⟨rfl, rfl⟩)
    refine v_ops [] (hk := ?_)
    first | refine c_ifd rfl (fun h16 => ?_) (fun h16 => ?_) | refine c_ifn rfl (fun h16 => ?_) (fun h16 => ?_) | refine c_if rfl (fun h16 => ?_) (fun h16 => ?_)
    · refine v_code [] (hk := ?_)
      refine v_ret rfl [] (.cons (.tmp rfl) .nil) (h := ?_)
      exact .inl ⟨k, h9, h16, rfl, rfl⟩
    · refine v_code [] (hk := ?_)
      refine v_again (l.length - (k + 1)) ⟨k + 1, rfl, rfl, by omega, by omega, (all_takeD hik0 h9 h16)⟩
  · refine v_code [] (hk := ?_)
    refine v_ret rfl [] (.cons (.tmp rfl) .nil) (h := ?_)
    rw [take_all' h9] at hik0
    exact .inr ⟨hik0, rfl, rfl⟩
theorem containsM_spec (A : Option Addr) (l : List AssetP) (c : Nat) (hl : l.length ≤ 1048576) : CSpec Tryz.prog 72 [.one (.sl 0 A l.length c), .one (.fn 75 [] [])] [(0, Res.rd A assetEn l)] [] fun o L => o = .ret (vb (l.any fun x => decide (x.amount = 0))) ∧ L = [] := by
  refine v_enter Tryz.func72 (h := fun w0 => ?_)
  refine v_code [] (hk := ?_)
  refine v_call 20350 [] (indexM_spec A l c hl) Tryz.func76 (h := ?_)
  rintro _ _ (⟨k, hk, hx, rfl, rfl⟩ | ⟨hno, rfl, rfl⟩)
  · refine v_ops [] (hk := ?_)
    refine v_ret rfl [] (.cons (.tmp rfl) .nil) (h := ?_)
    refine ⟨outB ?_, rfl⟩
    rw [List.any_eq_true.2 ⟨_, getD_mem hk, decide_eq_true hx⟩]
    exact decide_eq_true (by omega)
  · refine v_ops [] (hk := ?_)
    refine v_ret rfl [] (.cons (.tmp rfl) .nil) (h := ?_)
    refine ⟨outB ?_, rfl⟩
    rw [List.any_eq_false.2 fun x hx => by simpa using hno x hx]
    rfl
theorem mints_spec (A : Option Addr) (l : List AssetP) (c : Nat) (hl : l.length ≤ 1048576) : CSpec Tryz.prog 29 [.one (.sl 0 A l.length c)] [(0, Res.rd A assetEn l)] [] fun o L => o = .ret (vb (decide (MintsP l))) ∧ L = [] := by
  refine v_enter Tryz.func29 (h := fun w0 => ?_)
  refine v_code [] (hk := ?_)
  refine v_call 20200 [] (rising_spec A l c hl) Tryz.func71 (h := ?_)
  rintro _ _ (⟨rfl, rfl⟩)
  refine v_ops [] (hk := ?_)
  refine l_callG [] [6] ⟨_, _, ⟨_, .inl ⟨rfl, rfl⟩⟩, rfl, rfl⟩ (fun hg => containsM_spec A l c hl) Tryz.func72 (h := ?_)
  refine v_ops [] (hk := ?_)
  refine v_ret rfl [] (.cons (.tmp rfl) .nil) (h := ?_)
  refine ⟨outB ?_, rfl⟩
  rw [Bool.eq_iff_iff, decide_eq_true_iff]
  simp only [Bool.and_eq_true, decide_eq_true_eq, Bool.not_eq_true', List.any_eq_false]
  unfold MintsP
  exact Iff.rfl
theorem carryR (a b c : Int) : IntKind.u64.wrap (IntKind.u64.wrap (IntKind.u64.wrap a + IntKind.u64.wrap b) + c) = (IntKind.u64.wrap a + IntKind.u64.wrap b + c) % 18446744073709551616 := by
  rw [wrap_u64, wrap_u64, wrap_u64, wrap_u64]
  omega
theorem wOf_neg {n : Int} (h : Fits64 n) (h4 : n < 0) : wOf n = ⟨-1, IntKind.u64.wrap n⟩ := by
  unfold Fits64 at h
  rw [wrap_u64]
  unfold wOf wrap64
  simp only [WideP.mk.injEq, and_true]
  split <;> omega
theorem wOf_pos {n : Int} (h : Fits64 n) (h4 : ¬ n < 0) : wOf n = ⟨0, IntKind.u64.wrap n⟩ := by
  unfold Fits64 at h
  rw [wrap_u64]
  unfold wOf wrap64
  simp only [WideP.mk.injEq, and_true]
  split <;> omega
theorem wideR_spec (n : Int) (h : Fits64 n) : CSpec Tryz.prog 40 [.one (.i .i64 n)] [] [] fun o L => o = .ret (.s (.agg [.one (.i .i64 (wOf n).hi), .one (.i .u64 (wOf n).lo)])) ∧ L = [] := by
  refine v_enter Tryz.func40 (h := fun w0 => ?_)
  refine v_code [6, 9] (hk := ?_)
  refine l_do d_alloc (fun g2 => ?_)
  refine v_ops [6, 9] (hk := ?_)
  first | refine c_ifd rfl (fun h4 => ?_) (fun h4 => ?_) | refine c_ifn rfl (fun h4 => ?_) (fun h4 => ?_) | refine c_if rfl (fun h4 => ?_) (fun h4 => ?_)
  · refine v_code [6, 9] (hk := ?_)
    refine v_ret rfl [] (.cons (.cell inferInstance rfl rfl rfl rfl) .nil) (h := ?_)
    rw [wOf_neg h h4]
    exact ⟨rfl, rfl⟩
  · refine v_code [6, 9] (hk := ?_)
    refine v_ret rfl [] (.cons (.cell inferInstance rfl rfl rfl rfl) .nil) (h := ?_)
    rw [wOf_pos h h4]
    exact ⟨rfl, rfl⟩
theorem plusR_spec (A : Option Addr) (l : List WideP) (c : Nat) (hl : l.length ≤ 1048576) (hw : ∀ w ∈ l, WOk w) : CSpec Tryz.prog 38 [.one (.sl 0 A l.length c)] [(0, Res.rd A wideEn l)] [] fun o L => o = .ret (.s (.agg [.one (.i .i64 (wOf (wsum l)).hi), .one (.i .u64 (wOf (wsum l)).lo)])) ∧ L = [] := by
  refine v_enter Tryz.func38 (h := fun w0 => ?_)
  refine v_code [28, 34, 35, 37, 38] (hk := ?_)
  refine l_do d_alloc (fun g2 => ?_)
  refine v_ops [28, 34, 35, 37, 38] (hk := ?_)
  refine l_do d_alloc (fun g3 => ?_)
  refine v_ops [28, 34, 35, 37, 38] (hk := ?_)
  refine v_loop (fun m E H => ∃ (k : Nat) (s : WideP), E = [(4, vn k)] ∧ H = [(10003, Res.va g3 35 [.one (.i .i64 s.hi), .one (.i .u64 s.lo)])] ∧ m = l.length - k ∧ k ≤ l.length ∧ (s = wOf (wsum (l.take k)))) [0, 2, 3, 40] (l.length) ([(4, vn 0)]) ([(10003, Res.va g3 35 [.one (.i .i64 (wz).hi), .one (.i .u64 (wz).lo)])]) (h0 := ⟨0, wz, rfl, rfl, by omega, by omega, by rw [List.take_zero]; exact wOf_zero.symm⟩) (hr := ?_)
  rintro _ _ _ ⟨k, s, rfl, rfl, hmk, hk, hik0⟩
  refine v_code [28, 34, 35, 37, 38] (hk := ?_)
  first | refine c_ifd rfl (fun h10 => ?_) (fun h10 => ?_) | refine c_ifn rfl (fun h10 => ?_) (fun h10 => ?_) | refine c_if rfl (fun h10 => ?_) (fun h10 => ?_)
  · have hx := hw _ (getD_mem (d := wz) h10)
    have hy : WOk s := by rw [hik0]; exact wOf_ok _
    refine v_code [28, 34, 35, 37, 38] (hk := ?_)
    refine v_draw (.q 0 (.q 1 (.q 2 (.q 3 (.q 4 (.q 5 (.q 6 (.s 7 (.q 8 (.q 9 (.q 10 (.q 11 (.q 12 .nil))))))))))))) [10003] (hm := by kernel_rfl) (hs := by kernel_rfl) (hk := by kernel_rfl) (h := ?_)
    refine v_sch [28, 34, 35, 37, 38] (hk := ?_)
    refine s_rd rfl (v := .tup [.one (.i .u64 ((s.lo + (l.getD k wz).lo + 0) % 18446744073709551616)), .one (.i .u64 ((s.lo + (l.getD k wz).lo + 0) / 18446744073709551616))]) (fun a w ht hf => run_add64 (ev_sound (v := vi .u64 s.lo) ht rfl) (ev_sound (v := vi .u64 (l.getD k wz).lo) ht rfl) (ev_sound (v := vi .u64 0) ht rfl) hy.2.2.1 hx.2.2.1 (by omega)) ?_
    refine v_sch [28, 34, 35, 37, 38] (hk := ?_)
    refine v_draw (.q 0 (.q 3 (.q 4 (.q 5 (.q 6 (.q 7 (.q 8 (.q 10 (.s 1 (.q 2 (.q 9 (.q 11 (.q 12 (.q 13 (.s 14 .nil))))))))))))))) [10002] (hm := by kernel_rfl) (hs := by kernel_rfl) (hk := by kernel_rfl) (h := ?_)
    refine v_sch [28, 34, 35, 37, 38] (hk := ?_)
    refine v_again (l.length - (k + 1)) ⟨k + 1, ⟨IntKind.i64.wrap (IntKind.u64.wrap (IntKind.u64.wrap (IntKind.u64.wrap s.hi + IntKind.u64.wrap (l.getD k wz).hi) + (s.lo + (l.getD k wz).lo + 0) / 18446744073709551616)), (s.lo + (l.getD k wz).lo + 0) % 18446744073709551616⟩, rfl, rfl, by omega, by omega, by rw [carryR, Int.add_zero, wOf_carry hy hx, hik0, wOf_add, wsum_snoc h10]⟩
  · refine v_code [28, 34, 35, 37, 38] (hk := ?_)
    refine v_ret rfl [] (.cons (.cell inferInstance rfl rfl rfl rfl) .nil) (h := ?_)
    rw [take_all' h10] at hik0
    subst hik0
    exact ⟨rfl, rfl⟩
end Go.Proofs.YtlnckcgbpilmdaaGreat
/- The document's totals: one more of a name; those that are not 0. -/

set_option linter.unusedVariables false
set_option linter.unusedSimpArgs false
set_option maxRecDepth 100000
namespace Go.Proofs.YtlnckcgbpilmdaaGreat
open Go Go.RowKit HL
def PutI (l : List TotalP) (x : TotalP) (k : Nat) (out : List TotalP) (b : Bool) : Prop :=
  (b = false ∧ out = l.take k ∧ ∀ y ∈ l.take k, 0 < nord x.key y.key) ∨ (b = true ∧ tput l x = out ++ l.drop k ∧ ∀ y ∈ l.drop k, nord x.key y.key < 0)
theorem PutI.start {l : List TotalP} {x : TotalP} : PutI l x 0 [] false := .inl ⟨rfl, rfl, by simp⟩
theorem drop_gD {α : Type} {l : List α} {k : Nat} {d : α} (hk : k < l.length) : l.drop k = l.getD k d :: l.drop (k + 1) := by rw [List.drop_eq_getElem_cons hk, gD hk]
theorem PutI.len {l : List TotalP} {x : TotalP} {k : Nat} {out : List TotalP} {b : Bool} (h : PutI l x k out b) : out.length ≤ l.length + 1 := by
  rcases h with ⟨_, h, _⟩ | ⟨_, h, _⟩
  · rw [h, List.length_take]; omega
  · have := tput_len (x := x) (l := l)
    rw [h, List.length_append] at this
    omega
theorem PutI.behind {l : List TotalP} {x d : TotalP} {k : Nat} (hr : Rise TotalP.key l) (hk : k < l.length) (h : nord x.key (l.getD k d).key ≤ 0) : ∀ y ∈ l.drop (k + 1), nord x.key y.key < 0 := fun y hy => by
  unfold Rise at hr
  have h1 : (l.drop k).Pairwise fun a b => nord a.key b.key < 0 := hr.sublist (List.drop_sublist k l)
  rw [drop_gD (d := d) hk] at h1
  have h2 := (List.pairwise_cons.1 h1).1 y hy
  by_cases e : nord x.key (l.getD k d).key = 0
  · rw [nord_eq e]; exact h2
  · exact nord_trans (by omega) h2
theorem PutI.before {l : List TotalP} {x d : TotalP} {k : Nat} {out : List TotalP} (hr : Rise TotalP.key l) (hk : k < l.length) (h : PutI l x k out false) (hc : nord x.key (l.getD k d).key < 0) : PutI l x (k + 1) (out ++ [x] ++ [l.getD k d]) true := by
  rcases h with ⟨_, h1, h2⟩ | ⟨h, _⟩
  · refine .inr ⟨rfl, ?_, PutI.behind (d := d) hr hk (by omega)⟩
    conv => lhs; rw [← List.take_append_drop k l, tput_none h2, drop_gD (d := d) hk]
    unfold tput
    rw [if_pos hc, h1]
    simp
  · cases h
theorem PutI.same {l : List TotalP} {x d : TotalP} {k : Nat} {out : List TotalP} {b : Bool} (hr : Rise TotalP.key l) (hk : k < l.length) (h : PutI l x k out b) (hc : nord x.key (l.getD k d).key = 0) : PutI l x (k + 1) (out ++ [⟨(l.getD k d).policy, (l.getD k d).name, wOf (wsum [(l.getD k d).sum, x.sum])⟩]) true := by
  rcases h with ⟨_, h1, h2⟩ | ⟨_, _, h⟩
  · refine .inr ⟨rfl, ?_, PutI.behind (d := d) hr hk (by omega)⟩
    conv => lhs; rw [← List.take_append_drop k l, tput_none h2, drop_gD (d := d) hk]
    unfold tput
    rw [if_neg (by omega), if_pos hc, h1, wsum_two]
    simp
  · have := h _ (by rw [drop_gD (d := d) hk]; exact List.mem_cons_self ..)
    omega
theorem PutI.other {l : List TotalP} {x d : TotalP} {k : Nat} {out : List TotalP} {b : Bool} (hr : Rise TotalP.key l) (hk : k < l.length) (h : PutI l x k out b) (hc : ¬ nord x.key (l.getD k d).key = 0) (hb : b = false → ¬ nord x.key (l.getD k d).key < 0) : PutI l x (k + 1) (out ++ [l.getD k d]) b := by
  rcases h with ⟨h0, h1, h2⟩ | ⟨h0, h1, h2⟩
  · have := hb h0
    refine .inl ⟨h0, by rw [h1, take_getD (d := d) hk], fun y hy => ?_⟩
    rw [take_getD (d := d) hk] at hy
    rcases List.mem_append.1 hy with hy | hy
    · exact h2 y hy
    · rw [List.mem_singleton.1 hy]; omega
  · refine .inr ⟨h0, ?_, fun y hy => h2 y (by rw [drop_gD (d := d) hk]; exact List.mem_cons_of_mem _ hy)⟩
    rw [h1, drop_gD (d := d) hk]
    simp
theorem PutI.endF {l : List TotalP} {x : TotalP} {k : Nat} {out : List TotalP} (hk : ¬ k < l.length) (h : PutI l x k out false) : tput l x = out ++ [x] := by
  rcases h with ⟨_, h1, h2⟩ | ⟨h, _⟩
  · rw [List.take_of_length_le (by omega)] at h1 h2
    have := tput_none (m := []) h2
    rw [List.append_nil] at this
    rw [this, h1]
    rfl
  · cases h
theorem PutI.endT {l : List TotalP} {x : TotalP} {k : Nat} {out : List TotalP} (hk : ¬ k < l.length) (h : PutI l x k out true) : tput l x = out := by
  rcases h with ⟨h, _⟩ | ⟨_, h1, _⟩
  · cases h
  · rw [h1, List.drop_eq_nil_of_le (by omega), List.append_nil]
theorem put_spec (A : Option Addr) (l : List TotalP) (c : Nat) (x : TotalP) (hl : l.length ≤ 1048576) (hr : Rise TotalP.key l) (ho : ∀ y ∈ l, WOk y.sum) (hx : WOk x.sum) : CSpec Tryz.prog 59 [.one (.sl 0 A l.length c), .agg [.hash x.policy, .one (.s x.name), .one (.i .i64 x.sum.hi), .one (.i .u64 x.sum.lo)]] [(0, Res.rd A totalEn l)] [] fun o L => ∃ B d, o = .ret (vsl 0 B (tput l x).length d) ∧ L = [Res.rows B d 75 totalEn (tput l x)] := by
  refine v_enter Tryz.func59 (h := fun w0 => ?_)
  refine v_code [] (hk := ?_)
  refine l_do d_box (fun g3 => ?_)
  refine v_ops [] (hk := ?_)
  refine k_nil 10057 75 totalEn ?_
  refine v_loop (fun m E H => ∃ (k : Nat) (A5 : Option Addr) (c5 : Nat) (out : List TotalP) (b : Bool), E = [(5, vsl 10057 A5 out.length c5), (6, vb b), (7, vn k)] ∧ H = [(10057, Res.rows A5 c5 75 totalEn out)] ∧ m = l.length - k ∧ k ≤ l.length ∧ PutI l x k out b) [0, 3, 4, 58, 59, 60, 61, 62, 63, 64] (l.length) ([(5, vsl 10057 none 0 0), (6, vb false), (7, vn 0)]) ([(10057, Res.rows none 0 75 totalEn [])]) (h0 := ⟨0, none, 0, [], false, rfl, rfl, rfl, Nat.zero_le _, PutI.start⟩) (hr := ?_)
  rintro _ _ _ ⟨k, A5, c5, out, b, rfl, rfl, hmk, hk, hi⟩
  refine v_code [] (hk := ?_)
  first | refine c_ifd rfl (fun h13 => ?_) (fun h13 => ?_) | refine c_ifn rfl (fun h13 => ?_) (fun h13 => ?_) | refine c_if rfl (fun h13 => ?_) (fun h13 => ?_)
  · have hol := hi.len
    have hyo := ho _ (getD_mem (d := total0) h13)
    refine v_code [] (hk := ?_)
    refine v_draw (.q 0 (.q 1 (.q 2 (.q 3 (.q 4 (.q 5 (.q 6 (.q 7 (.q 8 (.q 9 (.q 10 (.q 11 (.q 12 (.q 13 (.s 14 (.q 15 .nil)))))))))))))))) [10003, 10012, 21500, 21501, 21502, 21503, 10039, 10040, 10009, 10051, 22600, 22601, 22602, 22603, 10056, 10057, 10062, 10063] (hm := by kernel_rfl) (hs := by kernel_rfl) (hk := by kernel_rfl) (h := ?_)
    refine v_sch [] (hk := ?_)
    refine v_callS rfl 21500 [] (orderR_spec x.key (l.getD k total0).key) Tryz.func85 (h := ?_)
    rintro _ _ (⟨rfl, rfl⟩)
    refine ⟨cov_of (by repeat (first | exact trivial | refine ⟨rfl, ?_⟩)), ?_⟩
    refine v_sch [] (hk := ?_)
    first | refine c_ifd rfl (fun h36 => ?_) (fun h36 => ?_) | refine c_ifn rfl (fun h36 => ?_) (fun h36 => ?_) | refine c_if rfl (fun h36 => ?_) (fun h36 => ?_)
    · simp only [Bool.and_eq_true, decide_eq_true_eq, Bool.not_eq_true'] at h36
      obtain ⟨h36a, rfl⟩ := h36
      refine v_code [] (hk := ?_)
      refine l_do (d_bslice [x]) (fun B39 => ?_)
      refine l_do d_append (fun p40 => ?_)
      refine v_ops [] (hk := ?_)
      refine l_do d_alloc (fun g9 => ?_)
      refine v_ops [] (hk := ?_)
      first | refine c_ifd rfl (fun h46 => ?_) (fun h46 => ?_) | refine c_ifn rfl (fun h46 => ?_) (fun h46 => ?_) | refine c_if rfl (fun h46 => ?_) (fun h46 => ?_)
      · first
        | (exfalso; omega; done)
        | ( refine v_code [] (hk := ?_)
            refine l_do (d_bslice [(l.getD k total0).sum, x.sum]) (fun B51 => ?_)
            refine v_call 22600 [] (plusR_spec B51 [(l.getD k total0).sum, x.sum] 2 (by simp) (by intro w hw; simp at hw; rcases hw with rfl | rfl; exact hyo; exact hx)) Tryz.func38 (h := ?_)
            rintro _ _ (⟨rfl, rfl⟩)
            refine v_ops [] (hk := ?_)
            first | refine l_do (d_bslice [(⟨(l.getD k total0).policy, (l.getD k total0).name, wOf (wsum [(l.getD k total0).sum, x.sum])⟩ : TotalP)]) (fun B56 => ?_) | refine l_do (d_bslice [l.getD k total0]) (fun B56 => ?_)
            refine l_do d_append (fun p57 => ?_)
            refine v_ops [] (hk := ?_)
            refine v_again (l.length - (k + 1)) (by first | exact ⟨k + 1, p57.1, p57.2, out ++ [x] ++ [l.getD k total0], true, rfl, rfl, rfl, h13, PutI.before (d := total0) hr h13 hi h36a⟩ | exact ⟨k + 1, p57.1, p57.2, out ++ [⟨(l.getD k total0).policy, (l.getD k total0).name, wOf (wsum [(l.getD k total0).sum, x.sum])⟩], true, rfl, rfl, rfl, h13, PutI.same (d := total0) hr h13 hi h46⟩ | exact ⟨k + 1, p57.1, p57.2, out ++ [l.getD k total0], b, rfl, rfl, rfl, h13, PutI.other (d := total0) hr h13 hi h46 (fun hb hc => by subst hb; exact absurd (show (decide (nord x.key (l.getD k total0).key < 0) && !false) = false from h36) (by rw [decide_eq_true hc]; decide))⟩))
      · first
        | (exfalso; omega; done)
        | ( refine v_code [] (hk := ?_)
            first | refine l_do (d_bslice [(⟨(l.getD k total0).policy, (l.getD k total0).name, wOf (wsum [(l.getD k total0).sum, x.sum])⟩ : TotalP)]) (fun B56 => ?_) | refine l_do (d_bslice [l.getD k total0]) (fun B56 => ?_)
            refine l_do d_append (fun p57 => ?_)
            refine v_ops [] (hk := ?_)
            refine v_again (l.length - (k + 1)) (by first | exact ⟨k + 1, p57.1, p57.2, out ++ [x] ++ [l.getD k total0], true, rfl, rfl, rfl, h13, PutI.before (d := total0) hr h13 hi h36a⟩ | exact ⟨k + 1, p57.1, p57.2, out ++ [⟨(l.getD k total0).policy, (l.getD k total0).name, wOf (wsum [(l.getD k total0).sum, x.sum])⟩], true, rfl, rfl, rfl, h13, PutI.same (d := total0) hr h13 hi h46⟩ | exact ⟨k + 1, p57.1, p57.2, out ++ [l.getD k total0], b, rfl, rfl, rfl, h13, PutI.other (d := total0) hr h13 hi h46 (fun hb hc => by subst hb; exact absurd (show (decide (nord x.key (l.getD k total0).key < 0) && !false) = false from h36) (by rw [decide_eq_true hc]; decide))⟩))
    · refine v_code [] (hk := ?_)
      refine l_do d_alloc (fun g9 => ?_)
      refine v_ops [] (hk := ?_)
      first | refine c_ifd rfl (fun h46 => ?_) (fun h46 => ?_) | refine c_ifn rfl (fun h46 => ?_) (fun h46 => ?_) | refine c_if rfl (fun h46 => ?_) (fun h46 => ?_)
      · first
        | (exfalso; omega; done)
        | ( refine v_code [] (hk := ?_)
            refine l_do (d_bslice [(l.getD k total0).sum, x.sum]) (fun B51 => ?_)
            refine v_call 22600 [] (plusR_spec B51 [(l.getD k total0).sum, x.sum] 2 (by simp) (by intro w hw; simp at hw; rcases hw with rfl | rfl; exact hyo; exact hx)) Tryz.func38 (h := ?_)
            rintro _ _ (⟨rfl, rfl⟩)
            refine v_ops [] (hk := ?_)
            first | refine l_do (d_bslice [(⟨(l.getD k total0).policy, (l.getD k total0).name, wOf (wsum [(l.getD k total0).sum, x.sum])⟩ : TotalP)]) (fun B56 => ?_) | refine l_do (d_bslice [l.getD k total0]) (fun B56 => ?_)
            refine l_do d_append (fun p57 => ?_)
            refine v_ops [] (hk := ?_)
            refine v_again (l.length - (k + 1)) (by first | exact ⟨k + 1, p57.1, p57.2, out ++ [x] ++ [l.getD k total0], true, rfl, rfl, rfl, h13, PutI.before (d := total0) hr h13 hi h36a⟩ | exact ⟨k + 1, p57.1, p57.2, out ++ [⟨(l.getD k total0).policy, (l.getD k total0).name, wOf (wsum [(l.getD k total0).sum, x.sum])⟩], true, rfl, rfl, rfl, h13, PutI.same (d := total0) hr h13 hi h46⟩ | exact ⟨k + 1, p57.1, p57.2, out ++ [l.getD k total0], b, rfl, rfl, rfl, h13, PutI.other (d := total0) hr h13 hi h46 (fun hb hc => by subst hb; exact absurd (show (decide (nord x.key (l.getD k total0).key < 0) && !false) = false from h36) (by rw [decide_eq_true hc]; decide))⟩))
      · first
        | (exfalso; omega; done)
        | ( refine v_code [] (hk := ?_)
            first | refine l_do (d_bslice [(⟨(l.getD k total0).policy, (l.getD k total0).name, wOf (wsum [(l.getD k total0).sum, x.sum])⟩ : TotalP)]) (fun B56 => ?_) | refine l_do (d_bslice [l.getD k total0]) (fun B56 => ?_)
            refine l_do d_append (fun p57 => ?_)
            refine v_ops [] (hk := ?_)
            refine v_again (l.length - (k + 1)) (by first | exact ⟨k + 1, p57.1, p57.2, out ++ [x] ++ [l.getD k total0], true, rfl, rfl, rfl, h13, PutI.before (d := total0) hr h13 hi h36a⟩ | exact ⟨k + 1, p57.1, p57.2, out ++ [⟨(l.getD k total0).policy, (l.getD k total0).name, wOf (wsum [(l.getD k total0).sum, x.sum])⟩], true, rfl, rfl, rfl, h13, PutI.same (d := total0) hr h13 hi h46⟩ | exact ⟨k + 1, p57.1, p57.2, out ++ [l.getD k total0], b, rfl, rfl, rfl, h13, PutI.other (d := total0) hr h13 hi h46 (fun hb hc => by subst hb; exact absurd (show (decide (nord x.key (l.getD k total0).key < 0) && !false) = false from h36) (by rw [decide_eq_true hc]; decide))⟩))
  · have hol := hi.len
    refine v_code [] (hk := ?_)
    first | refine c_ifd rfl (fun h59 => ?_) (fun h59 => ?_) | refine c_ifn rfl (fun h59 => ?_) (fun h59 => ?_) | refine c_if rfl (fun h59 => ?_) (fun h59 => ?_)
    · have hb : b = false := by simpa using h59
      subst hb
      refine v_code [] (hk := ?_)
      refine l_do (d_bslice [x]) (fun B62 => ?_)
      refine l_do d_append (fun p63 => ?_)
      refine v_ops [] (hk := ?_)
      rw [hi.endF h13]
      refine k_ret [10057] (vsl 0 p63.1 (out ++ [x]).length p63.2) (.cons (.tmp rfl) .nil) (h := ?_)
      exact ⟨p63.1, p63.2, rfl, rfl⟩
    · have hb : b = true := by simpa using h59
      subst hb
      refine v_code [] (hk := ?_)
      rw [hi.endT h13]
      refine k_ret [10057] (vsl 0 A5 out.length c5) (.cons (.tmp rfl) .nil) (h := ?_)
      exact ⟨A5, c5, rfl, rfl⟩
theorem tsome_yes {l : List TotalP} {k : Nat} {d : TotalP} (hk : k < l.length) (h : (l.getD k d).sum ≠ wz) : tsome (l.take (k + 1)) = tsome (l.take k) ++ [l.getD k d] := by
  unfold tsome
  rw [take_getD (d := d) hk, List.filter_append, List.filter_cons_of_pos (by rw [decide_eq_true h]), List.filter_nil]
theorem tsome_no {l : List TotalP} {k : Nat} {d : TotalP} (hk : k < l.length) (h : ¬ (l.getD k d).sum ≠ wz) : tsome (l.take (k + 1)) = tsome (l.take k) := by
  unfold tsome
  rw [take_getD (d := d) hk, List.filter_append, List.filter_cons_of_neg (by rw [decide_eq_false h]; decide), List.filter_nil, List.append_nil]
theorem tsome_len (l : List TotalP) : (tsome l).length ≤ l.length := List.length_filter_le _ _
theorem some_spec (A : Option Addr) (l : List TotalP) (c : Nat) (hl : l.length ≤ 1048576) : CSpec Tryz.prog 60 [.one (.sl 0 A l.length c)] [(0, Res.rd A totalEn l)] [] fun o L => ∃ B d, o = .ret (vsl 0 B (tsome l).length d) ∧ L = [Res.rows B d 75 totalEn (tsome l)] := by
  refine v_enter Tryz.func60 (h := fun w0 => ?_)
  refine v_code [] (hk := ?_)
  refine k_nil 10024 75 totalEn ?_
  refine v_loop (fun m E H => ∃ (k : Nat) (A3 : Option Addr) (c3 : Nat) (out : List TotalP), E = [(3, vsl 10024 A3 out.length c3), (4, vn k)] ∧ H = [(10024, Res.rows A3 c3 75 totalEn out)] ∧ m = l.length - k ∧ k ≤ l.length ∧ out = tsome (l.take k)) [0, 2, 25] (l.length) ([(3, vsl 10024 none 0 0), (4, vn 0)]) ([(10024, Res.rows none 0 75 totalEn [])]) (h0 := ⟨0, none, 0, [], rfl, rfl, rfl, Nat.zero_le _, rfl⟩) (hr := ?_)
  rintro _ _ _ ⟨k, A3, c3, out, rfl, rfl, hmk, hk, ho⟩
  refine v_code [] (hk := ?_)
  first | refine c_ifd rfl (fun h8 => ?_) (fun h8 => ?_) | refine c_ifn rfl (fun h8 => ?_) (fun h8 => ?_) | refine c_if rfl (fun h8 => ?_) (fun h8 => ?_)
  · have hol := tsome_len (l.take k)
    rw [← ho] at hol
    rw [List.length_take] at hol
    refine v_code [] (hk := ?_)
    refine l_rd (r_neSt (u := (l.getD k total0).sum) (v := wz)) ?_
    refine v_ops [] (hk := ?_)
    first | refine c_ifd rfl (fun h17 => ?_) (fun h17 => ?_) | refine c_ifn rfl (fun h17 => ?_) (fun h17 => ?_) | refine c_if rfl (fun h17 => ?_) (fun h17 => ?_)
    · refine v_code [] (hk := ?_)
      refine l_do (d_bslice [l.getD k total0]) (fun B23 => ?_)
      refine l_do d_append (fun p24 => ?_)
      refine v_ops [] (hk := ?_)
      refine v_again (l.length - (k + 1)) (by first | exact ⟨k + 1, p24.1, p24.2, out ++ [l.getD k total0], rfl, rfl, rfl, h8, by rw [tsome_yes (d := total0) h8 (by simpa using h17), ho]⟩ | exact ⟨k + 1, A3, c3, out, rfl, rfl, rfl, h8, by rw [tsome_no (d := total0) h8 (by simpa using h17), ho]⟩)
    · refine v_code [] (hk := ?_)
      refine v_again (l.length - (k + 1)) (by first | exact ⟨k + 1, p24.1, p24.2, out ++ [l.getD k total0], rfl, rfl, rfl, h8, by rw [tsome_yes (d := total0) h8 (by simpa using h17), ho]⟩ | exact ⟨k + 1, A3, c3, out, rfl, rfl, rfl, h8, by rw [tsome_no (d := total0) h8 (by simpa using h17), ho]⟩)
  · refine v_code [] (hk := ?_)
    rw [take_all' h8] at ho
    subst ho
    refine k_ret [10024] (vsl 0 A3 (tsome l).length c3) (.cons (.tmp rfl) .nil) (h := ?_)
    exact ⟨A3, c3, rfl, rfl⟩
end Go.Proofs.YtlnckcgbpilmdaaGreat
/- The document's exact sums; totals put together. -/

set_option linter.unusedVariables false
set_option linter.unusedSimpArgs false
set_option maxRecDepth 100000
namespace Go.Proofs.YtlnckcgbpilmdaaGreat
open Go Go.RowKit HL
structure SumI (f : NameP → Int) (out : List TotalP) : Prop where
  rise : Rise TotalP.key out
  ok : ∀ x ∈ out, WOk x.sum
  sum : ∀ n, wOf (ttot out n) = wOf (f n)
theorem SumI.nil : SumI (fun _ => 0) [] := ⟨List.Pairwise.nil, by simp, fun n => rfl⟩
theorem wOf_both {a b c d : Int} (h : wOf a = wOf b) (h2 : wOf c = wOf d) : wOf (a + c) = wOf (b + d) := by
  rw [wOf_eq] at *
  omega
theorem SumI.put {f f' : NameP → Int} {out : List TotalP} {x : TotalP} {a : Int} (h : SumI f out) (hx : WOk x.sum) (hv : wOf (num x.sum) = wOf a) (hf : ∀ n, f' n = f n + if n = x.key then a else 0) : SumI f' (tput out x) where
  rise := tput_rise h.rise
  ok := tput_ok hx h.ok
  sum n := by
    rw [tput_sum, hf n]
    by_cases e : n = x.key
    · rw [if_pos e, if_pos e]
      exact wOf_both (h.sum n) hv
    · rw [if_neg e, if_neg e, Int.add_zero, Int.add_zero]
      exact h.sum n
theorem SumI.isT {f : NameP → Int} {out : List TotalP} (h : SumI f out) : IsT (fun n => wOf (f n)) (tsome out) := tsome_isT h.rise h.ok h.sum
def totOf (x : AssetP) : TotalP := ⟨x.policy, x.name, wOf x.amount⟩
theorem sumsR_spec (A : Option Addr) (l : List ValueM) (c : Nat) (hl : l.length ≤ 1000) (hf : ∀ v ∈ l, FitS v) : CSpec Tryz.prog 14 [.one (.sl 0 A l.length c)] [(0, rdValues A l)] [] fun o L => ∃ B d t, IsT (fun n => wOf (tot (AL l) n)) t ∧ t.length ≤ 1048576 ∧ o = .ret (.tup [.agg [.one (.i .i64 (wOf (csum l)).hi), .one (.i .u64 (wOf (csum l)).lo)], .one (.sl 0 B t.length d)]) ∧ L = [Res.rows B d 75 totalEn t] := by
  refine v_enter Tryz.func14 (h := fun w0 => ?_)
  refine v_code [] (hk := ?_)
  refine l_do d_alloc (fun g2 => ?_)
  refine v_ops [] (hk := ?_)
  refine l_do d_alloc (fun g4 => ?_)
  refine v_ops [] (hk := ?_)
  refine k_nil 905 75 totalEn ?_
  refine v_loop (fun m E H => ∃ (k : Nat) (s : WideP) (A6 : Option Addr) (c6 : Nat) (out0 : List TotalP), E = [(6, vn k), (5, vsl 905 A6 out0.length c6)] ∧ H = [(10004, Res.va g4 35 [.one (.i .i64 s.hi), .one (.i .u64 s.lo)]), (905, Res.rows A6 c6 75 totalEn out0)] ∧ m = l.length - k ∧ k ≤ l.length ∧ (s = wOf (csum (l.take k))) ∧ (SumI (tot (AL (l.take k))) out0) ∧ (out0.length ≤ 1000 * k)) [0, 2, 3, 4, 52, 53, 54] (l.length) ([(6, vn 0), (5, vsl 905 (none) ([]).length (0))]) ([(10004, Res.va g4 35 [.one (.i .i64 (wz).hi), .one (.i .u64 (wz).lo)]), (905, Res.rows (none) (0) 75 totalEn ([]))]) (h0 := ⟨0, wz, none, 0, [], rfl, rfl, by omega, by omega, by exact wOf_zero.symm, SumI.nil, by simp⟩) (hr := ?_)
  rintro _ _ _ ⟨k, s, A6, c6, out0, rfl, rfl, hmk, hk, hik0, hik1, hik2⟩
  refine v_code [] (hk := ?_)
  first | refine c_ifd rfl (fun h12 => ?_) (fun h12 => ?_) | refine c_ifn rfl (fun h12 => ?_) (fun h12 => ?_) | refine c_if rfl (fun h12 => ?_) (fun h12 => ?_)
  · have hv := hf _ (getD_mem (d := value0) h12)
    have hv1 := hv.1
    refine v_code [] (hk := ?_)
    refine v_draw (.q 1 (.q 2 (.q 3 (.q 4 (.q 5 (.s2 0 (.s 6 (.s 7 (.s 8 (.s 9 .nil)))) 6 (.s 0 (.s 7 (.s 8 (.s 9 .nil)))))))))) [10002, 10011, 21050, 21051, 21052, 21053, 10022, 21150, 21151, 21152, 21153, 10030, 10008, 22450, 22451, 22452, 22453, 22550, 22551, 22552, 22553, 22700, 22701, 22702, 22703] (hm := by kernel_rfl) (hs := by kernel_rfl) (hk := by kernel_rfl) (h := ?_)
    refine v_sch [] (hk := ?_)
    refine s_two ?_ ?_
    · refine v_sch [] (hk := ?_)
      refine v_callS rfl 21050 [] (wideR_spec (l.getD k value0).coin hv.2.1) Tryz.func40 (h := ?_)
      rintro _ _ (⟨rfl, rfl⟩)
      refine ⟨cov_of (by repeat (first | exact trivial | refine ⟨rfl, ?_⟩)), ?_⟩
      refine s_do rfl (d_bslice [s, wOf (l.getD k value0).coin]) (fun B22 => ?_)
      refine v_callS rfl 21150 [] (plusR_spec B22 [s, wOf (l.getD k value0).coin] 2 (by simp) (by intro w hw; simp at hw; rcases hw with rfl | rfl; rw [hik0]; exact wOf_ok _; exact wOf_ok _)) Tryz.func38 (h := ?_)
      rintro _ _ (⟨rfl, rfl⟩)
      refine ⟨cov_of (by repeat (first | exact trivial | refine ⟨rfl, ?_⟩)), ?_⟩
      refine v_sch [] (hk := ?_)
      refine v_loop (fun m E H => ∃ (j : Nat) (A5 : Option Addr) (c5 : Nat) (out : List TotalP), E = [(7, vn j), (5, vsl 905 A5 out.length c5)] ∧ H = [(905, Res.rows A5 c5 75 totalEn out)] ∧ m = (l.getD k value0).assets.length - j ∧ j ≤ (l.getD k value0).assets.length ∧ (SumI (tot (AL (l.take k) ++ (l.getD k value0).assets.take j)) out) ∧ (out.length ≤ 1000 * k + j)) [0, 2, 3, 4, 6, 9, 10, 11, 12, 13, 14, 15, 16, 17, 18, 19, 20, 21, 22, 23, 52, 53, 54] ((l.getD k value0).assets.length) ([(7, vn 0), (5, vsl 905 (A6) (out0).length (c6))]) ([(905, Res.rows (A6) (c6) 75 totalEn (out0))]) (h0 := ⟨0, A6, c6, out0, rfl, rfl, by omega, by omega, by rw [List.take_zero, List.append_nil]; exact hik1, by omega⟩) (hr := ?_)
      rintro _ _ _ ⟨j, A5, c5, out, rfl, rfl, hmj, hj, hij0, hij1⟩
      refine v_code [] (hk := ?_)
      first | refine c_ifd rfl (fun h31 => ?_) (fun h31 => ?_) | refine c_ifn rfl (fun h31 => ?_) (fun h31 => ?_) | refine c_if rfl (fun h31 => ?_) (fun h31 => ?_)
      · have hx := hv.2.2 _ (getD_mem (d := asset0) h31)
        refine v_code [] (hk := ?_)
        refine l_do d_alloc (fun g8 => ?_)
        refine v_ops [] (hk := ?_)
        refine v_draw (.q 0 (.q 1 (.q 2 (.q 3 (.q 4 (.q 5 (.q 6 (.s 7 (.q 8 (.s 9 (.q 10 .nil))))))))))) [10008] (hm := by kernel_rfl) (hs := by kernel_rfl) (hk := by kernel_rfl) (h := ?_)
        refine v_sch [] (hk := ?_)
        refine v_callS rfl 22450 [] (wideR_spec ((l.getD k value0).assets.getD j asset0).amount hx) Tryz.func40 (h := ?_)
        rintro _ _ (⟨rfl, rfl⟩)
        refine ⟨cov_of (by repeat (first | exact trivial | refine ⟨rfl, ?_⟩)), ?_⟩
        refine v_sch [] (hk := ?_)
        refine v_callS rfl 22550 [] (put_spec A5 out c5 (totOf ((l.getD k value0).assets.getD j asset0)) (by omega) hij0.rise hij0.ok (wOf_ok _)) Tryz.func59 (h := ?_)
        rintro _ _ (⟨B51, d51, rfl, rfl⟩)
        refine ⟨cov_of (by repeat (first | exact trivial | refine ⟨rfl, ?_⟩)), ?_⟩
        refine v_sch [] (hk := ?_)
        refine k_ren 22550 905 rfl ?_
        refine v_again ((l.getD k value0).assets.length - (j + 1)) ⟨j + 1, B51, d51, tput out (totOf ((l.getD k value0).assets.getD j asset0)), rfl, rfl, by omega, by omega, hij0.put (wOf_ok _) (wOf_num (wOf_ok _)) (tot_snoc (d := asset0) h31), by have := tput_len (x := totOf ((l.getD k value0).assets.getD j asset0)) (l := out); omega⟩
      · refine v_code [] (hk := ?_)
        refine v_again (l.length - (k + 1)) ⟨k + 1, wOf (wsum [s, wOf (l.getD k value0).coin]), A5, c5, out, rfl, rfl, by omega, by omega, by rw [csum_snoc (d := value0) h12, wsum_two, hik0, wOf_add, wOf_addR], by rw [AL_snoc (d := value0) h12]; rw [take_all' h31] at hij0; exact hij0, by omega⟩
    · refine v_callS rfl 21050 [] (wideR_spec (l.getD k value0).coin hv.2.1) Tryz.func40 (h := ?_)
      rintro _ _ (⟨rfl, rfl⟩)
      refine ⟨cov_of (by repeat (first | exact trivial | refine ⟨rfl, ?_⟩)), ?_⟩
      refine v_sch [] (hk := ?_)
      refine s_do rfl (d_bslice [s, wOf (l.getD k value0).coin]) (fun B22 => ?_)
      refine v_callS rfl 21150 [] (plusR_spec B22 [s, wOf (l.getD k value0).coin] 2 (by simp) (by intro w hw; simp at hw; rcases hw with rfl | rfl; rw [hik0]; exact wOf_ok _; exact wOf_ok _)) Tryz.func38 (h := ?_)
      rintro _ _ (⟨rfl, rfl⟩)
      refine ⟨cov_of (by repeat (first | exact trivial | refine ⟨rfl, ?_⟩)), ?_⟩
      refine v_sch [] (hk := ?_)
      refine v_loop (fun m E H => ∃ (j : Nat) (A5 : Option Addr) (c5 : Nat) (out : List TotalP), E = [(7, vn j), (5, vsl 905 A5 out.length c5)] ∧ H = [(905, Res.rows A5 c5 75 totalEn out)] ∧ m = (l.getD k value0).assets.length - j ∧ j ≤ (l.getD k value0).assets.length ∧ (SumI (tot (AL (l.take k) ++ (l.getD k value0).assets.take j)) out) ∧ (out.length ≤ 1000 * k + j)) [0, 2, 3, 4, 6, 9, 10, 11, 12, 13, 14, 15, 16, 17, 18, 19, 20, 21, 22, 23, 52, 53, 54] ((l.getD k value0).assets.length) ([(7, vn 0), (5, vsl 905 (A6) (out0).length (c6))]) ([(905, Res.rows (A6) (c6) 75 totalEn (out0))]) (h0 := ⟨0, A6, c6, out0, rfl, rfl, by omega, by omega, by rw [List.take_zero, List.append_nil]; exact hik1, by omega⟩) (hr := ?_)
      rintro _ _ _ ⟨j, A5, c5, out, rfl, rfl, hmj, hj, hij0, hij1⟩
      refine v_code [] (hk := ?_)
      first | refine c_ifd rfl (fun h31 => ?_) (fun h31 => ?_) | refine c_ifn rfl (fun h31 => ?_) (fun h31 => ?_) | refine c_if rfl (fun h31 => ?_) (fun h31 => ?_)
      · have hx := hv.2.2 _ (getD_mem (d := asset0) h31)
        refine v_code [] (hk := ?_)
        refine l_do d_alloc (fun g8 => ?_)
        refine v_ops [] (hk := ?_)
        refine v_draw (.q 0 (.q 1 (.q 2 (.q 3 (.q 4 (.q 5 (.q 6 (.s 7 (.q 8 (.s 9 (.q 10 .nil))))))))))) [10008] (hm := by kernel_rfl) (hs := by kernel_rfl) (hk := by kernel_rfl) (h := ?_)
        refine v_sch [] (hk := ?_)
        refine v_callS rfl 22450 [] (wideR_spec ((l.getD k value0).assets.getD j asset0).amount hx) Tryz.func40 (h := ?_)
        rintro _ _ (⟨rfl, rfl⟩)
        refine ⟨cov_of (by repeat (first | exact trivial | refine ⟨rfl, ?_⟩)), ?_⟩
        refine v_sch [] (hk := ?_)
        refine v_callS rfl 22550 [] (put_spec A5 out c5 (totOf ((l.getD k value0).assets.getD j asset0)) (by omega) hij0.rise hij0.ok (wOf_ok _)) Tryz.func59 (h := ?_)
        rintro _ _ (⟨B51, d51, rfl, rfl⟩)
        refine ⟨cov_of (by repeat (first | exact trivial | refine ⟨rfl, ?_⟩)), ?_⟩
        refine v_sch [] (hk := ?_)
        refine k_ren 22550 905 rfl ?_
        refine v_again ((l.getD k value0).assets.length - (j + 1)) ⟨j + 1, B51, d51, tput out (totOf ((l.getD k value0).assets.getD j asset0)), rfl, rfl, by omega, by omega, hij0.put (wOf_ok _) (wOf_num (wOf_ok _)) (tot_snoc (d := asset0) h31), by have := tput_len (x := totOf ((l.getD k value0).assets.getD j asset0)) (l := out); omega⟩
      · refine v_code [] (hk := ?_)
        refine v_again (l.length - (k + 1)) ⟨k + 1, wOf (wsum [s, wOf (l.getD k value0).coin]), A5, c5, out, rfl, rfl, by omega, by omega, by rw [csum_snoc (d := value0) h12, wsum_two, hik0, wOf_add, wOf_addR], by rw [AL_snoc (d := value0) h12]; rw [take_all' h31] at hij0; exact hij0, by omega⟩
  · refine v_code [] (hk := ?_)
    refine v_draw (.q 0 (.q 1 (.s 2 (.s 3 (.q 4 .nil))))) [10004] (hm := by kernel_rfl) (hs := by kernel_rfl) (hk := by kernel_rfl) (h := ?_)
    refine v_sch [] (hk := ?_)
    refine v_callS rfl 22700 [] (some_spec A6 out0 c6 (by omega)) Tryz.func60 (h := ?_)
    rintro _ _ (⟨B54, d54, rfl, rfl⟩)
    refine ⟨cov_of (by repeat (first | exact trivial | refine ⟨rfl, ?_⟩)), ?_⟩
    refine v_sch [] (hk := ?_)
    rw [take_all' h12] at hik0 hik1
    refine k_ret [22700] (.tup [.agg [.one (.i .i64 s.hi), .one (.i .u64 s.lo)], .one (.sl 0 B54 (tsome out0).length d54)]) (.cons (.cell inferInstance rfl rfl rfl rfl) (.cons (.tmp rfl) .nil)) (h := ?_)
    subst hik0
    exact ⟨B54, d54, tsome out0, hik1.isT, by have := tsome_len out0; omega, rfl, rfl⟩
theorem TL_mem {l : List SlT} {r : SlT} {x : TotalP} (hr : r ∈ l) (hx : x ∈ r.l) : x ∈ TL l := List.mem_flatMap.2 ⟨r, hr, hx⟩
theorem ttotA_snoc {P Q : List TotalP} {j : Nat} {d : TotalP} (hj : j < Q.length) (n : NameP) : ttot (P ++ Q.take (j + 1)) n = ttot (P ++ Q.take j) n + if n = (Q.getD j d).key then num (Q.getD j d).sum else 0 := by
  rw [take_getD (d := d) hj, ← List.append_assoc, ttot_app, ttot_one]
theorem mergeR_spec (A : Option Addr) (l : List SlT) (c : Nat) (hl : l.length ≤ 1000) (ht : ∀ r ∈ l, r.l.length ≤ 1000) (hw : ∀ x ∈ TL l, WOk x.sum) : CSpec Tryz.prog 37 [.one (.sl 0 A l.length c)] [(0, rdRows A l)] [] fun o L => ∃ B d t, IsT (fun n => wOf (ttot (TL l) n)) t ∧ t.length ≤ 1048576 ∧ o = .ret (vsl 0 B t.length d) ∧ L = [Res.rows B d 75 totalEn t] := by
  refine v_enter Tryz.func37 (h := fun w0 => ?_)
  refine v_code [] (hk := ?_)
  refine k_nil 905 75 totalEn ?_
  refine v_loop (fun m E H => ∃ (k : Nat) (A6 : Option Addr) (c6 : Nat) (out0 : List TotalP), E = [(4, vn k), (3, vsl 905 A6 out0.length c6)] ∧ H = [(905, Res.rows A6 c6 75 totalEn out0)] ∧ m = l.length - k ∧ k ≤ l.length ∧ (SumI (ttot (TL (l.take k))) out0) ∧ (out0.length ≤ 1000 * k)) [0, 2, 30, 31] (l.length) ([(4, vn 0), (3, vsl 905 (none) ([]).length (0))]) ([(905, Res.rows (none) (0) 75 totalEn ([]))]) (h0 := ⟨0, none, 0, [], rfl, rfl, by omega, by omega, SumI.nil, by simp⟩) (hr := ?_)
  rintro _ _ _ ⟨k, A6, c6, out0, rfl, rfl, hmk, hk, hik0, hik1⟩
  refine v_code [] (hk := ?_)
  first | refine c_ifd rfl (fun h9 => ?_) (fun h9 => ?_) | refine c_ifn rfl (fun h9 => ?_) (fun h9 => ?_) | refine c_if rfl (fun h9 => ?_) (fun h9 => ?_)
  · have hv1 := ht _ (getD_mem (d := slt0) h9)
    refine v_code [] (hk := ?_)
    refine v_loop (fun m E H => ∃ (j : Nat) (A5 : Option Addr) (c5 : Nat) (out : List TotalP), E = [(5, vn j), (3, vsl 905 A5 out.length c5)] ∧ H = [(905, Res.rows A5 c5 75 totalEn out)] ∧ m = (l.getD k slt0).l.length - j ∧ j ≤ (l.getD k slt0).l.length ∧ (SumI (ttot (TL (l.take k) ++ (l.getD k slt0).l.take j)) out) ∧ (out.length ≤ 1000 * k + j)) [0, 2, 4, 6, 7, 8, 9, 10, 11, 30, 31] ((l.getD k slt0).l.length) ([(5, vn 0), (3, vsl 905 (A6) (out0).length (c6))]) ([(905, Res.rows (A6) (c6) 75 totalEn (out0))]) (h0 := ⟨0, A6, c6, out0, rfl, rfl, by omega, by omega, by rw [List.take_zero, List.append_nil]; exact hik0, by omega⟩) (hr := ?_)
    rintro _ _ _ ⟨j, A5, c5, out, rfl, rfl, hmj, hj, hij0, hij1⟩
    refine v_code [] (hk := ?_)
    first | refine c_ifd rfl (fun h18 => ?_) (fun h18 => ?_) | refine c_ifn rfl (fun h18 => ?_) (fun h18 => ?_) | refine c_if rfl (fun h18 => ?_) (fun h18 => ?_)
    · have hx := hw _ (TL_mem (getD_mem (d := slt0) h9) (getD_mem (d := total0) h18))
      refine v_code [] (hk := ?_)
      refine v_call 21450 [] (put_spec A5 out c5 ((l.getD k slt0).l.getD j total0) (by omega) hij0.rise hij0.ok hx) Tryz.func59 (h := ?_)
      rintro _ _ (⟨B29, d29, rfl, rfl⟩)
      refine v_ops [] (hk := ?_)
      refine k_ren 21450 905 rfl ?_
      refine v_again ((l.getD k slt0).l.length - (j + 1)) ⟨j + 1, B29, d29, tput out ((l.getD k slt0).l.getD j total0), rfl, rfl, by omega, by omega, hij0.put hx rfl (ttotA_snoc (d := total0) h18), by have := tput_len (x := (l.getD k slt0).l.getD j total0) (l := out); omega⟩
    · refine v_code [] (hk := ?_)
      refine v_again (l.length - (k + 1)) ⟨k + 1, A5, c5, out, rfl, rfl, by omega, by omega, by rw [TL_snoc (d := slt0) h9]; rw [take_all' h18] at hij0; exact hij0, by omega⟩
  · refine v_code [] (hk := ?_)
    refine v_call 21550 [] (some_spec A6 out0 c6 (by omega)) Tryz.func60 (h := ?_)
    rintro _ _ (⟨B31, d31, rfl, rfl⟩)
    refine v_ops [] (hk := ?_)
    rw [take_all' h9] at hik0
    refine k_ret [21550] (vsl 0 B31 (tsome out0).length d31) (.cons (.tmp rfl) .nil) (h := ?_)
    exact ⟨B31, d31, tsome out0, hik0.isT, by have := tsome_len out0; omega, rfl, rfl⟩
end Go.Proofs.YtlnckcgbpilmdaaGreat
/- The document's bundles: sums as bundles, Add, Sub, Balance. -/

set_option linter.unusedVariables false
set_option linter.unusedSimpArgs false
set_option maxRecDepth 100000
namespace Go.Proofs.YtlnckcgbpilmdaaGreat
open Go Go.RowKit HL
theorem fits_spec (w : WideP) : CSpec Tryz.prog 94 [.agg [.one (.i .i64 w.hi), .one (.i .u64 w.lo)]] [] [] fun o L => o = .ret (vb (decide (FitsW w))) ∧ L = [] := by
  refine v_enter Tryz.func94 (h := fun w0 => ?_)
  refine v_code [] (hk := ?_)
  refine l_do d_box (fun g1 => ?_)
  refine v_ops [] (hk := ?_)
  refine v_ret rfl [] (.cons (.tmp rfl) .nil) (h := ?_)
  refine ⟨outB ?_, rfl⟩
  rw [Bool.eq_iff_iff, Bool.and_eq_true, decide_eq_true_iff, decide_eq_true_iff, decide_eq_true_iff]
  exact Iff.rfl
theorem wrapLo {w : WideP} (h : FitsW w) (ho : WOk w) : IntKind.i64.wrap w.lo = w.lo := by
  have h1 : w.lo ≤ 9223372036854775807 := h.2
  have h2 := ho.2.2.1
  rw [wrap_i64]
  unfold wrap64
  split <;> omega
theorem toA_snoc {t : List TotalP} {k : Nat} {d : TotalP} (hk : k < t.length) : (t.take (k + 1)).map toA = (t.take k).map toA ++ [toA (t.getD k d)] := by
  rw [take_getD (d := d) hk, List.map_append]
  rfl
theorem bundleR_spec (f : NameP → Int) (co : Int) (hc : Near co) (hb : ∀ n, Near (f n)) (B : Option Addr) (t : List TotalP) (d : Nat) (ht : IsT (fun n => wOf (f n)) t) (htl : t.length ≤ 1048576) : CSpec Tryz.prog 55 [.agg [.one (.i .i64 (wOf co).hi), .one (.i .u64 (wOf co).lo)], .one (.sl 1 B t.length d)] [(1, Res.rd B totalEn t)] [] fun o L => ∃ v ok, Bundles f co ok v ∧ o = .ret (.tup [.agg [.one (.i .i64 v.coin), .one (.sl 0 v.A v.assets.length v.c)], .one (.b ok)]) ∧ L = [Res.rows v.A v.c 57 assetEn v.assets] := by
  refine v_enter Tryz.func55 (h := fun w0 => ?_)
  refine v_code [19, 53] (hk := ?_)
  refine l_do d_box (fun g2 => ?_)
  refine l_do d_alloc (fun g4 => ?_)
  refine v_ops [19, 53] (hk := ?_)
  refine v_call 20450 [] (fits_spec (wOf co)) Tryz.func94 (h := ?_)
  rintro _ _ (⟨rfl, rfl⟩)
  refine v_ops [19, 53] (hk := ?_)
  first | refine c_ifd rfl (fun h15 => ?_) (fun h15 => ?_) | refine c_ifn rfl (fun h15 => ?_) (fun h15 => ?_) | refine c_if rfl (fun h15 => ?_) (fun h15 => ?_)
  · refine v_code [19, 53] (hk := ?_)
    refine k_nil 700 57 assetEn ?_
    refine k_ret [700] (.tup [.agg [.one (.i .i64 0), .one (.sl 0 none 0 0)], .one (.b false)]) (.cons (.cell inferInstance rfl rfl rfl rfl) (.cons (.tmp rfl) .nil)) (h := ?_)
    refine ⟨⟨0, none, 0, []⟩, false, .inr ⟨rfl, rfl, rfl, fun hh => ?_⟩, rfl, rfl⟩
    simp only [Bool.or_eq_true, Bool.not_eq_true', decide_eq_false_iff_not, decide_eq_true_eq] at h15
    rcases h15 with h | h
    · exact h ((fitsW_iff hc).2 hh.1)
    · obtain ⟨p, hp, hpl⟩ := hh.2.2
      have := bundle_many ht hh.2.1 hp
      omega
  · simp only [Bool.or_eq_false_iff, Bool.not_eq_false', decide_eq_true_eq, decide_eq_false_iff_not] at h15
    have hco := (fitsW_iff hc).1 h15.1
    have hlo : IntKind.i64.wrap (wOf co).lo = co := by rw [wrapLo h15.1 (wOf_ok _), wOf_lo hco]
    refine v_code [19, 53] (hk := ?_)
    refine l_do d_alloc (fun g6 => ?_)
    refine v_ops [19, 53] (hk := ?_)
    refine k_nil 10056 57 assetEn ?_
    refine v_loop (fun m E H => ∃ (k : Nat) (A6 : Option Addr) (c6 : Nat) (out : List AssetP), E = [(7, vn k)] ∧ H = [(10006, Res.va g6 26 [.one (.i .i64 (IntKind.i64.wrap (wOf co).lo)), .one (.sl 10056 A6 out.length c6)]), (10056, Res.rows A6 c6 57 assetEn out)] ∧ m = t.length - k ∧ k ≤ t.length ∧ (out = (t.take k).map toA) ∧ (∀ x ∈ t.take k, FitsW x.sum)) [1, 4, 6, 58] (t.length) ([(7, vn 0)]) ([(10006, Res.va g6 26 [.one (.i .i64 (IntKind.i64.wrap (wOf co).lo)), .one (.sl 10056 (none) ([]).length (0))]), (10056, Res.rows (none) (0) 57 assetEn ([]))]) (h0 := ⟨0, none, 0, [], rfl, rfl, by omega, by omega, rfl, by simp⟩) (hr := ?_)
    rintro _ _ _ ⟨k, A6, c6, out, rfl, rfl, hmk, hk, hik0, hik1⟩
    refine v_code [19, 53] (hk := ?_)
    first | refine c_ifd rfl (fun h24 => ?_) (fun h24 => ?_) | refine c_ifn rfl (fun h24 => ?_) (fun h24 => ?_) | refine c_if rfl (fun h24 => ?_) (fun h24 => ?_)
    · have hol : out.length = k := by rw [hik0, List.length_map, List.length_take]; omega
      refine v_code [19, 53] (hk := ?_)
      refine v_call 21600 [] (fits_spec (t.getD k total0).sum) Tryz.func94 (h := ?_)
      rintro _ _ (⟨rfl, rfl⟩)
      refine v_ops [19, 53] (hk := ?_)
      first | refine c_ifd rfl (fun h33 => ?_) (fun h33 => ?_) | refine c_ifn rfl (fun h33 => ?_) (fun h33 => ?_) | refine c_if rfl (fun h33 => ?_) (fun h33 => ?_)
      · refine v_code [19, 53] (hk := ?_)
        refine k_nil 700 57 assetEn ?_
        refine k_ret [700] (.tup [.agg [.one (.i .i64 0), .one (.sl 0 none 0 0)], .one (.b false)]) (.cons (.cell inferInstance rfl rfl rfl rfl) (.cons (.tmp rfl) .nil)) (h := ?_)
        exact ⟨⟨0, none, 0, []⟩, false, .inr ⟨rfl, rfl, rfl, fun hh => bundle_far hb ht (getD_mem (d := total0) h24) h33 hh.2.1⟩, rfl, rfl⟩
      · have hlk := wrapLo h33 (ht.ok _ (getD_mem (d := total0) h24))
        refine v_code [19, 53] (hk := ?_)
        refine v_draw (.q 0 (.q 2 (.q 3 (.q 4 (.q 5 (.q 6 (.q 7 (.q 8 (.q 9 (.q 10 (.q 11 (.q 12 (.q 13 (.q 14 (.q 15 (.q 16 (.q 17 (.q 18 (.q 19 (.s2 1 (.s 20 (.s 21 (.q 22 (.s 23 .nil)))) 20 (.s 1 (.s 21 (.q 22 (.s 23 .nil)))))))))))))))))))))))) [10002] (hm := by kernel_rfl) (hs := by kernel_rfl) (hk := by kernel_rfl) (h := ?_)
        refine v_sch [19, 53] (hk := ?_)
        refine s_two ?_ ?_
        · refine v_sch [19, 53] (hk := ?_)
          refine s_do rfl (d_bslice [(⟨(t.getD k total0).policy, (t.getD k total0).name, IntKind.i64.wrap (t.getD k total0).sum.lo⟩ : AssetP)]) (fun B55 => ?_)
          refine s_do rfl d_append (fun p56 => ?_)
          refine v_sch [19, 53] (hk := ?_)
          refine v_again (t.length - (k + 1)) ⟨k + 1, p56.1, p56.2, out ++ [⟨(t.getD k total0).policy, (t.getD k total0).name, IntKind.i64.wrap (t.getD k total0).sum.lo⟩], rfl, rfl, by omega, by omega, by rw [toA_snoc (d := total0) h24, ← hik0, hlk]; rfl, all_takeD (d := total0) hik1 h24 h33⟩
        · refine s_do rfl (d_bslice [(⟨(t.getD k total0).policy, (t.getD k total0).name, IntKind.i64.wrap (t.getD k total0).sum.lo⟩ : AssetP)]) (fun B55 => ?_)
          refine v_sch [19, 53] (hk := ?_)
          refine s_do rfl d_append (fun p56 => ?_)
          refine v_sch [19, 53] (hk := ?_)
          refine v_again (t.length - (k + 1)) ⟨k + 1, p56.1, p56.2, out ++ [⟨(t.getD k total0).policy, (t.getD k total0).name, IntKind.i64.wrap (t.getD k total0).sum.lo⟩], rfl, rfl, by omega, by omega, by rw [toA_snoc (d := total0) h24, ← hik0, hlk]; rfl, all_takeD (d := total0) hik1 h24 h33⟩
    · refine v_code [19, 53] (hk := ?_)
      rw [take_all' h24] at hik0 hik1
      have hy := bundle_yes hb ht hik1
      refine k_ret [10056] (.tup [.agg [.one (.i .i64 (IntKind.i64.wrap (wOf co).lo)), .one (.sl 0 A6 out.length c6)], .one (.b true)]) (.cons (.cell inferInstance rfl rfl rfl rfl) (.cons (.tmp rfl) .nil)) (h := ?_)
      rw [hlo]
      exact ⟨⟨co, A6, c6, out⟩, true, .inl ⟨rfl, rfl, hco, hy.1, by rw [hik0]; exact hy.2, by rw [hik0, List.length_map]; omega⟩, rfl, rfl⟩
theorem near_add {l : List ValueM} (hl : l.length ≤ 1000) (hf : ∀ v ∈ l, FitS v) (hr : Rights l) : Near (csum l) ∧ ∀ n, Near (tot (AL l) n) := by
  constructor
  · have h1 := near_coins (l := l) fun v hv => ⟨(hr v hv).1, (hf v hv).2.1.2⟩
    unfold Near Max at *
    omega
  · intro n
    have h1 := near_amount (P := AL l) (fun x hx => by
      obtain ⟨v, hv, hx⟩ := List.mem_flatMap.1 hx
      exact ⟨(hr v hv).2.2 x hx, ((hf v hv).2.2 x hx).2⟩) n
    have h2 := AL_len hr
    unfold Near Max at *
    omega
theorem addR_spec (A : Option Addr) (l : List ValueM) (c : Nat) (hl : l.length ≤ 1000) (hf : ∀ v ∈ l, FitS v) : CSpec Tryz.prog 12 [.one (.sl 0 A l.length c)] [(0, rdValues A l)] [] fun o L => ∃ v ok, Told (Adds l) ok v ∧ o = .ret (.tup [.agg [.one (.i .i64 v.coin), .one (.sl 0 v.A v.assets.length v.c)], .one (.b ok)]) ∧ L = [Res.rows v.A v.c 57 assetEn v.assets] := by
  refine v_enter Tryz.func12 (h := fun w0 => ?_)
  refine v_code [] (hk := ?_)
  refine l_do d_alloc (fun g2 => ?_)
  refine v_ops [] (hk := ?_)
  refine v_loop (fun m E H => ∃ (k : Nat), E = [(4, vn k)] ∧ H = [] ∧ m = l.length - k ∧ k ≤ l.length ∧ (∀ v ∈ l.take k, RightV v.coin v.assets)) [0, 2, 5, 6, 20, 21, 22, 23, 24, 25, 26, 27, 28, 29] (l.length) ([(4, vn 0)]) ([]) (h0 := ⟨0, rfl, rfl, by omega, by omega, by simp⟩) (hr := ?_)
  rintro _ _ _ ⟨k, rfl, rfl, hmk, hk, hik0⟩
  refine v_code [] (hk := ?_)
  first | refine c_ifd rfl (fun h10 => ?_) (fun h10 => ?_) | refine c_ifn rfl (fun h10 => ?_) (fun h10 => ?_) | refine c_if rfl (fun h10 => ?_) (fun h10 => ?_)
  · have hv := hf _ (getD_mem (d := value0) h10)
    have hv1 := hv.1
    refine v_code [] (hk := ?_)
    refine v_call 20850 [] (rightR_spec (l.getD k value0).coin (l.getD k value0).A (l.getD k value0).assets (l.getD k value0).c (by omega)) Tryz.func28 (h := ?_)
    rintro _ _ (⟨rfl, rfl⟩)
    refine v_ops [] (hk := ?_)
    first | refine c_ifd rfl (fun h18 => ?_) (fun h18 => ?_) | refine c_ifn rfl (fun h18 => ?_) (fun h18 => ?_) | refine c_if rfl (fun h18 => ?_) (fun h18 => ?_)
    · refine v_code [] (hk := ?_)
      refine k_nil 700 57 assetEn ?_
      refine k_ret [700] (.tup [.agg [.one (.i .i64 0), .one (.sl 0 none 0 0)], .one (.b false)]) (.cons (.cell inferInstance rfl rfl rfl rfl) (.cons (.tmp rfl) .nil)) (h := ?_)
      exact ⟨⟨0, none, 0, []⟩, false, told_no (fun hr => h18 (hr _ (getD_mem (d := value0) h10))), rfl, rfl⟩
    · refine v_code [] (hk := ?_)
      refine v_again (l.length - (k + 1)) ⟨k + 1, rfl, rfl, by omega, by omega, all_takeD (d := value0) hik0 h10 h18⟩
  · rw [take_all' h10] at hik0
    have hne := near_add hl hf hik0
    refine v_code [] (hk := ?_)
    refine v_call 21100 [] (sumsR_spec A l c hl hf) Tryz.func14 (h := ?_)
    rintro _ _ (⟨B22, d22, t, ht, htl, rfl, rfl⟩)
    refine v_ops [] (hk := ?_)
    refine l_do d_alloc (fun g5 => ?_)
    refine v_ops [] (hk := ?_)
    refine v_call 21350 [] (bundleR_spec (tot (AL l)) (csum l) hne.1 hne.2 B22 t d22 ht htl) Tryz.func55 (h := ?_)
    rintro _ _ (⟨v, ok, hv, rfl, rfl⟩)
    refine v_ops [] (hk := ?_)
    refine k_ret [21350] (.tup [.agg [.one (.i .i64 v.coin), .one (.sl 0 v.A v.assets.length v.c)], .one (.b ok)]) (.cons (.cell inferInstance rfl rfl rfl rfl) (.cons (.tmp rfl) .nil)) (h := ?_)
    exact ⟨v, ok, told_adds hik0 hv, rfl, rfl⟩
def negA (x : AssetP) : AssetP := ⟨x.policy, x.name, -x.amount⟩
theorem tot_neg (n : NameP) : ∀ {P : List AssetP}, tot (P.map negA) n = - tot P n
  | [] => rfl
  | x :: P => by
    rw [List.map_cons, tot_cons, tot_cons, tot_neg n]
    show (if n = x.key then -x.amount else 0) + _ = _
    split <;> omega
theorem neg_snoc {t : List AssetP} {k : Nat} {d : AssetP} (hk : k < t.length) : (t.take (k + 1)).map negA = (t.take k).map negA ++ [negA (t.getD k d)] := by
  rw [take_getD (d := d) hk, List.map_append]
  rfl
theorem wrapNeg {x : Int} (h : 0 ≤ x ∧ x ≤ 9223372036854775807) : IntKind.i64.wrap (0 - x) = -x := by
  rw [wrap_i64]
  unfold wrap64
  split <;> omega
theorem less_spec2 (v : ValueM) (hr : RightV v.coin v.assets) (hf : FitS v) : CSpec Tryz.prog 70 [.agg [.one (.i .i64 v.coin), .one (.sl 101 v.A v.assets.length v.c)]] [(101, Res.rd v.A assetEn v.assets)] [] fun o L => ∃ B d, o = .ret (.s (.agg [.one (.i .i64 (-v.coin)), .one (.sl 0 B (v.assets.map negA).length d)])) ∧ L = [Res.rows B d 57 assetEn (v.assets.map negA)] := by
  have h1 := hr.1
  have h2 := hf.2.1.2
  have h3 := hf.1
  refine v_enter Tryz.func70 (h := fun w0 => ?_)
  refine v_code [] (hk := ?_)
  refine l_do d_box (fun g1 => ?_)
  refine l_do d_alloc (fun g2 => ?_)
  refine v_ops [] (hk := ?_)
  refine l_do d_alloc (fun g3 => ?_)
  refine v_ops [] (hk := ?_)
  refine k_nil 10030 57 assetEn ?_
  refine v_loop (fun m E H => ∃ (k : Nat) (A6 : Option Addr) (c6 : Nat) (out : List AssetP), E = [(4, vn k)] ∧ H = [(10003, Res.va g3 26 [.one (.i .i64 (IntKind.i64.wrap (0 - v.coin))), .one (.sl 10030 A6 out.length c6)]), (10030, Res.rows A6 c6 57 assetEn out)] ∧ m = v.assets.length - k ∧ k ≤ v.assets.length ∧ (out = (v.assets.take k).map negA)) [1, 2, 3, 32] (v.assets.length) ([(4, vn 0)]) ([(10003, Res.va g3 26 [.one (.i .i64 (IntKind.i64.wrap (0 - v.coin))), .one (.sl 10030 (none) ([]).length (0))]), (10030, Res.rows (none) (0) 57 assetEn ([]))]) (h0 := ⟨0, none, 0, [], rfl, rfl, by omega, by omega, rfl⟩) (hr := ?_)
  rintro _ _ _ ⟨k, A6, c6, out, rfl, rfl, hmk, hk, hik0⟩
  refine v_code [] (hk := ?_)
  first | refine c_ifd rfl (fun h14 => ?_) (fun h14 => ?_) | refine c_ifn rfl (fun h14 => ?_) (fun h14 => ?_) | refine c_if rfl (fun h14 => ?_) (fun h14 => ?_)
  · have hx := hf.2.2 _ (getD_mem (d := asset0) h14)
    have hx1 := hx.2
    have hx2 := hr.2.2 _ (getD_mem (d := asset0) h14)
    have hol : out.length = k := by rw [hik0, List.length_map, List.length_take]; omega
    refine v_code [] (hk := ?_)
    refine l_do d_alloc (fun g5 => ?_)
    refine v_ops [] (hk := ?_)
    refine l_do (d_bslice [(⟨(v.assets.getD k asset0).policy, (v.assets.getD k asset0).name, IntKind.i64.wrap (0 - (v.assets.getD k asset0).amount)⟩ : AssetP)]) (fun B29 => ?_)
    refine l_do d_append (fun p30 => ?_)
    refine v_ops [] (hk := ?_)
    refine v_again (v.assets.length - (k + 1)) ⟨k + 1, p30.1, p30.2, out ++ [⟨(v.assets.getD k asset0).policy, (v.assets.getD k asset0).name, IntKind.i64.wrap (0 - (v.assets.getD k asset0).amount)⟩], rfl, rfl, by omega, by omega, by rw [neg_snoc (d := asset0) h14, ← hik0, wrapNeg (by omega)]; rfl⟩
  · refine v_code [] (hk := ?_)
    rw [take_all' h14] at hik0
    subst hik0
    refine k_ret [10030] (.s (.agg [.one (.i .i64 (IntKind.i64.wrap (0 - v.coin))), .one (.sl 0 A6 (v.assets.map negA).length c6)])) (.cons (.cell inferInstance rfl rfl rfl rfl) .nil) (h := ?_)
    rw [wrapNeg (by omega)]
    exact ⟨A6, c6, rfl, rfl⟩
theorem near_sub {a b : ValueM} (fa : FitS a) (fb : FitS b) (ra : RightV a.coin a.assets) (rb : RightV b.coin b.assets) : Near (a.coin - b.coin) ∧ ∀ n, Near (tot a.assets n - tot b.assets n) := by
  have a1 := fa.2.1
  have b1 := fb.2.1
  unfold Fits64 at a1 b1
  constructor
  · unfold Near; omega
  · intro n
    have h1 := near_amount (P := a.assets) (fun x hx => ⟨ra.2.2 x hx, (fa.2.2 x hx).2⟩) n
    have h2 := near_amount (P := b.assets) (fun x hx => ⟨rb.2.2 x hx, (fb.2.2 x hx).2⟩) n
    have h3 := fa.1
    have h4 := fb.1
    unfold Near Max at *
    omega
theorem fit_neg {a b : ValueM} (fa : FitS a) (fb : FitS b) (rb : RightV b.coin b.assets) (B : Option Addr) (d : Nat) : ∀ v ∈ [a, (⟨-b.coin, B, d, b.assets.map negA⟩ : ValueM)], FitS v := by
  intro v hv
  simp only [List.mem_cons, List.not_mem_nil, or_false] at hv
  rcases hv with rfl | rfl
  · exact fa
  · have h1 := rb.1
    have h2 := fb.2.1
    unfold Fits64 at h2
    refine ⟨by rw [List.length_map]; exact fb.1, ⟨by show -9223372036854775808 ≤ -b.coin; omega, by show -b.coin ≤ 9223372036854775807; omega⟩, fun x hx => ?_⟩
    obtain ⟨y, hy, rfl⟩ := List.mem_map.1 hx
    have h3 := rb.2.2 y hy
    have h4 := fb.2.2 y hy
    unfold Fits64 at h4
    exact ⟨by show -9223372036854775808 ≤ -y.amount; omega, by show -y.amount ≤ 9223372036854775807; omega⟩
theorem AL_two (a b : ValueM) : AL [a, b] = a.assets ++ b.assets := by
  rw [show [a, b] = [a] ++ [b] from rfl, AL_app, AL_one, AL_one]
theorem csum_two (a b : ValueM) : csum [a, b] = a.coin + b.coin := by
  rw [show [a, b] = [a] ++ [b] from rfl, csum_app, csum_one, csum_one]
theorem subR_spec (a b : ValueM) (fa : FitS a) (fb : FitS b) : CSpec Tryz.prog 25 [.agg [.one (.i .i64 a.coin), .one (.sl 101 a.A a.assets.length a.c)], .agg [.one (.i .i64 b.coin), .one (.sl 201 b.A b.assets.length b.c)]] [(101, Res.rd a.A assetEn a.assets), (201, Res.rd b.A assetEn b.assets)] [] fun o L => ∃ v ok, Told (Subs a b) ok v ∧ o = .ret (.tup [.agg [.one (.i .i64 v.coin), .one (.sl 0 v.A v.assets.length v.c)], .one (.b ok)]) ∧ L = [Res.rows v.A v.c 57 assetEn v.assets] := by
  have la := fa.1
  have lb := fb.1
  refine v_enter Tryz.func25 (h := fun w0 => ?_)
  refine v_code [] (hk := ?_)
  refine l_do d_box (fun g2 => ?_)
  refine l_do d_box (fun g3 => ?_)
  refine l_do d_alloc (fun g4 => ?_)
  refine v_ops [] (hk := ?_)
  refine v_call 20450 [] (rightR_spec a.coin a.A a.assets a.c (by omega)) Tryz.func28 (h := ?_)
  rintro _ _ (⟨rfl, rfl⟩)
  refine v_ops [] (hk := ?_)
  refine l_callG [] [12] ⟨_, _, ⟨_, .inl ⟨rfl, rfl⟩⟩, rfl, rfl⟩ (fun hg => rightR_spec b.coin b.A b.assets b.c (by omega)) Tryz.func28 (h := ?_)
  refine v_ops [] (hk := ?_)
  first | refine c_ifd rfl (fun h15 => ?_) (fun h15 => ?_) | refine c_ifn rfl (fun h15 => ?_) (fun h15 => ?_) | refine c_if rfl (fun h15 => ?_) (fun h15 => ?_)
  · refine v_code [] (hk := ?_)
    refine k_nil 700 57 assetEn ?_
    refine k_ret [700] (.tup [.agg [.one (.i .i64 0), .one (.sl 0 none 0 0)], .one (.b false)]) (.cons (.cell inferInstance rfl rfl rfl rfl) (.cons (.tmp rfl) .nil)) (h := ?_)
    exact ⟨⟨0, none, 0, []⟩, false, told_subs_no (fun hr => by rw [decide_eq_true hr.1, decide_eq_true hr.2] at h15; exact absurd h15 (by decide)), rfl, rfl⟩
  · have hr : RightV a.coin a.assets ∧ RightV b.coin b.assets := by simpa using h15
    have hne := near_sub fa fb hr.1 hr.2
    have hb0 := hr.2.1
    have hb1 := fb.2.1
    have fit2 : ∀ B20 d20, ∀ v ∈ [a, (⟨-b.coin, B20, d20, b.assets.map negA⟩ : ValueM)], FitS v := fit_neg fa fb hr.2
    refine v_code [] (hk := ?_)
    refine v_draw (.q 0 (.q 1 (.s2 2 (.s2 3 (.s2 4 (.q 5 (.q 6 (.q 7 (.s 8 (.s 9 (.q 10 .nil)))))) 8 (.s 4 (.q 5 (.q 6 (.q 7 (.s 9 (.q 10 .nil))))))) 8 (.s 3 (.s 4 (.q 5 (.q 6 (.q 7 (.s 9 (.q 10 .nil)))))))) 8 (.s 2 (.s 3 (.s 4 (.q 5 (.q 6 (.q 7 (.s 9 (.q 10 .nil))))))))))) [10002, 10003] (hm := by kernel_rfl) (hs := by kernel_rfl) (hk := by kernel_rfl) (h := ?_)
    refine v_sch [] (hk := ?_)
    refine s_two ?_ ?_
    · refine v_callS rfl 21000 [(101, 201)] (less_spec2 b hr.2 fb) Tryz.func70 (h := ?_)
      rintro _ _ (⟨B20, d20, rfl, rfl⟩)
      refine ⟨cov_of (by repeat (first | exact trivial | refine ⟨rfl, ?_⟩)), ?_⟩
      refine v_sch [] (hk := ?_)
      refine s_two ?_ ?_
      · refine s_do rfl (d_bslice [a, (⟨-b.coin, B20, d20, b.assets.map negA⟩ : ValueM)]) (fun B21 => ?_)
        refine v_sch [] (hk := ?_)
        refine s_two ?_ ?_
        · refine v_callDS rfl 21100 [] (sumsR_spec B21 [a, ⟨-b.coin, B20, d20, b.assets.map negA⟩] 2 (by simp) (fit2 B20 d20)) Tryz.func14 (hB := ⟨⟨_, (Der.rdn (Der.vw 10021) (Each.cons (Der.vw 101) (Each.cons (Der.vw 21000) Each.nil))), rfl⟩, trivial⟩) (h := ?_)
          rintro _ _ (⟨B22, d22, t, ht, htl, rfl, rfl⟩)
          refine ⟨cov_of (by repeat (first | exact trivial | refine ⟨rfl, ?_⟩)), ?_⟩
          refine v_sch [] (hk := ?_)
          refine s_do rfl d_alloc (fun g6 => ?_)
          refine v_sch [] (hk := ?_)
          refine v_call 21350 [] (bundleR_spec (fun n => tot a.assets n - tot b.assets n) (csum [a, ⟨-b.coin, B20, d20, b.assets.map negA⟩]) (by rw [csum_two]; exact hne.1) hne.2 B22 t d22 (ht.congr fun n => by rw [AL_two, tot_app, tot_neg]; rfl) htl) Tryz.func55 (h := ?_)
          rintro _ _ (⟨v, ok, hv, rfl, rfl⟩)
          rw [csum_two] at hv
          refine v_ops [] (hk := ?_)
          refine k_ret [21350] (.tup [.agg [.one (.i .i64 v.coin), .one (.sl 0 v.A v.assets.length v.c)], .one (.b ok)]) (.cons (.cell inferInstance rfl rfl rfl rfl) (.cons (.tmp rfl) .nil)) (h := ?_)
          exact ⟨v, ok, told_subs hr.1 hr.2 ⟨by omega, fa.2⟩ hv, rfl, rfl⟩
        · refine s_do rfl d_alloc (fun g6 => ?_)
          refine v_callDS rfl 21100 [] (sumsR_spec B21 [a, ⟨-b.coin, B20, d20, b.assets.map negA⟩] 2 (by simp) (fit2 B20 d20)) Tryz.func14 (hB := ⟨⟨_, (Der.rdn (Der.vw 10021) (Each.cons (Der.vw 101) (Each.cons (Der.vw 21000) Each.nil))), rfl⟩, trivial⟩) (h := ?_)
          rintro _ _ (⟨B22, d22, t, ht, htl, rfl, rfl⟩)
          refine ⟨cov_of (by repeat (first | exact trivial | refine ⟨rfl, ?_⟩)), ?_⟩
          refine v_sch [] (hk := ?_)
          refine v_call 21350 [] (bundleR_spec (fun n => tot a.assets n - tot b.assets n) (csum [a, ⟨-b.coin, B20, d20, b.assets.map negA⟩]) (by rw [csum_two]; exact hne.1) hne.2 B22 t d22 (ht.congr fun n => by rw [AL_two, tot_app, tot_neg]; rfl) htl) Tryz.func55 (h := ?_)
          rintro _ _ (⟨v, ok, hv, rfl, rfl⟩)
          rw [csum_two] at hv
          refine v_ops [] (hk := ?_)
          refine k_ret [21350] (.tup [.agg [.one (.i .i64 v.coin), .one (.sl 0 v.A v.assets.length v.c)], .one (.b ok)]) (.cons (.cell inferInstance rfl rfl rfl rfl) (.cons (.tmp rfl) .nil)) (h := ?_)
          exact ⟨v, ok, told_subs hr.1 hr.2 ⟨by omega, fa.2⟩ hv, rfl, rfl⟩
      · refine s_do rfl d_alloc (fun g6 => ?_)
        refine s_do rfl (d_bslice [a, (⟨-b.coin, B20, d20, b.assets.map negA⟩ : ValueM)]) (fun B21 => ?_)
        refine v_callDS rfl 21100 [] (sumsR_spec B21 [a, ⟨-b.coin, B20, d20, b.assets.map negA⟩] 2 (by simp) (fit2 B20 d20)) Tryz.func14 (hB := ⟨⟨_, (Der.rdn (Der.vw 10021) (Each.cons (Der.vw 101) (Each.cons (Der.vw 21000) Each.nil))), rfl⟩, trivial⟩) (h := ?_)
        rintro _ _ (⟨B22, d22, t, ht, htl, rfl, rfl⟩)
        refine ⟨cov_of (by repeat (first | exact trivial | refine ⟨rfl, ?_⟩)), ?_⟩
        refine v_sch [] (hk := ?_)
        refine v_call 21350 [] (bundleR_spec (fun n => tot a.assets n - tot b.assets n) (csum [a, ⟨-b.coin, B20, d20, b.assets.map negA⟩]) (by rw [csum_two]; exact hne.1) hne.2 B22 t d22 (ht.congr fun n => by rw [AL_two, tot_app, tot_neg]; rfl) htl) Tryz.func55 (h := ?_)
        rintro _ _ (⟨v, ok, hv, rfl, rfl⟩)
        rw [csum_two] at hv
        refine v_ops [] (hk := ?_)
        refine k_ret [21350] (.tup [.agg [.one (.i .i64 v.coin), .one (.sl 0 v.A v.assets.length v.c)], .one (.b ok)]) (.cons (.cell inferInstance rfl rfl rfl rfl) (.cons (.tmp rfl) .nil)) (h := ?_)
        exact ⟨v, ok, told_subs hr.1 hr.2 ⟨by omega, fa.2⟩ hv, rfl, rfl⟩
    · refine s_do rfl d_alloc (fun g6 => ?_)
      refine v_callS rfl 21000 [(101, 201)] (less_spec2 b hr.2 fb) Tryz.func70 (h := ?_)
      rintro _ _ (⟨B20, d20, rfl, rfl⟩)
      refine ⟨cov_of (by repeat (first | exact trivial | refine ⟨rfl, ?_⟩)), ?_⟩
      refine s_do rfl (d_bslice [a, (⟨-b.coin, B20, d20, b.assets.map negA⟩ : ValueM)]) (fun B21 => ?_)
      refine v_callDS rfl 21100 [] (sumsR_spec B21 [a, ⟨-b.coin, B20, d20, b.assets.map negA⟩] 2 (by simp) (fit2 B20 d20)) Tryz.func14 (hB := ⟨⟨_, (Der.rdn (Der.vw 10021) (Each.cons (Der.vw 101) (Each.cons (Der.vw 21000) Each.nil))), rfl⟩, trivial⟩) (h := ?_)
      rintro _ _ (⟨B22, d22, t, ht, htl, rfl, rfl⟩)
      refine ⟨cov_of (by repeat (first | exact trivial | refine ⟨rfl, ?_⟩)), ?_⟩
      refine v_sch [] (hk := ?_)
      refine v_call 21350 [] (bundleR_spec (fun n => tot a.assets n - tot b.assets n) (csum [a, ⟨-b.coin, B20, d20, b.assets.map negA⟩]) (by rw [csum_two]; exact hne.1) hne.2 B22 t d22 (ht.congr fun n => by rw [AL_two, tot_app, tot_neg]; rfl) htl) Tryz.func55 (h := ?_)
      rintro _ _ (⟨v, ok, hv, rfl, rfl⟩)
      rw [csum_two] at hv
      refine v_ops [] (hk := ?_)
      refine k_ret [21350] (.tup [.agg [.one (.i .i64 v.coin), .one (.sl 0 v.A v.assets.length v.c)], .one (.b ok)]) (.cons (.cell inferInstance rfl rfl rfl rfl) (.cons (.tmp rfl) .nil)) (h := ?_)
      exact ⟨v, ok, told_subs hr.1 hr.2 ⟨by omega, fa.2⟩ hv, rfl, rfl⟩
theorem balR_iff {inn out : List ValueM} {mint : List AssetP} {M : Option Addr} {d : Nat} {fee : Int} {t u : List TotalP} (ht : IsT (fun n => wOf (tot (AL (inn ++ [⟨0, M, d, mint⟩])) n)) t) (hu : IsT (fun n => wOf (tot (AL (out ++ [⟨fee, none, 0, []⟩])) n)) u) : Bal inn mint out fee ↔ wOf (csum (inn ++ [⟨0, M, d, mint⟩])) = wOf (csum (out ++ [⟨fee, none, 0, []⟩])) ∧ t = u := by
  rw [csum_with, csum_with, ht.eq_iff hu]
  unfold Bal
  simp only [AL_with, List.append_nil, Int.add_zero]
theorem balR_spec (A M C : Option Addr) (inn out : List ValueM) (mint : List AssetP) (c d e : Nat) (fee : Int) (h1 : inn.length ≤ 900) (h2 : out.length ≤ 900) (f1 : ∀ v ∈ inn, FitS v) (f2 : ∀ v ∈ out, FitS v) (hm : mint.length ≤ 1000 ∧ ∀ x ∈ mint, Fits64 x.amount) (hfee : Fits64 fee) : CSpec Tryz.prog 18 [.one (.sl 0 A inn.length c), .one (.sl 1 M mint.length d), .one (.sl 2 C out.length e), .one (.i .i64 fee)] [(0, rdValues A inn), (1, Res.rd M assetEn mint), (2, rdValues C out)] [] fun o L => ∃ b : Bool, (b = true ↔ Bal inn mint out fee) ∧ o = .ret (vb b) ∧ L = [] := by
  have g1 : ∀ v ∈ inn ++ [⟨0, M, d, mint⟩], FitS v := by
    intro v hv
    rcases List.mem_append.1 hv with hv | hv
    · exact f1 v hv
    · rw [List.mem_singleton.1 hv]; exact ⟨hm.1, ⟨by show (-9223372036854775808 : Int) ≤ 0; decide, by show (0 : Int) ≤ 9223372036854775807; decide⟩, hm.2⟩
  have g2 : ∀ v ∈ out ++ [⟨fee, none, 0, []⟩], FitS v := by
    intro v hv
    rcases List.mem_append.1 hv with hv | hv
    · exact f2 v hv
    · rw [List.mem_singleton.1 hv]; exact ⟨by simp, hfee, by simp⟩
  have hvA : View (rdValues A inn) (Res.rd A valueEn inn) := view_head
  have hvC : View (rdValues C out) (Res.rd C valueEn out) := view_head
  refine v_enter Tryz.func18 (h := fun w0 => ?_)
  refine v_code [] (hk := ?_)
  refine l_do (d_bslice ([] : List ValueM)) (fun B15 => ?_)
  refine v_ops [] (hk := ?_)
  refine l_do d_append (fun p17 => ?_)
  refine v_ops [] (hk := ?_)
  refine l_do (d_bslice [(⟨0, M, d, mint⟩ : ValueM)]) (fun B20 => ?_)
  refine l_do d_append (fun p21 => ?_)
  refine v_callD 21100 [] (sumsR_spec p21.1 (inn ++ [⟨0, M, d, mint⟩]) p21.2 (by simp; omega) g1) Tryz.func14 (hB := ⟨⟨_, (Der.rdn (Der.vw 10015) (Each.app (Each.rdn 0) (Each.cons (Der.vw 1) Each.nil))), rfl⟩, trivial⟩) (h := ?_)
  rintro _ _ (⟨B2, k2, t, ht, htl, rfl, rfl⟩)
  refine v_ops [] (hk := ?_)
  refine l_do d_alloc (fun g9 => ?_)
  refine v_ops [] (hk := ?_)
  refine l_do (d_bslice ([] : List ValueM)) (fun B26 => ?_)
  refine v_ops [] (hk := ?_)
  refine l_do d_append (fun p28 => ?_)
  refine v_ops [] (hk := ?_)
  refine l_do (d_bslice [(⟨fee, none, 0, []⟩ : ValueM)]) (fun B31 => ?_)
  refine l_do d_append (fun p32 => ?_)
  refine v_callD 21650 [] (sumsR_spec p32.1 (out ++ [⟨fee, none, 0, []⟩]) p32.2 (by simp; omega) g2) Tryz.func14 (hB := ⟨⟨_, (Der.rdn (Der.vw 10026) (Each.app (Each.rdn 2) (Each.cons Der.nl Each.nil))), rfl⟩, trivial⟩) (h := ?_)
  rintro _ _ (⟨B4, k4, u, hu, hul, rfl, rfl⟩)
  have hbi := balR_iff ht hu
  refine v_ops [] (hk := ?_)
  refine l_do d_alloc (fun g11 => ?_)
  refine v_ops [] (hk := ?_)
  refine l_rd (r_neSt (u := wOf (csum (inn ++ [⟨0, M, d, mint⟩]))) (v := wOf (csum (out ++ [⟨fee, none, 0, []⟩])))) ?_
  refine v_ops [] (hk := ?_)
  first | refine c_ifd rfl (fun h45 => ?_) (fun h45 => ?_) | refine c_ifn rfl (fun h45 => ?_) (fun h45 => ?_) | refine c_if rfl (fun h45 => ?_) (fun h45 => ?_)
  · refine v_code [] (hk := ?_)
    refine v_ret rfl [] (.cons (.tmp rfl) .nil) (h := ?_)
    refine ⟨false, ⟨fun h => (by cases h), fun hb => ?_⟩, rfl, rfl⟩
    obtain ⟨q1, q2⟩ := hbi.1 hb
    rw [decide_eq_true q1, decide_eq_true (congrArg List.length q2)] at h45
    exact absurd h45 (by decide)
  · simp only [Bool.or_eq_false_iff, Bool.not_eq_false', decide_eq_true_eq] at h45
    refine v_code [] (hk := ?_)
    refine v_loop (fun m E H => ∃ (k : Nat), E = [(13, vn k)] ∧ H = [] ∧ m = t.length - k ∧ k ≤ t.length ∧ (t.take k = u.take k)) [10, 12] (t.length) ([(13, vn 0)]) ([]) (h0 := ⟨0, rfl, rfl, by omega, by omega, rfl⟩) (hr := ?_)
    rintro _ _ _ ⟨k, rfl, rfl, hmk, hk, hik0⟩
    refine v_code [] (hk := ?_)
    first | refine c_ifd rfl (fun h49 => ?_) (fun h49 => ?_) | refine c_ifn rfl (fun h49 => ?_) (fun h49 => ?_) | refine c_if rfl (fun h49 => ?_) (fun h49 => ?_)
    · refine v_code [] (hk := ?_)
      refine v_draw (.q 0 (.q 1 (.q 2 (.q 3 (.q 4 (.q 5 (.q 6 (.q 7 (.q 8 .nil))))))))) [10015, 10017, 10020, 10021, 21100, 21101, 21102, 21103, 10009, 10026, 10028, 10031, 10032, 21650, 21651, 21652, 21653, 10011, 10041, 10043, 10048] (hm := by kernel_rfl) (hs := by kernel_rfl) (hk := by kernel_rfl) (h := ?_)
      refine v_sch [] (hk := ?_)
      refine q_rd rfl (r_neSt (u := t.getD k total0) (v := u.getD k total0)) ?_
      refine v_sch [] (hk := ?_)
      first | refine c_ifd rfl (fun h60 => ?_) (fun h60 => ?_) | refine c_ifn rfl (fun h60 => ?_) (fun h60 => ?_) | refine c_if rfl (fun h60 => ?_) (fun h60 => ?_)
      · refine v_code [] (hk := ?_)
        refine v_ret rfl [] (.cons (.tmp rfl) .nil) (h := ?_)
        refine ⟨false, ⟨fun h => (by cases h), fun hb => ?_⟩, rfl, rfl⟩
        obtain ⟨q1, q2⟩ := hbi.1 hb
        exact absurd (by rw [q2]) h60
      · refine v_code [] (hk := ?_)
        refine v_again (t.length - (k + 1)) ⟨k + 1, rfl, rfl, by omega, by omega, by rw [take_getD (d := total0) h49, take_getD (d := total0) (by omega), hik0, h60]⟩
    · refine v_code [] (hk := ?_)
      refine v_ret rfl [] (.cons (.tmp rfl) .nil) (h := ?_)
      rw [take_all' h49, take_all' (by omega)] at hik0
      exact ⟨true, ⟨fun _ => hbi.2 ⟨h45.1, hik0⟩, fun _ => rfl⟩, rfl, rfl⟩
end Go.Proofs.YtlnckcgbpilmdaaGreat
/- SYMBOLIC STATES, COMPUTED: rows with room. My own text; it names no program. -/

set_option linter.unusedVariables false
set_option linter.unusedSimpArgs false
set_option linter.unusedSectionVars false
namespace Go.Proofs.YtlnckcgbpilmdaaGreat
namespace HL
open Go Go.RowKit
section
variable {P : Program} {env : Env} {D : List Deferred} {n d : Nat} {w0 : World} {M : Nat → Prop} {B L : Hp} {x y : Operand} {T ty : TypeId} {pos : String} {af : Array Edge} {gd : Option (Nat × Bool)}
theorem d_room {α : Type} {e : TypeId} {m bytes sz : Nat} {k k' : IntKind} {q : Int} {agg : Bool} {z v : SV} [hu : UD P T (.slice e)] [hT : TyA P e agg sz z bytes] (E : En α) (hx : ev env x = some (vi k q) := by rfl) (hq : q = 0 := by rfl) (hy : ev env y = some (.s v) := by rfl) (hv : v.den = .int k' (m : Int) := by rfl) (hz : sz = E.sz := by rfl) (hb : m * bytes ≤ 140737488355328 ∧ m ≤ 140737488355328 := by omega) (hd : Nat.blt d n = true := by rfl) :
    Does P ⟨some d, .makeSlice T x y, ty, pos, af, gd⟩ env D n w0 M B L (fun g : Nat => (d, vsl (10000 + d) (some ⟨g, 0, none⟩) 0 m) :: env) (fun g => (10000 + d, Res.rows (some ⟨g, 0, none⟩) m e E []) :: L) [10000 + d] :=
  ⟨fun a w K Q hs hk => by
    subst hz; subst hq
    have h1 : a.eval x = .int k 0 := ev_sound hs.tm hx
    have h2 : a.eval y = .int k' m := by rw [← hv]; exact ev_sound hs.tm hy
    obtain ⟨i, hi, he⟩ := Option.map_eq_some_iff.1 hT.is.info
    simp only [Prod.mk.injEq] at he
    obtain ⟨hz', hisz, hib⟩ := he
    have hzsz : z.den.cells.size = E.sz := by rw [z.sz_den, hT.zs]
    have hmb : (i.bytes : Int) * (m : Int) ≤ 281474976710656 := by
      rw [hib, Int.mul_comm]
      have := hb.1
      have h3 : ((m * bytes : Nat) : Int) ≤ 281474976710656 := by omega
      rwa [Int.natCast_mul] at h3
    have hr := run_make (P := P) w T e i z.den hu.is hi hz' k k' 0 (m : Int) (Int.le_refl _) (by omega) hmb (by omega)
    simp only [Int.toNat_natCast, Int.toNat_zero] at hr
    unfold Oper.wp execOp
    simp only [h1, h2]
    rw [Sem.run_bind, hr]
    refine hk w.heap.size _ _ ?_
    have h3 := hs.put (v := vsl (10000 + d) (some ⟨w.heap.size, 0, none⟩) 0 m) hd
    refine h3.to (live_new ?_)
    refine hs.st.new (w' := w.alloc (.cells (madeCells z.den.cells (m * i.size)) e)) rfl rfl rfl (by simp) (fun b hb => Below.heap_alloc w _ b hb) ?_ (fun b hb => ?_)
    · unfold Res.rows Res.row
      have e0 : E.dens ([] : List α) = [] := rfl
      rw [e0, flat_nil]
      refine ⟨by simp, Nat.zero_le _, ?_, .inr ⟨w.heap.size, 0, [], (madeCells z.den.cells (m * i.size)).toList, rfl, ?_, rfl, ?_⟩⟩
      · have := hb.2
        simp only [maxLen]
        omega
      · rw [List.nil_append, List.nil_append]
        exact heap_alloc_new w _
      · rw [List.nil_append, Array.length_toList, size_madeCells, hisz]
        exact Nat.le_refl _
    · have := fp_row.1 (show (Res.row _ _ _ _ _ _).fp b from hb)
      simp [obl] at this
      omega, kp_one⟩
theorem view_pre {α : Type} {R : Res} {A : Option Addr} {E : En α} {l m : List α} (h : View R (Res.rd A E (l ++ m))) : View R (Res.rd A E l) := by
  have := view_take (k := l.length) h
  rwa [List.take_left'] at this
  rfl
theorem Der.bag {r0 r : Res} {rs : List Res} (j : Nat) (h : lk2 B L j = some (Res.bag rs) := by rfl) (hr : r0 ∈ rs) (hv : View r0 r) : Der B L [j] r := ⟨fun w hf => hv.h w ((hf j _ h).1 r0 hr), fun b hb => ⟨j, by simp, _, h, r0, hr, hv.f b hb⟩⟩
variable {LF : Hp} {all : Array Oper} {ops : Array Oper} {Q : Exit → Act → World → Prop} {rest : List Oper} {σ : Plan} {i : Nat}
theorem s_callGD {v : SV} {f : FuncId} {fn : Func} {args all : List SV} {Bc : Hp} {post : Out → List Res → Prop} {xs : Array Operand} {tys : Array TypeId} {cap : List Value} {gh : List Nat} {g : Bool} (hi : ops.toList[i]? = some ⟨some d, .call { callee := .value x, args := xs, argTypes := tys }, ty, pos, af, gd⟩) (m : List (Nat × Nat)) (ts : List Nat) {env' : List (Nat × TV)} (hres : ResAll env g ts env')
    (hs : g = true → CSpec P f all Bc [] post) (hf : P.funcs[f]? = some fn) (hx : ev env' x = some (.s (.one (.fn f cap gh))) := by rfl) (ha : evs env' xs.toList = some args := by rfl) (hall : g = true → args.map SV.den ++ cap = all.map SV.den := by exact fun _ => rfl)
    (hB : g = true → GotD B L [] Bc)
    (hpost : ∀ o Lr, post o Lr → o = .ret (.s v) ∧ Lr = [] := by exact fun _ _ h => h)
    (h : HoC LF ((d, .cond g v) :: env) D n w0 M B L (wpSched P ops Q (Facts B LF) σ))
    (hg : guardSym ops env ⟨some d, .call { callee := .value x, args := xs, argTypes := tys }, ty, pos, af, gd⟩ = some g := by rfl) (hd : Nat.blt d n = true := by rfl) (hb : fn.body.isNone = false := by rfl) (hn : (fn.name == "runtime.NumGoroutine") = false := by rfl) :
    HoC LF env D n w0 M B L (wpSched P ops Q (Facts B LF) (.s i σ)) := fun hc a w hsy => by
  by_cases e : g = true
  · refine sched_s hi (by rw [guardSym_wanted hsy.tm hg]; exact e) ?_
    have hsy' : Sy env' D n w0 M B L a w := ⟨hres.tm e hsy.tm, hsy.df, hsy.st, hsy.bo⟩
    refine call_wpD (hs e) hf hb hn (cid m args) 0 hx ha (hall e) (hB e) trivial rfl rfl hsy' fun o Lr hp => ?_
    obtain ⟨rfl, rfl⟩ := hpost o Lr hp
    exact fun w' hs' => by
      have h2 : Sy env D n w0 M B L a w' := ⟨hsy.tm, hsy.df, hs'.st, hs'.bo⟩
      have := h2.put (v := .cond g v) hd
      rw [show (TV.cond g v).den = v.den from if_pos e] at this
      exact ⟨facts_cov hc h2, h hc _ _ this⟩
  · refine sched_sskip hi (by rw [guardSym_wanted hsy.tm hg]; simpa using e) (facts_cov hc hsy) ?_
    have := hsy.put (v := .cond g v) hd
    rw [show (TV.cond g v).den = undef from if_neg e] at this
    exact h hc _ _ this
theorem d_storeT {α : Type} {i j off c : Nat} {A : Option Addr} {sz' : Nat} {e : TypeId} {E : En α} {l : List α} {v : SV} {agg : Bool} {sz bytes : Nat} {z : SV} {T' : TypeId} [hT : TyA P T' agg sz z bytes] {u' : α} (df : α) (hx : ev env x = some (.s (.one (.el i (A.getD ad0) sz' j off))) := by rfl) (hy : ev env y = some (.s v) := by rfl) (hr : lk L i = some (Res.rows A c e E l) := by rfl) (hs' : sz' = E.sz := by rfl) (hj : j < l.length := by omega) (hp : putAt (E.f (l.getD j df)).ats off v.ats = some (E.f u').ats := by rfl) (ha : v.isAgg = agg := by rfl) (hz : ats v.ats = sz := by rfl) : Does P ⟨none, .store T' x y, ty, pos, af, gd⟩ env D n w0 M B L (fun _ : Unit => env) (fun _ => (i, Res.rows A c e E (l.set j u')) :: L) [i] :=
  ⟨fun a w K Q hs h => by
    have hrow := (live_front hs.st hr).res _ (List.mem_cons_self ..)
    obtain ⟨ad, hA, _⟩ := rds_some (rows_reads hrow) (by omega)
    subst hA
    exact (d_storeE (P := P) (u := l.getD j df) (u' := u') hx hy hr hs' rfl (by rw [List.getD_eq_getElem?_getD, List.getElem?_eq_getElem hj]; rfl) hp ha hz).go a w K Q hs h, kp_one⟩
end
end HL
end Go.Proofs.YtlnckcgbpilmdaaGreat
/- Marks; what is lent. -/


set_option linter.unusedVariables false
set_option linter.unusedSimpArgs false
set_option maxRecDepth 100000
namespace Go.Proofs.YtlnckcgbpilmdaaGreat
open Go Go.RowKit HL
namespace HL
def mk1 (k i : Int) : Int := 1000003 * (k + 7) + i
def mkL {α : Type} (m : Nat → Nat → α) (k n : Nat) : List α := (List.range n).map (m k)
theorem mkL_len {α : Type} {m : Nat → Nat → α} {k n : Nat} : (mkL m k n).length = n := by unfold mkL; simp
theorem mkL_succ {α : Type} {m : Nat → Nat → α} {k n : Nat} : mkL m k (n + 1) = mkL m k n ++ [m k n] := by unfold mkL; rw [List.range_succ, List.map_append]; rfl
theorem mkL_at {α : Type} {m : Nat → Nat → α} {k n i : Nat} (h : i < n) : (mkL m k n)[i]? = some (m k i) := by
  unfold mkL
  rw [List.getElem?_map, List.getElem?_range h]
  rfl
theorem mkL_getD {α : Type} {m : Nat → Nat → α} {k n i : Nat} {d : α} (h : i < n) : (mkL m k n).getD i d = m k i := by
  rw [List.getD_eq_getElem?_getD, mkL_at h]
  rfl
end HL
theorem mark_spec (k i : Int) (hk : 0 ≤ k ∧ k ≤ 1048576) (hi : -1048576 ≤ i ∧ i ≤ 1099511627776) : CSpec Tryz.prog 88 [.one (.i .i64 k), .one (.i .i64 i)] [] [] fun o L => o = .ret (vint (mk1 k i)) ∧ L = [] := by
  refine v_enter Tryz.func88 (h := fun w0 => ?_)
  refine v_code [] (hk := ?_)
  refine v_ret rfl [] (.cons (.tmp rfl) .nil) (h := ?_)
  exact ⟨rfl, rfl⟩
def mkT8 (k i : Int) : List UInt8 := [u8 35, u8 k, u8 (k / 2 ^ Int.toNat 8), u8 (k / 2 ^ Int.toNat 16), u8 47, u8 i, u8 (i / 2 ^ Int.toNat 8), u8 (i / 2 ^ Int.toNat 16)]
def mkTx (k i : Int) : ByteArray := ba (mkT8 k i)
instance : ElT Tryz.prog 5 byteEn := ⟨⟩
theorem markText_spec (k i : Int) : CSpec Tryz.prog 89 [.one (.i .i64 k), .one (.i .i64 i)] [] [] fun o L => o = .ret (.s (.one (.s (mkTx k i)))) ∧ L = [] := by
  refine v_enter Tryz.func89 (h := fun w0 => ?_)
  refine v_code [6, 9, 12, 14, 17, 20] (hk := ?_)
  refine l_rd r_shr ?_
  refine v_ops [6, 9, 12, 14, 17, 20] (hk := ?_)
  refine l_rd r_shr ?_
  refine v_ops [6, 9, 12, 14, 17, 20] (hk := ?_)
  refine l_rd r_shr ?_
  refine v_ops [6, 9, 12, 14, 17, 20] (hk := ?_)
  refine l_rd r_shr ?_
  refine v_ops [6, 9, 12, 14, 17, 20] (hk := ?_)
  refine l_do (d_bslice (mkT8 k i) (hv := by show [Value.int .u8 35, Value.int .u8 (IntKind.u8.wrap (k : Int)), Value.int .u8 (IntKind.u8.wrap ((k : Int) / 2 ^ Int.toNat 8)), Value.int .u8 (IntKind.u8.wrap ((k : Int) / 2 ^ Int.toNat 16)), Value.int .u8 47, Value.int .u8 (IntKind.u8.wrap (i : Int)), Value.int .u8 (IntKind.u8.wrap ((i : Int) / 2 ^ Int.toNat 8)), Value.int .u8 (IntKind.u8.wrap ((i : Int) / 2 ^ Int.toNat 16))] = _; simp only [u8_wrap]; rfl)) (fun B21 => ?_)
  first | refine l_rd r_convStrV ?_ | refine l_rd r_convStrE ?_ | refine l_rd r_convStr ?_
  refine v_ops [6, 9, 12, 14, 17, 20] (hk := ?_)
  refine v_ret rfl [] (.cons (.tmp rfl) .nil) (h := ?_)
  exact ⟨rfl, rfl⟩
def mkAs (k i : Nat) : AssetP := ⟨hz, mkTx k i, 0⟩
theorem markAsset_spec (k i : Int) : CSpec Tryz.prog 50 [.one (.i .i64 k), .one (.i .i64 i)] [] [] fun o L => o = .ret (.s (assetEn.f ⟨hz, mkTx k i, 0⟩)) ∧ L = [] := by
  refine v_enter Tryz.func50 (h := fun w0 => ?_)
  refine v_code [] (hk := ?_)
  refine l_do d_alloc (fun g4 => ?_)
  refine v_ops [] (hk := ?_)
  refine v_call 20350 [] (markText_spec k i) Tryz.func89 (h := ?_)
  rintro _ _ (⟨rfl, rfl⟩)
  refine v_ops [] (hk := ?_)
  refine v_ret rfl [] (.cons (.cell inferInstance rfl rfl rfl rfl) .nil) (h := ?_)
  exact ⟨rfl, rfl⟩
def mkTt (k i : Nat) : TotalP := ⟨hz, mkTx k i, wz⟩
theorem markTotal_spec (k i : Int) : CSpec Tryz.prog 127 [.one (.i .i64 k), .one (.i .i64 i)] [] [] fun o L => o = .ret (.s (totalEn.f ⟨hz, mkTx k i, wz⟩)) ∧ L = [] := by
  refine v_enter Tryz.func127 (h := fun w0 => ?_)
  refine v_code [] (hk := ?_)
  refine l_do d_alloc (fun g4 => ?_)
  refine v_ops [] (hk := ?_)
  refine v_call 20350 [] (markText_spec k i) Tryz.func89 (h := ?_)
  rintro _ _ (⟨rfl, rfl⟩)
  refine v_ops [] (hk := ?_)
  refine v_ret rfl [] (.cons (.cell inferInstance rfl rfl rfl rfl) .nil) (h := ?_)
  exact ⟨rfl, rfl⟩
def mkV (k i : Nat) : ValueM := ⟨mk1 k i, none, 0, []⟩
theorem markValue_spec (k i : Int) (hk : 0 ≤ k ∧ k ≤ 1048576) (hi : -1048576 ≤ i ∧ i ≤ 1099511627776) : CSpec Tryz.prog 49 [.one (.i .i64 k), .one (.i .i64 i)] [] [] fun o L => o = .ret (.s (.agg [.one (.i .i64 (mk1 k i)), .one (.sl 0 none 0 0)])) ∧ L = [] := by
  refine v_enter Tryz.func49 (h := fun w0 => ?_)
  refine v_code [] (hk := ?_)
  refine l_do d_alloc (fun g4 => ?_)
  refine v_ops [] (hk := ?_)
  refine v_call 20350 [] (mark_spec k i hk hi) Tryz.func88 (h := ?_)
  rintro _ _ (⟨rfl, rfl⟩)
  refine v_ops [] (hk := ?_)
  refine v_ret rfl [] (.cons (.cell inferInstance rfl rfl rfl rfl) .nil) (h := ?_)
  exact ⟨rfl, rfl⟩
theorem kept_get {α : Type} {l : List α} {m : Nat → Nat → α} {k : Nat} {d : α} (h : k < l.length) : (l ++ mkL m 1 12).getD k d = l.getD k d := by
  rw [List.getD_eq_getElem?_getD, List.getD_eq_getElem?_getD, List.getElem?_append_left h]
theorem kept_get2 {α : Type} {l : List α} {m : Nat → Nat → α} {k : Nat} {d : α} (h : l.length ≤ k) (h2 : k < l.length + 12) : (l ++ mkL m 1 12).getD k d = m 1 (k - l.length) := by
  rw [List.getD_eq_getElem?_getD, List.getElem?_append_right h, mkL_at (by omega)]
  rfl
theorem mkAs_at {k n : Nat} (h : n ≤ k) : (⟨hz, mkTx 1 ((k : Int) - (n : Int)), 0⟩ : AssetP) = mkAs 1 (k - n) := by
  unfold mkAs
  rw [Int.ofNat_sub h]
  rfl
theorem mkTt_at {k n : Nat} (h : n ≤ k) : (⟨hz, mkTx 1 ((k : Int) - (n : Int)), wz⟩ : TotalP) = mkTt 1 (k - n) := by
  unfold mkTt
  rw [Int.ofNat_sub h]
  rfl
theorem lentAssets_spec (A : Option Addr) (l : List AssetP) (c : Nat) (hl : l.length ≤ 1048576) : CSpec Tryz.prog 10 [.one (.sl 0 A l.length c)] [(0, Res.rd A assetEn l)] [] fun o L => ∃ B d, l.length + 12 ≤ d ∧ o = .ret (vsl 0 B l.length d) ∧ L = [Res.rows B d 57 assetEn (l ++ mkL mkAs 1 12)] := by
  refine v_enter Tryz.func10 (h := fun w0 => ?_)
  refine v_code [] (hk := ?_)
  refine l_do (d_room (m := l.length + 12) assetEn) (fun g8 => ?_)
  refine v_ops [] (hk := ?_)
  refine l_do d_append (fun p11 => ?_)
  refine v_ops [] (hk := ?_)
  refine v_loop (fun m E H => ∃ (k : Nat) (A3 : Option Addr) (c3 : Nat) (out : List AssetP), E = [(4, vn k), (3, vsl 10008 A3 out.length c3)] ∧ H = [(10008, Res.rows A3 c3 57 assetEn out)] ∧ m = 12 - k ∧ k ≤ 12 ∧ (out = l ++ mkL mkAs 1 k)) [0, 2, 21, 22, 23, 24] (12) ([(4, vn 0), (3, vsl 10008 (p11.1) (l).length (p11.2))]) ([(10008, Res.rows (p11.1) (p11.2) 57 assetEn (l))]) (h0 := ⟨0, p11.1, p11.2, l, rfl, rfl, by omega, by omega, by rw [show mkL mkAs 1 0 = [] from rfl, List.append_nil]⟩) (hr := ?_)
  rintro _ _ _ ⟨k, A3, c3, out, rfl, rfl, hmk, hk, hik0⟩
  refine v_code [] (hk := ?_)
  first | refine c_ifd rfl (fun h13 => ?_) (fun h13 => ?_) | refine c_ifn rfl (fun h13 => ?_) (fun h13 => ?_) | refine c_if rfl (fun h13 => ?_) (fun h13 => ?_)
  · have hol : out.length = l.length + k := by rw [hik0, List.length_append, mkL_len]
    refine v_code [] (hk := ?_)
    refine v_call 20900 [] (markAsset_spec 1 k) Tryz.func50 (h := ?_)
    rintro _ _ (⟨rfl, rfl⟩)
    refine l_do (d_bslice [mkAs 1 k]) (fun B19 => ?_)
    refine l_do d_append (fun p20 => ?_)
    refine v_ops [] (hk := ?_)
    refine v_again (12 - (k + 1)) ⟨k + 1, p20.1, p20.2, out ++ [mkAs 1 k], rfl, rfl, by omega, by omega, by rw [mkL_succ, ← List.append_assoc, hik0]⟩
  · obtain rfl : k = 12 := by omega
    subst hik0
    refine k_fact (p := l.length + 12 ≤ c3) (fun w hf => by have := rows_cap (hf 10008 _ rfl); rw [List.length_append, mkL_len] at this; exact this) (fun hcap => ?_)
    refine v_code [] (hk := ?_)
    refine k_ret [10008] (vsl 0 A3 l.length c3) (.cons (.tmp rfl) .nil) (h := ?_)
    exact ⟨A3, c3, hcap, rfl, rfl⟩
theorem keptAssets_spec (A B : Option Addr) (l : List AssetP) (c d : Nat) (hl : l.length ≤ 1048576) (hc : l.length + 12 ≤ c) : CSpec Tryz.prog 20 [.one (.sl 0 A l.length c), .one (.sl 1 B l.length d)] [(0, Res.rd A assetEn (l ++ mkL mkAs 1 12)), (1, Res.rd B assetEn l)] [] fun o L => o = .ret (vb true) ∧ L = [] := by
  have hlm : (l ++ mkL mkAs 1 12).length = l.length + 12 := by rw [List.length_append, mkL_len]
  refine v_enter Tryz.func20 (h := fun w0 => ?_)
  refine v_code [] (hk := ?_)
  first | refine c_ifd rfl (fun h11 => ?_) (fun h11 => ?_) | refine c_ifn rfl (fun h11 => ?_) (fun h11 => ?_) | refine c_if rfl (fun h11 => ?_) (fun h11 => ?_)
  · refine v_code [] (hk := ?_)
    refine v_ret rfl [] (.cons (.tmp rfl) .nil) (h := ?_)
    exact absurd rfl h11
  · refine v_code [] (hk := ?_)
    refine v_loop (fun m E H => ∃ (k : Nat), E = [(6, vn k)] ∧ H = [] ∧ m = (l.length + 12) - k ∧ k ≤ (l.length + 12)) [1, 5] ((l.length + 12)) ([(6, vn 0)]) ([]) (h0 := ⟨0, rfl, rfl, by omega, by omega⟩) (hr := ?_)
    rintro _ _ _ ⟨k, rfl, rfl, hmk, hk⟩
    refine v_code [] (hk := ?_)
    first | refine c_ifd rfl (fun h20 => ?_) (fun h20 => ?_) | refine c_ifn rfl (fun h20 => ?_) (fun h20 => ?_) | refine c_if rfl (fun h20 => ?_) (fun h20 => ?_)
    · refine v_code [] (hk := ?_)
      refine v_draw (.q 0 (.q 1 (.q 2 (.q 3 (.q 4 (.q 5 (.q 6 (.q 7 (.q 8 (.q 9 (.q 10 (.q 11 (.q 12 (.q 13 (.q 14 (.q 15 (.q 16 (.q 17 (.q 18 (.q 19 (.q 20 (.q 21 (.q 22 (.q 23 (.q 24 (.q 25 (.q 26 (.q 27 (.q 28 (.q 29 (.s 30 (.q 31 (.q 32 (.q 33 (.q 34 .nil))))))))))))))))))))))))))))))))))) [10008, 10010, 10014, 10019, 10025, 10042, 10051, 22650, 22651, 22652, 22653] (hm := by kernel_rfl) (hs := by kernel_rfl) (hk := by kernel_rfl) (h := ?_)
      refine v_sch [] (hk := ?_)
      refine q_rdG rfl [31, 35] ⟨_, _, ⟨_, .inl ⟨rfl, rfl⟩⟩, ⟨_, _, ⟨_, .inl ⟨rfl, rfl⟩⟩, rfl, rfl⟩, rfl⟩ (fun hg => (r_eqSt (u := (l ++ mkL mkAs 1 12).getD k asset0) (v := l.getD k asset0))) ?_
      refine v_sch [] (hk := ?_)
      refine s_callG rfl [] [52] ⟨_, _, ⟨_, .inl ⟨rfl, rfl⟩⟩, rfl, rfl⟩ (fun hg => markAsset_spec 1 ((k : Int) - (l.length : Int))) Tryz.func50 (h := ?_)
      refine q_rdG rfl [48, 53] ⟨_, _, ⟨_, .inl ⟨rfl, rfl⟩⟩, ⟨_, _, ⟨_, .inl ⟨rfl, rfl⟩⟩, rfl, rfl⟩, rfl⟩ (fun hg => (r_eqSt (u := (l ++ mkL mkAs 1 12).getD k asset0) (v := (⟨hz, mkTx 1 ((k : Int) - (l.length : Int)), 0⟩ : AssetP)))) ?_
      refine v_sch [] (hk := ?_)
      first | refine c_ifd rfl (fun h57 => ?_) (fun h57 => ?_) | refine c_ifn rfl (fun h57 => ?_) (fun h57 => ?_) | refine c_if rfl (fun h57 => ?_) (fun h57 => ?_)
      · refine v_code [] (hk := ?_)
        refine v_ret rfl [] (.cons (.tmp rfl) .nil) (h := ?_)
        exfalso
        by_cases hkl : k < l.length
        · rw [kept_get hkl, decide_eq_true rfl, decide_eq_false (show ¬ l.length ≤ k by omega)] at h57
          simp at h57
        · rw [kept_get2 (by omega) h20, decide_eq_false hkl, mkAs_at (by omega), decide_eq_true rfl] at h57
          simp at h57
      · refine v_code [] (hk := ?_)
        refine v_again ((l.length + 12) - (k + 1)) ⟨k + 1, rfl, rfl, by omega, by omega⟩
    · refine v_code [] (hk := ?_)
      refine v_ret rfl [] (.cons (.tmp rfl) .nil) (h := ?_)
      exact ⟨rfl, rfl⟩
theorem lentTotals_spec (A : Option Addr) (l : List TotalP) (c : Nat) (hl : l.length ≤ 1048576) : CSpec Tryz.prog 78 [.one (.sl 0 A l.length c)] [(0, Res.rd A totalEn l)] [] fun o L => ∃ B d, l.length + 12 ≤ d ∧ o = .ret (vsl 0 B l.length d) ∧ L = [Res.rows B d 75 totalEn (l ++ mkL mkTt 1 12)] := by
  refine v_enter Tryz.func78 (h := fun w0 => ?_)
  refine v_code [] (hk := ?_)
  refine l_do (d_room (m := l.length + 12) totalEn) (fun g8 => ?_)
  refine v_ops [] (hk := ?_)
  refine l_do d_append (fun p11 => ?_)
  refine v_ops [] (hk := ?_)
  refine v_loop (fun m E H => ∃ (k : Nat) (A3 : Option Addr) (c3 : Nat) (out : List TotalP), E = [(4, vn k), (3, vsl 10008 A3 out.length c3)] ∧ H = [(10008, Res.rows A3 c3 75 totalEn out)] ∧ m = 12 - k ∧ k ≤ 12 ∧ (out = l ++ mkL mkTt 1 k)) [0, 2, 21, 22, 23, 24] (12) ([(4, vn 0), (3, vsl 10008 (p11.1) (l).length (p11.2))]) ([(10008, Res.rows (p11.1) (p11.2) 75 totalEn (l))]) (h0 := ⟨0, p11.1, p11.2, l, rfl, rfl, by omega, by omega, by rw [show mkL mkTt 1 0 = [] from rfl, List.append_nil]⟩) (hr := ?_)
  rintro _ _ _ ⟨k, A3, c3, out, rfl, rfl, hmk, hk, hik0⟩
  refine v_code [] (hk := ?_)
  first | refine c_ifd rfl (fun h13 => ?_) (fun h13 => ?_) | refine c_ifn rfl (fun h13 => ?_) (fun h13 => ?_) | refine c_if rfl (fun h13 => ?_) (fun h13 => ?_)
  · have hol : out.length = l.length + k := by rw [hik0, List.length_append, mkL_len]
    refine v_code [] (hk := ?_)
    refine v_call 20900 [] (markTotal_spec 1 k) Tryz.func127 (h := ?_)
    rintro _ _ (⟨rfl, rfl⟩)
    refine l_do (d_bslice [mkTt 1 k]) (fun B19 => ?_)
    refine l_do d_append (fun p20 => ?_)
    refine v_ops [] (hk := ?_)
    refine v_again (12 - (k + 1)) ⟨k + 1, p20.1, p20.2, out ++ [mkTt 1 k], rfl, rfl, by omega, by omega, by rw [mkL_succ, ← List.append_assoc, hik0]⟩
  · obtain rfl : k = 12 := by omega
    subst hik0
    refine k_fact (p := l.length + 12 ≤ c3) (fun w hf => by have := rows_cap (hf 10008 _ rfl); rw [List.length_append, mkL_len] at this; exact this) (fun hcap => ?_)
    refine v_code [] (hk := ?_)
    refine k_ret [10008] (vsl 0 A3 l.length c3) (.cons (.tmp rfl) .nil) (h := ?_)
    exact ⟨A3, c3, hcap, rfl, rfl⟩
theorem keptTotals_spec (A B : Option Addr) (l : List TotalP) (c d : Nat) (hl : l.length ≤ 1048576) (hc : l.length + 12 ≤ c) : CSpec Tryz.prog 86 [.one (.sl 0 A l.length c), .one (.sl 1 B l.length d)] [(0, Res.rd A totalEn (l ++ mkL mkTt 1 12)), (1, Res.rd B totalEn l)] [] fun o L => o = .ret (vb true) ∧ L = [] := by
  have hlm : (l ++ mkL mkTt 1 12).length = l.length + 12 := by rw [List.length_append, mkL_len]
  refine v_enter Tryz.func86 (h := fun w0 => ?_)
  refine v_code [] (hk := ?_)
  first | refine c_ifd rfl (fun h11 => ?_) (fun h11 => ?_) | refine c_ifn rfl (fun h11 => ?_) (fun h11 => ?_) | refine c_if rfl (fun h11 => ?_) (fun h11 => ?_)
  · refine v_code [] (hk := ?_)
    refine v_ret rfl [] (.cons (.tmp rfl) .nil) (h := ?_)
    exact absurd rfl h11
  · refine v_code [] (hk := ?_)
    refine v_loop (fun m E H => ∃ (k : Nat), E = [(6, vn k)] ∧ H = [] ∧ m = (l.length + 12) - k ∧ k ≤ (l.length + 12)) [1, 5] ((l.length + 12)) ([(6, vn 0)]) ([]) (h0 := ⟨0, rfl, rfl, by omega, by omega⟩) (hr := ?_)
    rintro _ _ _ ⟨k, rfl, rfl, hmk, hk⟩
    refine v_code [] (hk := ?_)
    first | refine c_ifd rfl (fun h20 => ?_) (fun h20 => ?_) | refine c_ifn rfl (fun h20 => ?_) (fun h20 => ?_) | refine c_if rfl (fun h20 => ?_) (fun h20 => ?_)
    · refine v_code [] (hk := ?_)
      refine v_draw (.q 0 (.q 1 (.q 2 (.q 3 (.q 4 (.q 5 (.q 6 (.q 7 (.q 8 (.q 9 (.q 10 (.q 11 (.q 12 (.q 13 (.q 14 (.q 15 (.q 16 (.q 17 (.q 18 (.q 19 (.q 20 (.q 21 (.q 22 (.q 23 (.q 24 (.q 25 (.q 26 (.q 27 (.q 28 (.q 29 (.s 30 (.q 31 (.q 32 (.q 33 (.q 34 .nil))))))))))))))))))))))))))))))))))) [10008, 10010, 10014, 10019, 10025, 10042, 10051, 22650, 22651, 22652, 22653] (hm := by kernel_rfl) (hs := by kernel_rfl) (hk := by kernel_rfl) (h := ?_)
      refine v_sch [] (hk := ?_)
      refine q_rdG rfl [31, 35] ⟨_, _, ⟨_, .inl ⟨rfl, rfl⟩⟩, ⟨_, _, ⟨_, .inl ⟨rfl, rfl⟩⟩, rfl, rfl⟩, rfl⟩ (fun hg => (r_eqSt (u := (l ++ mkL mkTt 1 12).getD k total0) (v := l.getD k total0))) ?_
      refine v_sch [] (hk := ?_)
      refine s_callG rfl [] [52] ⟨_, _, ⟨_, .inl ⟨rfl, rfl⟩⟩, rfl, rfl⟩ (fun hg => markTotal_spec 1 ((k : Int) - (l.length : Int))) Tryz.func127 (h := ?_)
      refine q_rdG rfl [48, 53] ⟨_, _, ⟨_, .inl ⟨rfl, rfl⟩⟩, ⟨_, _, ⟨_, .inl ⟨rfl, rfl⟩⟩, rfl, rfl⟩, rfl⟩ (fun hg => (r_eqSt (u := (l ++ mkL mkTt 1 12).getD k total0) (v := (⟨hz, mkTx 1 ((k : Int) - (l.length : Int)), wz⟩ : TotalP)))) ?_
      refine v_sch [] (hk := ?_)
      first | refine c_ifd rfl (fun h57 => ?_) (fun h57 => ?_) | refine c_ifn rfl (fun h57 => ?_) (fun h57 => ?_) | refine c_if rfl (fun h57 => ?_) (fun h57 => ?_)
      · refine v_code [] (hk := ?_)
        refine v_ret rfl [] (.cons (.tmp rfl) .nil) (h := ?_)
        exfalso
        by_cases hkl : k < l.length
        · rw [kept_get hkl, decide_eq_true rfl, decide_eq_false (show ¬ l.length ≤ k by omega)] at h57
          simp at h57
        · rw [kept_get2 (by omega) h20, decide_eq_false hkl, mkTt_at (by omega), decide_eq_true rfl] at h57
          simp at h57
      · refine v_code [] (hk := ?_)
        refine v_again ((l.length + 12) - (k + 1)) ⟨k + 1, rfl, rfl, by omega, by omega⟩
    · refine v_code [] (hk := ?_)
      refine v_ret rfl [] (.cons (.tmp rfl) .nil) (h := ?_)
      exact ⟨rfl, rfl⟩
end Go.Proofs.YtlnckcgbpilmdaaGreat
