/- ValueExact: for any bundles put in, minted, put out, any fee, and any other bundle: true. Upto form. -/
import Derived.Test.YtlnckcgbpilmdaaZ2
import Derived.Shelf.SlSortCmp.NoneTotal
import Derived.Shelf.Lay
import Derived.Ground.SlsfProg
import Derived.Test.YtlnckcgbpilmdaaZ4
import Derived.Test.YtlnckcgbpilmdaaZ3
import Derived.Test.YtlnckcgbpilmdaaZ1
import Derived.WideKeyArr2
import Derived.OpenShut
import Derived.ChangeSame
import Derived.WalkKit
import Derived.ProofKit
import Derived.Test.YtlnckcgbpilmdaaRows
import Derived.ChangeArms
import Derived.Carry
import Derived.JoinedCond
/- slices.SortFunc, as a contract over resources. My own text over the shelf's; it names no program. -/




set_option linter.unusedVariables false
set_option linter.unusedSimpArgs false
set_option linter.unusedSectionVars false
namespace Go.Proofs.Ytlnckcgbpilmdaa
namespace HL
open Go Go.RowKit Go.Shelf Go.Lib Go.Sort
theorem flatten_get {α : Type} {k : Nat} (hk : 0 < k) : ∀ (l : List (List α)) (t : Nat), (∀ v ∈ l, v.length = k) → l.flatten[t]? = (l[t / k]?).bind fun v => v[t % k]?
  | [], t, _ => by simp
  | v :: l, t, h => by
    have hv := h v (List.mem_cons_self ..)
    rw [List.flatten_cons]
    by_cases ht : t < k
    · rw [List.getElem?_append_left (by omega), Nat.div_eq_of_lt ht, Nat.mod_eq_of_lt ht]
      rfl
    · rw [List.getElem?_append_right (by omega), hv, flatten_get hk l (t - k) (fun u hu => h u (List.mem_cons_of_mem _ hu))]
      have h1 : t / k = (t - k) / k + 1 := by
        have : t = (t - k) + k := by omega
        rw [this, Nat.add_div_right _ hk]
        simp
      have h2 : t % k = (t - k) % k := by
        have : t = (t - k) + k := by omega
        rw [this, Nat.add_mod_right]
        simp
      rw [h1, h2, List.getElem?_cons_succ]
def encE {α : Type} (E : En α) (x : α) : List Value := flat (vals (E.f x).ats)
theorem encE_len {α : Type} (E : En α) (x : α) : (encE E x).length = E.sz := by
  unfold encE
  rw [length_flat, szs_vals]
  exact (E.ok x).2
theorem dens_flatten {α : Type} (E : En α) (l : List α) : flat (E.dens l) = (l.map (encE E)).flatten := by
  unfold En.dens
  induction l with
  | nil => show flat [] = _; rw [flat_nil]; rfl
  | cons y l ih => rw [List.map_cons, flat_cons, ih, SV.cells_den]; rfl
theorem flatK_dens {α : Type} [Inhabited α] (E : En α) (l : List α) : (flatK (encE E) E.sz l.toArray).toList = flat (E.dens l) := by
  rw [dens_flatten]
  apply List.ext_getElem?
  intro t
  have hlen : (l.map (encE E)).flatten.length = l.length * E.sz := by
    induction l with
    | nil => simp
    | cons x l ih => rw [List.map_cons, List.flatten_cons, List.length_append, ih, encE_len, List.length_cons, Nat.add_mul, Nat.one_mul]; omega
  by_cases ht : t < l.length * E.sz
  · have hd : t / E.sz < l.length := (Nat.div_lt_iff_lt_mul E.pos).2 ht
    have hm : t % E.sz < E.sz := Nat.mod_lt _ E.pos
    rw [flatten_get E.pos _ t (fun v hv => by obtain ⟨x, _, rfl⟩ := List.mem_map.1 hv; exact encE_len E x)]
    rw [List.getElem?_map, List.getElem?_eq_getElem hd]
    simp only [Option.map_some, Option.bind_some]
    rw [show (encE E l[t / E.sz])[t % E.sz]? = some ((encE E l[t / E.sz])[t % E.sz]'(by rw [encE_len]; exact hm)) from List.getElem?_eq_getElem _]
    unfold flatK
    simp only [Array.toList_map, Array.toList_range, List.getElem?_map]
    rw [List.getElem?_range (by simpa using ht)]
    simp only [Option.map_some]
    congr 1
    rw [getElem!_pos l.toArray _ (by simpa using hd), getElem!_pos _ _ (by rw [encE_len]; exact hm)]
    simp
  · rw [List.getElem?_eq_none (by rw [Array.length_toList, size_flatK]; simpa using ht), List.getElem?_eq_none (by omega)]
theorem grow_of_st {w w' : World} {L : List Res} (h : St w w' No L) : ∃ q os, w' = grow (w.drewN q) os := by
  refine ⟨w'.drawn - w.drawn, w'.heap.extract w.heap.size w'.heap.size, ?_⟩
  have e1 : w'.heap = w.heap ++ w'.heap.extract w.heap.size w'.heap.size := by
    apply Array.ext_getElem?
    intro b
    by_cases hb : b < w.heap.size
    · rw [h.keep b hb id, Array.getElem?_append_left hb]
    · rw [Array.getElem?_append_right (by omega), Array.getElem?_extract]
      by_cases hb2 : b < w'.heap.size
      · rw [if_pos (by omega)]
        congr 1
        omega
      · rw [if_neg (by omega), Array.getElem?_eq_none (by omega)]
  have hd := h.drawn
  have e2 : w'.drawn = w.drawn + (w'.drawn - w.drawn) := by omega
  obtain ⟨h1, t1, d1, o1, p1⟩ := w'
  obtain ⟨h2, t2, d2, o2, p2⟩ := w
  have a1 := h.os
  have a2 := h.tape
  have a3 := h.output
  simp only at a1 a2 a3 e1 e2 hd
  subst a1 a2 a3
  unfold grow World.drewN
  simp only [World.mk.injEq]
  exact ⟨e1, trivial, e2, trivial, trivial⟩
theorem putCells_mid (F xs pre post : List Value) (h : F.length = xs.length) : putCells id pre.length F.toArray (pre ++ xs ++ post).toArray = (pre ++ F ++ post).toArray := by
  apply Array.ext_getElem?
  intro t
  unfold putCells
  rw [Array.getElem?_mapIdx]
  simp only [List.getElem?_toArray, List.size_toArray, id]
  by_cases h1 : t < pre.length
  · rw [List.append_assoc, List.append_assoc, List.getElem?_append_left h1, List.getElem?_append_left h1]
    cases hp : pre[t]? with
    | none => rfl
    | some v => simp [show ¬ pre.length ≤ t by omega]
  · by_cases h2 : t < pre.length + F.length
    · have e1 : (pre ++ xs ++ post)[t]? = xs[t - pre.length]? := by rw [List.append_assoc, List.getElem?_append_right (by omega), List.getElem?_append_left (by omega)]
      have e2 : (pre ++ F ++ post)[t]? = F[t - pre.length]? := by rw [List.append_assoc, List.getElem?_append_right (by omega), List.getElem?_append_left (by omega)]
      rw [e1, e2]
      rw [List.getElem?_eq_getElem (show t - pre.length < xs.length by omega), List.getElem?_eq_getElem (show t - pre.length < F.length by omega)]
      simp only [Option.map_some]
      rw [if_pos ⟨by omega, h2⟩]
      rw [getElem!_pos F.toArray _ (by simp; omega)]
      simp
    · have e1 : (pre ++ xs ++ post)[t]? = post[t - (pre.length + xs.length)]? := by rw [List.getElem?_append_right (by simp; omega)]; simp
      have e2 : (pre ++ F ++ post)[t]? = post[t - (pre.length + F.length)]? := by rw [List.getElem?_append_right (by simp; omega)]; simp
      rw [e1, e2, h]
      cases hp : post[t - (pre.length + xs.length)]? with
      | none => rfl
      | some v => simp [show ¬ t < pre.length + xs.length by omega]
section
variable {P : Program} {ρ : Ren} {α : Type} [Inhabited α]
theorem sort_spec (L : SlLaysF0.n6 P ρ) (E : En α) (hag : E.agg = true) (aE : ∀ w, (isAgg (ρ.t 24)).run P w = .ok true w) (zE : ∀ w, (Go.sizeOf (ρ.t 24)).run P w = .ok E.sz w) (cf : α → α → Int) (hO : SWO (ltOf cf)) (hT : ∀ x y, (ltOf cf) x y = false → (ltOf cf) y x = false → x = y)
    (g : FuncId) (hc : ∀ x y, CSpec P g [E.f x, E.f y] [] [] fun o L => o = .ret (vint (cf x y)) ∧ L = []) (eg : ∀ args w, (callFunc g args).run P w = .ok (.enter g args) w) {f : FuncId} (hf : ρ.f 6 = f) (e : TypeId) (A : Option Addr) (c : Nat) (l : List α) (hl : l.length ≤ 4611686018427387903) :
    CSpec P f [.one (.sl 0 A l.length c), .one (.fn g [] [])] [] [(0, Res.rows A c e E l)] fun o L => o = .ret (.tup []) ∧ L = [Res.rows A c e E (l.mergeSort fun x y => !(ltOf cf) y x)] := fun w _ hr _ _ => by
  subst hf
  have hrow : (Res.rows A c e E l).holds w := hr _ (by simp [live])
  have hfp : (fun b => ∃ r ∈ live [(0, Res.rows A c e E l)], r.fp b) = (Res.rows A c e E l).fp := by
    have e0 : live [(0, Res.rows A c e E l)] = [Res.rows A c e E l] := live_nodup (by simp)
    funext b
    rw [e0]
    simp
  rw [hfp]
  show Calls P (ρ.f 6) #[.slice A l.length c, .func (.func g) #[] #[]] w _
  by_cases h0 : l = []
  · subst h0
    refine (AnyF.slices_SortFunc_none L A c _ w).mono fun e' w' ⟨h1, h2⟩ => ?_
    subst h2
    refine ⟨.ret (.tup []), [Res.rows A c e E []], by rw [h1]; rfl, ⟨rfl, by simp⟩, ?_⟩
    exact St.start1 hrow
  · have hrow' := hrow
    unfold Res.rows Res.row at hrow'
    obtain ⟨s1, s2, s3, s4⟩ := hrow'
    have hpos : 0 < l.length := List.length_pos_iff.2 h0
    rcases s4 with ⟨_, h2, _⟩ | ⟨b, off, pre, post, rfl, hb, hpre, hcap⟩
    · omega
    subst hpre
    have hlt : b < w.heap.size := lt_of_heap hb
    have henc : ∀ x, (E.f x).den = .agg (encE E x).toArray := fun x => by
      have h1 := (E.ok x).1
      unfold encE
      rw [hag] at h1
      have h2 := SV.cells_den (E.f x)
      have h3 := (E.f x).isAgg_den
      rw [h1] at h3
      generalize (E.f x).den = u at h2 h3 ⊢
      rw [← h2]
      cases u <;> first | (cases h3; done) | simp [Value.cells]
    have hH : HoldsK (encE E) E.sz w b pre.length l.toArray := by
      intro j hj
      rw [size_flatK] at hj
      have hj' : j < l.length * E.sz := by simpa using hj
      have e1 : (flatK (encE E) E.sz l.toArray)[j]! = (flat (E.dens l))[j]'(by rw [s1]; exact hj') := by
        rw [getElem!_pos _ _ (by rw [size_flatK]; exact hj)]
        rw [← Array.getElem_toList]
        simp only [flatK_dens]
      constructor
      · unfold World.cell?
        simp only [hb]
        rw [show (id (flatK (encE E) E.sz l.toArray)[j]!) = (flatK (encE E) E.sz l.toArray)[j]! from rfl, e1]
        simp only [Option.isSome_none, Bool.false_eq_true, if_false, List.getElem?_toArray]
        rw [List.append_assoc, List.getElem?_append_right (by omega), List.getElem?_append_left (by rw [s1]; omega)]
        rw [show pre.length + j - pre.length = j by omega]
        exact List.getElem?_eq_getElem _
      · unfold World.frozen?
        simp [hb]
    have hcmp : CmpLays P g #[] (encE E) E.sz cf b pre.length l.toArray.size w := fun m os dk _ x y => by
      have := hc x y (sortWorldK (encE E) E.sz w b pre.length m dk os) (fun i r h => by cases h) (by simp [live]) (by simp [live]) (fun i r h => by cases h)
      have e1 : ([E.f x, E.f y].map SV.den).toArray = #[.agg (encE E x).toArray, .agg (encE E y).toArray] ++ #[] := by simp [henc]
      rw [e1] at this
      refine this.mono fun e' w' ⟨o, L', he, ⟨ho, hL⟩, hst⟩ => ?_
      subst ho; subst he
      refine ⟨rfl, grow_of_st (L := L') ?_⟩
      have e2 : (fun b => ∃ r ∈ live ([] : Hp), r.fp b) = No := by funext b; simp [live]
      rw [e2] at hst
      exact hst
    have hs := AnyQ.slices_SortFunc_total L E.sz aE zE (encE E) (encE_len E) (fun x v hv => by
      have h1 := (E.f x).ok1
      rw [henc] at h1
      exact h1 v (show v ∈ (encE E x).toArray.toList from hv)) cf hO g #[] b pre.length c l.toArray w eg hcmp hH hlt (by simp; omega) hT
    rw [show l.toArray.size = l.length by simp] at hs
    refine hs.mono fun e' w' ⟨h1, n, os, h2⟩ => ?_
    subst h1
    have hperm : (l.mergeSort fun x y => !(ltOf cf) y x).length = l.length := (List.mergeSort_perm ..).length_eq
    have hF : (flatK (encE E) E.sz (l.mergeSort fun x y => !(ltOf cf) y x).toArray) = (flat (E.dens (l.mergeSort fun x y => !(ltOf cf) y x))).toArray := by
      apply Array.toList_inj.1
      rw [flatK_dens]
    have hFl : (flat (E.dens (l.mergeSort fun x y => !(ltOf cf) y x))).length = (flat (E.dens l)).length := by
      rw [s1, ← flatK_dens, Array.length_toList, size_flatK]
      simp [hperm]
    have hheap : w'.heap[b]? = some (.cells (pre ++ flat (E.dens (l.mergeSort fun x y => !(ltOf cf) y x)) ++ post).toArray e (0, 0)) := by
      rw [h2]
      unfold sortWorldK putRowK putRow mapBlock grow Sort.ahead
      simp only
      rw [Array.getElem?_append_left (by simpa using hlt), Array.getElem?_modify, if_pos rfl, hb]
      simp only [Option.map_some, onCells, hF]
      rw [putCells_mid _ _ _ _ hFl]
    refine ⟨.ret (.tup []), _, rfl, ⟨rfl, rfl⟩, ⟨?_, ?_, ?_, ?_, ?_, fun k hk hn => ?_, ?_, by simp, ?_⟩⟩
    · rw [h2]; rfl
    · rw [h2]; rfl
    · rw [h2]; rfl
    · rw [h2]; exact Nat.le_add_right _ _
    · rw [h2]
      unfold sortWorldK putRowK putRow mapBlock grow Sort.ahead
      simp
    · rw [h2]
      unfold sortWorldK putRowK putRow mapBlock grow Sort.ahead
      simp only
      have hkb : b ≠ k := fun e => hn (by subst e; unfold Res.rows; exact fp_row.2 rfl)
      rw [Array.getElem?_append_left (by simpa using hk), Array.getElem?_modify, if_neg hkb]
    · intro r hr
      obtain rfl := List.mem_singleton.1 hr
      unfold Res.rows
      refine holds_row ⟨?_, ?_, s3, .inr ⟨b, pre.length, pre, post, rfl, hheap, rfl, ?_⟩⟩
      · rw [hFl, s1, hperm]
      · rw [hperm]; exact s2
      · rw [List.length_append] at hcap ⊢; omega
    · intro r hr b' hb'
      obtain rfl := List.mem_singleton.1 hr
      refine .inl ?_
      unfold Res.rows at hb' ⊢
      exact fp_row.2 (fp_row.1 hb')
end
end HL
end Go.Proofs.Ytlnckcgbpilmdaa
/- Assets in order: rising. -/


set_option linter.unusedVariables false
set_option linter.unusedSimpArgs false
set_option maxRecDepth 100000
set_option maxHeartbeats 8000000
namespace Go.Proofs.Ytlnckcgbpilmdaa
open Go Go.RowKit Go.Shelf Go.Lib Go.Sort HL
shelf_lay_g SlLaysF0.n6 Slsf 6 at Try 47 as Try.sortAsset
instance : Inhabited NameP := ⟨⟨hz, ⟨#[]⟩⟩⟩
theorem ltOf_nord (a b : NameP) : ltOf nord a b = decide (nord a b < 0) := rfl
theorem nord_swo : SWO (ltOf nord) where
  irrefl x := by rw [ltOf_nord]; exact decide_eq_false nord_irrefl
  trans x y z h1 h2 := by
    rw [ltOf_nord, decide_eq_true_eq] at *
    exact nord_trans h1 h2
  ntrans x y z h1 h2 := by
    rw [ltOf_nord, decide_eq_false_iff_not] at *
    intro h3
    rcases nord_tri x y with h | rfl | h
    · exact h1 h
    · exact h2 h3
    · exact h2 (nord_trans h h3)
theorem nord_total (x y : NameP) (h1 : ltOf nord x y = false) (h2 : ltOf nord y x = false) : x = y := by
  rw [ltOf_nord, decide_eq_false_iff_not] at *
  rcases nord_tri x y with h | h | h
  · exact absurd h h1
  · exact h
  · exact absurd h h2
def nle (x y : NameP) : Bool := !(ltOf nord) y x
def sortN (l : List NameP) : List NameP := l.mergeSort nle
theorem sortN_perm (l : List NameP) : (sortN l).Perm l := List.mergeSort_perm l _
theorem sortN_sorted (l : List NameP) : (sortN l).Pairwise fun a b => nle a b = true :=
  List.pairwise_mergeSort (fun a b c h1 h2 => by
    unfold nle at *
    rw [Bool.not_eq_true'] at *
    exact nord_swo.ntrans _ _ _ h2 h1) (fun a b => by
    unfold nle
    rw [ltOf_nord, ltOf_nord, Bool.or_eq_true, Bool.not_eq_true', Bool.not_eq_true', decide_eq_false_iff_not, decide_eq_false_iff_not]
    by_cases h : nord b a < 0
    · exact .inr (nord_asymm h)
    · exact .inl h) l
theorem sortN_lt {l : List NameP} (hn : l.Nodup) : (sortN l).Pairwise fun a b => nord a b < 0 := by
  have h1 := sortN_sorted l
  have h2 : (sortN l).Nodup := (sortN_perm l).nodup_iff.2 hn
  refine (h1.and h2).imp fun {a b} ⟨h3, h4⟩ => ?_
  unfold nle at h3
  rw [Bool.not_eq_true', ltOf_nord, decide_eq_false_iff_not] at h3
  rcases nord_tri a b with h | h | h
  · exact h
  · exact absurd h h4
  · exact absurd h h3
theorem bundle1_spec (x y : AssetP) : CSpec Try.prog 48 [.agg [.hash x.policy, .one (.s x.name), .one (.i .i64 x.amount)], .agg [.hash y.policy, .one (.s y.name), .one (.i .i64 y.amount)]] [] [] fun o L => o = .ret (vint (nord x.key y.key)) ∧ L = [] := by
  refine v_enter Try.func48 (h := fun w0 => ?_)
  refine v_code [] (hk := ?_)
  refine l_do d_box (fun g2 => ?_)
  refine l_do d_box (fun g3 => ?_)
  refine v_ops [] (hk := ?_)
  refine v_draw (.q 0 (.q 2 (.s 1 (.s 3 (.s 4 (.q 5 .nil)))))) [10002, 10003, 20300, 20301, 20302, 20303, 20400, 20401, 20402, 20403, 20450, 20451, 20452, 20453] (hm := by kernel_rfl) (hs := by kernel_rfl) (hk := by kernel_rfl) (h := ?_)
  refine v_sch [] (hk := ?_)
  refine v_callS rfl 20300 [] (nameof_spec x) Try.func33 (h := ?_)
  rintro _ _ (⟨rfl, rfl⟩)
  refine ⟨cov_of (by repeat (first | exact trivial | refine ⟨rfl, ?_⟩)), ?_⟩
  refine v_callS rfl 20400 [] (nameof_spec y) Try.func33 (h := ?_)
  rintro _ _ (⟨rfl, rfl⟩)
  refine ⟨cov_of (by repeat (first | exact trivial | refine ⟨rfl, ?_⟩)), ?_⟩
  refine v_callS rfl 20450 [] (order_spec x.key y.key) Try.func49 (h := ?_)
  rintro _ _ (⟨rfl, rfl⟩)
  refine ⟨cov_of (by repeat (first | exact trivial | refine ⟨rfl, ?_⟩)), ?_⟩
  refine v_sch [] (hk := ?_)
  refine v_ret rfl [] (.cons (.tmp rfl) .nil) (h := ?_)
  exact ⟨rfl, rfl⟩
def mkF (f : NameP → Int) (n : NameP) : AssetP := ⟨n.policy, n.name, f n⟩
def nameF (f : NameP → Int) : En NameP := ⟨fun n => assetEn.f (mkF f n), true, 34, fun x => assetEn.ok _, by decide⟩
theorem rows_nameF (A : Option Addr) (c : Nat) (f : NameP → Int) (l : List NameP) : Res.rows A c 54 (nameF f) l = Res.rows A c 54 assetEn (l.map (mkF f)) := by
  have e : (nameF f).dens l = assetEn.dens (l.map (mkF f)) := by
    unfold En.dens
    rw [List.map_map]
    rfl
  unfold Res.rows
  rw [e, List.length_map]
  rfl
theorem amt_of {l : List AssetP} (hn : (l.map AssetP.key).Nodup) : ∀ x ∈ l, amt l x.key = x.amount := by
  induction l with
  | nil => intro x hx; cases hx
  | cons y l ih =>
    intro x hx
    rw [List.map_cons, List.nodup_cons] at hn
    unfold amt atN
    rcases List.mem_cons.1 hx with rfl | hx
    · rw [List.find?_cons]; simp
    · have hne : ¬ y.key = x.key := fun e => hn.1 (by rw [e]; exact List.mem_map_of_mem hx)
      rw [List.find?_cons, decide_eq_false hne]
      exact ih hn.2 x hx
theorem back_F {l : List AssetP} (hn : (l.map AssetP.key).Nodup) : (l.map AssetP.key).map (mkF (amt l)) = l := by
  rw [List.map_map]
  conv => rhs; rw [← List.map_id l]
  refine List.map_congr_left fun x hx => ?_
  show mkF (amt l) x.key = x
  unfold mkF
  rw [amt_of hn x hx]
  rfl
theorem sortAsset_spec (A : Option Addr) (c : Nat) (l : List AssetP) (hl : l.length ≤ 1048576) (hn : (l.map AssetP.key).Nodup) : CSpec Try.prog 47 [.one (.sl 0 A l.length c), .one (.fn 48 [] [])] [] [(0, Res.rows A c 54 assetEn l)] fun o L => ∃ m : List AssetP, m.Perm l ∧ Rise AssetP.key m ∧ o = .ret (.tup []) ∧ L = [Res.rows A c 54 assetEn m] := by
  have h := sort_spec Try.sortAsset (nameF (amt l)) rfl (by intro w; exact Try.isAgg54 w) (by intro w; exact Try.sizeOf54 w) nord nord_swo nord_total 48 (fun x y => bundle1_spec (mkF (amt l) x) (mkF (amt l) y)) (enters_of Try.func48 (by kernel_rfl) rfl) (f := 47) rfl 54 A c (l.map AssetP.key) (by rw [List.length_map]; omega)
  rw [rows_nameF, rows_nameF, back_F hn, List.length_map] at h
  refine CSpec.mono h fun o L hp => ⟨(sortN (l.map AssetP.key)).map (mkF (amt l)), ?_, ?_, hp.1, hp.2⟩
  · have := (sortN_perm (l.map AssetP.key)).map (mkF (amt l))
    rwa [back_F hn] at this
  · unfold Rise
    rw [List.pairwise_map]
    exact (sortN_lt hn).imp fun {a b} hab => hab
end Go.Proofs.Ytlnckcgbpilmdaa
/- The bundle of a purse. -/


set_option linter.unusedVariables false
set_option linter.unusedSimpArgs false
set_option maxRecDepth 100000
namespace Go.Proofs.Ytlnckcgbpilmdaa
open Go Go.RowKit HL
theorem bundle_spec (gp gm : Nat) (co : Int) (f : NameP → Int) (mm : List (NameP × Int × Nat)) (cl : Nat) (hj : PM f mm cl) (hw : MWf mm cl) (hm : mm.length ≤ 1048576) : CSpec Try.prog 25 [.one (.ptr 0 ⟨gp, 0, none⟩)] [(0, Res.va gp 70 [.one (.i .i64 co), .one (.mp 1 gm)]), (1, Res.mp gm nameEn (intEn .i64) mm cl)] [] fun o L => (∃ A d l, IsB f l ∧ l.length ≤ 30 ∧ o = .ret (.s (.agg [.one (.i .i64 co), .one (.sl 0 A l.length d)])) ∧ L = [Res.rows A d 54 assetEn l]) ∨ ((∀ l, IsB f l → ¬ l.length ≤ 30) ∧ o = .pan thrown ∧ L = []) := by
  refine v_enter Try.func25 (h := fun w0 => ?_)
  refine v_code [] (hk := ?_)
  refine l_do d_alloc (fun g2 => ?_)
  refine v_ops [] (hk := ?_)
  refine l_do d_alloc (fun g3 => ?_)
  refine v_ops [] (hk := ?_)
  refine l_do d_range (fun r15 => ?_)
  refine v_ops [] (hk := ?_)
  refine k_nil 10032 54 assetEn ?_
  refine v_loop (fun m E H => ∃ done l A d, E = [] ∧ H = [(10003, Res.va g3 24 [.one (.i .i64 co), .one (.sl 10032 A l.length d)]), (10032, Res.rows A d 54 assetEn l), (10015, Res.itr 1 r15 gm cl done)] ∧ l = asF done ∧ (∀ e ∈ done, e ∈ mm) ∧ done.Nodup ∧ m = mm.length - done.length) [2, 3, 15, 34, 35, 36, 37, 39, 40, 42] (mm.length) ([]) ([(10003, Res.va g3 24 [.one (.i .i64 co), .one (.sl 10032 none 0 0)]), (10032, Res.rows none 0 54 assetEn []), (10015, Res.itr 1 r15 gm cl [])]) (h0 := ⟨[], [], none, 0, rfl, rfl, rfl, by simp, List.nodup_nil, rfl⟩) (hr := ?_)
  rintro _ _ _ ⟨done, l, A, d, rfl, rfl, hla, hsub, hnd, rfl⟩
  refine v_code [] (hk := ?_)
  refine l_next (fun o16 no16 yes16 => ?_)
  refine l_rd (r_extractN) ?_
  refine v_ops [] (hk := ?_)
  first | refine c_ifd rfl (fun h17 => ?_) (fun h17 => ?_) | refine c_ifn rfl (fun h17 => ?_) (fun h17 => ?_) | refine c_if rfl (fun h17 => ?_) (fun h17 => ?_)
  · have hlen2 := asF_len done
    rw [← hla] at hlen2
    obtain ⟨e, rfl⟩ := Option.isSome_iff_exists.1 h17
    obtain ⟨hme, hne⟩ := yes16 e rfl
    obtain ⟨hs2, hn2, hl2⟩ := iter_snoc hsub hnd hme hne
    refine v_code [] (hk := ?_)
    refine l_rd r_entry ?_
    refine v_ops [] (hk := ?_)
    refine l_do d_alloc (fun g4 => ?_)
    refine v_ops [] (hk := ?_)
    first | refine c_ifd rfl (fun h22 => ?_) (fun h22 => ?_) | refine c_ifn rfl (fun h22 => ?_) (fun h22 => ?_) | refine c_if rfl (fun h22 => ?_) (fun h22 => ?_)
    · refine v_code [] (hk := ?_)
      refine l_do (d_bslice [mkA e]) (fun B31 => ?_)
      refine l_do d_append (fun p32 => ?_)
      refine v_ops [] (hk := ?_)
      refine v_again (mm.length - (done.length + 1)) (by first | exact ⟨done ++ [e], l ++ [mkA e], p32.1, p32.2, rfl, rfl, by rw [hla, asF_yes (by simpa using h22)], hs2, hn2, by rw [List.length_append]; rfl⟩ | exact ⟨done ++ [e], l, A, d, rfl, rfl, by rw [hla, asF_no (by simpa using h22)], hs2, hn2, by rw [List.length_append]; rfl⟩)
    · refine v_code [] (hk := ?_)
      refine v_again (mm.length - (done.length + 1)) (by first | exact ⟨done ++ [e], l ++ [mkA e], p32.1, p32.2, rfl, rfl, by rw [hla, asF_yes (by simpa using h22)], hs2, hn2, by rw [List.length_append]; rfl⟩ | exact ⟨done ++ [e], l, A, d, rfl, rfl, by rw [hla, asF_no (by simpa using h22)], hs2, hn2, by rw [List.length_append]; rfl⟩)
  · have hall := no16 (by simpa using h17)
    have hmem := asF_mem hj hsub hall
    have hkeys := asF_keys hw hsub hnd
    have hlen := iter_len hsub hnd
    have hlen2 := asF_len done
    subst hla
    refine v_code [] (hk := ?_)
    refine v_call 21900 [] (must_spec (decide ((asF done).length ≤ 30))) Try.func31 (h := ?_)
    rintro _ _ (⟨hr, rfl, rfl⟩ | ⟨hr, rfl, rfl⟩)
    · simp only [decide_eq_true_eq] at hr
      refine v_ops [] (hk := ?_)
      refine v_call 22050 [] (sortAsset_spec A d (asF done) (by omega) hkeys) Try.func47 (h := ?_)
      rintro _ _ (⟨bs, hp, hrise, rfl, rfl⟩)
      refine v_ops [] (hk := ?_)
      have hbl := hp.length_eq
      refine k_ret [22050] (.s (.agg [.one (.i .i64 co), .one (.sl 0 A (asF done).length d)])) (.cons (.cell inferInstance rfl rfl rfl rfl) .nil) (h := ?_)
      exact .inl ⟨A, d, bs, isB_perm hrise hp hmem, by rw [hbl]; exact hr, by rw [hbl], rfl⟩
    · simp only [decide_eq_false_iff_not] at hr
      refine v_ex [] (hk := ?_)
      refine k_pan [] (h := ?_)
      exact .inr ⟨fun l hl => by rw [isB_len hl hkeys hmem]; exact hr, rfl, rfl⟩
end Go.Proofs.Ytlnckcgbpilmdaa
/- Add. -/

set_option linter.unusedVariables false
set_option linter.unusedSimpArgs false
set_option maxRecDepth 100000
namespace Go.Proofs.Ytlnckcgbpilmdaa
open Go Go.RowKit HL
def Adds (l : List ValueM) (co : Int) (p : List AssetP) : Prop := FillOk l ∧ co = csum l ∧ IsB (tot (AL l)) p ∧ p.length ≤ 30
def NoSum (l : List ValueM) : Prop := ∀ co p, ¬ Adds l co p
theorem add1_spec (g : Nat) (A : Option Addr) (l : List ValueM) (c : Nat) (hl : l.length ≤ 30000) (hf : ∀ v ∈ l, FitV v) : CSpec Try.prog 23 [.one (.ptr 0 ⟨g, 0, none⟩)] [(0, Res.va g 29 [.one (.sl 1 A l.length c)]), (1, rdValues A l)] [] fun o L => (∃ co B d p, Adds l co p ∧ o = .ret (.s (.agg [.one (.i .i64 co), .one (.sl 0 B p.length d)])) ∧ L = [Res.rows B d 54 assetEn p]) ∨ (NoSum l ∧ o = .pan thrown ∧ L = []) := by
  refine v_enter Try.func23 (h := fun w0 => ?_)
  refine v_code [] (hk := ?_)
  refine l_do d_alloc (fun g1 => ?_)
  refine v_ops [] (hk := ?_)
  refine v_call 20150 [] (filled_spec 20151 A l c (by omega) hf) Try.func24 (h := ?_)
  rintro _ _ (⟨g3, gm, co, mm, cl, hi, rfl, rfl⟩ | ⟨hno, rfl, rfl⟩)
  · have hlen := hi.j.len
    have hlen2 := AL_len hi.r
    refine v_call 20200 [(0, 20150), (1, 20151)] (bundle_spec g3 gm co (tot (AL l)) mm cl hi.j.pm hi.j.wf (by omega)) Try.func25 (h := ?_)
    rintro _ _ (⟨B, d, p, hb, hp, rfl, rfl⟩ | ⟨hno, rfl, rfl⟩)
    · refine v_ops [] (hk := ?_)
      refine k_ret [20200] (.s (.agg [.one (.i .i64 co), .one (.sl 0 B p.length d)])) (.cons (.cell inferInstance rfl rfl rfl rfl) .nil) (h := ?_)
      exact .inl ⟨co, B, d, p, ⟨hi.ok, hi.sum, hb, hp⟩, rfl, rfl⟩
    · refine v_ex [] (hk := ?_)
      refine k_pan [] (h := ?_)
      exact .inr ⟨fun co p h => hno p h.2.2.1 h.2.2.2, rfl, rfl⟩
  · refine v_ex [] (hk := ?_)
    refine k_pan [] (h := ?_)
    exact .inr ⟨fun co p h => hno h.1, rfl, rfl⟩
theorem triedAdd_spec (g : Nat) (A : Option Addr) (l : List ValueM) (c : Nat) (hl : l.length ≤ 30000) (hf : ∀ v ∈ l, FitV v) : CSpec Try.prog 22 [.one (.fn 23 [.pointer (some ⟨g, 0, none⟩)] [7])] [(7, Res.va g 29 [.one (.sl 1 A l.length c)]), (1, rdValues A l)] [] fun o L => (∃ co B d p, Adds l co p ∧ o = .ret (.tup [.agg [.one (.i .i64 co), .one (.sl 0 B p.length d)], .one (.b true)]) ∧ L = [Res.rows B d 54 assetEn p]) ∨ (NoSum l ∧ o = .ret (.tup [.agg [.one (.i .i64 0), .one (.sl 0 none 0 0)], .one (.b false)]) ∧ L = []) := by
  refine v_enterD Try.func22 (h := fun w0 => ?_)
  refine v_code [] (hk := ?_)
  refine l_do d_alloc (fun g2 => ?_)
  refine l_do d_alloc (fun g3 => ?_)
  refine v_ops [] (hk := ?_)
  refine l_defer (h := ?_)
  refine v_ops [] (hk := ?_)
  refine v_call 20300 [(0, 7), (1, 1)] (add1_spec g A l c hl hf) Try.func23 (h := ?_)
  rintro _ _ (⟨co, B, d, p, ha, rfl, rfl⟩ | ⟨hno, rfl, rfl⟩)
  · refine v_ops [] (hk := ?_)
    refine v_leave _ rfl ?_
    refine v_defers (args := []) 10002 (fun x => x + 10002) (tried1_ret g2 g3 [.one (.i .i64 co), .one (.sl 0 B p.length d)] [.one (.b true)]) Try.func45 (h := ?_)
    rintro _ _ _ ⟨rfl, rfl, rfl⟩
    refine v_left [20300] (.tup [.agg [.one (.i .i64 co), .one (.sl 0 B p.length d)], .one (.b true)]) (.cons (.cell inferInstance rfl rfl rfl rfl) (.cons (.cell inferInstance rfl rfl rfl rfl) .nil)) (h := ?_)
    exact .inl ⟨co, B, d, p, ha, rfl, rfl⟩
  · refine v_ex [] (hk := ?_)
    refine v_leave _ rfl ?_
    refine v_defers (args := []) 10002 (fun x => x + 10002) (tried1_pan g2 g3 0 none 0 0 false) Try.func45 (h := ?_)
    rintro _ _ _ ⟨rfl, hu, rfl⟩
    rw [hu]
    refine v_left [] (.tup [.agg [.one (.i .i64 0), .one (.sl 0 none 0 0)], .one (.b false)]) (.cons (.cell inferInstance rfl rfl rfl rfl) (.cons (.cell inferInstance rfl rfl rfl rfl) .nil)) (h := ?_)
    exact .inr ⟨hno, rfl, rfl⟩
def Told (S : Int → List AssetP → Prop) (ok : Bool) (v : ValueM) : Prop := (ok = true ∧ S v.coin v.assets) ∨ (ok = false ∧ (∀ co p, ¬ S co p) ∧ v.coin = 0 ∧ v.assets = [])
theorem add_spec (A : Option Addr) (l : List ValueM) (c : Nat) (hl : l.length ≤ 30000) (hf : ∀ v ∈ l, FitV v) : CSpec Try.prog 7 [.one (.sl 0 A l.length c)] [(0, rdValues A l)] [] fun o L => ∃ v ok, Told (Adds l) ok v ∧ o = .ret (.tup [.agg [.one (.i .i64 v.coin), .one (.sl 0 v.A v.assets.length v.c)], .one (.b ok)]) ∧ L = [Res.rows v.A v.c 54 assetEn v.assets] := by
  refine v_enter Try.func7 (h := fun w0 => ?_)
  refine v_code [] (hk := ?_)
  refine l_do d_box (fun g1 => ?_)
  refine l_do d_alloc (fun g2 => ?_)
  refine v_ops [] (hk := ?_)
  refine v_call 20250 [(7, 10001), (1, 0)] (triedAdd_spec g1 A l c hl hf) Try.func22 (h := ?_)
  rintro _ _ (⟨co, B, d, p, ha, rfl, rfl⟩ | ⟨hno, rfl, rfl⟩)
  · refine v_ops [] (hk := ?_)
    refine k_ret [20250] (.tup [.agg [.one (.i .i64 co), .one (.sl 0 B p.length d)], .one (.b true)]) (.cons (.cell inferInstance rfl rfl rfl rfl) (.cons (.tmp rfl) .nil)) (h := ?_)
    exact ⟨⟨co, B, d, p⟩, true, .inl ⟨rfl, ha⟩, rfl, rfl⟩
  · refine v_ops [] (hk := ?_)
    refine k_nil 700 54 assetEn ?_
    refine k_ret [700] (.tup [.agg [.one (.i .i64 0), .one (.sl 0 none 0 0)], .one (.b false)]) (.cons (.cell inferInstance rfl rfl rfl rfl) (.cons (.tmp rfl) .nil)) (h := ?_)
    exact ⟨⟨0, none, 0, []⟩, false, .inr ⟨rfl, hno, rfl, rfl⟩, rfl, rfl⟩
end Go.Proofs.Ytlnckcgbpilmdaa
/- Differences: plain. -/

set_option linter.unusedVariables false
namespace Go.Proofs.Ytlnckcgbpilmdaa
open Go Go.RowKit HL
def Subs (a b : ValueM) (co : Int) (p : List AssetP) : Prop := RightV a.coin a.assets ∧ RightV b.coin b.assets ∧ co = a.coin - b.coin ∧ 0 ≤ co ∧ (∀ n, tot b.assets n ≤ tot a.assets n) ∧ IsB (fun n => tot a.assets n - tot b.assets n) p ∧ p.length ≤ 30
theorem tot_key {P : List AssetP} (hn : (P.map AssetP.key).Nodup) : ∀ x ∈ P, tot P x.key = x.amount := by
  induction P with
  | nil => intro x hx; cases hx
  | cons y P ih =>
    intro x hx
    rw [List.map_cons, List.nodup_cons] at hn
    rw [tot_cons]
    rcases List.mem_cons.1 hx with rfl | hx
    · rw [if_pos rfl]
      have : tot P x.key = 0 := by
        by_cases h : tot P x.key = 0
        · exact h
        · obtain ⟨z, hz, e⟩ := tot_mem h
          exact absurd (by rw [← e]; exact List.mem_map_of_mem hz) hn.1
      omega
    · have hne : ¬ x.key = y.key := fun e => hn.1 (by rw [← e]; exact List.mem_map_of_mem hx)
      rw [if_neg hne, ih hn.2 x hx]
      omega
theorem fill_one {v : ValueM} (hr : RightV v.coin v.assets) (hc : v.coin ≤ Max) (hf : ∀ x ∈ v.assets, x.amount ≤ Max) : FillOk [v] := by
  refine ⟨fun w hw => ?_, ?_, fun n => ?_⟩
  · rw [List.mem_singleton.1 hw]; exact hr
  · rw [csum_one]; exact hc
  · rw [AL_one]
    by_cases h : tot v.assets n = 0
    · rw [h]; decide
    · obtain ⟨x, hx, e⟩ := tot_mem h
      rw [← e, tot_key hr.2.1.2.1.nodup x hx]
      exact hf x hx
theorem fill_one_not {v : ValueM} (hc : v.coin ≤ Max) (hf : ∀ x ∈ v.assets, x.amount ≤ Max) (h : ¬ FillOk [v]) : ¬ RightV v.coin v.assets := fun hr => h (fill_one hr hc hf)
theorem less_over {a P : List AssetP} {k : Nat} {d : AssetP} (hk : k < P.length) {m : List (NameP × Int × Nat)} {c : Nat} (h : PM (fun n => tot a n - tot (P.take k) n) m c) (hp : ∀ x ∈ P, 1 ≤ x.amount) (ho : ¬ (P.getD k d).amount ≤ (mlook m (P.getD k d).key).getD 0) : ¬ ∀ n, tot P n ≤ tot a n := fun hn => by
  have h1 := hn (P.getD k d).key
  rw [split_at (d := d) hk, tot_app, tot_app, tot_one] at h1
  rw [if_pos (by rw [← split_at hk])] at h1
  rw [← split_at hk] at h1
  rw [h.look] at ho
  have h2 := tot_nonneg (P := P.drop (k + 1)) (P.getD k d).key fun x hx => hp x (List.mem_of_mem_drop hx)
  omega
theorem PM.lessD {a P : List AssetP} {k : Nat} {d : AssetP} (hk : k < P.length) {m : List (NameP × Int × Nat)} {c : Nat} (h : PM (fun n => tot a n - tot (P.take k) n) m c) (hp : ∀ x ∈ P, 1 ≤ x.amount) (ho : (P.getD k d).amount ≤ (mlook m (P.getD k d).key).getD 0) : PM (fun n => tot a n - tot (P.take (k + 1)) n) (mput m c (P.getD k d).key ((mlook m (P.getD k d).key).getD 0 - (P.getD k d).amount)) (mclk m c (P.getD k d).key) := by
  rw [take_getD (d := d) hk]
  exact h.less (hp _ (getD_mem hk)) ho
theorem PM.take_all {a P : List AssetP} {k : Nat} (hk : ¬ k < P.length) {m : List (NameP × Int × Nat)} {c : Nat} (h : PM (fun n => tot a n - tot (P.take k) n) m c) : PM (fun n => tot a n - tot P n) m c := by
  rwa [take_all' hk] at h
end Go.Proofs.Ytlnckcgbpilmdaa
/- Sub, Covers. -/


set_option linter.unusedVariables false
set_option linter.unusedSimpArgs false
set_option maxRecDepth 100000
namespace Go.Proofs.Ytlnckcgbpilmdaa
open Go Go.RowKit HL
theorem sub1_spec (g0 g1 : Nat) (a b : ValueM) (ha : FitV a) (hb : FitV b) : CSpec Try.prog 30 [.one (.ptr 0 ⟨g0, 0, none⟩), .one (.ptr 1 ⟨g1, 0, none⟩)] [(0, Res.va g0 24 [.one (.i .i64 b.coin), .one (.sl 2 b.A b.assets.length b.c)]), (1, Res.va g1 24 [.one (.i .i64 a.coin), .one (.sl 3 a.A a.assets.length a.c)]), (2, Res.rd b.A assetEn b.assets), (3, Res.rd a.A assetEn a.assets)] [] fun o L => (∃ co B d p, Subs a b co p ∧ o = .ret (.s (.agg [.one (.i .i64 co), .one (.sl 0 B p.length d)])) ∧ L = [Res.rows B d 54 assetEn p]) ∨ ((∀ co p, ¬ Subs a b co p) ∧ o = .pan thrown ∧ L = []) := by
  have hla := ha.1
  have hlb := hb.1
  refine v_enter Try.func30 (h := fun w0 => ?_)
  refine v_code [] (hk := ?_)
  refine l_do d_alloc (fun g2 => ?_)
  refine v_ops [] (hk := ?_)
  refine v_call 20350 [] (right_spec b.coin b.A b.assets b.c hb.1) Try.func9 (h := ?_)
  rintro _ _ (⟨rfl, rfl⟩)
  refine v_call 20400 [] (must_spec (decide (RightV b.coin b.assets))) Try.func31 (h := ?_)
  rintro _ _ (⟨hr, rfl, rfl⟩ | ⟨hr, rfl, rfl⟩)
  · simp only [decide_eq_true_eq] at hr
    have hrl := hr.2.1.2.2
    refine v_ops [] (hk := ?_)
    refine l_do (d_bslice [a]) (fun B10 => ?_)
    refine v_callD 20550 [] (filled_spec 20551 B10 [a] 1 (by simp) (by intro v hv; rw [List.mem_singleton.1 hv]; exact ha)) Try.func24 (hB := ⟨⟨_, (Der.rdn (Der.vw 10010) (Each.cons (Der.vw 3) Each.nil)), rfl⟩, trivial⟩) (h := ?_)
    rintro _ _ (⟨g11, gm, co, m0, cl0, hi, rfl, rfl⟩ | ⟨hno, rfl, rfl⟩)
    · have hra : RightV a.coin a.assets := hi.r a (by simp)
      have hco : co = a.coin := by rw [hi.sum, csum_one]
      subst hco
      have hj0 := hi.j.pm
      rw [AL_one] at hj0
      refine v_ops [] (hk := ?_)
      refine v_draw (.q 0 (.q 1 (.q 2 (.q 3 (.q 4 (.q 6 (.q 7 (.s 5 (.s 8 (.q 9 (.q 10 (.s 11 .nil)))))))))))) [10002] (hm := by kernel_rfl) (hs := by kernel_rfl) (hk := by kernel_rfl) (h := ?_)
      refine v_sch [] (hk := ?_)
      refine v_callS rfl 21000 [] (less_spec ⟨g11, 0, none⟩ a.coin b.coin ⟨hr.1, hb.2.1.2⟩ ha.2.1) Try.func32 (h := ?_)
      rintro _ _ (⟨hc, rfl, rfl⟩ | ⟨hc, rfl, rfl⟩)
      · refine ⟨cov_of (by repeat (first | exact trivial | refine ⟨rfl, ?_⟩)), ?_⟩
        refine v_sch [] (hk := ?_)
        refine v_loop (fun m E H => ∃ (k : Nat) (mm : List (NameP × Int × Nat)) (cl : Nat), E = [(26, vn k)] ∧ H = [(20551, Res.mp gm nameEn (intEn .i64) mm cl)] ∧ m = b.assets.length - k ∧ k ≤ b.assets.length ∧ (PM (fun n => tot a.assets n - tot (b.assets.take k) n) mm cl) ∧ (mm.length ≤ 30 + k)) [2, 3, 24, 25, 48, 49] (b.assets.length) ([(26, vn 0)]) ([(20551, Res.mp gm nameEn (intEn .i64) (m0) (cl0))]) (h0 := ⟨0, m0, cl0, rfl, rfl, by omega, by omega, by simpa [tot_nil] using hj0, by have := hi.j.len; rw [AL_one] at this; have := hra.2.1.2.2; omega⟩) (hr := ?_)
        rintro _ _ _ ⟨k, mm, cl, rfl, rfl, hmk, hk, hik0, hik1⟩
        refine v_code [] (hk := ?_)
        first | refine c_ifd rfl (fun h27 => ?_) (fun h27 => ?_) | refine c_ifn rfl (fun h27 => ?_) (fun h27 => ?_) | refine c_if rfl (fun h27 => ?_) (fun h27 => ?_)
        · have hx := hb.2.2 _ (getD_mem (d := asset0) h27)
          have hx1 := hr.2.2 _ (getD_mem (d := asset0) h27)
          refine v_code [] (hk := ?_)
          refine l_do d_alloc (fun g5 => ?_)
          refine v_ops [] (hk := ?_)
          refine v_draw (.q 0 (.q 1 (.q 2 (.q 3 (.q 4 (.q 6 (.q 7 (.q 8 (.q 9 (.q 10 (.q 11 (.q 14 (.q 15 (.s 5 (.s 12 (.s 13 (.s 16 (.s 17 .nil)))))))))))))))))) [20550, 10005, 10002] (hm := by kernel_rfl) (hs := by kernel_rfl) (hk := by kernel_rfl) (h := ?_)
          refine v_sch [] (hk := ?_)
          refine v_callS rfl 21750 [] (nameof_spec (b.assets.getD k asset0)) Try.func33 (h := ?_)
          rintro _ _ (⟨rfl, rfl⟩)
          refine ⟨cov_of (by repeat (first | exact trivial | refine ⟨rfl, ?_⟩)), ?_⟩
          refine v_callS rfl 22100 [] (nameof_spec (b.assets.getD k asset0)) Try.func33 (h := ?_)
          rintro _ _ (⟨rfl, rfl⟩)
          refine ⟨cov_of (by repeat (first | exact trivial | refine ⟨rfl, ?_⟩)), ?_⟩
          refine s_rd rfl (r_lookup1 (k := (b.assets.getD k asset0).key)) ?_
          refine v_callS rfl 22300 [] (less_spec ⟨g11, 0, none⟩ ((mlook mm (b.assets.getD k asset0).key).getD 0) (b.assets.getD k asset0).amount ⟨by omega, hx.2⟩ (by have h1 := hik0.rng (b.assets.getD k asset0).key; have h2 := hik0.look (b.assets.getD k asset0).key; exact ⟨by omega, by rw [h2]; exact h1.2⟩)) Try.func32 (h := ?_)
          rintro _ _ (⟨hc2, rfl, rfl⟩ | ⟨hc2, rfl, rfl⟩)
          · refine ⟨cov_of (by repeat (first | exact trivial | refine ⟨rfl, ?_⟩)), ?_⟩
            refine s_do1 rfl (d_mapUpdate (k := (b.assets.getD k asset0).key)) ?_
            refine v_sch [] (hk := ?_)
            refine v_again (b.assets.length - (k + 1)) ⟨k + 1, mput mm cl (b.assets.getD k asset0).key ((mlook mm (b.assets.getD k asset0).key).getD 0 - (b.assets.getD k asset0).amount), mclk mm cl (b.assets.getD k asset0).key, rfl, rfl, by omega, by omega, hik0.lessD h27 hr.2.2 hc2, by have := mput_len mm cl (b.assets.getD k asset0).key ((mlook mm (b.assets.getD k asset0).key).getD 0 - (b.assets.getD k asset0).amount); omega⟩
          · refine v_ex [] (hk := ?_)
            refine k_pan [] (h := ?_)
            exact .inr ⟨fun co p h => less_over h27 hik0 hr.2.2 hc2 h.2.2.2.2.1, rfl, rfl⟩
        · refine v_code [] (hk := ?_)
          refine v_call 22450 [(0, 20550), (1, 20551)] (bundle_spec g11 gm (a.coin - b.coin) (fun n => tot a.assets n - tot b.assets n) mm cl (hik0.take_all h27) hik0.wf (by omega)) Try.func25 (h := ?_)
          rintro _ _ (⟨B, d, p, hb2, hp, rfl, rfl⟩ | ⟨hno, rfl, rfl⟩)
          · refine v_ops [] (hk := ?_)
            refine k_ret [22450] (.s (.agg [.one (.i .i64 (a.coin - b.coin)), .one (.sl 0 B p.length d)])) (.cons (.cell inferInstance rfl rfl rfl rfl) .nil) (h := ?_)
            exact .inl ⟨_, B, d, p, ⟨hra, hr, rfl, by omega, fun n => by have := (hik0.take_all h27).rng n; omega, hb2, hp⟩, rfl, rfl⟩
          · refine v_ex [] (hk := ?_)
            refine k_pan [] (h := ?_)
            exact .inr ⟨fun co p h => hno p h.2.2.2.2.2.1 h.2.2.2.2.2.2, rfl, rfl⟩
      · refine v_ex [] (hk := ?_)
        refine k_pan [] (h := ?_)
        exact .inr ⟨fun co p h => by have := h.2.2.1; have := h.2.2.2.1; omega, rfl, rfl⟩
    · refine v_ex [] (hk := ?_)
      refine k_pan [] (h := ?_)
      exact .inr ⟨fun co p h => fill_one_not ha.2.1.2 (fun x hx => (ha.2.2 x hx).2) hno h.1, rfl, rfl⟩
  · simp only [decide_eq_false_iff_not] at hr
    refine v_ex [] (hk := ?_)
    refine k_pan [] (h := ?_)
    exact .inr ⟨fun co p h => hr h.2.1, rfl, rfl⟩
theorem triedSub_spec (g0 g1 : Nat) (a b : ValueM) (ha : FitV a) (hb : FitV b) : CSpec Try.prog 22 [.one (.fn 30 [.pointer (some ⟨g0, 0, none⟩), .pointer (some ⟨g1, 0, none⟩)] [7, 8])] [(7, Res.va g0 24 [.one (.i .i64 b.coin), .one (.sl 5 b.A b.assets.length b.c)]), (8, Res.va g1 24 [.one (.i .i64 a.coin), .one (.sl 6 a.A a.assets.length a.c)]), (5, Res.rd b.A assetEn b.assets), (6, Res.rd a.A assetEn a.assets)] [] fun o L => (∃ co B d p, Subs a b co p ∧ o = .ret (.tup [.agg [.one (.i .i64 co), .one (.sl 0 B p.length d)], .one (.b true)]) ∧ L = [Res.rows B d 54 assetEn p]) ∨ ((∀ co p, ¬ Subs a b co p) ∧ o = .ret (.tup [.agg [.one (.i .i64 0), .one (.sl 0 none 0 0)], .one (.b false)]) ∧ L = []) := by
  refine v_enterD Try.func22 (h := fun w0 => ?_)
  refine v_code [] (hk := ?_)
  refine l_do d_alloc (fun g2 => ?_)
  refine l_do d_alloc (fun g3 => ?_)
  refine v_ops [] (hk := ?_)
  refine l_defer (h := ?_)
  refine v_ops [] (hk := ?_)
  refine v_call 20300 [(0, 7), (1, 8), (2, 5), (3, 6)] (sub1_spec g0 g1 a b ha hb) Try.func30 (h := ?_)
  rintro _ _ (⟨co, B, d, p, hs, rfl, rfl⟩ | ⟨hno, rfl, rfl⟩)
  · refine v_ops [] (hk := ?_)
    refine v_leave _ rfl ?_
    refine v_defers (args := []) 10002 (fun x => x + 10002) (tried1_ret g2 g3 [.one (.i .i64 co), .one (.sl 0 B p.length d)] [.one (.b true)]) Try.func45 (h := ?_)
    rintro _ _ _ ⟨rfl, rfl, rfl⟩
    refine v_left [20300] (.tup [.agg [.one (.i .i64 co), .one (.sl 0 B p.length d)], .one (.b true)]) (.cons (.cell inferInstance rfl rfl rfl rfl) (.cons (.cell inferInstance rfl rfl rfl rfl) .nil)) (h := ?_)
    exact .inl ⟨co, B, d, p, hs, rfl, rfl⟩
  · refine v_ex [] (hk := ?_)
    refine v_leave _ rfl ?_
    refine v_defers (args := []) 10002 (fun x => x + 10002) (tried1_pan g2 g3 0 none 0 0 false) Try.func45 (h := ?_)
    rintro _ _ _ ⟨rfl, hu, rfl⟩
    rw [hu]
    refine v_left [] (.tup [.agg [.one (.i .i64 0), .one (.sl 0 none 0 0)], .one (.b false)]) (.cons (.cell inferInstance rfl rfl rfl rfl) (.cons (.cell inferInstance rfl rfl rfl rfl) .nil)) (h := ?_)
    exact .inr ⟨hno, rfl, rfl⟩
theorem sub_spec (a b : ValueM) (ha : FitV a) (hb : FitV b) : CSpec Try.prog 10 [.agg [.one (.i .i64 a.coin), .one (.sl 101 a.A a.assets.length a.c)], .agg [.one (.i .i64 b.coin), .one (.sl 201 b.A b.assets.length b.c)]] [(101, Res.rd a.A assetEn a.assets), (201, Res.rd b.A assetEn b.assets)] [] fun o L => ∃ v ok, Told (Subs a b) ok v ∧ o = .ret (.tup [.agg [.one (.i .i64 v.coin), .one (.sl 0 v.A v.assets.length v.c)], .one (.b ok)]) ∧ L = [Res.rows v.A v.c 54 assetEn v.assets] := by
  refine v_enter Try.func10 (h := fun w0 => ?_)
  refine v_code [] (hk := ?_)
  refine l_do d_box (fun g2 => ?_)
  refine l_do d_box (fun g3 => ?_)
  refine l_do d_alloc (fun g4 => ?_)
  refine v_ops [] (hk := ?_)
  refine v_call 20350 [(7, 10003), (8, 10002), (5, 201), (6, 101)] (triedSub_spec g3 g2 a b ha hb) Try.func22 (h := ?_)
  rintro _ _ (⟨co, B, d, p, ha, rfl, rfl⟩ | ⟨hno, rfl, rfl⟩)
  · refine v_ops [] (hk := ?_)
    refine k_ret [20350] (.tup [.agg [.one (.i .i64 co), .one (.sl 0 B p.length d)], .one (.b true)]) (.cons (.cell inferInstance rfl rfl rfl rfl) (.cons (.tmp rfl) .nil)) (h := ?_)
    exact ⟨⟨co, B, d, p⟩, true, .inl ⟨rfl, ha⟩, rfl, rfl⟩
  · refine v_ops [] (hk := ?_)
    refine k_nil 700 54 assetEn ?_
    refine k_ret [700] (.tup [.agg [.one (.i .i64 0), .one (.sl 0 none 0 0)], .one (.b false)]) (.cons (.cell inferInstance rfl rfl rfl rfl) (.cons (.tmp rfl) .nil)) (h := ?_)
    exact ⟨⟨0, none, 0, []⟩, false, .inr ⟨rfl, hno, rfl, rfl⟩, rfl, rfl⟩
end Go.Proofs.Ytlnckcgbpilmdaa
/- Wide numbers: plain. -/

set_option linter.unusedVariables false
namespace Go.Proofs.Ytlnckcgbpilmdaa
open Go Go.RowKit HL
structure WideP where
  hi : Int
  lo : Int
  deriving DecidableEq
def wz : WideP := ⟨0, 0⟩
def wrap64 (n : Int) : Int := if n % 18446744073709551616 ≥ 9223372036854775808 then n % 18446744073709551616 - 18446744073709551616 else n % 18446744073709551616
theorem wrap_i64 (n : Int) : IntKind.i64.wrap n = wrap64 n := by
  unfold IntKind.wrap wrap64
  simp [IntKind.signed, IntKind.bits]
theorem wrap_u64 (n : Int) : IntKind.u64.wrap n = n % 18446744073709551616 := by
  unfold IntKind.wrap
  simp [IntKind.signed, IntKind.bits]
def wOf (x : Int) : WideP := ⟨wrap64 (x / 18446744073709551616), x % 18446744073709551616⟩
def num (w : WideP) : Int := w.hi * 18446744073709551616 + w.lo
def WOk (w : WideP) : Prop := -9223372036854775808 ≤ w.hi ∧ w.hi ≤ 9223372036854775807 ∧ 0 ≤ w.lo ∧ w.lo < 18446744073709551616
theorem wOf_ok (x : Int) : WOk (wOf x) := by
  unfold WOk wOf wrap64
  simp only
  split <;> omega
theorem wOf_num {w : WideP} (h : WOk w) : wOf (num w) = w := by
  obtain ⟨h1, h2, h3, h4⟩ := h
  cases w with
  | mk a b =>
    simp only at h1 h2 h3 h4
    unfold wOf num wrap64
    simp only [WideP.mk.injEq]
    constructor
    · split <;> omega
    · omega
theorem wOf_eq {x y : Int} : wOf x = wOf y ↔ (x - y) % 340282366920938463463374607431768211456 = 0 := by
  unfold wOf wrap64
  simp only [WideP.mk.injEq]
  constructor
  · rintro ⟨h1, h2⟩
    split at h1 <;> split at h1 <;> omega
  · intro h
    constructor
    · split <;> split <;> omega
    · omega
theorem num_wOf (x : Int) : (num (wOf x) - x) % 340282366920938463463374607431768211456 = 0 := wOf_eq.1 (wOf_num (wOf_ok x))
theorem wOf_add (x y : Int) : wOf (num (wOf x) + y) = wOf (x + y) := by
  rw [wOf_eq]
  have := num_wOf x
  omega
theorem wOf_addR (x y : Int) : wOf (x + num (wOf y)) = wOf (x + y) := by
  rw [Int.add_comm, wOf_add, Int.add_comm]
theorem wOf_cancel {x y : Int} (m : Int) : wOf (x + m) = wOf (y + m) ↔ wOf x = wOf y := by
  rw [wOf_eq, wOf_eq]
  constructor <;> intro h <;> omega
theorem wOf_carry {a b : WideP} (ha : WOk a) (hb : WOk b) : (⟨IntKind.i64.wrap ((IntKind.u64.wrap a.hi + IntKind.u64.wrap b.hi + (a.lo + b.lo) / 18446744073709551616) % 18446744073709551616), (a.lo + b.lo) % 18446744073709551616⟩ : WideP) = wOf (num a + num b) := by
  obtain ⟨h1, h2, h3, h4⟩ := ha
  obtain ⟨g1, g2, g3, g4⟩ := hb
  rw [wrap_i64, wrap_u64, wrap_u64]
  unfold wOf num wrap64
  simp only [WideP.mk.injEq]
  have e1 : (a.hi * 18446744073709551616 + a.lo + (b.hi * 18446744073709551616 + b.lo)) / 18446744073709551616 = a.hi + b.hi + (a.lo + b.lo) / 18446744073709551616 := by omega
  constructor
  · rw [e1]
    generalize (a.lo + b.lo) / 18446744073709551616 = c
    have e2 : (a.hi % 18446744073709551616 + b.hi % 18446744073709551616 + c) % 18446744073709551616 % 18446744073709551616 = (a.hi + b.hi + c) % 18446744073709551616 := by omega
    rw [e2]
  · omega
theorem wOf_int {n : Int} (h : -9223372036854775808 ≤ n ∧ n ≤ 9223372036854775807) : (⟨n / 2 ^ Int.toNat 63, IntKind.u64.wrap n⟩ : WideP) = wOf n := by
  rw [wrap_u64]
  unfold wOf wrap64
  simp only [WideP.mk.injEq, and_true]
  rw [show (2 : Int) ^ Int.toNat 63 = 9223372036854775808 from by decide]
  split <;> omega
theorem wOf_zero : wOf 0 = wz := by decide
end Go.Proofs.Ytlnckcgbpilmdaa
/- Wide, Plus. -/


set_option linter.unusedVariables false
set_option linter.unusedSimpArgs false
set_option maxRecDepth 100000
namespace Go.Proofs.Ytlnckcgbpilmdaa
open Go Go.RowKit HL
def wideEn : En WideP := ⟨fun x => .agg [.one (.i .i64 x.hi), .one (.i .u64 x.lo)], true, 2, fun _ => ⟨rfl, rfl⟩, by decide⟩
instance : Df WideP wz := ⟨⟩
instance : ElT Try.prog 39 wideEn := ⟨⟩
theorem wide_spec (n : Int) (h : Fits64 n) : CSpec Try.prog 36 [.one (.i .i64 n)] [] [] fun o L => o = .ret (.s (.agg [.one (.i .i64 (wOf n).hi), .one (.i .u64 (wOf n).lo)])) ∧ L = [] := by
  refine v_enter Try.func36 (h := fun w0 => ?_)
  refine v_code [6] (hk := ?_)
  refine l_do d_alloc (fun g2 => ?_)
  refine v_ops [6] (hk := ?_)
  refine l_rd (r_shr) ?_
  refine v_ops [6] (hk := ?_)
  refine v_ret rfl [] (.cons (.cell inferInstance rfl rfl rfl rfl) .nil) (h := ?_)
  rw [← wOf_int h]
  exact ⟨rfl, rfl⟩
def add64E : Array Value → Sem Value := fun args => do
  let (x, y, c) ← Extern.MathBitsCarry.three "Add64" args
  pure (Extern.MathBitsCarry.pair ((x + y + c) % Extern.MathBitsCarry.m64) ((x + y + c) / Extern.MathBitsCarry.m64))
theorem run_add64 {a : Act} {w : World} {x y z : Operand} {p q c : Int} {tys : Array TypeId} {dst : Option Tmp} {ty : TypeId} {pos : String} {af : Array Edge} {gd : Option (Nat × Bool)} (h1 : a.eval x = .int .u64 p) (h2 : a.eval y = .int .u64 q) (h3 : a.eval z = .int .u64 c) (hp : 0 ≤ p) (hq : 0 ≤ q) (hc : 0 ≤ c ∧ c ≤ 1) : (execOp a.eval ⟨dst, .call { callee := .value (.func 39), args := #[x, y, z], argTypes := tys }, ty, pos, af, gd⟩).run Try.prog w = .ok (.value (TV.tup [.one (.i .u64 ((p + q + c) % 18446744073709551616)), .one (.i .u64 ((p + q + c) / 18446744073709551616))]).den) w := by
  refine run_ext (args := #[.int .u64 p, .int .u64 q, .int .u64 c]) (by simp [h1, h2, h3]) ?_
  refine run_stand Try.func39 (by kernel_rfl) rfl (by kernel_rfl) (e := add64E) (by kernel_rfl) ?_
  obtain ⟨p, rfl⟩ : ∃ k : Nat, p = k := ⟨p.toNat, by omega⟩
  obtain ⟨q, rfl⟩ : ∃ k : Nat, q = k := ⟨q.toNat, by omega⟩
  obtain ⟨c, rfl⟩ : ∃ k : Nat, c = k := ⟨c.toNat, by omega⟩
  have hc' : ¬ c > 1 := by omega
  rw [show add64E #[.int .u64 (p : Int), .int .u64 (q : Int), .int .u64 (c : Int)] = (do
    let (x, y, c) ← (do
      let c := (← asInt (.int .u64 (c : Int))).toNat
      if c > 1 then unsupported (.noEntry ("extern/math/bits." ++ "Add64" ++ ": a carry that is neither 0 nor 1"))
      pure ((← asInt (.int .u64 (p : Int))).toNat, (← asInt (.int .u64 (q : Int))).toNat, c) : Sem (Nat × Nat × Nat))
    pure (Extern.MathBitsCarry.pair ((x + y + c) % Extern.MathBitsCarry.m64) ((x + y + c) / Extern.MathBitsCarry.m64))) from rfl]
  simp only [Sem.run_bind, asInt, Sem.run_pure, Result.andThen_ok, Int.toNat_natCast, hc', if_false]
  simp only [asIntOf, Sem.run_pure, Result.andThen_ok, Int.toNat_natCast, hc', if_false, Sem.run_bind]
  have e1 : ((p : Int) + q + c) % 18446744073709551616 = (((p + q + c) % Extern.MathBitsCarry.m64 : Nat) : Int) := by
    rw [show Extern.MathBitsCarry.m64 = 18446744073709551616 from rfl]
    omega
  have e2 : ((p : Int) + q + c) / 18446744073709551616 = (((p + q + c) / Extern.MathBitsCarry.m64 : Nat) : Int) := by
    rw [show Extern.MathBitsCarry.m64 = 18446744073709551616 from rfl]
    omega
  rw [e1, e2]
  rfl
def wsum (l : List WideP) : Int := (l.map num).sum
theorem wsum_snoc {l : List WideP} {k : Nat} {d : WideP} (hk : k < l.length) : wsum (l.take (k + 1)) = wsum (l.take k) + num (l.getD k d) := by
  unfold wsum
  rw [take_getD (d := d) hk, List.map_append, List.sum_append_int]
  simp
theorem plus_spec (A : Option Addr) (l : List WideP) (c : Nat) (hl : l.length ≤ 1048576) (hw : ∀ w ∈ l, WOk w) : CSpec Try.prog 14 [.one (.sl 0 A l.length c)] [(0, Res.rd A wideEn l)] [] fun o L => o = .ret (.s (.agg [.one (.i .i64 (wOf (wsum l)).hi), .one (.i .u64 (wOf (wsum l)).lo)])) ∧ L = [] := by
  refine v_enter Try.func14 (h := fun w0 => ?_)
  refine v_code [26, 29, 35] (hk := ?_)
  refine l_do d_alloc (fun g2 => ?_)
  refine v_ops [26, 29, 35] (hk := ?_)
  refine v_loop (fun m E H => ∃ (k : Nat) (s : WideP), E = [(11, vn k)] ∧ H = [(10002, Res.va g2 39 [.one (.i .i64 s.hi), .one (.i .u64 s.lo)])] ∧ m = l.length - k ∧ k ≤ l.length ∧ (s = wOf (wsum (l.take k)))) [2, 9, 10, 39] (l.length) ([(11, vn 0)]) ([(10002, Res.va g2 39 [.one (.i .i64 (wz).hi), .one (.i .u64 (wz).lo)])]) (h0 := ⟨0, wz, rfl, rfl, by omega, by omega, by rw [List.take_zero]; exact wOf_zero.symm⟩) (hr := ?_)
  rintro _ _ _ ⟨k, s, rfl, rfl, hmk, hk, hik0⟩
  refine v_code [26, 29, 35] (hk := ?_)
  first | refine c_ifd rfl (fun h12 => ?_) (fun h12 => ?_) | refine c_ifn rfl (fun h12 => ?_) (fun h12 => ?_) | refine c_if rfl (fun h12 => ?_) (fun h12 => ?_)
  · have hx := hw _ (getD_mem (d := wz) h12)
    have hy : WOk s := by rw [hik0]; exact wOf_ok _
    refine v_code [26, 29, 35] (hk := ?_)
    refine l_do d_alloc (fun g4 => ?_)
    refine v_ops [26, 29, 35] (hk := ?_)
    refine l_rd (v := .tup [.one (.i .u64 ((s.lo + (l.getD k wz).lo + 0) % 18446744073709551616)), .one (.i .u64 ((s.lo + (l.getD k wz).lo + 0) / 18446744073709551616))]) (fun a w ht hf => run_add64 (ev_sound (v := vi .u64 s.lo) ht rfl) (ev_sound (v := vi .u64 (l.getD k wz).lo) ht rfl) (ev_sound (v := vi .u64 0) ht rfl) hy.2.2.1 hx.2.2.1 (by omega)) ?_
    refine v_ops [26, 29, 35] (hk := ?_)
    have hcar : 0 ≤ (s.lo + (l.getD k wz).lo + 0) / 18446744073709551616 ∧ (s.lo + (l.getD k wz).lo + 0) / 18446744073709551616 ≤ 1 := by have := hx.2.2; have := hy.2.2; omega
    have hu1 : 0 ≤ IntKind.u64.wrap s.hi := by rw [wrap_u64]; omega
    have hu2 : 0 ≤ IntKind.u64.wrap (l.getD k wz).hi := by rw [wrap_u64]; omega
    refine l_rd (v := .tup [.one (.i .u64 ((IntKind.u64.wrap s.hi + IntKind.u64.wrap (l.getD k wz).hi + (s.lo + (l.getD k wz).lo + 0) / 18446744073709551616) % 18446744073709551616)), .one (.i .u64 ((IntKind.u64.wrap s.hi + IntKind.u64.wrap (l.getD k wz).hi + (s.lo + (l.getD k wz).lo + 0) / 18446744073709551616) / 18446744073709551616))]) (fun a w ht hf => run_add64 (ev_sound (v := vi .u64 (IntKind.u64.wrap s.hi)) ht rfl) (ev_sound (v := vi .u64 (IntKind.u64.wrap (l.getD k wz).hi)) ht rfl) (ev_sound (v := vi .u64 ((s.lo + (l.getD k wz).lo + 0) / 18446744073709551616)) ht rfl) hu1 hu2 hcar) ?_
    refine v_ops [26, 29, 35] (hk := ?_)
    refine v_again (l.length - (k + 1)) ⟨k + 1, ⟨IntKind.i64.wrap ((IntKind.u64.wrap s.hi + IntKind.u64.wrap (l.getD k wz).hi + (s.lo + (l.getD k wz).lo + 0) / 18446744073709551616) % 18446744073709551616), (s.lo + (l.getD k wz).lo + 0) % 18446744073709551616⟩, rfl, rfl, by omega, by omega, by rw [Int.add_zero, wOf_carry hy hx, hik0, wOf_add, wsum_snoc h12]⟩
  · refine v_code [26, 29, 35] (hk := ?_)
    refine v_ret rfl [] (.cons (.cell inferInstance rfl rfl rfl rfl) .nil) (h := ?_)
    rw [take_all' h12] at hik0
    subst hik0
    exact ⟨rfl, rfl⟩
end Go.Proofs.Ytlnckcgbpilmdaa
/- Books: wide sums by names. -/

set_option linter.unusedVariables false
set_option linter.unusedSimpArgs false
set_option maxRecDepth 100000
namespace Go.Proofs.Ytlnckcgbpilmdaa
open Go Go.RowKit HL
instance : ZeroOf wideEn wz (.agg [.one (.i .i64 0), .one (.i .u64 0)]) := ⟨rfl⟩
theorem badd_spec (g : Nat) (mm : List (NameP × WideP × Nat)) (cl : Nat) (n : NameP) (x : WideP) (hx : WOk x) (hm : WOk ((mlook mm n).getD wz)) : CSpec Try.prog 37 [.one (.mp 0 g), .agg [.hash n.policy, .one (.s n.name)], .agg [.one (.i .i64 x.hi), .one (.i .u64 x.lo)]] [] [(0, Res.mp g nameEn wideEn mm cl)] fun o L => o = .ret (.tup []) ∧ L = [Res.mp g nameEn wideEn (mput mm cl n (wOf (num ((mlook mm n).getD wz) + num x))) (mclk mm cl n)] := by
  have hsum : wsum [(mlook mm n).getD wz, x] = num ((mlook mm n).getD wz) + num x := by unfold wsum; simp
  refine v_enter Try.func37 (h := fun w0 => ?_)
  refine v_code [] (hk := ?_)
  refine l_do d_box (fun g4 => ?_)
  refine l_do d_box (fun g5 => ?_)
  refine v_ops [] (hk := ?_)
  refine v_draw (.q 0 (.q 1 (.q 2 (.q 3 (.q 5 (.s 4 (.s 6 (.s 7 (.s 8 .nil))))))))) [10004, 10005] (hm := by kernel_rfl) (hs := by kernel_rfl) (hk := by kernel_rfl) (h := ?_)
  refine v_sch [] (hk := ?_)
  refine s_rd rfl (r_lookup1 (k := n)) ?_
  refine s_do rfl (d_bslice [(mlook mm n).getD wz, x]) (fun B12 => ?_)
  refine v_callS rfl 20650 [] (plus_spec B12 [(mlook mm n).getD wz, x] 2 (by simp) (by intro w hw; simp at hw; rcases hw with rfl | rfl; exact hm; exact hx)) Try.func14 (h := ?_)
  rintro _ _ (⟨rfl, rfl⟩)
  refine ⟨cov_of (by repeat (first | exact trivial | refine ⟨rfl, ?_⟩)), ?_⟩
  refine s_do1 rfl (d_mapUpdate (k := n) (v := wOf (wsum [(mlook mm n).getD wz, x]))) ?_
  refine v_sch [] (hk := ?_)
  refine k_ret [0] (.tup []) .nil (h := ?_)
  rw [hsum]
  exact ⟨rfl, rfl⟩
end Go.Proofs.Ytlnckcgbpilmdaa
/- Totals in memory; held against each other; in order. -/


set_option linter.unusedVariables false
set_option linter.unusedSimpArgs false
set_option maxRecDepth 100000
set_option maxHeartbeats 8000000
namespace Go.Proofs.Ytlnckcgbpilmdaa
open Go Go.RowKit Go.Shelf Go.Lib Go.Sort HL
structure TotalP where
  policy : Hash
  name : ByteArray
  sum : WideP
  deriving DecidableEq
def total0 : TotalP := ⟨hz, ⟨#[]⟩, wz⟩
instance : Df TotalP total0 := ⟨⟩
def TotalP.key (x : TotalP) : NameP := ⟨x.policy, x.name⟩
def totalEn : En TotalP := ⟨fun x => .agg [.hash x.policy, .one (.s x.name), .one (.i .i64 x.sum.hi), .one (.i .u64 x.sum.lo)], true, 35, fun _ => ⟨rfl, rfl⟩, by decide⟩
instance : ElT Try.prog 48 totalEn := ⟨⟩
theorem fits_u64 (T : TypeId) {bytes : Nat} {z : SV} [TyA Try.prog T false 1 z bytes] (b : Int) : Fits Try.prog T (.int .u64 b) := fits_sv (P := Try.prog) (T := T) (v := .one (.i .u64 b)) rfl rfl
theorem eqV_wide : EqV Try.prog 39 (fun x : WideP => (wideEn.f x).den) 3 := eqV_struct
    [⟨Int, inferInstance, Value.int .i64, 1, WideP.hi, 2, 1, (eqTy_int (UD.is (P := Try.prog) (T := 2))).v, fits_i64 _, fun _ => rfl⟩, ⟨Int, inferInstance, Value.int .u64, 1, WideP.lo, 37, 1, (eqTy_int (UD.is (P := Try.prog) (T := 37))).v, fits_u64 _, fun _ => rfl⟩]
    Try.underlying39 (by kernel_rfl) (by kernel_rfl) (by kernel_rfl) (by intro F hF; simp at hF; rcases hF with rfl | rfl <;> simp) (fun x => SV.den_agg _) (fun x y => by cases x; cases y; simp [FE.same, Bool.decide_and])
instance eqE_wide : EqE Try.prog 39 wideEn := ⟨⟨3, by omega, eqV_wide⟩, by kernel_rfl, rfl⟩
theorem wide_den (x : WideP) : (wideEn.f x).den = .agg #[.int .i64 x.hi, .int .u64 x.lo] := by
  rw [show (wideEn.f x).den = mkS (vals [.one (.i .i64 x.hi), .one (.i .u64 x.lo)]) from SV.den_agg _]
  unfold mkS
  simp [vals, flat, At.val, PV.den, Value.cells]
theorem wide_cells (x : WideP) : (wideEn.f x).den.cells.size = 2 := by
  rw [wide_den]
  rfl
theorem fits_wide (x : WideP) : Fits Try.prog 39 (wideEn.f x).den := fits_sv (P := Try.prog) (T := 39) (v := wideEn.f x) rfl rfl
instance eqE_total : EqE Try.prog 48 totalEn := ⟨⟨4, by omega, eqV_struct
    [⟨Hash, inferInstance, hval, 2, TotalP.policy, 26, 32, (HashT.key (P := Try.prog) (T := 26)).eq.v, fits_hash, size_hval⟩, ⟨ByteArray, inferInstance, Value.string, 1, TotalP.name, 9, 1, (eqTy_str (UD.is (P := Try.prog) (T := 9))).v, fits_str _, fun _ => rfl⟩,
      ⟨WideP, inferInstance, fun x => (wideEn.f x).den, 3, TotalP.sum, 39, 2, eqV_wide, fits_wide, wide_cells⟩]
    Try.underlying48 (by kernel_rfl) (by kernel_rfl) (by kernel_rfl) (by intro F hF; simp at hF; rcases hF with rfl | rfl | rfl <;> simp) (fun x => by
      rw [show (totalEn.f x).den = mkS (vals [.hash x.policy, .one (.s x.name), .one (.i .i64 x.sum.hi), .one (.i .u64 x.sum.lo)]) from SV.den_agg _]
      unfold mkS
      congr 2
      simp only [FE.vals, List.map_cons, List.map_nil, vals, flat, List.flatMap_cons, List.flatMap_nil, At.val, wide_den]
      rfl) (fun x y => by cases x; cases y; simp [FE.same, Bool.decide_and])⟩, by kernel_rfl, rfl⟩
theorem sameTotals_spec (A B : Option Addr) (l l2 : List TotalP) (c d : Nat) (hl : l.length ≤ 1048576) : CSpec Try.prog 15 [.one (.sl 0 A l.length c), .one (.sl 1 B l2.length d)] [(0, Res.rd A totalEn l), (1, Res.rd B totalEn l2)] [] fun o L => o = .ret (vb (decide (l = l2))) ∧ L = [] := by
  refine v_enter Try.func15 (h := fun w0 => ?_)
  refine v_code [] (hk := ?_)
  first | refine c_ifd rfl (fun h10 => ?_) (fun h10 => ?_) | refine c_ifn rfl (fun h10 => ?_) (fun h10 => ?_) | refine c_if rfl (fun h10 => ?_) (fun h10 => ?_)
  · refine v_code [] (hk := ?_)
    refine v_ret rfl [] (.cons (.tmp rfl) .nil) (h := ?_)
    exact ⟨outB (decide_eq_false (fun e => h10 (by rw [e]))).symm, rfl⟩
  · refine v_code [] (hk := ?_)
    refine v_loop (fun m E H => ∃ (k : Nat), E = [(5, vn k)] ∧ H = [] ∧ m = l.length - k ∧ k ≤ l.length ∧ (l.take k = l2.take k)) [0, 1] (l.length) ([(5, vn 0)]) ([]) (h0 := ⟨0, rfl, rfl, by omega, by omega, rfl⟩) (hr := ?_)
    rintro _ _ _ ⟨k, rfl, rfl, hmk, hk, hik0⟩
    refine v_code [] (hk := ?_)
    first | refine c_ifd rfl (fun h14 => ?_) (fun h14 => ?_) | refine c_ifn rfl (fun h14 => ?_) (fun h14 => ?_) | refine c_if rfl (fun h14 => ?_) (fun h14 => ?_)
    · refine v_code [] (hk := ?_)
      refine v_draw (.q 0 (.q 1 (.q 2 (.q 3 (.q 4 (.q 5 (.q 6 (.q 7 (.q 8 .nil))))))))) [10007, 10009, 10013] (hm := by kernel_rfl) (hs := by kernel_rfl) (hk := by kernel_rfl) (h := ?_)
      refine v_sch [] (hk := ?_)
      refine q_rd rfl (r_neSt (u := l.getD k total0) (v := l2.getD k total0)) ?_
      refine v_sch [] (hk := ?_)
      first | refine c_ifd rfl (fun h25 => ?_) (fun h25 => ?_) | refine c_ifn rfl (fun h25 => ?_) (fun h25 => ?_) | refine c_if rfl (fun h25 => ?_) (fun h25 => ?_)
      · refine v_code [] (hk := ?_)
        refine v_ret rfl [] (.cons (.tmp rfl) .nil) (h := ?_)
        exact ⟨outB (decide_eq_false (fun e => h25 (by rw [e]))).symm, rfl⟩
      · refine v_code [] (hk := ?_)
        refine v_again (l.length - (k + 1)) ⟨k + 1, rfl, rfl, by omega, by omega, by rw [take_getD (d := total0) h14, take_getD (d := total0) (by omega), hik0, h25]⟩
    · refine v_code [] (hk := ?_)
      refine v_ret rfl [] (.cons (.tmp rfl) .nil) (h := ?_)
      rw [take_all' h14, take_all' (by omega)] at hik0
      exact ⟨outB (decide_eq_true hik0).symm, rfl⟩
theorem equalTotals_spec (A B : Option Addr) (l l2 : List TotalP) (c d : Nat) (hl : l.length ≤ 1048576) : CSpec Try.prog 42 [.one (.sl 0 A l.length c), .one (.sl 1 B l2.length d)] [(0, Res.rd A totalEn l), (1, Res.rd B totalEn l2)] [] fun o L => o = .ret (vb (decide (l = l2))) ∧ L = [] := by
  refine v_enter Try.func42 (h := fun w0 => ?_)
  refine v_code [] (hk := ?_)
  first | refine c_ifd rfl (fun h10 => ?_) (fun h10 => ?_) | refine c_ifn rfl (fun h10 => ?_) (fun h10 => ?_) | refine c_if rfl (fun h10 => ?_) (fun h10 => ?_)
  · refine v_code [] (hk := ?_)
    refine v_ret rfl [] (.cons (.tmp rfl) .nil) (h := ?_)
    exact ⟨outB (decide_eq_false (fun e => h10 (by rw [e]))).symm, rfl⟩
  · refine v_code [] (hk := ?_)
    refine v_loop (fun m E H => ∃ (k : Nat), E = [(13, vn k)] ∧ H = [] ∧ m = l.length - k ∧ k ≤ l.length ∧ (l.take k = l2.take k)) [0, 1, 12] (l.length) ([(13, vn 0)]) ([]) (h0 := ⟨0, rfl, rfl, by omega, by omega, rfl⟩) (hr := ?_)
    rintro _ _ _ ⟨k, rfl, rfl, hmk, hk, hik0⟩
    refine v_code [] (hk := ?_)
    first | refine c_ifd rfl (fun h14 => ?_) (fun h14 => ?_) | refine c_ifn rfl (fun h14 => ?_) (fun h14 => ?_) | refine c_if rfl (fun h14 => ?_) (fun h14 => ?_)
    · refine v_code [] (hk := ?_)
      refine v_draw (.q 0 (.q 1 (.q 2 (.q 3 (.q 4 (.q 5 (.q 6 (.q 7 (.q 8 .nil))))))))) [10007, 10009, 10012] (hm := by kernel_rfl) (hs := by kernel_rfl) (hk := by kernel_rfl) (h := ?_)
      refine v_sch [] (hk := ?_)
      refine q_rd rfl (r_neSt (u := l.getD k total0) (v := l2.getD k total0)) ?_
      refine v_sch [] (hk := ?_)
      first | refine c_ifd rfl (fun h24 => ?_) (fun h24 => ?_) | refine c_ifn rfl (fun h24 => ?_) (fun h24 => ?_) | refine c_if rfl (fun h24 => ?_) (fun h24 => ?_)
      · refine v_code [] (hk := ?_)
        refine v_ret rfl [] (.cons (.tmp rfl) .nil) (h := ?_)
        exact ⟨outB (decide_eq_false (fun e => h24 (by rw [e]))).symm, rfl⟩
      · refine v_code [] (hk := ?_)
        refine v_again (l.length - (k + 1)) ⟨k + 1, rfl, rfl, by omega, by omega, by rw [take_getD (d := total0) h14, take_getD (d := total0) (by omega), hik0, h24]⟩
    · refine v_code [] (hk := ?_)
      refine v_ret rfl [] (.cons (.tmp rfl) .nil) (h := ?_)
      rw [take_all' h14, take_all' (by omega)] at hik0
      exact ⟨outB (decide_eq_true hik0).symm, rfl⟩
shelf_lay_g SlLaysF0.n6 Slsf 6 at Try 50 as Try.sortTotal
theorem totals1_spec (x y : TotalP) : CSpec Try.prog 51 [totalEn.f x, totalEn.f y] [] [] fun o L => o = .ret (vint (nord x.key y.key)) ∧ L = [] := by
  refine v_enter Try.func51 (h := fun w0 => ?_)
  refine v_code [] (hk := ?_)
  refine l_do d_box (fun g2 => ?_)
  refine l_do d_box (fun g3 => ?_)
  refine v_ops [] (hk := ?_)
  refine v_call 20750 [] (order_spec x.key y.key) Try.func49 (h := ?_)
  rintro _ _ (⟨rfl, rfl⟩)
  refine v_ops [] (hk := ?_)
  refine v_ret rfl [] (.cons (.tmp rfl) .nil) (h := ?_)
  exact ⟨rfl, rfl⟩
def mkG (f : NameP → WideP) (n : NameP) : TotalP := ⟨n.policy, n.name, f n⟩
def nameG (f : NameP → WideP) : En NameP := ⟨fun n => totalEn.f (mkG f n), true, 35, fun x => totalEn.ok _, by decide⟩
theorem rows_nameG (A : Option Addr) (c : Nat) (f : NameP → WideP) (l : List NameP) : Res.rows A c 48 (nameG f) l = Res.rows A c 48 totalEn (l.map (mkG f)) := by
  have e : (nameG f).dens l = totalEn.dens (l.map (mkG f)) := by
    unfold En.dens
    rw [List.map_map]
    rfl
  unfold Res.rows
  rw [e, List.length_map]
  rfl
def amtT (l : List TotalP) (n : NameP) : WideP := ((atN TotalP.key l n).map TotalP.sum).getD wz
theorem amtT_of {l : List TotalP} (hn : (l.map TotalP.key).Nodup) : ∀ x ∈ l, amtT l x.key = x.sum := by
  induction l with
  | nil => intro x hx; cases hx
  | cons y l ih =>
    intro x hx
    rw [List.map_cons, List.nodup_cons] at hn
    unfold amtT atN
    rcases List.mem_cons.1 hx with rfl | hx
    · rw [List.find?_cons]; simp
    · have hne : ¬ y.key = x.key := fun e => hn.1 (by rw [e]; exact List.mem_map_of_mem hx)
      rw [List.find?_cons, decide_eq_false hne]
      exact ih hn.2 x hx
theorem back_G {l : List TotalP} (hn : (l.map TotalP.key).Nodup) : (l.map TotalP.key).map (mkG (amtT l)) = l := by
  rw [List.map_map]
  conv => rhs; rw [← List.map_id l]
  refine List.map_congr_left fun x hx => ?_
  show mkG (amtT l) x.key = x
  unfold mkG
  rw [amtT_of hn x hx]
  rfl
theorem sortTotal_spec (A : Option Addr) (c : Nat) (l : List TotalP) (hl : l.length ≤ 1048576) (hn : (l.map TotalP.key).Nodup) : CSpec Try.prog 50 [.one (.sl 0 A l.length c), .one (.fn 51 [] [])] [] [(0, Res.rows A c 48 totalEn l)] fun o L => ∃ m : List TotalP, m.Perm l ∧ Rise TotalP.key m ∧ o = .ret (.tup []) ∧ L = [Res.rows A c 48 totalEn m] := by
  have h := sort_spec Try.sortTotal (nameG (amtT l)) rfl (by intro w; exact Try.isAgg48 w) (by intro w; exact Try.sizeOf48 w) nord nord_swo nord_total 51 (fun x y => totals1_spec (mkG (amtT l) x) (mkG (amtT l) y)) (enters_of Try.func51 (by kernel_rfl) rfl) (f := 50) rfl 48 A c (l.map TotalP.key) (by rw [List.length_map]; omega)
  rw [rows_nameG, rows_nameG, back_G hn, List.length_map] at h
  refine CSpec.mono h fun o L hp => ⟨(sortN (l.map TotalP.key)).map (mkG (amtT l)), ?_, ?_, hp.1, hp.2⟩
  · have := (sortN_perm (l.map TotalP.key)).map (mkG (amtT l))
    rwa [back_G hn] at this
  · unfold Rise
    rw [List.pairwise_map]
    exact (sortN_lt hn).imp fun {a b} hab => hab
end Go.Proofs.Ytlnckcgbpilmdaa
/- Totals: plain. -/


set_option linter.unusedVariables false
namespace Go.Proofs.Ytlnckcgbpilmdaa
open Go Go.RowKit HL
def IsT (g : NameP → WideP) (l : List TotalP) : Prop := Rise TotalP.key l ∧ ∀ x, x ∈ l ↔ x.sum ≠ wz ∧ g x.key = x.sum
theorem IsT.unique {g : NameP → WideP} {l m : List TotalP} (h1 : IsT g l) (h2 : IsT g m) : l = m := rise_ext h1.1 h2.1 fun x => by rw [h1.2, h2.2]
theorem IsT.congr {g g' : NameP → WideP} {l : List TotalP} (h : IsT g l) (he : ∀ n, g n = g' n) : IsT g' l := by
  have : g = g' := funext he
  rwa [← this]
theorem IsT.same {g g' : NameP → WideP} {l : List TotalP} (h1 : IsT g l) (h2 : IsT g' l) (n : NameP) : g n = g' n := by
  by_cases h : g n = wz
  · by_cases h' : g' n = wz
    · rw [h, h']
    · have := (h2.2 ⟨n.policy, n.name, g' n⟩).2 ⟨h', rfl⟩
      have := ((h1.2 _).1 this).2
      exact this
  · have := (h1.2 ⟨n.policy, n.name, g n⟩).2 ⟨h, rfl⟩
    have := ((h2.2 _).1 this).2
    exact this.symm
theorem IsT.eq_iff {g g' : NameP → WideP} {l l' : List TotalP} (h1 : IsT g l) (h2 : IsT g' l') : l = l' ↔ ∀ n, g n = g' n :=
  ⟨fun h => by subst h; exact h1.same h2, fun h => (h1.congr h).unique h2⟩
structure BM (f : NameP → Int) (m : List (NameP × WideP × Nat)) (c : Nat) : Prop where
  wf : MWf m c
  look : ∀ n, (mlook m n).getD wz = wOf (f n)
theorem BM.nil : BM (fun _ => 0) [] 0 := ⟨MWf.nil, fun n => by rw [wOf_zero]; simp [mlook]⟩
theorem BM.ok {f : NameP → Int} {m : List (NameP × WideP × Nat)} {c : Nat} (h : BM f m c) (n : NameP) : WOk ((mlook m n).getD wz) := by
  rw [h.look]
  exact wOf_ok _
theorem BM.add {f f' : NameP → Int} {m : List (NameP × WideP × Nat)} {c : Nat} (h : BM f m c) {k : NameP} {v : WideP} {x : Int} (hv : wOf (num v) = wOf x) (hf : ∀ n, f' n = f n + if n = k then x else 0) : BM f' (mput m c k (wOf (num ((mlook m k).getD wz) + num v))) (mclk m c k) where
  wf := h.wf.put _ _
  look n := by
    rw [mlook_put, hf n]
    by_cases e : n = k
    · subst e
      rw [if_pos rfl, if_pos rfl, h.look, wOf_add]
      show wOf (f n + num v) = wOf (f n + x)
      rw [Int.add_comm, Int.add_comm (f n), wOf_cancel]
      exact hv
    · rw [if_neg e, if_neg e, h.look, Int.add_zero]
theorem BM.congr {f f' : NameP → Int} {m : List (NameP × WideP × Nat)} {c : Nat} (h : BM f m c) (he : ∀ n, f n = f' n) : BM f' m c := by
  have : f = f' := funext he
  rwa [← this]
def mkT (e : NameP × WideP × Nat) : TotalP := ⟨e.1.policy, e.1.name, e.2.1⟩
def asT (done : List (NameP × WideP × Nat)) : List TotalP := (done.filter fun e => decide (e.2.1 ≠ wz)).map mkT
theorem asT_yes {done : List (NameP × WideP × Nat)} {e : NameP × WideP × Nat} (h : e.2.1 ≠ wz) : asT (done ++ [e]) = asT done ++ [mkT e] := by
  unfold asT
  rw [List.filter_append, List.map_append]
  simp [h]
theorem asT_no {done : List (NameP × WideP × Nat)} {e : NameP × WideP × Nat} (h : ¬ e.2.1 ≠ wz) : asT (done ++ [e]) = asT done := by
  unfold asT
  rw [List.filter_append, List.map_append]
  have h' : e.2.1 = wz := by simpa using h
  simp [h']
theorem asT_len (done : List (NameP × WideP × Nat)) : (asT done).length ≤ done.length := by
  unfold asT
  rw [List.length_map]
  exact List.length_filter_le _ _
theorem asT_keys {m done : List (NameP × WideP × Nat)} {c : Nat} (hw : MWf m c) (hs : ∀ e ∈ done, e ∈ m) (hn : done.Nodup) : ((asT done).map TotalP.key).Nodup := by
  unfold asT
  rw [List.map_map]
  have h := keys_done hw (done := done.filter fun e => decide (e.2.1 ≠ wz)) (fun e he => hs e (List.mem_filter.1 he).1) (hn.filter _)
  exact h
theorem asT_mem {m done : List (NameP × WideP × Nat)} {c : Nat} (hw : MWf m c) (hs : ∀ e ∈ done, e ∈ m) (ha : ∀ e ∈ m, e ∈ done) (x : TotalP) : x ∈ asT done ↔ x.sum ≠ wz ∧ (mlook m x.key).getD wz = x.sum := by
  unfold asT
  constructor
  · intro hx
    obtain ⟨e, he, rfl⟩ := List.mem_map.1 hx
    obtain ⟨he, hp⟩ := List.mem_filter.1 he
    have hp' : e.2.1 ≠ wz := by simpa using hp
    refine ⟨hp', ?_⟩
    show (mlook m e.1).getD wz = e.2.1
    rw [mlook_mem hw (hs e he)]
    rfl
  · rintro ⟨h1, h2⟩
    cases hm : mlook m x.key with
    | none => rw [hm] at h2; exact absurd h2.symm h1
    | some v =>
      rw [hm] at h2
      obtain ⟨b, hb⟩ := mem_mlook hm
      have hv : v = x.sum := h2
      refine List.mem_map.2 ⟨(x.key, v, b), List.mem_filter.2 ⟨ha _ hb, ?_⟩, ?_⟩
      · simp [hv, h1]
      · subst hv; rfl
theorem isT_perm {g : NameP → WideP} {l bs : List TotalP} (hr : Rise TotalP.key l) (hp : l.Perm bs) (hm : ∀ x, x ∈ bs ↔ x.sum ≠ wz ∧ g x.key = x.sum) : IsT g l := ⟨hr, fun x => by rw [hp.mem_iff, hm]⟩
end Go.Proofs.Ytlnckcgbpilmdaa
/- The totals of a book; sums. -/

set_option linter.unusedVariables false
set_option linter.unusedSimpArgs false
set_option maxRecDepth 100000
namespace Go.Proofs.Ytlnckcgbpilmdaa
open Go Go.RowKit HL
theorem totals_spec (g : Nat) (mm : List (NameP × WideP × Nat)) (cl : Nat) (hw : MWf mm cl) (hm : mm.length ≤ 1048576) : CSpec Try.prog 38 [.one (.mp 0 g)] [(0, Res.mp g nameEn wideEn mm cl)] [] fun o L => ∃ A d l, IsT (fun n => (mlook mm n).getD wz) l ∧ l.length ≤ 1048576 ∧ o = .ret (vsl 0 A l.length d) ∧ L = [Res.rows A d 48 totalEn l] := by
  refine v_enter Try.func38 (h := fun w0 => ?_)
  refine v_code [] (hk := ?_)
  refine l_do d_range (fun r7 => ?_)
  refine v_ops [] (hk := ?_)
  refine k_nil 10024 48 totalEn ?_
  refine v_loop (fun m E H => ∃ done l A d, E = [(3, vsl 10024 A l.length d)] ∧ H = [(10024, Res.rows A d 48 totalEn l), (10007, Res.itr 0 r7 g cl done)] ∧ l = asT done ∧ (∀ e ∈ done, e ∈ mm) ∧ done.Nodup ∧ m = mm.length - done.length) [2, 7, 25, 27] (mm.length) ([(3, vsl 10024 none 0 0)]) ([(10024, Res.rows none 0 48 totalEn []), (10007, Res.itr 0 r7 g cl [])]) (h0 := ⟨[], [], none, 0, rfl, rfl, rfl, by simp, List.nodup_nil, rfl⟩) (hr := ?_)
  rintro _ _ _ ⟨done, l, A, d, rfl, rfl, hla, hsub, hnd, rfl⟩
  refine v_code [] (hk := ?_)
  refine l_next (fun o8 no8 yes8 => ?_)
  refine l_rd (r_extractN) ?_
  refine v_ops [] (hk := ?_)
  first | refine c_ifd rfl (fun h9 => ?_) (fun h9 => ?_) | refine c_ifn rfl (fun h9 => ?_) (fun h9 => ?_) | refine c_if rfl (fun h9 => ?_) (fun h9 => ?_)
  · have hlen2 := asT_len done
    rw [← hla] at hlen2
    obtain ⟨e, rfl⟩ := Option.isSome_iff_exists.1 h9
    obtain ⟨hme, hne⟩ := yes8 e rfl
    obtain ⟨hs2, hn2, hl2⟩ := iter_snoc hsub hnd hme hne
    refine v_code [] (hk := ?_)
    refine l_rd r_entry ?_
    refine v_ops [] (hk := ?_)
    refine l_do d_alloc (fun g4 => ?_)
    refine l_do d_alloc (fun g5 => ?_)
    refine v_ops [] (hk := ?_)
    refine l_rd (r_neSt (u := e.2.1) (v := wz)) ?_
    refine v_ops [] (hk := ?_)
    first | refine c_ifd rfl (fun h15 => ?_) (fun h15 => ?_) | refine c_ifn rfl (fun h15 => ?_) (fun h15 => ?_) | refine c_if rfl (fun h15 => ?_) (fun h15 => ?_)
    · refine v_code [] (hk := ?_)
      refine l_do (d_bslice [mkT e]) (fun B23 => ?_)
      refine l_do d_append (fun p24 => ?_)
      refine v_ops [] (hk := ?_)
      refine v_again (mm.length - (done.length + 1)) (by first | exact ⟨done ++ [e], l ++ [mkT e], p24.1, p24.2, rfl, rfl, by rw [hla, asT_yes (by simpa using h15)], hs2, hn2, by rw [List.length_append]; rfl⟩ | exact ⟨done ++ [e], l, A, d, rfl, rfl, by rw [hla, asT_no (by simpa using h15)], hs2, hn2, by rw [List.length_append]; rfl⟩)
    · refine v_code [] (hk := ?_)
      refine v_again (mm.length - (done.length + 1)) (by first | exact ⟨done ++ [e], l ++ [mkT e], p24.1, p24.2, rfl, rfl, by rw [hla, asT_yes (by simpa using h15)], hs2, hn2, by rw [List.length_append]; rfl⟩ | exact ⟨done ++ [e], l, A, d, rfl, rfl, by rw [hla, asT_no (by simpa using h15)], hs2, hn2, by rw [List.length_append]; rfl⟩)
  · have hall := no8 (by simpa using h9)
    have hmem := asT_mem hw hsub hall
    have hkeys := asT_keys hw hsub hnd
    have hlen := iter_len hsub hnd
    have hlen2 := asT_len done
    subst hla
    refine v_code [] (hk := ?_)
    refine v_call 21300 [] (sortTotal_spec A d (asT done) (by omega) hkeys) Try.func50 (h := ?_)
    rintro _ _ (⟨bs, hp, hrise, rfl, rfl⟩)
    refine v_ops [] (hk := ?_)
    have hbl := hp.length_eq
    refine k_ret [21300] (vsl 0 A (asT done).length d) (.cons (.tmp rfl) .nil) (h := ?_)
    exact ⟨A, d, bs, isT_perm hrise hp hmem, by omega, by rw [hbl], rfl⟩
end Go.Proofs.Ytlnckcgbpilmdaa
/- Sums. -/

set_option linter.unusedVariables false
set_option linter.unusedSimpArgs false
set_option maxRecDepth 100000
namespace Go.Proofs.Ytlnckcgbpilmdaa
open Go Go.RowKit HL
theorem csum_snoc {l : List ValueM} {k : Nat} {d : ValueM} (hk : k < l.length) : csum (l.take (k + 1)) = csum (l.take k) + (l.getD k d).coin := by
  rw [take_getD (d := d) hk, csum_app, csum_one]
theorem wsum_two (a b : WideP) : wsum [a, b] = num a + num b := by unfold wsum; simp
theorem AL_snoc {l : List ValueM} {k : Nat} {d : ValueM} (hk : k < l.length) : AL (l.take (k + 1)) = AL (l.take k) ++ (l.getD k d).assets := by
  rw [take_getD (d := d) hk, AL_app, AL_one]
theorem tot_snoc {P Q : List AssetP} {j : Nat} {d : AssetP} (hj : j < Q.length) (n : NameP) : tot (P ++ Q.take (j + 1)) n = tot (P ++ Q.take j) n + if n = (Q.getD j d).key then (Q.getD j d).amount else 0 := by
  rw [take_getD (d := d) hj, ← List.append_assoc, tot_app, tot_one]
def FitS (v : ValueM) : Prop := v.assets.length ≤ 1000 ∧ Fits64 v.coin ∧ ∀ x ∈ v.assets, Fits64 x.amount
theorem sums_spec (A : Option Addr) (l : List ValueM) (c : Nat) (hl : l.length ≤ 1000) (hf : ∀ v ∈ l, FitS v) : CSpec Try.prog 13 [.one (.sl 0 A l.length c)] [(0, rdValues A l)] [] fun o L => ∃ B d t, IsT (fun n => wOf (tot (AL l) n)) t ∧ t.length ≤ 1048576 ∧ o = .ret (.tup [.agg [.one (.i .i64 (wOf (csum l)).hi), .one (.i .u64 (wOf (csum l)).lo)], .one (.sl 0 B t.length d)]) ∧ L = [Res.rows B d 48 totalEn t] := by
  refine v_enter Try.func13 (h := fun w0 => ?_)
  refine v_code [] (hk := ?_)
  refine l_do d_alloc (fun g2 => ?_)
  refine v_ops [] (hk := ?_)
  refine l_do (d_makeMap nameEn wideEn) (fun g9 => ?_)
  refine v_ops [] (hk := ?_)
  refine v_loop (fun m E H => ∃ (k : Nat) (s : WideP) (m0 : List (NameP × WideP × Nat)) (cl0 : Nat), E = [(12, vn k)] ∧ H = [(10002, Res.va g2 39 [.one (.i .i64 s.hi), .one (.i .u64 s.lo)]), (10009, Res.mp g9 nameEn wideEn m0 cl0)] ∧ m = l.length - k ∧ k ≤ l.length ∧ (s = wOf (csum (l.take k))) ∧ (BM (tot (AL (l.take k))) m0 cl0) ∧ (m0.length ≤ 1000 * k)) [2, 3, 4, 10, 11, 38, 39, 40] (l.length) ([(12, vn 0)]) ([(10002, Res.va g2 39 [.one (.i .i64 (wz).hi), .one (.i .u64 (wz).lo)]), (10009, Res.mp g9 nameEn wideEn ([]) (0))]) (h0 := ⟨0, wz, [], 0, rfl, rfl, by omega, by omega, by exact wOf_zero.symm, BM.nil, by simp⟩) (hr := ?_)
  rintro _ _ _ ⟨k, s, m0, cl0, rfl, rfl, hmk, hk, hik0, hik1, hik2⟩
  refine v_code [] (hk := ?_)
  first | refine c_ifd rfl (fun h13 => ?_) (fun h13 => ?_) | refine c_ifn rfl (fun h13 => ?_) (fun h13 => ?_) | refine c_if rfl (fun h13 => ?_) (fun h13 => ?_)
  · have hv := hf _ (getD_mem (d := value0) h13)
    have hv1 := hv.1
    refine v_code [] (hk := ?_)
    refine l_do d_alloc (fun g6 => ?_)
    refine v_ops [] (hk := ?_)
    refine v_draw (.q 1 (.q 2 (.s2 0 (.s 3 (.s 4 (.s 5 (.s 6 .nil)))) 3 (.s 0 (.s 4 (.s 5 (.s 6 .nil))))))) [10006] (hm := by kernel_rfl) (hs := by kernel_rfl) (hk := by kernel_rfl) (h := ?_)
    refine v_sch [] (hk := ?_)
    refine s_two ?_ ?_
    · refine v_sch [] (hk := ?_)
      refine v_callS rfl 20950 [] (wide_spec (l.getD k value0).coin hv.2.1) Try.func36 (h := ?_)
      rintro _ _ (⟨rfl, rfl⟩)
      refine ⟨cov_of (by repeat (first | exact trivial | refine ⟨rfl, ?_⟩)), ?_⟩
      refine s_do rfl (d_bslice [s, wOf (l.getD k value0).coin]) (fun B20 => ?_)
      refine v_callS rfl 21050 [] (plus_spec B20 [s, wOf (l.getD k value0).coin] 2 (by simp) (by intro w hw; simp at hw; rcases hw with rfl | rfl; rw [hik0]; exact wOf_ok _; exact wOf_ok _)) Try.func14 (h := ?_)
      rintro _ _ (⟨rfl, rfl⟩)
      refine ⟨cov_of (by repeat (first | exact trivial | refine ⟨rfl, ?_⟩)), ?_⟩
      refine v_sch [] (hk := ?_)
      refine v_loop (fun m E H => ∃ (j : Nat) (mm : List (NameP × WideP × Nat)) (cl : Nat), E = [(25, vn j)] ∧ H = [(10009, Res.mp g9 nameEn wideEn mm cl)] ∧ m = (l.getD k value0).assets.length - j ∧ j ≤ (l.getD k value0).assets.length ∧ (BM (tot (AL (l.take k) ++ (l.getD k value0).assets.take j)) mm cl) ∧ (mm.length ≤ 1000 * k + j)) [2, 3, 4, 6, 10, 11, 12, 13, 14, 15, 16, 17, 18, 19, 20, 21, 22, 23, 24, 37, 38, 39, 40] ((l.getD k value0).assets.length) ([(25, vn 0)]) ([(10009, Res.mp g9 nameEn wideEn (m0) (cl0))]) (h0 := ⟨0, m0, cl0, rfl, rfl, by omega, by omega, by rw [List.take_zero, List.append_nil]; exact hik1, by omega⟩) (hr := ?_)
      rintro _ _ _ ⟨j, mm, cl, rfl, rfl, hmj, hj, hij0, hij1⟩
      refine v_code [] (hk := ?_)
      first | refine c_ifd rfl (fun h26 => ?_) (fun h26 => ?_) | refine c_ifn rfl (fun h26 => ?_) (fun h26 => ?_) | refine c_if rfl (fun h26 => ?_) (fun h26 => ?_)
      · have hx := hv.2.2 _ (getD_mem (d := asset0) h26)
        refine v_code [] (hk := ?_)
        refine l_do d_alloc (fun g8 => ?_)
        refine v_ops [] (hk := ?_)
        refine v_draw (.q 0 (.q 1 (.q 3 (.q 4 (.s 2 (.s 5 (.s 6 .nil))))))) [10008] (hm := by kernel_rfl) (hs := by kernel_rfl) (hk := by kernel_rfl) (h := ?_)
        refine v_sch [] (hk := ?_)
        refine v_callS rfl 21550 [] (nameof_spec ((l.getD k value0).assets.getD j asset0)) Try.func33 (h := ?_)
        rintro _ _ (⟨rfl, rfl⟩)
        refine ⟨cov_of (by repeat (first | exact trivial | refine ⟨rfl, ?_⟩)), ?_⟩
        refine v_callS rfl 21700 [] (wide_spec ((l.getD k value0).assets.getD j asset0).amount hx) Try.func36 (h := ?_)
        rintro _ _ (⟨rfl, rfl⟩)
        refine ⟨cov_of (by repeat (first | exact trivial | refine ⟨rfl, ?_⟩)), ?_⟩
        refine v_callS rfl 21750 [] (badd_spec g9 mm cl ((l.getD k value0).assets.getD j asset0).key (wOf ((l.getD k value0).assets.getD j asset0).amount) (wOf_ok _) (hij0.ok _)) Try.func37 (h := ?_)
        rintro _ _ (⟨rfl, rfl⟩)
        refine ⟨cov_of (by repeat (first | exact trivial | refine ⟨rfl, ?_⟩)), ?_⟩
        refine v_sch [] (hk := ?_)
        refine k_ren 21750 10009 rfl ?_
        refine v_again ((l.getD k value0).assets.length - (j + 1)) ⟨j + 1, mput mm cl ((l.getD k value0).assets.getD j asset0).key (wOf (num ((mlook mm ((l.getD k value0).assets.getD j asset0).key).getD wz) + num (wOf ((l.getD k value0).assets.getD j asset0).amount))), mclk mm cl ((l.getD k value0).assets.getD j asset0).key, rfl, rfl, by omega, by omega, hij0.add (wOf_num (wOf_ok _)) (tot_snoc (d := asset0) h26), by have := mput_len mm cl ((l.getD k value0).assets.getD j asset0).key (wOf (num ((mlook mm ((l.getD k value0).assets.getD j asset0).key).getD wz) + num (wOf ((l.getD k value0).assets.getD j asset0).amount))); omega⟩
      · refine v_code [] (hk := ?_)
        refine v_again (l.length - (k + 1)) ⟨k + 1, wOf (wsum [s, wOf (l.getD k value0).coin]), mm, cl, rfl, rfl, by omega, by omega, by rw [csum_snoc (d := value0) h13, wsum_two, hik0, wOf_add, wOf_addR], by rw [AL_snoc (d := value0) h13]; rw [take_all' h26] at hij0; exact hij0, by omega⟩
    · refine v_callS rfl 20950 [] (wide_spec (l.getD k value0).coin hv.2.1) Try.func36 (h := ?_)
      rintro _ _ (⟨rfl, rfl⟩)
      refine ⟨cov_of (by repeat (first | exact trivial | refine ⟨rfl, ?_⟩)), ?_⟩
      refine v_sch [] (hk := ?_)
      refine s_do rfl (d_bslice [s, wOf (l.getD k value0).coin]) (fun B20 => ?_)
      refine v_callS rfl 21050 [] (plus_spec B20 [s, wOf (l.getD k value0).coin] 2 (by simp) (by intro w hw; simp at hw; rcases hw with rfl | rfl; rw [hik0]; exact wOf_ok _; exact wOf_ok _)) Try.func14 (h := ?_)
      rintro _ _ (⟨rfl, rfl⟩)
      refine ⟨cov_of (by repeat (first | exact trivial | refine ⟨rfl, ?_⟩)), ?_⟩
      refine v_sch [] (hk := ?_)
      refine v_loop (fun m E H => ∃ (j : Nat) (mm : List (NameP × WideP × Nat)) (cl : Nat), E = [(25, vn j)] ∧ H = [(10009, Res.mp g9 nameEn wideEn mm cl)] ∧ m = (l.getD k value0).assets.length - j ∧ j ≤ (l.getD k value0).assets.length ∧ (BM (tot (AL (l.take k) ++ (l.getD k value0).assets.take j)) mm cl) ∧ (mm.length ≤ 1000 * k + j)) [2, 3, 4, 6, 10, 11, 12, 13, 14, 15, 16, 17, 18, 19, 20, 21, 22, 23, 24, 37, 38, 39, 40] ((l.getD k value0).assets.length) ([(25, vn 0)]) ([(10009, Res.mp g9 nameEn wideEn (m0) (cl0))]) (h0 := ⟨0, m0, cl0, rfl, rfl, by omega, by omega, by rw [List.take_zero, List.append_nil]; exact hik1, by omega⟩) (hr := ?_)
      rintro _ _ _ ⟨j, mm, cl, rfl, rfl, hmj, hj, hij0, hij1⟩
      refine v_code [] (hk := ?_)
      first | refine c_ifd rfl (fun h26 => ?_) (fun h26 => ?_) | refine c_ifn rfl (fun h26 => ?_) (fun h26 => ?_) | refine c_if rfl (fun h26 => ?_) (fun h26 => ?_)
      · have hx := hv.2.2 _ (getD_mem (d := asset0) h26)
        refine v_code [] (hk := ?_)
        refine l_do d_alloc (fun g8 => ?_)
        refine v_ops [] (hk := ?_)
        refine v_draw (.q 0 (.q 1 (.q 3 (.q 4 (.s 2 (.s 5 (.s 6 .nil))))))) [10008] (hm := by kernel_rfl) (hs := by kernel_rfl) (hk := by kernel_rfl) (h := ?_)
        refine v_sch [] (hk := ?_)
        refine v_callS rfl 21550 [] (nameof_spec ((l.getD k value0).assets.getD j asset0)) Try.func33 (h := ?_)
        rintro _ _ (⟨rfl, rfl⟩)
        refine ⟨cov_of (by repeat (first | exact trivial | refine ⟨rfl, ?_⟩)), ?_⟩
        refine v_callS rfl 21700 [] (wide_spec ((l.getD k value0).assets.getD j asset0).amount hx) Try.func36 (h := ?_)
        rintro _ _ (⟨rfl, rfl⟩)
        refine ⟨cov_of (by repeat (first | exact trivial | refine ⟨rfl, ?_⟩)), ?_⟩
        refine v_callS rfl 21750 [] (badd_spec g9 mm cl ((l.getD k value0).assets.getD j asset0).key (wOf ((l.getD k value0).assets.getD j asset0).amount) (wOf_ok _) (hij0.ok _)) Try.func37 (h := ?_)
        rintro _ _ (⟨rfl, rfl⟩)
        refine ⟨cov_of (by repeat (first | exact trivial | refine ⟨rfl, ?_⟩)), ?_⟩
        refine v_sch [] (hk := ?_)
        refine k_ren 21750 10009 rfl ?_
        refine v_again ((l.getD k value0).assets.length - (j + 1)) ⟨j + 1, mput mm cl ((l.getD k value0).assets.getD j asset0).key (wOf (num ((mlook mm ((l.getD k value0).assets.getD j asset0).key).getD wz) + num (wOf ((l.getD k value0).assets.getD j asset0).amount))), mclk mm cl ((l.getD k value0).assets.getD j asset0).key, rfl, rfl, by omega, by omega, hij0.add (wOf_num (wOf_ok _)) (tot_snoc (d := asset0) h26), by have := mput_len mm cl ((l.getD k value0).assets.getD j asset0).key (wOf (num ((mlook mm ((l.getD k value0).assets.getD j asset0).key).getD wz) + num (wOf ((l.getD k value0).assets.getD j asset0).amount))); omega⟩
      · refine v_code [] (hk := ?_)
        refine v_again (l.length - (k + 1)) ⟨k + 1, wOf (wsum [s, wOf (l.getD k value0).coin]), mm, cl, rfl, rfl, by omega, by omega, by rw [csum_snoc (d := value0) h13, wsum_two, hik0, wOf_add, wOf_addR], by rw [AL_snoc (d := value0) h13]; rw [take_all' h26] at hij0; exact hij0, by omega⟩
  · refine v_code [] (hk := ?_)
    refine v_draw (.q 1 (.s2 0 (.s 2 (.s 3 (.q 4 .nil))) 2 (.s 0 (.s 3 (.q 4 .nil))))) [10009, 10011, 10006, 20950, 20951, 20952, 20953, 10020, 21050, 21051, 21052, 21053, 10024, 10008, 21550, 21551, 21552, 21553, 21700, 21701, 21702, 21703, 21750, 21751, 21752, 21753, 22000, 22001, 22002, 22003] (hm := by kernel_rfl) (hs := by kernel_rfl) (hk := by kernel_rfl) (h := ?_)
    refine v_sch [] (hk := ?_)
    refine s_two ?_ ?_
    · refine v_sch [] (hk := ?_)
      refine v_callS rfl 22000 [] (totals_spec g9 m0 cl0 hik1.wf (by omega)) Try.func38 (h := ?_)
      rintro _ _ (⟨B, d, t, ht, htl, rfl, rfl⟩)
      refine ⟨cov_of (by repeat (first | exact trivial | refine ⟨rfl, ?_⟩)), ?_⟩
      refine v_sch [] (hk := ?_)
      rw [take_all' h13] at hik0 hik1
      refine k_ret [22000] (.tup [.agg [.one (.i .i64 s.hi), .one (.i .u64 s.lo)], .one (.sl 0 B t.length d)]) (.cons (.cell inferInstance rfl rfl rfl rfl) (.cons (.tmp rfl) .nil)) (h := ?_)
      subst hik0
      exact ⟨B, d, t, ht.congr hik1.look, htl, rfl, rfl⟩
    · refine v_callS rfl 22000 [] (totals_spec g9 m0 cl0 hik1.wf (by omega)) Try.func38 (h := ?_)
      rintro _ _ (⟨B, d, t, ht, htl, rfl, rfl⟩)
      refine ⟨cov_of (by repeat (first | exact trivial | refine ⟨rfl, ?_⟩)), ?_⟩
      refine v_sch [] (hk := ?_)
      rw [take_all' h13] at hik0 hik1
      refine k_ret [22000] (.tup [.agg [.one (.i .i64 s.hi), .one (.i .u64 s.lo)], .one (.sl 0 B t.length d)]) (.cons (.cell inferInstance rfl rfl rfl rfl) (.cons (.tmp rfl) .nil)) (h := ?_)
      subst hik0
      exact ⟨B, d, t, ht.congr hik1.look, htl, rfl, rfl⟩
end Go.Proofs.Ytlnckcgbpilmdaa
/- Balance. -/

set_option linter.unusedVariables false
set_option linter.unusedSimpArgs false
set_option maxRecDepth 100000
namespace Go.Proofs.Ytlnckcgbpilmdaa
open Go Go.RowKit HL
theorem rd_none {α : Type} {E : En α} {l : List α} {w : World} (h : (Res.rd none E l).holds w) : l = [] := by
  cases l with
  | nil => rfl
  | cons x l => exact absurd rfl (show (none : Option Addr) ≠ none from fun _ => by
      obtain ⟨ad, h1, _⟩ := rds_some (rd_reads h) (by simp)
      cases h1)
theorem clone_spec (A : Option Addr) (l : List ValueM) (c : Nat) (hl : l.length ≤ 1048576) : CSpec Try.prog 41 [.one (.sl 0 A l.length c)] [(0, Res.rd A valueEn l)] [] fun o L => ∃ B d, o = .ret (vsl 0 B l.length d) ∧ L = [Res.rows B d 24 valueEn l] := by
  refine v_enter Try.func41 (h := fun w0 => ?_)
  refine v_code [] (hk := ?_)
  first | refine c_ifd rfl (fun h4 => ?_) (fun h4 => ?_) | refine c_ifn rfl (fun h4 => ?_) (fun h4 => ?_) | refine c_if rfl (fun h4 => ?_) (fun h4 => ?_)
  · have hA : A = none := by simpa using h4
    subst hA
    refine k_fact (p := l = []) (fun w hf => rd_none (hf 0 _ rfl)) (fun hn => ?_)
    subst hn
    refine v_code [] (hk := ?_)
    refine k_nil 700 24 valueEn ?_
    refine k_ret [700] (vsl 0 none 0 0) (.cons (.tmp rfl) .nil) (h := ?_)
    exact ⟨none, 0, rfl, rfl⟩
  · refine v_code [] (hk := ?_)
    refine l_do (d_bslice ([] : List ValueM)) (fun B5 => ?_)
    refine v_ops [] (hk := ?_)
    refine l_do d_append (fun p7 => ?_)
    refine v_ops [] (hk := ?_)
    refine k_ret [10005] (vsl 0 p7.1 ([] ++ l).length p7.2) (.cons (.tmp rfl) .nil) (h := ?_)
    exact ⟨p7.1, p7.2, rfl, rfl⟩
def Bal (inn : List ValueM) (mint : List AssetP) (out : List ValueM) (fee : Int) : Prop := wOf (csum inn) = wOf (csum out + fee) ∧ ∀ n, wOf (tot (AL inn ++ mint) n) = wOf (tot (AL out) n)
theorem AL_with (l : List ValueM) (v : ValueM) : AL (l ++ [v]) = AL l ++ v.assets := by rw [AL_app, AL_one]
theorem csum_with (l : List ValueM) (v : ValueM) : csum (l ++ [v]) = csum l + v.coin := by rw [csum_app, csum_one]
theorem balance_spec (A M C : Option Addr) (inn out : List ValueM) (mint : List AssetP) (c d e : Nat) (fee : Int) (h1 : inn.length ≤ 900) (h2 : out.length ≤ 900) (f1 : ∀ v ∈ inn, FitS v) (f2 : ∀ v ∈ out, FitS v) (hm : mint.length ≤ 1000 ∧ ∀ x ∈ mint, Fits64 x.amount) (hfee : Fits64 fee) : CSpec Try.prog 17 [.one (.sl 0 A inn.length c), .one (.sl 1 M mint.length d), .one (.sl 2 C out.length e), .one (.i .i64 fee)] [(0, rdValues A inn), (1, Res.rd M assetEn mint), (2, rdValues C out)] [] fun o L => ∃ b : Bool, (b = true ↔ Bal inn mint out fee) ∧ o = .ret (vb b) ∧ L = [] := by
  have g1 : ∀ v ∈ inn ++ [⟨0, M, d, mint⟩], FitS v := by
    intro v hv
    rcases List.mem_append.1 hv with hv | hv
    · exact f1 v hv
    · rw [List.mem_singleton.1 hv]; exact ⟨hm.1, ⟨by show (-9223372036854775808 : Int) ≤ 0; decide, by show (0 : Int) ≤ 9223372036854775807; decide⟩, hm.2⟩
  have g2 : ∀ v ∈ out ++ [⟨fee, none, 0, []⟩], FitS v := by
    intro v hv
    rcases List.mem_append.1 hv with hv | hv
    · exact f2 v hv
    · rw [List.mem_singleton.1 hv]; exact ⟨by simp, hfee, by simp⟩
  refine v_enter Try.func17 (h := fun w0 => ?_)
  refine v_code [] (hk := ?_)
  refine v_call 20750 [] (clone_spec A inn c (by omega)) Try.func41 (hB := ⟨⟨_, rfl, view_head⟩, trivial⟩) (h := ?_)
  rintro _ _ (⟨B, k, rfl, rfl⟩)
  refine v_ops [] (hk := ?_)
  refine l_do (d_bslice [(⟨0, M, d, mint⟩ : ValueM)]) (fun B18 => ?_)
  refine l_do d_append (fun p19 => ?_)
  refine v_callD 21000 [] (sums_spec p19.1 (inn ++ [⟨0, M, d, mint⟩]) p19.2 (by simp; omega) g1) Try.func13 (hB := ⟨⟨_, (Der.rdn (Der.vw 20750) (Each.app (Each.rdn 0) (Each.cons (Der.vw 1) Each.nil))), rfl⟩, trivial⟩) (h := ?_)
  rintro _ _ (⟨B2, k2, t, ht, htl, rfl, rfl⟩)
  refine v_ops [] (hk := ?_)
  refine l_do d_alloc (fun g9 => ?_)
  refine v_ops [] (hk := ?_)
  refine v_call 21250 [] (clone_spec C out e (by omega)) Try.func41 (hB := ⟨⟨_, rfl, view_head⟩, trivial⟩) (h := ?_)
  rintro _ _ (⟨B3, k3, rfl, rfl⟩)
  refine v_ops [] (hk := ?_)
  refine l_do (d_bslice [(⟨fee, none, 0, []⟩ : ValueM)]) (fun B28 => ?_)
  refine l_do d_append (fun p29 => ?_)
  refine v_callD 21500 [] (sums_spec p29.1 (out ++ [⟨fee, none, 0, []⟩]) p29.2 (by simp; omega) g2) Try.func13 (hB := ⟨⟨_, (Der.rdn (Der.vw 21250) (Each.app (Each.rdn 2) (Each.cons Der.nl Each.nil))), rfl⟩, trivial⟩) (h := ?_)
  rintro _ _ (⟨B4, k4, u, hu, hul, rfl, rfl⟩)
  refine v_ops [] (hk := ?_)
  refine l_do d_alloc (fun g11 => ?_)
  refine v_ops [] (hk := ?_)
  refine l_rd (r_eqSt (u := wOf (csum (inn ++ [⟨0, M, d, mint⟩]))) (v := wOf (csum (out ++ [⟨fee, none, 0, []⟩])))) ?_
  refine v_ops [] (hk := ?_)
  refine l_callG [] [37, 38] ⟨_, _, ⟨_, .inl ⟨rfl, rfl⟩⟩, ⟨_, _, ⟨_, .inl ⟨rfl, rfl⟩⟩, rfl, rfl⟩, rfl⟩ (fun hg => equalTotals_spec B2 B4 t u k2 k4 htl) Try.func42 (h := ?_)
  refine v_ops [] (hk := ?_)
  refine v_ret rfl [] (.cons (.tmp rfl) .nil) (h := ?_)
  refine ⟨_, ?_, rfl, rfl⟩
  rw [Bool.and_eq_true, decide_eq_true_iff, decide_eq_true_iff, csum_with, csum_with, ht.eq_iff hu]
  unfold Bal
  simp only [AL_with, List.append_nil, Int.add_zero]
end Go.Proofs.Ytlnckcgbpilmdaa
/- The chapter's examples: plain. -/

set_option linter.unusedVariables false
namespace Go.Proofs.Ytlnckcgbpilmdaa
open Go Go.RowKit HL
theorem Told.none {S : Int → List AssetP → Prop} {ok : Bool} {v : ValueM} (h : Told S ok v) (hn : ∀ co p, ¬ S co p) : ok = false ∧ v.coin = 0 ∧ v.assets = [] := by
  rcases h with ⟨_, h⟩ | h
  · exact absurd h (hn _ _)
  · exact ⟨h.1, h.2.2⟩
theorem Told.some {S : Int → List AssetP → Prop} {ok : Bool} {v : ValueM} (h : Told S ok v) {co : Int} {p : List AssetP} (hs : S co p) : ok = true ∧ S v.coin v.assets := by
  rcases h with h | h
  · exact h
  · exact absurd hs (h.2.1 co p)
theorem Told.yes {S : Int → List AssetP → Prop} {v : ValueM} (h : Told S true v) : S v.coin v.assets := by
  rcases h with h | h
  · exact h.2
  · cases h.1
theorem Told.no {S : Int → List AssetP → Prop} {v : ValueM} (h : Told S false v) : (∀ co p, ¬ S co p) ∧ v.coin = 0 ∧ v.assets = [] := by
  rcases h with h | h
  · cases h.1
  · exact h.2
abbrev coinV (n : Int) : ValueM := ⟨n, none, 0, []⟩
theorem isB_nil : IsB (fun _ => 0) [] := ⟨List.Pairwise.nil, fun x => ⟨fun h => (by cases h), fun h => by have h1 := h.1; have h2 : (0 : Int) = x.amount := h.2; omega⟩⟩
theorem right_coin {n : Int} (h : 0 ≤ n) : RightV n [] := ⟨h, ⟨by simp, List.Pairwise.nil, by simp⟩, by simp⟩
theorem ex_far {co : Int} {p : List AssetP} : ¬ Adds [coinV 5, coinV 9223372036854775807] co p := fun h => by
  exact absurd h.1.2.1 (by decide)
theorem ex_five : Adds [coinV 2, coinV 3] 5 [] := by
  refine ⟨⟨?_, by decide, ?_⟩, by decide, ?_, by simp⟩
  · intro v hv
    simp at hv
    rcases hv with rfl | rfl <;> exact right_coin (by decide)
  · intro n
    show (0 : Int) ≤ _
    decide
  · exact isB_nil
theorem Adds.unique {l : List ValueM} {c c' : Int} {p p' : List AssetP} (h : Adds l c p) (h' : Adds l c' p') : c = c' ∧ p = p' := ⟨h.2.1.trans h'.2.1.symm, h.2.2.1.unique h'.2.2.1⟩
theorem Subs.unique {a b : ValueM} {c c' : Int} {p p' : List AssetP} (h : Subs a b c p) (h' : Subs a b c' p') : c = c' ∧ p = p' := ⟨h.2.2.1.trans h'.2.2.1.symm, h.2.2.2.2.2.1.unique h'.2.2.2.2.2.1⟩
theorem sub_self {a : ValueM} (h : RightV a.coin a.assets) : Subs a a 0 [] := by
  refine ⟨h, h, by omega, by omega, fun n => by omega, ?_, by simp⟩
  have : (fun n => tot a.assets n - tot a.assets n) = fun _ => 0 := by funext n; omega
  rw [this]
  exact isB_nil
def exX : AssetP := ⟨hset hz [(0, 1)], ⟨#[120]⟩, 4⟩
theorem ex_right : RightV 3 [exX] := ⟨by decide, ⟨by intro x hx; rw [List.mem_singleton.1 hx]; decide, by simp [Rise], by simp⟩, by intro x hx; rw [List.mem_singleton.1 hx]; decide⟩
theorem ex_bal : Bal [coinV 9223372036854775807, coinV 9223372036854775807] [] [coinV 9223372036854775807, coinV 9223372036854775806] 1 := ⟨by decide, fun n => rfl⟩
theorem fit_coin {n : Int} (h : -9223372036854775808 ≤ n ∧ n ≤ 9223372036854775807) : FitV (coinV n) := ⟨by simp, h, by simp⟩
theorem fits_coin {n : Int} (h : -9223372036854775808 ≤ n ∧ n ≤ 9223372036854775807) : FitS (coinV n) := ⟨by simp, h, by simp⟩
end Go.Proofs.Ytlnckcgbpilmdaa
/- The chapter's examples. -/

set_option linter.unusedVariables false
set_option linter.unusedSimpArgs false
set_option maxRecDepth 100000
namespace Go.Proofs.Ytlnckcgbpilmdaa
open Go Go.RowKit HL
theorem ofv_spec (coin : Int) (A : Option Addr) (n c : Nat) : CSpec Try.prog 19 [.one (.i .i64 coin), .one (.sl 0 A n c)] [] [] fun o L => o = .ret (.s (.agg [.one (.i .i64 coin), .one (.sl 0 A n c)])) ∧ L = [] := by
  refine v_enter Try.func19 (h := fun w0 => ?_)
  refine v_code [] (hk := ?_)
  refine l_do d_alloc (fun g4 => ?_)
  refine v_ops [] (hk := ?_)
  refine v_ret rfl [] (.cons (.cell inferInstance rfl rfl rfl rfl) .nil) (h := ?_)
  exact ⟨rfl, rfl⟩
theorem asset_spec (p : UInt8) (name : ByteArray) (amount : Int) : CSpec Try.prog 20 [.one (.i .u8 p.toNat), .one (.s name), .one (.i .i64 amount)] [] [] fun o L => o = .ret (.s (.agg [.hash (hset hz [(0, p)]), .one (.s name), .one (.i .i64 amount)])) ∧ L = [] := by
  refine v_enter Try.func20 (h := fun w0 => ?_)
  refine v_code [] (hk := ?_)
  refine l_do d_alloc (fun g6 => ?_)
  refine v_ops [] (hk := ?_)
  refine l_rd (r_buildH [(0, p)] ⟨rfl, ⟨_, rfl, rfl⟩, trivial⟩) ?_
  refine v_ops [] (hk := ?_)
  refine v_ret rfl [] (.cons (.cell inferInstance rfl rfl rfl rfl) .nil) (h := ?_)
  exact ⟨rfl, rfl⟩
theorem awake_spec : CSpec Try.prog 5 [] [] [] fun o L => o = .ret (vb true) ∧ L = [] := by
  have fx : FitV ⟨3, none, 1, [exX]⟩ := ⟨by simp, ⟨by show (-9223372036854775808 : Int) ≤ 3; decide, by show (3 : Int) ≤ 9223372036854775807; decide⟩, fun x hx => by rw [List.mem_singleton.1 hx]; exact ⟨by decide, by decide⟩⟩
  refine v_enter Try.func5 (h := fun w0 => ?_)
  refine v_code [] (hk := ?_)
  refine v_call 20450 [] (ofv_spec 5 none 0 0) Try.func19 (h := ?_)
  rintro _ _ (⟨rfl, rfl⟩)
  refine v_call 20500 [] (ofv_spec 9223372036854775807 none 0 0) Try.func19 (h := ?_)
  rintro _ _ (⟨rfl, rfl⟩)
  refine l_do (d_bslice [coinV 5, coinV 9223372036854775807]) (fun B11 => ?_)
  refine v_callD 20600 [] (add_spec B11 [coinV 5, coinV 9223372036854775807] 2 (by simp) (by intro v hv; simp at hv; rcases hv with rfl | rfl <;> exact fit_coin (by decide))) Try.func7 (hB := ⟨⟨_, (Der.rdn (Der.vw 10011) (Each.cons Der.nl (Each.cons Der.nl Each.nil))), rfl⟩, trivial⟩) (h := ?_)
  rintro _ _ (⟨v, ok, ht, rfl, rfl⟩)
  obtain ⟨rfl, -, -⟩ := ht.none fun co p => ex_far
  refine k_val 12 (.tup [.agg [.one (.i .i64 v.coin), .one (.sl 20600 v.A v.assets.length v.c)], .one (.kb false)]) rfl rfl ?_
  refine v_ops [] (hk := ?_)
  refine l_do d_alloc (fun g1 => ?_)
  refine v_ops [] (hk := ?_)
  refine v_call 20750 [] (asset_spec 1 ⟨#[120]⟩ 4) Try.func20 (h := ?_)
  rintro _ _ (⟨rfl, rfl⟩)
  refine l_do (d_bslice [exX]) (fun B16 => ?_)
  refine v_call 20850 [] (ofv_spec 3 B16 1 1) Try.func19 (h := ?_)
  rintro _ _ (⟨rfl, rfl⟩)
  refine l_do d_alloc (fun g3 => ?_)
  refine v_ops [] (hk := ?_)
  refine v_callD 21050 [] (sub_spec ⟨3, B16, 1, [exX]⟩ ⟨3, B16, 1, [exX]⟩ fx fx) Try.func10 (hB := ⟨⟨_, (Der.vw 10016), rfl⟩, ⟨⟨_, (Der.vw 10016), rfl⟩, trivial⟩⟩) (h := ?_)
  rintro _ _ (⟨v2, ok2, ht2, rfl, rfl⟩)
  obtain ⟨rfl, hs2⟩ := ht2.some (sub_self (a := ⟨3, B16, 1, [exX]⟩) ex_right)
  obtain ⟨hc2, hp2⟩ := hs2.unique (sub_self (a := ⟨3, B16, 1, [exX]⟩) ex_right)
  refine k_val 21 (.tup [.agg [.one (.i .i64 v2.coin), .one (.sl 21050 v2.A v2.assets.length v2.c)], .one (.kb true)]) rfl rfl ?_
  refine v_ops [] (hk := ?_)
  refine l_do d_alloc (fun g4 => ?_)
  refine v_ops [] (hk := ?_)
  refine v_call 21250 [] (ofv_spec 2 none 0 0) Try.func19 (h := ?_)
  rintro _ _ (⟨rfl, rfl⟩)
  refine v_call 21300 [] (ofv_spec 3 none 0 0) Try.func19 (h := ?_)
  rintro _ _ (⟨rfl, rfl⟩)
  refine l_do (d_bslice [coinV 2, coinV 3]) (fun B27 => ?_)
  refine v_callD 21400 [] (add_spec B27 [coinV 2, coinV 3] 2 (by simp) (by intro v hv; simp at hv; rcases hv with rfl | rfl <;> exact fit_coin (by decide))) Try.func7 (hB := ⟨⟨_, (Der.rdn (Der.vw 10027) (Each.cons Der.nl (Each.cons Der.nl Each.nil))), rfl⟩, trivial⟩) (h := ?_)
  rintro _ _ (⟨v3, ok3, ht3, rfl, rfl⟩)
  obtain ⟨rfl, hs3⟩ := ht3.some ex_five
  obtain ⟨hc3, hp3⟩ := hs3.unique ex_five
  refine k_val 28 (.tup [.agg [.one (.i .i64 v3.coin), .one (.sl 21400 v3.A v3.assets.length v3.c)], .one (.kb true)]) rfl rfl ?_
  refine v_ops [] (hk := ?_)
  refine l_do d_alloc (fun g6 => ?_)
  refine v_ops [] (hk := ?_)
  refine k_val 36 (vb true) rfl rfl ?_
  refine v_callD 21950 [] (sameValue_spec v2 ⟨0, none, 0, []⟩ (by rw [hp2]; simp)) Try.func8 (hB := ⟨⟨_, (Der.vw 21050), rfl⟩, ⟨⟨_, Der.nl, rfl⟩, trivial⟩⟩) (h := ?_)
  rintro _ _ (⟨rfl, rfl⟩)
  refine v_know 39 true rfl (by simp [hc2, hp2]) ?_
  refine v_know 36 true rfl rfl ?_
  refine v_ops [] (hk := ?_)
  refine v_know 49 true rfl (by simp [hc3]) ?_
  refine k_val 49 (vb true) rfl rfl ?_
  refine v_callD 22500 [] (ofv_spec 9223372036854775807 none 0 0) Try.func19 (hB := trivial) (h := ?_)
  rintro _ _ (⟨rfl, rfl⟩)
  refine v_callD 22550 [] (ofv_spec 9223372036854775807 none 0 0) Try.func19 (hB := trivial) (h := ?_)
  rintro _ _ (⟨rfl, rfl⟩)
  refine l_do (d_bslice [coinV 9223372036854775807, coinV 9223372036854775807]) (fun B52 => ?_)
  refine v_callD 22650 [] (ofv_spec 9223372036854775807 none 0 0) Try.func19 (hB := trivial) (h := ?_)
  rintro _ _ (⟨rfl, rfl⟩)
  refine v_callD 22700 [] (ofv_spec 9223372036854775806 none 0 0) Try.func19 (hB := trivial) (h := ?_)
  rintro _ _ (⟨rfl, rfl⟩)
  refine l_do (d_bslice [coinV 9223372036854775807, coinV 9223372036854775806]) (fun B55 => ?_)
  refine v_callD 22800 [] (balance_spec B52 none B55 [coinV 9223372036854775807, coinV 9223372036854775807] [coinV 9223372036854775807, coinV 9223372036854775806] [] 2 0 2 1 (by simp) (by simp) (by intro v hv; simp at hv; rcases hv with rfl | rfl <;> exact fits_coin (by decide)) (by intro v hv; simp at hv; rcases hv with rfl | rfl <;> exact fits_coin (by decide)) ⟨by simp, by simp⟩ ⟨by decide, by decide⟩) Try.func17 (hB := ⟨⟨_, (Der.rdn (Der.vw 10052) (Each.cons Der.nl (Each.cons Der.nl Each.nil))), rfl⟩, ⟨⟨_, Der.nl, rfl⟩, ⟨⟨_, (Der.rdn (Der.vw 10055) (Each.cons Der.nl (Each.cons Der.nl Each.nil))), rfl⟩, trivial⟩⟩⟩) (h := ?_)
  rintro _ _ (⟨b, hb, rfl, rfl⟩)
  have hb2 := hb.2 ex_bal
  subst hb2
  refine v_ops [] (hk := ?_)
  refine v_ret rfl [] (.cons (.tmp rfl) .nil) (h := ?_)
  exact ⟨rfl, rfl⟩
end Go.Proofs.Ytlnckcgbpilmdaa
/- The ring of bundles: plain. -/

set_option linter.unusedVariables false
namespace Go.Proofs.Ytlnckcgbpilmdaa
open Go Go.RowKit HL
theorem tot_amt {P : List AssetP} (hr : Rise AssetP.key P) (n : NameP) : amt P n = tot P n := by
  by_cases h : ∃ x ∈ P, x.key = n
  · obtain ⟨x, hx, rfl⟩ := h
    rw [amt_of hr.nodup x hx, tot_key hr.nodup x hx]
  · have h1 : tot P n = 0 := by
      by_cases h0 : tot P n = 0
      · exact h0
      · exact absurd (tot_mem h0) h
    rw [h1]
    unfold amt
    rw [atN_none (fun x hx e => h ⟨x, hx, e⟩)]
    rfl
theorem IsB.tots {f : NameP → Int} {p : List AssetP} (h : IsB f p) {n : NameP} (hp : 0 ≤ f n) : tot p n = f n := by
  rw [← tot_amt h.1, h.amt hp]
theorem IsB.congr {f g : NameP → Int} {p : List AssetP} (h : IsB f p) (he : ∀ n, f n = g n) : IsB g p := by
  have : f = g := funext he
  rwa [← this]
theorem Told.same {S S' : Int → List AssetP → Prop} {ok is : Bool} {v w : ValueM} (h : Told S ok v) (h' : Told S' is w) (he : ∀ co p, S co p ↔ S' co p) (hu : ∀ co p co' p', S co p → S co' p' → co = co' ∧ p = p') : ok = is ∧ v.coin = w.coin ∧ v.assets = w.assets := by
  rcases h with ⟨rfl, h⟩ | ⟨rfl, h1, h2, h3⟩
  · rcases h' with ⟨rfl, h'⟩ | ⟨rfl, h1', h2', h3'⟩
    · exact ⟨rfl, hu _ _ _ _ h ((he _ _).2 h')⟩
    · exact absurd ((he _ _).1 h) (h1' _ _)
  · rcases h' with ⟨rfl, h'⟩ | ⟨rfl, h1', h2', h3'⟩
    · exact absurd ((he _ _).2 h') (h1 _ _)
    · exact ⟨rfl, by rw [h2, h2'], by rw [h3, h3']⟩
theorem csum_perm {l m : List ValueM} (h : l.Perm m) : csum l = csum m := by
  induction h with
  | nil => rfl
  | @cons x l m _ ih => rw [show x :: l = [x] ++ l from rfl, show x :: m = [x] ++ m from rfl, csum_app, csum_app, ih]
  | swap x y l =>
    rw [show y :: x :: l = [y] ++ ([x] ++ l) from rfl, show x :: y :: l = [x] ++ ([y] ++ l) from rfl]
    simp only [csum_app]
    omega
  | trans _ _ h1 h2 => rw [h1, h2]
theorem totAL_perm {l m : List ValueM} (h : l.Perm m) (n : NameP) : tot (AL l) n = tot (AL m) n := by
  induction h with
  | nil => rfl
  | @cons x l m _ ih => rw [show x :: l = [x] ++ l from rfl, show x :: m = [x] ++ m from rfl, AL_app, AL_app, tot_app, tot_app, ih]
  | swap x y l =>
    rw [show y :: x :: l = [y] ++ ([x] ++ l) from rfl, show x :: y :: l = [x] ++ ([y] ++ l) from rfl]
    simp only [AL_app, tot_app]
    omega
  | trans _ _ h1 h2 => rw [h1, h2]
theorem Adds.perm {l m : List ValueM} (hp : l.Perm m) {co : Int} {p : List AssetP} (h : Adds l co p) : Adds m co p := by
  obtain ⟨⟨h1, h2, h3⟩, h4, h5, h6⟩ := h
  refine ⟨⟨fun v hv => h1 v (hp.mem_iff.2 hv), by rw [← csum_perm hp]; exact h2, fun n => by rw [← totAL_perm hp]; exact h3 n⟩, by rw [h4, csum_perm hp], h5.congr fun n => totAL_perm hp n, h6⟩
theorem Adds.right {l : List ValueM} {co : Int} {p : List AssetP} (h : Adds l co p) : RightV co p := by
  obtain ⟨⟨h1, h2, h3⟩, h4, h5, h6⟩ := h
  refine ⟨by rw [h4]; exact Rights.csum h1, ⟨fun x hx => ?_, h5.1, h6⟩, fun x hx => ((h5.2 x).1 hx).1⟩
  have hx' := (h5.2 x).1 hx
  obtain ⟨y, hy, e⟩ := tot_mem (P := AL l) (n := x.key) (by omega)
  obtain ⟨v, hv, hy⟩ := List.mem_flatMap.1 hy
  have := (h1 v hv).2.1.1 y hy
  have e2 : y.name = x.name := congrArg NameP.name e
  rwa [e2] at this
theorem Adds.nonneg {l : List ValueM} {co : Int} {p : List AssetP} (h : Adds l co p) (n : NameP) : 0 ≤ tot (AL l) n := tot_nonneg n h.1.1.pos
theorem Adds.tots {l : List ValueM} {co : Int} {p : List AssetP} (h : Adds l co p) (n : NameP) : tot p n = tot (AL l) n := h.2.2.1.tots (h.nonneg n)
theorem ex_put {p : List AssetP} (hr : Rise AssetP.key p) (z : AssetP) : ∃ q, Rise AssetP.key q ∧ ∀ y, y ∈ q ↔ (y ∈ p ∧ y.key ≠ z.key) ∨ y = z := by
  refine ⟨(p.filter fun y => decide (nord y.key z.key < 0)) ++ ([z] ++ (p.filter fun y => decide (nord z.key y.key < 0))), ?_, fun y => ?_⟩
  · unfold Rise at *
    refine List.pairwise_append.2 ⟨hr.sublist (List.filter_sublist), List.pairwise_append.2 ⟨by simp, hr.sublist (List.filter_sublist), fun a ha b hb => ?_⟩, fun a ha b hb => ?_⟩
    · rw [List.mem_singleton.1 ha]
      simpa using (List.mem_filter.1 hb).2
    · have h1 : nord a.key z.key < 0 := by simpa using (List.mem_filter.1 ha).2
      rcases List.mem_append.1 hb with hb | hb
      · rw [List.mem_singleton.1 hb]; exact h1
      · have h2 : nord z.key b.key < 0 := by simpa using (List.mem_filter.1 hb).2
        exact nord_trans h1 h2
  · rw [List.mem_append, List.mem_append, List.mem_filter, List.mem_filter, List.mem_singleton]
    constructor
    · rintro (⟨h1, h2⟩ | h | ⟨h1, h2⟩)
      · exact .inl ⟨h1, fun e => by rw [e] at h2; simp [nord_refl] at h2⟩
      · exact .inr h
      · exact .inl ⟨h1, fun e => by rw [e] at h2; simp [nord_refl] at h2⟩
    · rintro (⟨h1, h2⟩ | h)
      · rcases nord_tri y.key z.key with h | h | h
        · exact .inl ⟨h1, by simpa using h⟩
        · exact absurd h h2
        · exact .inr (.inr ⟨h1, by simpa using h⟩)
      · exact .inr (.inl h)
theorem ex_isB : ∀ {P : List AssetP}, (∀ x ∈ P, 1 ≤ x.amount) → ∃ p, IsB (tot P) p
  | [], _ => ⟨[], isB_nil.congr fun n => (tot_nil n).symm⟩
  | x :: P, h => by
    obtain ⟨p, hp⟩ := ex_isB (P := P) fun y hy => h y (List.mem_cons_of_mem _ hy)
    have hn := tot_nonneg (P := P) x.key fun y hy => h y (List.mem_cons_of_mem _ hy)
    have hx := h x (List.mem_cons_self ..)
    obtain ⟨q, hq1, hq2⟩ := ex_put hp.1 ⟨x.policy, x.name, tot P x.key + x.amount⟩
    refine ⟨q, hq1, fun y => ?_⟩
    rw [hq2, tot_cons, hp.2]
    have ek : AssetP.key ⟨x.policy, x.name, tot P x.key + x.amount⟩ = x.key := rfl
    constructor
    · rintro (⟨⟨h1, h2⟩, h3⟩ | rfl)
      · rw [ek] at h3
        rw [if_neg h3]
        exact ⟨h1, by omega⟩
      · rw [ek, if_pos rfl]
        exact ⟨by show 1 ≤ tot P x.key + x.amount; omega, by show x.amount + tot P x.key = tot P x.key + x.amount; omega⟩
    · rintro ⟨h1, h2⟩
      by_cases e : y.key = x.key
      · right
        rw [if_pos e, e] at h2
        cases y with
        | mk a b c =>
          have e1 : a = x.policy := congrArg NameP.policy e
          have e2 : b = x.name := congrArg NameP.name e
          subst e1; subst e2
          simp only [AssetP.mk.injEq, true_and]
          simp only at h2
          omega
      · left
        rw [if_neg e] at h2
        exact ⟨⟨h1, by omega⟩, by rw [ek]; exact e⟩
theorem len_names {p q : List AssetP} (hp : Rise AssetP.key p) (h : ∀ x ∈ p, ∃ y ∈ q, y.key = x.key) : p.length ≤ q.length := by
  have h1 := iter_len (l := q.map AssetP.key) (done := p.map AssetP.key) (fun k hk => by
    obtain ⟨x, hx, rfl⟩ := List.mem_map.1 hk
    obtain ⟨y, hy, e⟩ := h x hx
    rw [← e]
    exact List.mem_map_of_mem hy) hp.nodup
  simpa using h1
theorem Adds.some {l m : List ValueM} {co : Int} {p : List AssetP} (h : Adds (l ++ m) co p) : ∃ co' p', Adds l co' p' := by
  have hl : Rights l := fun v hv => h.1.1 v (List.mem_append_left _ hv)
  have hm : Rights m := fun v hv => h.1.1 v (List.mem_append_right _ hv)
  obtain ⟨q, hq⟩ := ex_isB (P := AL l) hl.pos
  have hc := hm.csum
  have h2 := h.1.2.1
  rw [csum_app] at h2
  refine ⟨csum l, q, ⟨hl, by omega, fun n => ?_⟩, rfl, hq, ?_⟩
  · have h3 := h.1.2.2 n
    rw [AL_app, tot_app] at h3
    have := tot_nonneg n hm.pos
    omega
  · have h6 := h.2.2.2
    refine Nat.le_trans (len_names hq.1 fun x hx => ?_) h6
    have hx' := (hq.2 x).1 hx
    have h7 := tot_nonneg x.key hm.pos
    exact ⟨⟨x.policy, x.name, tot (AL (l ++ m)) x.key⟩, (h.2.2.1.2 _).2 ⟨by show 1 ≤ tot (AL (l ++ m)) x.key; rw [AL_app, tot_app]; omega, rfl⟩, rfl⟩
theorem Adds.left {l m : List ValueM} {x s : ValueM} (hp : l.Perm (m ++ [x])) (h : Adds l s.coin s.assets) {co : Int} {p : List AssetP} (hm : Adds m co p) : Subs s x co p := by
  have h' := h.perm hp
  have h1 := h'.2.1
  rw [csum_app, csum_one] at h1
  have h2 := hm.2.1
  have hx : RightV x.coin x.assets := h'.1.1 x (by simp)
  have e : ∀ n, tot s.assets n = tot (AL m) n + tot x.assets n := fun n => by rw [h'.tots, AL_app, AL_one, tot_app]
  refine ⟨h.right, hx, by omega, hm.right.1, fun n => by rw [e]; have := hm.nonneg n; omega, hm.2.2.1.congr fun n => by rw [e]; omega, hm.2.2.2⟩
theorem Told.fit {l : List ValueM} {ok : Bool} {v : ValueM} (h : Told (Adds l) ok v) : FitV v := by
  rcases h with ⟨rfl, h⟩ | ⟨rfl, _, h2, h3⟩
  · have hr := h.right
    have h4 := h.1.2.1
    have h5 := h.2.1
    refine ⟨by have := h.2.2.2; omega, ⟨by have := hr.1; omega, by rw [h5]; exact h4⟩, fun x hx => ?_⟩
    have hx' := (h.2.2.1.2 x).1 hx
    have := h.1.2.2 x.key
    exact ⟨by omega, by rw [← hx'.2]; exact this⟩
  · exact ⟨by rw [h3]; simp, ⟨by rw [h2]; decide, by rw [h2]; decide⟩, by rw [h3]; simp⟩
end Go.Proofs.Ytlnckcgbpilmdaa
/- ValueRing, walked. -/


set_option linter.unusedVariables false
set_option linter.unusedSimpArgs false
set_option maxRecDepth 100000
namespace Go.Proofs.Ytlnckcgbpilmdaa
open Go Go.RowKit HL
structure Ring (a b c s ab : ValueM) (two : Bool) : Prop where
  s : Adds [a, b, c] s.coin s.assets
  two : two = true
  ab : Adds [a, b] ab.coin ab.assets
theorem Ring.mk' {a b c s ab : ValueM} {two : Bool} (h : Adds [a, b, c] s.coin s.assets) (h2 : Told (Adds [a, b]) two ab) : Ring a b c s ab two := by
  obtain ⟨co, p, hs⟩ := Adds.some (l := [a, b]) (m := [c]) h
  obtain ⟨h3, h4⟩ := h2.some hs
  exact ⟨h, h3, h4⟩
theorem Ring.left {a b c s ab lf : ValueM} {two less : Bool} (h : Ring a b c s ab two) (h3 : Told (Subs s c) less lf) : less = true ∧ lf.coin = ab.coin ∧ lf.assets = ab.assets := by
  have h4 := Adds.left (l := [a, b, c]) (m := [a, b]) (x := c) (s := s) (List.Perm.refl _) h.s h.ab
  obtain ⟨h5, h6⟩ := h3.some h4
  exact ⟨h5, h6.unique h4⟩
end Go.Proofs.Ytlnckcgbpilmdaa
/- Copies of bundles. -/

set_option linter.unusedVariables false
set_option linter.unusedSimpArgs false
set_option maxRecDepth 100000
namespace Go.Proofs.Ytlnckcgbpilmdaa
open Go Go.RowKit HL
def ownA (v : ValueM) : Res := Res.rows v.A v.c 54 assetEn v.assets
def SameVs (l m : List ValueM) : Prop := l.map (fun v => (v.coin, v.assets)) = m.map (fun v => (v.coin, v.assets))
theorem SameVs.snoc {l m : List ValueM} {k : Nat} {d v : ValueM} (h : SameVs m (l.take k)) (hk : k < l.length) (hc : v.coin = (l.getD k d).coin) (ha : v.assets = (l.getD k d).assets) : SameVs (m ++ [v]) (l.take (k + 1)) := by
  unfold SameVs at *
  rw [take_getD (d := d) hk, List.map_append, List.map_append, h]
  simp [hc, ha]
theorem bag_each {B L : Hp} {l : List ValueM} (j : Nat) (h : lk2 B L j = some (Res.bag (l.map ownA)) := by rfl) : Each B L [j] (fun v => (valueS v 0).den) l := fun v hv => ⟨fun w hf => view_rows.h w ((hf j _ h).1 _ (List.mem_map_of_mem hv)), fun b hb => ⟨j, by simp, _, h, ownA v, List.mem_map_of_mem hv, view_rows.f b hb⟩⟩
theorem copyValues_spec (A : Option Addr) (l : List ValueM) (c : Nat) (hl : l.length ≤ 1048576) (hs : ∀ v ∈ l, v.assets.length ≤ 1048576) : CSpec Try.prog 18 [.one (.sl 0 A l.length c)] [(0, rdValues A l)] [] fun o L => ∃ B d m, SameVs m l ∧ m.length = l.length ∧ o = .ret (vsl 0 B m.length d) ∧ L = [Res.rows B d 24 valueEn m, Res.bag (m.map ownA)] := by
  refine v_enter Try.func18 (h := fun w0 => ?_)
  refine v_code [] (hk := ?_)
  refine k_nil 10020 24 valueEn ?_
  refine k_empty 900 ?_
  refine v_loop (fun m E H => ∃ (k : Nat) (mm : List ValueM) (rs : List Res) (A2 : Option Addr) (c2 : Nat), E = [(4, vn k), (3, vsl 10020 A2 mm.length c2)] ∧ H = [(10020, Res.rows A2 c2 24 valueEn mm), (900, Res.bag rs)] ∧ m = l.length - k ∧ k ≤ l.length ∧ (SameVs mm (l.take k)) ∧ (mm.length = k) ∧ (rs = mm.map ownA)) [0, 2, 21] (l.length) ([(4, vn 0), (3, vsl 10020 (none) ([]).length (0))]) ([(10020, Res.rows (none) (0) 24 valueEn ([])), (900, Res.bag ([]))]) (h0 := ⟨0, [], [], none, 0, rfl, rfl, by omega, by omega, rfl, rfl, rfl⟩) (hr := ?_)
  rintro _ _ _ ⟨k, mm, rs, A2, c2, rfl, rfl, hmk, hk, hik0, hik1, hik2⟩
  refine v_code [] (hk := ?_)
  first | refine c_ifd rfl (fun h9 => ?_) (fun h9 => ?_) | refine c_ifn rfl (fun h9 => ?_) (fun h9 => ?_) | refine c_if rfl (fun h9 => ?_) (fun h9 => ?_)
  · have hv := hs _ (getD_mem (d := value0) h9)
    refine v_code [] (hk := ?_)
    refine v_call 20800 [] (copyValue_spec (l.getD k value0) hv) Try.func43 (h := ?_)
    rintro _ _ (⟨B, d, rfl, rfl⟩)
    refine l_do d_alloc (fun g5 => ?_)
    refine v_ops [] (hk := ?_)
    refine l_do (d_bslice [(⟨(l.getD k value0).coin, B, d, (l.getD k value0).assets⟩ : ValueM)]) (fun B19 => ?_)
    refine l_do d_append (fun p20 => ?_)
    refine v_ops [] (hk := ?_)
    refine k_push 900 20800 rfl rfl ?_
    refine v_again (l.length - (k + 1)) ⟨k + 1, mm ++ [⟨(l.getD k value0).coin, B, d, (l.getD k value0).assets⟩], rs ++ [ownA ⟨(l.getD k value0).coin, B, d, (l.getD k value0).assets⟩], p20.1, p20.2, rfl, rfl, by omega, by omega, hik0.snoc (d := value0) h9 rfl rfl, by simp [hik1], by rw [hik2, List.map_append]; rfl⟩
  · refine v_code [] (hk := ?_)
    rw [take_all' h9] at hik0
    subst hik2
    refine k_ret [10020, 900] (vsl 0 A2 mm.length c2) (.cons (.tmp rfl) .nil) (h := ?_)
    exact ⟨A2, c2, mm, hik0, by omega, rfl, rfl⟩
end Go.Proofs.Ytlnckcgbpilmdaa
/- SYMBOLIC STATES, COMPUTED: own rows made short: their elements become room. My own text; it names no program. -/

set_option linter.unusedVariables false
set_option linter.unusedSimpArgs false
set_option linter.unusedSectionVars false
namespace Go.Proofs.Ytlnckcgbpilmdaa
namespace HL
open Go Go.RowKit
theorem St.swap {w0 w : World} {M : Nat → Prop} {r r' : Res} {L : List Res} (h : St w0 w M (r :: L)) (hh : r'.holds w) (hf : ∀ b, r'.fp b → r.fp b) : St w0 w M (r' :: L) := by
  have hd := List.pairwise_cons.1 h.dis
  refine ⟨h.os, h.tape, h.output, h.drawn, h.size, h.keep, fun s hs => ?_, List.pairwise_cons.2 ⟨fun s hs b hb => hd.1 s hs b (hf b hb), hd.2⟩, fun s hs b hb => ?_⟩
  · rcases List.mem_cons.1 hs with rfl | hs
    · exact hh
    · exact h.res s (List.mem_cons_of_mem _ hs)
  · rcases List.mem_cons.1 hs with rfl | hs
    · exact h.own r (List.mem_cons_self ..) b (hf b hb)
    · exact h.own s (List.mem_cons_of_mem _ hs) b hb
theorem run_zeros {P : Program} (w : World) (t tn ty e : TypeId) (i : TypeInfo) (z : Value) (k kn : IntKind) (ht : P.underlying t = some (.slice e)) (htn : P.underlying tn = some (.int kn)) (hi : P.info? e = some i) (hz : i.zero = some z)
    (n : Nat) (h0 : 0 < n) (hs : 0 < i.size) (h63 : (n : Int) ≤ 9223372036854775807) (h48 : n * i.bytes ≤ 281474976710656) :
    (Builtin.append_ #[t, tn] ty #[.slice none 0 0, .int k n]).run P w =
      .ok (.slice (some ⟨w.heap.size, 0, none⟩) n (grownCap w n 0 e)) (w.drew.alloc (.cells (Builtin.zeroCells z.cells n ++ Builtin.zeroCells z.cells (grownCap w n 0 e - n)) e)) := by
  have hn : n ≠ 0 := by omega
  have hw : IntKind.i64.wrap (n : Int) = n := by
    unfold IntKind.wrap
    simp [IntKind.signed, IntKind.bits]
    omega
  have h63' : ¬ (9223372036854775807 < (n : Int)) := by omega
  have h48' : ¬ (281474976710656 < Builtin.nextslicecap n 0 * i.bytes) := by rw [nextslicecap_zero h0]; omega
  have h48i : ¬ (281474976710656 < (n : Int) * (i.bytes : Int)) := by
    rw [← Int.natCast_mul]
    omega
  have hneg : ¬ ((n : Int) < 0) := by omega
  have hns : ¬ (n * i.size = 0) := Nat.mul_ne_zero hn (by omega)
  simp [Builtin.append_, run_underlying ht, run_underlying htn, sizeOf, typeInfo, zeroValue, hi, hz, asInt, asIntOf, hw, hn, hneg, hns, h63', h48', h48i, Question.forced, run_firstCells_none, newRow, grownCap]
theorem r_cap {P : Program} {env : Env} {n : Nat} {B L : Hp} {dst : Option Tmp} {x : Operand} {T ty e : TypeId} {pos : String} {af : Array Edge} {gd : Option (Nat × Bool)} {i m c : Nat} {A : Option Addr} [hT : UD P T (.slice e)] (hx : ev env x = some (vsl i A m c) := by rfl) : Reads P ⟨dst, .call { callee := .builtin .cap, args := #[x], argTypes := #[T] }, ty, pos, af, gd⟩ env n B L (vint c) := fun a w ht _ => by
  unfold execOp
  have h1 : a.eval x = .slice A m c := ev_sound ht hx
  simp [resolve, invoke, builtin, Builtin.cap_, h1, run_underlying hT.is, goInt, TV.den, SV.den, PV.den, Sem.run_bind]
theorem d_zeros {α : Type} {P : Program} {env : Env} {D : List Deferred} {n d m bytes sz : Nat} {w0 : World} {M : Nat → Prop} {B L : Hp} {x y : Operand} {T T2 e ty : TypeId} {E : En α} {agg : Bool} {z v : SV} {kn k : IntKind} {pos : String} {af : Array Edge} {gd : Option (Nat × Bool)}
    [hu : UD P T (.slice e)] [hT : TyA P e agg sz z bytes] [hn : UD P T2 (.int kn)] (E0 : En α) (hE : E0 = E := by rfl) (hx : ev env x = some (vsl 0 none 0 0) := by rfl) (hy : ev env y = some (.s v) := by rfl) (hv : v.den = .int k (m : Int) := by rfl) (hz : sz = E.sz := by rfl) (h0 : 0 < m := by omega)
    (hb : m * bytes ≤ 140737488355328 ∧ m ≤ 140737488355328 := by omega) (hd : Nat.blt d n = true := by rfl) :
    Does P ⟨some d, .call { callee := .builtin .append, args := #[x, y], argTypes := #[T, T2] }, ty, pos, af, gd⟩ env D n w0 M B L (fun p : Option Addr × Nat => (d, vsl (10000 + d) p.1 m p.2) :: env) (fun p => (10000 + d, Res.rows p.1 p.2 e E []) :: L) [10000 + d] :=
  ⟨fun a w K Q hs hk => by
    subst hz
    have h1 : a.eval x = .slice none 0 0 := ev_sound hs.tm hx
    have h2 : a.eval y = .int k (m : Int) := by rw [← hv]; exact ev_sound hs.tm hy
    obtain ⟨i, hi, he⟩ := Option.map_eq_some_iff.1 hT.is.info
    simp only [Prod.mk.injEq] at he
    obtain ⟨hzz, hisz, hib⟩ := he
    have hrun := run_zeros (P := P) w T T2 ty e i z.den k kn hu.is hn.is hi hzz m h0 (by rw [hisz]; exact E.pos) (by omega) (by rw [hib]; omega)
    unfold Oper.wp execOp
    simp only [resolve, invoke, builtin, Sem.run_bind, Sem.run_pure, Result.andThen_ok, List.map_toArray, List.map_cons, List.map_nil, h1, h2]
    rw [hrun]
    refine hk (some ⟨w.heap.size, 0, none⟩, grownCap w m 0 e) _ _ ?_
    have h3 := hs.put (v := vsl (10000 + d) (some ⟨w.heap.size, 0, none⟩) m (grownCap w m 0 e)) hd
    have hge := grownCap_ge w m 0 e
    have hmx : m ≤ maxLen := by simp only [maxLen]; omega
    have hzs : z.den.cells.size = E.sz := by rw [z.sz_den, hT.zs]
    refine h3.to (live_new ?_)
    refine hs.st.new (w' := w.drew.alloc (.cells (Builtin.zeroCells z.den.cells m ++ Builtin.zeroCells z.den.cells (grownCap w m 0 e - m)) e)) rfl rfl rfl (by simp) (fun b hb => Below.heap_alloc w.drew _ b hb) ?_ (fun b hb => ?_) (Nat.le_succ _)
    · unfold Res.rows Res.row
      have e0 : E.dens ([] : List α) = [] := rfl
      rw [e0, flat_nil]
      refine ⟨by simp, Nat.zero_le _, grownCap_le_maxLen w m 0 e hmx, .inr ⟨w.heap.size, 0, [], (Builtin.zeroCells z.den.cells m ++ Builtin.zeroCells z.den.cells (grownCap w m 0 e - m)).toList, rfl, ?_, rfl, ?_⟩⟩
      · rw [show (w.drew.alloc (.cells (Builtin.zeroCells z.den.cells m ++ Builtin.zeroCells z.den.cells (grownCap w m 0 e - m)) e)).heap[w.heap.size]? = some (.cells (Builtin.zeroCells z.den.cells m ++ Builtin.zeroCells z.den.cells (grownCap w m 0 e - m)) e) from heap_alloc_new w.drew _]
        congr 2
      · rw [List.nil_append, Array.length_toList, Array.size_append, size_zeroCells, size_zeroCells, hzs, ← Nat.add_mul]
        exact Nat.mul_le_mul_right _ (by omega)
    · have := fp_row.1 (show (Res.row _ _ _ _ _ _).fp b from hb)
      simp [obl] at this
      omega, kp_one⟩
end HL
end Go.Proofs.Ytlnckcgbpilmdaa
/- Exact sums: plain. -/


set_option linter.unusedVariables false
namespace Go.Proofs.Ytlnckcgbpilmdaa
open Go Go.RowKit HL
def ttot (l : List TotalP) (n : NameP) : Int := ((l.filter fun x => decide (x.key = n)).map fun x => num x.sum).sum
theorem ttot_app (l m : List TotalP) (n : NameP) : ttot (l ++ m) n = ttot l n + ttot m n := by
  unfold ttot
  rw [List.filter_append, List.map_append, List.sum_append_int]
theorem ttot_one (x : TotalP) (n : NameP) : ttot [x] n = if n = x.key then num x.sum else 0 := by
  unfold ttot
  by_cases h : x.key = n
  · simp [h]
  · have : ¬ n = x.key := fun e => h e.symm
    simp [h, this]
theorem ttot_cons (x : TotalP) (l : List TotalP) (n : NameP) : ttot (x :: l) n = (if n = x.key then num x.sum else 0) + ttot l n := by
  rw [show x :: l = [x] ++ l from rfl, ttot_app, ttot_one]
theorem ttot_no {n : NameP} : ∀ {l : List TotalP}, (∀ x ∈ l, x.key ≠ n) → ttot l n = 0
  | [], _ => rfl
  | x :: l, h => by
    rw [ttot_cons, if_neg (fun e => h x (List.mem_cons_self ..) e.symm), ttot_no fun y hy => h y (List.mem_cons_of_mem _ hy)]
    rfl
theorem ttot_key : ∀ {l : List TotalP}, (l.map TotalP.key).Nodup → ∀ x ∈ l, ttot l x.key = num x.sum
  | [], _, x, hx => by cases hx
  | y :: l, hn, x, hx => by
    rw [List.map_cons, List.nodup_cons] at hn
    rcases List.mem_cons.1 hx with rfl | hx
    · rw [ttot_cons, if_pos rfl, ttot_no fun z hz e => hn.1 (by rw [← e]; exact List.mem_map_of_mem hz)]
      omega
    · have hne : ¬ x.key = y.key := fun e => hn.1 (by rw [← e]; exact List.mem_map_of_mem hx)
      rw [ttot_cons, if_neg hne, ttot_key hn.2 x hx]
      omega
theorem IsT.nodup {g : NameP → WideP} {l : List TotalP} (h : IsT g l) : (l.map TotalP.key).Nodup := h.1.nodup
theorem IsT.ttot {g : NameP → WideP} {l : List TotalP} (h : IsT g l) (n : NameP) : ttot l n = num (g n) := by
  by_cases e : g n = wz
  · rw [e]
    refine ttot_no fun x hx ek => ?_
    obtain ⟨h1, h2⟩ := (h.2 x).1 hx
    rw [ek, e] at h2
    exact h1 h2.symm
  · have hm := (h.2 ⟨n.policy, n.name, g n⟩).2 ⟨e, rfl⟩
    exact ttot_key h.nodup _ hm
structure SlT where
  A : Option Addr
  c : Nat
  l : List TotalP
def slt0 : SlT := ⟨none, 0, []⟩
instance : Df SlT slt0 := ⟨⟩
def sltEn : En SlT := ⟨fun v => .one (.sl 0 v.A v.l.length v.c), false, 1, fun _ => ⟨rfl, rfl⟩, by decide⟩
def sltS (v : SlT) (_ : Nat) : RS := .rd total0 v.A totalEn v.l
instance : ElT Try.prog 40 sltEn := ⟨⟩
abbrev rdRows (A : Option Addr) (l : List SlT) : Res := (RS.rdn slt0 A sltEn l 1 sltS).den
def TL (l : List SlT) : List TotalP := l.flatMap SlT.l
theorem TL_app (l m : List SlT) : TL (l ++ m) = TL l ++ TL m := by unfold TL; rw [List.flatMap_append]
theorem TL_one (v : SlT) : TL [v] = v.l := by unfold TL; simp
theorem TL_snoc {l : List SlT} {k : Nat} {d : SlT} (hk : k < l.length) : TL (l.take (k + 1)) = TL (l.take k) ++ (l.getD k d).l := by
  rw [take_getD (d := d) hk, TL_app, TL_one]
theorem ttot_snoc {l : List TotalP} {k : Nat} {d : TotalP} (hk : k < l.length) (n : NameP) : ttot (l.take (k + 1)) n = ttot (l.take k) n + if n = (l.getD k d).key then num (l.getD k d).sum else 0 := by
  rw [take_getD (d := d) hk, ttot_app, ttot_one]
theorem gD {α : Type} {l : List α} {k : Nat} {d : α} (hk : k < l.length) : l.getD k d = l[k] := by rw [List.getD_eq_getElem?_getD, List.getElem?_eq_getElem hk]; rfl
theorem csum_drop {l : List ValueM} {k : Nat} {d : ValueM} (hk : k < l.length) : csum (l.drop k) = (l.getD k d).coin + csum (l.drop (k + 1)) := by
  rw [List.drop_eq_getElem_cons hk, show l[k] :: l.drop (k + 1) = [l[k]] ++ l.drop (k + 1) from rfl, csum_app, csum_one, gD hk]
theorem AL_drop {l : List ValueM} {k : Nat} {d : ValueM} (hk : k < l.length) : AL (l.drop k) = (l.getD k d).assets ++ AL (l.drop (k + 1)) := by
  rw [List.drop_eq_getElem_cons hk, show l[k] :: l.drop (k + 1) = [l[k]] ++ l.drop (k + 1) from rfl, AL_app, AL_one, gD hk]
theorem rev_drop {α : Type} {l : List α} {k : Nat} {d : α} (hk : k < l.length) : (l.drop k).reverse = (l.drop (k + 1)).reverse ++ [l.getD k d] := by
  rw [List.drop_eq_getElem_cons hk, List.reverse_cons, gD hk]
theorem wOf_rows {x y z : Int} (h : wOf x = wOf y) : wOf (x + num (wOf z)) = wOf (z + y) := by
  rw [wOf_addR, Int.add_comm z y, wOf_cancel]
  exact h
theorem SameVs.csum : ∀ {l m : List ValueM}, SameVs l m → csum l = csum m
  | [], [], _ => rfl
  | [], y :: m, h => by simp [SameVs] at h
  | x :: l, [], h => by simp [SameVs] at h
  | x :: l, y :: m, h => by
    unfold SameVs at h
    simp only [List.map_cons, List.cons.injEq, Prod.mk.injEq] at h
    have ih := SameVs.csum (l := l) (m := m) h.2
    rw [show x :: l = [x] ++ l from rfl, show y :: m = [y] ++ m from rfl, csum_app, csum_app, csum_one, csum_one, ih, h.1.1]
theorem SameVs.AL : ∀ {l m : List ValueM}, SameVs l m → AL l = AL m
  | [], [], _ => rfl
  | [], y :: m, h => by simp [SameVs] at h
  | x :: l, [], h => by simp [SameVs] at h
  | x :: l, y :: m, h => by
    unfold SameVs at h
    simp only [List.map_cons, List.cons.injEq, Prod.mk.injEq] at h
    have ih := SameVs.AL (l := l) (m := m) h.2
    rw [show x :: l = [x] ++ l from rfl, show y :: m = [y] ++ m from rfl, AL_app, AL_app, AL_one, AL_one, ih, h.1.2]
theorem SameVs.fit : ∀ {l m : List ValueM}, SameVs l m → (∀ v ∈ m, FitS v) → ∀ v ∈ l, FitS v
  | [], _, _, _, v, hv => by cases hv
  | x :: l, [], h, _, v, hv => by simp [SameVs] at h
  | x :: l, y :: m, h, hf, v, hv => by
    unfold SameVs at h
    simp only [List.map_cons, List.cons.injEq, Prod.mk.injEq] at h
    rcases List.mem_cons.1 hv with rfl | hv
    · have := hf y (List.mem_cons_self ..)
      unfold FitS at *
      rw [h.1.1, h.1.2]
      exact this
    · exact SameVs.fit (l := l) (m := m) h.2 (fun w hw => hf w (List.mem_cons_of_mem _ hw)) v hv
theorem Bal.both {inn out out2 : List ValueM} {mint : List AssetP} {fee : Int} (m : ValueM) (hs : SameVs out2 out) : Bal ([m] ++ inn) mint (out2 ++ [m]) fee ↔ Bal inn mint out fee := by
  unfold Bal
  rw [csum_app, csum_app, csum_one, hs.csum, AL_app, AL_one, AL_app, AL_one, hs.AL]
  rw [show m.coin + csum inn = csum inn + m.coin by omega, show csum out + m.coin + fee = (csum out + fee) + m.coin by omega, wOf_cancel]
  refine and_congr_right fun _ => forall_congr' fun n => ?_
  rw [List.append_assoc, tot_app, tot_app (AL out), Int.add_comm (tot m.assets n), wOf_cancel]
theorem Bal.self (l : List ValueM) : Bal l [] l 0 := by
  unfold Bal
  exact ⟨by rw [Int.add_zero], fun n => by rw [List.append_nil]⟩
theorem Bal.mint (v : ValueM) (hc : v.coin = 0) : Bal [] v.assets [v] 0 := by
  unfold Bal
  refine ⟨by rw [csum_one, hc]; rfl, fun n => by rw [AL_one]; rfl⟩
end Go.Proofs.Ytlnckcgbpilmdaa
/- Rows of totals put together; totals merged. -/

set_option linter.unusedVariables false
set_option linter.unusedSimpArgs false
set_option maxRecDepth 100000
namespace Go.Proofs.Ytlnckcgbpilmdaa
open Go Go.RowKit HL
theorem grow_spec (m : Nat) (hm : m ≤ 1048576) : CSpec Try.prog 52 [.one (.sl 0 none 0 0), .one (.i .i64 m)] [] [] fun o L => ∃ A c, o = .ret (vsl 0 A 0 c) ∧ L = [Res.rows A c 48 totalEn []] := by
  refine v_enter Try.func52 (h := fun w0 => ?_)
  refine v_code [] (hk := ?_)
  first | refine c_ifd rfl (fun h6 => ?_) (fun h6 => ?_) | refine c_ifn rfl (fun h6 => ?_) (fun h6 => ?_) | refine c_if rfl (fun h6 => ?_) (fun h6 => ?_)
  · first
    | (exfalso; omega; done)
    | ( refine v_code [] (hk := ?_)
        refine l_rd r_iface ?_
        refine l_panic (h := ?_)
        refine v_ex [] (hk := ?_)
        refine k_pan [] (h := ?_)
        exact ⟨rfl, rfl⟩)
  · first
    | (exfalso; omega; done)
    | ( refine v_code [] (hk := ?_)
        refine l_rd r_cap ?_
        refine v_ops [] (hk := ?_)
        first | refine c_ifd rfl (fun h16 => ?_) (fun h16 => ?_) | refine c_ifn rfl (fun h16 => ?_) (fun h16 => ?_) | refine c_if rfl (fun h16 => ?_) (fun h16 => ?_)
        · first
          | (exfalso; omega; done)
          | ( refine v_code [] (hk := ?_)
              refine l_rd r_cap ?_
              refine v_ops [] (hk := ?_)
              refine l_do (d_zeros (m := m) totalEn) (fun p22 => ?_)
              refine v_ops [] (hk := ?_)
              refine k_ret [10022] (vsl 0 p22.1 0 p22.2) (.cons (.tmp rfl) .nil) (h := ?_)
              exact ⟨p22.1, p22.2, rfl, rfl⟩)
        · first
          | (exfalso; omega; done)
          | ( refine v_code [] (hk := ?_)
              refine k_nil 700 48 totalEn ?_
              refine k_ret [700] (vsl 0 none 0 0) (.cons (.tmp rfl) .nil) (h := ?_)
              exact ⟨none, 0, rfl, rfl⟩))
theorem TL_le {l : List SlT} {k : Nat} {d : SlT} (hk : k < l.length) : (TL (l.take k)).length + (l.getD k d).l.length ≤ (TL l).length := by
  rw [← List.length_append, ← TL_snoc hk]
  conv => rhs; rw [← List.take_append_drop (k + 1) l, TL_app, List.length_append]
  omega
theorem concat_spec (A : Option Addr) (l : List SlT) (c : Nat) (hl : l.length ≤ 1048576) (ht : (TL l).length ≤ 1048576) : CSpec Try.prog 40 [.one (.sl 0 A l.length c)] [(0, rdRows A l)] [] fun o L => ∃ B d, o = .ret (vsl 0 B (TL l).length d) ∧ L = [Res.rows B d 48 totalEn (TL l)] := by
  refine v_enter Try.func40 (h := fun w0 => ?_)
  refine v_code [] (hk := ?_)
  refine v_loop (fun m E H => ∃ (k : Nat) (n : Nat), E = [(11, vn k), (3, vn n)] ∧ H = [] ∧ m = l.length - k ∧ k ≤ l.length ∧ (n = (TL (l.take k)).length)) [0, 2, 6, 8, 9, 10, 23, 24, 25, 26, 27, 28, 29, 30, 31, 32, 33, 34, 35] (l.length) ([(11, vn 0), (3, vn (0))]) ([]) (h0 := ⟨0, 0, rfl, rfl, by omega, by omega, by rfl⟩) (hr := ?_)
  rintro _ _ _ ⟨k, n, rfl, rfl, hmk, hk, hik0⟩
  refine v_code [] (hk := ?_)
  first | refine c_ifd rfl (fun h12 => ?_) (fun h12 => ?_) | refine c_ifn rfl (fun h12 => ?_) (fun h12 => ?_) | refine c_if rfl (fun h12 => ?_) (fun h12 => ?_)
  · have hle := TL_le (d := slt0) h12
    refine v_code [] (hk := ?_)
    first | refine c_ifd rfl (fun h20 => ?_) (fun h20 => ?_) | refine c_ifn rfl (fun h20 => ?_) (fun h20 => ?_) | refine c_if rfl (fun h20 => ?_) (fun h20 => ?_)
    · first
      | (exfalso; omega; done)
      | ( refine v_code [] (hk := ?_)
          refine l_rd r_iface ?_
          refine l_panic (h := ?_)
          refine v_ex [] (hk := ?_)
          refine k_pan [] (h := ?_)
          exact ⟨rfl, rfl⟩)
    · first
      | (exfalso; omega; done)
      | ( refine v_code [] (hk := ?_)
          refine v_again (l.length - (k + 1)) ⟨k + 1, n + (l.getD k slt0).l.length, rfl, rfl, by omega, by omega, by rw [TL_snoc (d := slt0) h12, List.length_append, hik0]⟩)
  · rw [take_all' h12] at hik0
    subst hik0
    refine v_code [] (hk := ?_)
    refine v_call 21200 [] (grow_spec (TL l).length ht) Try.func52 (h := ?_)
    rintro _ _ (⟨G, cg, rfl, rfl⟩)
    refine v_ops [] (hk := ?_)
    refine v_loop (fun m E H => ∃ (k : Nat) (A2 : Option Addr) (c2 : Nat) (t : List TotalP), E = [(27, vn k), (6, vsl 21200 A2 t.length c2)] ∧ H = [(21200, Res.rows A2 c2 48 totalEn t)] ∧ m = l.length - k ∧ k ≤ l.length ∧ (t = TL (l.take k))) [2, 25, 26, 35] (l.length) ([(27, vn 0), (6, vsl 21200 (G) ([]).length (cg))]) ([(21200, Res.rows (G) (cg) 48 totalEn ([]))]) (h0 := ⟨0, G, cg, [], rfl, rfl, by omega, by omega, by rfl⟩) (hr := ?_)
    rintro _ _ _ ⟨k, A2, c2, t, rfl, rfl, hmk, hk, hik0⟩
    refine v_code [] (hk := ?_)
    first | refine c_ifd rfl (fun h28 => ?_) (fun h28 => ?_) | refine c_ifn rfl (fun h28 => ?_) (fun h28 => ?_) | refine c_if rfl (fun h28 => ?_) (fun h28 => ?_)
    · have htl : t.length = (TL (l.take k)).length := by rw [hik0]
      have hle2 := TL_le (d := slt0) h28
      have hv : View (rdRows A l) (Res.rd (l.getD k slt0).A totalEn (l.getD k slt0).l) := view_rdn k 0 h28
      refine v_code [] (hk := ?_)
      refine k_val 32 (vsl 0 (l.getD k slt0).A (l.getD k slt0).l.length (l.getD k slt0).c) rfl rfl ?_
      refine l_do d_append (fun p33 => ?_)
      refine v_ops [] (hk := ?_)
      refine v_again (l.length - (k + 1)) ⟨k + 1, p33.1, p33.2, t ++ (l.getD k slt0).l, rfl, rfl, by omega, by omega, by rw [TL_snoc (d := slt0) h28, hik0]⟩
    · refine v_code [] (hk := ?_)
      rw [take_all' h28] at hik0
      subst hik0
      refine k_ret [21200] (vsl 0 A2 (TL l).length c2) (.cons (.tmp rfl) .nil) (h := ?_)
      exact ⟨A2, c2, rfl, rfl⟩
theorem merge_spec (A : Option Addr) (l : List SlT) (c : Nat) (hl : l.length ≤ 1048576) (ht : (TL l).length ≤ 1048576) (hw : ∀ x ∈ TL l, WOk x.sum) : CSpec Try.prog 16 [.one (.sl 0 A l.length c)] [(0, rdRows A l)] [] fun o L => ∃ B d t, IsT (fun n => wOf (ttot (TL l) n)) t ∧ t.length ≤ 1048576 ∧ o = .ret (vsl 0 B t.length d) ∧ L = [Res.rows B d 48 totalEn t] := by
  refine v_enter Try.func16 (h := fun w0 => ?_)
  refine v_code [] (hk := ?_)
  refine l_do (d_makeMap nameEn wideEn) (fun g6 => ?_)
  refine v_ops [] (hk := ?_)
  refine v_call 20400 [] (concat_spec A l c hl ht) Try.func40 (h := ?_)
  rintro _ _ (⟨B8, d8, rfl, rfl⟩)
  refine v_ops [] (hk := ?_)
  refine v_loop (fun m E H => ∃ (k : Nat) (mm : List (NameP × WideP × Nat)) (cl : Nat), E = [(10, vn k)] ∧ H = [(10006, Res.mp g6 nameEn wideEn mm cl)] ∧ m = (TL l).length - k ∧ k ≤ (TL l).length ∧ (BM (ttot ((TL l).take k)) mm cl) ∧ (mm.length ≤ k)) [2, 3, 8, 9, 24, 25] ((TL l).length) ([(10, vn 0)]) ([(10006, Res.mp g6 nameEn wideEn ([]) (0))]) (h0 := ⟨0, [], 0, rfl, rfl, by omega, by omega, BM.nil, by simp⟩) (hr := ?_)
  rintro _ _ _ ⟨k, mm, cl, rfl, rfl, hmk, hk, hik0, hik1⟩
  refine v_code [] (hk := ?_)
  first | refine c_ifd rfl (fun h11 => ?_) (fun h11 => ?_) | refine c_ifn rfl (fun h11 => ?_) (fun h11 => ?_) | refine c_if rfl (fun h11 => ?_) (fun h11 => ?_)
  · have hx := hw _ (getD_mem (d := total0) h11)
    refine v_code [] (hk := ?_)
    refine l_do d_alloc (fun g5 => ?_)
    refine v_ops [] (hk := ?_)
    refine v_call 21100 [] (badd_spec g6 mm cl ((TL l).getD k total0).key ((TL l).getD k total0).sum hx (hik0.ok _)) Try.func37 (h := ?_)
    rintro _ _ (⟨rfl, rfl⟩)
    refine v_ops [] (hk := ?_)
    refine k_ren 21100 10006 rfl ?_
    refine v_again ((TL l).length - (k + 1)) ⟨k + 1, mput mm cl ((TL l).getD k total0).key (wOf (num ((mlook mm ((TL l).getD k total0).key).getD wz) + num ((TL l).getD k total0).sum)), mclk mm cl ((TL l).getD k total0).key, rfl, rfl, by omega, by omega, hik0.add rfl (ttot_snoc (d := total0) h11), by have := mput_len mm cl ((TL l).getD k total0).key (wOf (num ((mlook mm ((TL l).getD k total0).key).getD wz) + num ((TL l).getD k total0).sum)); omega⟩
  · refine v_code [] (hk := ?_)
    refine v_call 21250 [] (totals_spec g6 mm cl hik0.wf (by omega)) Try.func38 (h := ?_)
    rintro _ _ (⟨B, d, t, ht2, htl, rfl, rfl⟩)
    refine v_ops [] (hk := ?_)
    rw [take_all' h11] at hik0
    refine k_ret [21250] (vsl 0 B t.length d) (.cons (.tmp rfl) .nil) (h := ?_)
    exact ⟨B, d, t, ht2.congr hik0.look, htl, rfl, rfl⟩
end Go.Proofs.Ytlnckcgbpilmdaa
/- Exact sums, row by row: plain. -/

set_option linter.unusedVariables false
namespace Go.Proofs.Ytlnckcgbpilmdaa
open Go Go.RowKit HL
def ownT (v : SlT) : Res := Res.rows v.A v.c 48 totalEn v.l
theorem bagT_each {B L : Hp} {l : List SlT} (j : Nat) (h : lk2 B L j = some (Res.bag (l.map ownT)) := by rfl) : Each B L [j] (fun v => (sltS v 0).den) l := fun v hv => ⟨fun w hf => view_rows.h w ((hf j _ h).1 _ (List.mem_map_of_mem hv)), fun b hb => ⟨j, by simp, _, h, ownT v, List.mem_map_of_mem hv, view_rows.f b hb⟩⟩
theorem Each.sub {α : Type} {B L : Hp} {S : List Nat} {F : α → Res} {l l' : List α} (h : Each B L S F l) (hs : ∀ x ∈ l', x ∈ l) : Each B L S F l' := fun x hx => h x (hs x hx)
theorem IsT.len {P : List AssetP} {t : List TotalP} (h : IsT (fun n => wOf (tot P n)) t) : t.length ≤ P.length := by
  have h1 := iter_len (l := P.map AssetP.key) (done := t.map TotalP.key) (fun k hk => by
    obtain ⟨x, hx, rfl⟩ := List.mem_map.1 hk
    obtain ⟨h2, h3⟩ := (h.2 x).1 hx
    have h3' : wOf (tot P x.key) = x.sum := h3
    have h6 : tot P x.key ≠ 0 := fun e => h2 (by rw [← h3', e, wOf_zero])
    obtain ⟨y, hy, e⟩ := tot_mem h6
    exact List.mem_map.2 ⟨y, hy, e⟩) h.nodup
  simpa using h1
theorem IsT.ok {f : NameP → Int} {t : List TotalP} (h : IsT (fun n => wOf (f n)) t) : ∀ x ∈ t, WOk x.sum := fun x hx => by
  have h1 : wOf (f x.key) = x.sum := ((h.2 x).1 hx).2
  rw [← h1]
  exact wOf_ok _
structure RowsOk (inn : List ValueM) (m : Nat) (rows : List SlT) : Prop where
  sum : ∀ n, wOf (ttot (TL rows) n) = wOf (tot (AL (inn.drop m)) n)
  ok : ∀ x ∈ TL rows, WOk x.sum
  len : rows.length = inn.length - m
  tl : (TL rows).length ≤ 200 * rows.length
theorem RowsOk.nil {inn : List ValueM} {m : Nat} (hm : m = inn.length) : RowsOk inn m [] := by
  subst hm
  exact ⟨fun n => by rw [List.drop_length]; rfl, by simp [TL], by simp, by simp [TL]⟩
theorem RowsOk.snoc {inn : List ValueM} {j : Nat} {rows : List SlT} {d : ValueM} {s : SlT} (h : RowsOk inn (j + 1) rows) (hj : j < inn.length) (ht : IsT (fun n => wOf (tot (AL [inn.getD j d]) n)) s.l) (h2 : (inn.getD j d).assets.length ≤ 200) : RowsOk inn j (rows ++ [s]) where
  sum n := by
    rw [TL_app, TL_one, ttot_app, ht.ttot, AL_drop (d := d) hj, tot_app, AL_one]
    exact wOf_rows (h.sum n)
  ok x hx := by
    rw [TL_app, TL_one] at hx
    rcases List.mem_append.1 hx with hx | hx
    · exact h.ok x hx
    · exact ht.ok x hx
  len := by rw [List.length_append, h.len, List.length_singleton]; omega
  tl := by
    have h3 := ht.len
    rw [AL_one] at h3
    have h4 := h.tl
    rw [TL_app, TL_one, List.length_append, List.length_append, List.length_singleton]
    omega
theorem RowsOk.merge {inn : List ValueM} {rows : List SlT} {t u : List TotalP} (h : RowsOk inn 0 rows) (ht : IsT (fun n => wOf (tot (AL inn) n)) t) (hu : IsT (fun n => wOf (ttot (TL rows) n)) u) : u = t :=
  hu.unique (ht.congr fun n => by rw [h.sum, List.drop_zero])
theorem isT_again {f : NameP → Int} {t u : List TotalP} (ht : IsT (fun n => wOf (f n)) t) {s : SlT} (hs : s.l = t) (hu : IsT (fun n => wOf (ttot (TL [s]) n)) u) : u = t :=
  hu.unique (ht.congr fun n => by rw [TL_one, hs, ht.ttot, wOf_num (wOf_ok _)])
theorem isT_turned {l m : List ValueM} {t u : List TotalP} (ht : IsT (fun n => wOf (tot (AL l) n)) t) (hp : m.Perm l) (hu : IsT (fun n => wOf (tot (AL m) n)) u) : u = t :=
  hu.unique (ht.congr fun n => by rw [totAL_perm hp])
theorem isT_added {l : List ValueM} {v : ValueM} {t u : List TotalP} (ht : IsT (fun n => wOf (tot (AL l) n)) t) (hv : Adds l v.coin v.assets) (hu : IsT (fun n => wOf (tot (AL [v]) n)) u) : u = t :=
  hu.unique (ht.congr fun n => by rw [AL_one, hv.tots])
theorem FitV.fitS {v : ValueM} (h : FitV v) (hl : v.assets.length ≤ 200) : FitS v := ⟨by omega, h.2.1, h.2.2⟩
end Go.Proofs.Ytlnckcgbpilmdaa
/- ValueExact, walked. -/

set_option linter.unusedVariables false
set_option linter.unusedSimpArgs false
set_option maxRecDepth 100000
namespace Go.Proofs.Ytlnckcgbpilmdaa
open Go Go.RowKit HL
theorem bool_iff {a b : Bool} (h : a = true ↔ b = true) : a = b := by cases a <;> cases b <;> simp_all
theorem exact_spec (A0 A1 A2 : Option Addr) (inn out : List ValueM) (mint : List AssetP) (c0 c1 c2 : Nat) (fee : Int) (m : ValueM) (l0 : inn.length ≤ 1048576) (l2 : out.length ≤ 1048576) (S0 : Shorts inn) (S1 : mint.length ≤ 1048576 ∧ Short mint) (S2 : Shorts out) (Sm : Short m.assets) (F0 : ∀ v ∈ inn, FitV v) (F1 : ∀ x ∈ mint, Fits64 x.amount) (F2 : ∀ v ∈ out, FitV v) (Fm : FitV m) (hfee : Fits64 fee) :
    CSpec Try.prog 4 [.one (.sl 0 A0 inn.length c0), .one (.sl 1 A1 mint.length c1), .one (.sl 2 A2 out.length c2), .one (.i .i64 fee), .agg [.one (.i .i64 m.coin), .one (.sl 501 m.A m.assets.length m.c)]] [(0, rdValues A0 inn), (1, Res.rd A1 assetEn mint), (2, rdValues A2 out), (501, Res.rd m.A assetEn m.assets)] [] fun o L => o = .ret (vb true) ∧ L = [] := by
  have hsh : ∀ B, ∀ x ∈ [(⟨A0, c0, inn⟩ : SlV), ⟨A2, c2, out⟩, ⟨B, 2, [⟨0, A1, c1, mint⟩, m]⟩], x.l.length ≤ 1048576 ∧ Shorts x.l := by
    intro B x hx
    simp only [List.mem_cons, List.not_mem_nil, or_false] at hx
    rcases hx with rfl | rfl | rfl
    · exact ⟨l0, S0⟩
    · exact ⟨l2, S2⟩
    · refine ⟨by simp, fun v hv => ?_⟩
      simp only [List.mem_cons, List.not_mem_nil, or_false] at hv
      rcases hv with rfl | rfl
      · exact S1
      · exact ⟨Fm.1, Sm⟩
  have hvA : View (rdValues A0 inn) (Res.rd A0 valueEn inn) := view_head
  refine v_enter Try.func4 (h := fun w0 => ?_)
  refine v_code [] (hk := ?_)
  refine l_do d_box (fun g9 => ?_)
  refine v_ops [] (hk := ?_)
  refine v_call 21450 [] (awake_spec) Try.func5 (h := ?_)
  rintro _ _ (⟨rfl, rfl⟩)
  refine v_know 29 true rfl rfl ?_
  refine v_ops [] (hk := ?_)
  refine l_do (d_bslice [(⟨0, A1, c1, mint⟩ : ValueM), m]) (fun B36 => ?_)
  refine l_do (d_bslice [(⟨A0, c0, inn⟩ : SlV), ⟨A2, c2, out⟩, ⟨B36, 2, [⟨0, A1, c1, mint⟩, m]⟩]) (fun B37 => ?_)
  refine v_callD 21900 [] (great_spec B37 [⟨A0, c0, inn⟩, ⟨A2, c2, out⟩, ⟨B36, 2, [⟨0, A1, c1, mint⟩, m]⟩] 3 (by simp) (hsh B36)) Try.func6 (hB := ⟨⟨_, (Der.rdn (Der.vw 10037) (Each.cons (Der.vw 0) (Each.cons (Der.vw 2) (Each.cons (Der.rdn (Der.vw 10036) (Each.cons (Der.vw 1) (Each.cons (Der.vw 501) Each.nil))) Each.nil)))), rfl⟩, trivial⟩) (h := ?_)
  rintro _ _ (⟨gt, rfl, hgt, rfl⟩)
  refine v_ops [] (hk := ?_)
  first | refine c_ifd rfl (fun h38 => ?_) (fun h38 => ?_) | refine c_ifn rfl (fun h38 => ?_) (fun h38 => ?_) | refine c_if rfl (fun h38 => ?_) (fun h38 => ?_)
  · refine v_code [] (hk := ?_)
    refine v_ret rfl [] (.cons (.tmp rfl) .nil) (h := ?_)
    exact ⟨rfl, rfl⟩
  · have hgt2 := hgt (by simpa using h38)
    obtain ⟨q0, p0⟩ := hgt2 ⟨A0, c0, inn⟩ (by simp)
    obtain ⟨q2, p2⟩ := hgt2 ⟨A2, c2, out⟩ (by simp)
    obtain ⟨q3, p3⟩ := hgt2 ⟨B36, 2, [⟨0, A1, c1, mint⟩, m]⟩ (by simp)
    simp only at q0 q2 q3 p0 p2 p3
    have f0 : ∀ v ∈ inn, FitS v := fun v hv => (F0 v hv).fitS (p0 v hv)
    have f2 : ∀ v ∈ out, FitS v := fun v hv => (F2 v hv).fitS (p2 v hv)
    have f1 := p3 _ (List.mem_cons_self ..)
    have fm : FitS m := Fm.fitS (p3 m (by simp))
    simp only at f1
    have f1m : mint.length ≤ 1000 ∧ ∀ x ∈ mint, Fits64 x.amount := ⟨by omega, F1⟩
    have fin : ∀ v ∈ [m] ++ inn, FitS v := by intro v hv; rcases List.mem_append.1 hv with hv | hv; rw [List.mem_singleton.1 hv]; exact fm; exact f0 v hv
    have fou : ∀ o2, SameVs o2 out → ∀ v ∈ o2 ++ [m], FitS v := by intro o2 ho v hv; rcases List.mem_append.1 hv with hv | hv; exact ho.fit f2 v hv; rw [List.mem_singleton.1 hv]; exact fm
    refine v_code [] (hk := ?_)
    refine v_call 22050 [] (sums_spec A0 inn c0 (by omega) f0) Try.func13 (h := ?_)
    rintro _ _ (⟨B41, d41, T, hT, hTl, rfl, rfl⟩)
    refine v_ops [] (hk := ?_)
    refine l_do d_alloc (fun g11 => ?_)
    refine v_ops [] (hk := ?_)
    refine l_do d_alloc (fun g14 => ?_)
    refine v_ops [] (hk := ?_)
    refine k_nil 10057 24 valueEn ?_
    refine k_nil 10074 40 sltEn ?_
    refine k_empty 900 ?_
    refine v_loop (fun r E H => ∃ (A13 : Option Addr) (c13 : Nat) (back : List ValueM) (s : WideP) (A15 : Option Addr) (c15 : Nat) (rows : List SlT) (rs : List Res), E = [(13, vsl 10057 A13 back.length c13), (15, vsl 10074 A15 rows.length c15), (16, vi .i64 ((r : Int) - 1))] ∧ H = [(10057, Res.rows A13 c13 24 valueEn back), (10014, Res.va g14 39 [.one (.i .i64 s.hi), .one (.i .u64 s.lo)]), (10074, Res.rows A15 c15 40 sltEn rows), (900, Res.bag rs)] ∧ back = (inn.drop r).reverse ∧ s = wOf (csum (inn.drop r)) ∧ RowsOk inn r rows ∧ rs = rows.map ownT ∧ r ≤ inn.length) [0, 1, 2, 3, 9, 10, 11, 12, 14, 19, 20, 21, 22, 23, 24, 25, 26, 27, 28, 75, 76, 77, 78, 79, 80, 81, 82, 83, 84, 85, 86, 87, 88, 89, 90, 91, 92, 93, 94, 95, 96, 97, 98, 99, 100, 101, 102, 103, 104, 105, 106, 107, 108, 109, 110, 111, 112, 113, 114, 115, 116, 117, 118, 119, 120, 121, 122, 123, 124, 125, 126, 127, 128, 129, 130, 131, 132, 133, 134, 135, 136, 137, 138, 139, 140, 141, 142, 143, 144, 145, 146, 147, 148, 149, 150, 151, 152, 153, 154, 155, 156, 157, 158, 159, 160, 161, 162, 163, 164, 165, 166, 167, 168, 169, 170, 171, 172, 173, 174, 175, 176, 177] (inn.length) ([(13, vsl 10057 none 0 0), (15, vsl 10074 none 0 0), (16, vi .i64 ((inn.length : Int) - 1))]) ([(10057, Res.rows none 0 24 valueEn []), (10014, Res.va g14 39 [.one (.i .i64 0), .one (.i .u64 0)]), (10074, Res.rows none 0 40 sltEn []), (900, Res.bag [])]) (h0 := ⟨none, 0, [], wz, none, 0, [], [], rfl, rfl, by rw [List.drop_length]; rfl, by rw [List.drop_length]; exact wOf_zero.symm, RowsOk.nil rfl, rfl, Nat.le_refl _⟩) (hr := ?_)
    rintro _ _ _ ⟨A13, c13, back, s, A15, c15, rows, rs, rfl, rfl, hb, hs, hrk, hrs, hr⟩
    rename_i r
    refine v_code [] (hk := ?_)
    first | refine c_ifd rfl (fun h48 => ?_) (fun h48 => ?_) | refine c_ifn rfl (fun h48 => ?_) (fun h48 => ?_) | refine c_if rfl (fun h48 => ?_) (fun h48 => ?_)
    · obtain ⟨j, rfl⟩ : ∃ j, r = j + 1 := ⟨r - 1, by omega⟩
      have hj : j < inn.length := by omega
      have hbl : back.length ≤ 200 := by rw [hb, List.length_reverse, List.length_drop]; omega
      have hrl := hrk.len
      have hcast : ((j + 1 : Nat) : Int) - 1 = (j : Int) := by omega
      refine k_val 16 (vn j) rfl (by show Value.int _ _ = Value.int _ _; rw [hcast]) ?_
      refine v_code [] (hk := ?_)
      refine l_do (d_bslice [inn.getD j value0]) (fun B56 => ?_)
      refine l_do d_append (fun p57 => ?_)
      refine v_ops [] (hk := ?_)
      refine l_do (d_bslice [inn.getD j value0]) (fun B63 => ?_)
      refine v_callD 23200 [] (sums_spec B63 [inn.getD j value0] 1 (by simp) (by intro v hv; rw [List.mem_singleton.1 hv]; exact f0 _ (getD_mem hj))) Try.func13 (hB := ⟨⟨_, (Der.rdn (Der.vw 10063) (Each.cons (Der.vw 0 rfl (view_rdn j 0 hj)) Each.nil)), rfl⟩, trivial⟩) (h := ?_)
      rintro _ _ (⟨B64, d64, t64, ht64, htl64, rfl, rfl⟩)
      refine v_ops [] (hk := ?_)
      refine l_do d_alloc (fun g17 => ?_)
      refine v_ops [] (hk := ?_)
      refine l_do (d_bslice [wOf (csum [inn.getD j value0]), s]) (fun B69 => ?_)
      refine v_call 23500 [] (plus_spec B69 [wOf (csum [inn.getD j value0]), s] 2 (by simp) (by intro w hw; simp at hw; rcases hw with rfl | rfl; exact wOf_ok _; rw [hs]; exact wOf_ok _)) Try.func14 (h := ?_)
      rintro _ _ (⟨rfl, rfl⟩)
      refine v_ops [] (hk := ?_)
      refine l_do (d_bslice [(⟨B64, d64, t64⟩ : SlT)]) (fun B73 => ?_)
      refine l_do d_append (fun p74 => ?_)
      refine v_ops [] (hk := ?_)
      refine k_push 900 23200 rfl rfl ?_
      refine v_again (j) ⟨p57.1, p57.2, back ++ [inn.getD j value0], wOf (wsum [wOf (csum [inn.getD j value0]), s]), p74.1, p74.2, rows ++ [⟨B64, d64, t64⟩], rs ++ [ownT ⟨B64, d64, t64⟩], rfl, rfl, by rw [hb, rev_drop (d := value0) hj], by rw [wsum_two, hs, csum_one, wOf_addR, wOf_add, csum_drop (d := value0) hj], hrk.snoc (d := value0) hj ht64 (p0 _ (getD_mem hj)), by rw [hrs, List.map_append]; rfl, by omega⟩
    · obtain rfl : r = 0 := by omega
      rw [List.drop_zero] at hb hs
      subst hb
      subst hs
      subst hrs
      have hrl := hrk.len
      have htl := hrk.tl
      refine v_code [] (hk := ?_)
      refine v_callD 23850 [] (sums_spec A13 inn.reverse c13 (by rw [List.length_reverse]; omega) (fun v hv => f0 v (List.mem_reverse.1 hv))) Try.func13 (hB := ⟨⟨_, (Der.rdn (Der.vw 10057) (Each.sub (Each.rdn 0) (fun x hx => List.mem_reverse.1 hx))), rfl⟩, trivial⟩) (h := ?_)
      rintro _ _ (⟨B77, d77, T2, hT2, hTl2, rfl, rfl⟩)
      obtain rfl := isT_turned hT (List.reverse_perm inn) hT2
      refine v_ops [] (hk := ?_)
      refine l_do d_alloc (fun g19 => ?_)
      refine v_ops [] (hk := ?_)
      refine l_rd (r_neSt (u := wOf (csum inn.reverse)) (v := wOf (csum inn))) ?_
      refine v_know 82 false rfl (by rw [csum_perm (List.reverse_perm inn)]; simp) ?_
      refine v_ops [] (hk := ?_)
      refine k_val 83 (vb false) rfl rfl ?_
      refine l_rd (r_neSt (u := wOf (csum inn)) (v := wOf (csum inn))) ?_
      refine v_know 86 false rfl (by simp) ?_
      refine v_know 83 false rfl rfl ?_
      refine v_ops [] (hk := ?_)
      refine k_val 88 (vb false) rfl rfl ?_
      refine v_callD 24550 [] (sameTotals_spec B77 B41 T2 T2 d77 d41 hTl) Try.func15 (hB := ⟨⟨_, (Der.vw 23850), rfl⟩, ⟨⟨_, (Der.vw 22050), rfl⟩, trivial⟩⟩) (h := ?_)
      rintro _ _ (⟨rfl, rfl⟩)
      refine v_know 91 true rfl (by simp) ?_
      refine v_know 88 false rfl rfl ?_
      refine v_ops [] (hk := ?_)
      refine k_val 94 (vb false) rfl rfl ?_
      refine v_callD 24800 [] (merge_spec A15 rows c15 (by omega) (by omega) hrk.ok) Try.func16 (hB := ⟨⟨_, (Der.rdn (Der.vw 10074) (bagT_each 900)), rfl⟩, trivial⟩) (h := ?_)
      rintro _ _ (⟨B96, d96, T3, hT3, hTl3, rfl, rfl⟩)
      obtain rfl := hrk.merge hT hT3
      refine v_know 94 false rfl rfl ?_
      refine v_ops [] (hk := ?_)
      refine k_val 94 (vb false) rfl rfl ?_
      refine v_callD 24900 [] (sameTotals_spec B96 B41 T3 T3 d96 d41 hTl) Try.func15 (hB := ⟨⟨_, (Der.vw 24800), rfl⟩, ⟨⟨_, (Der.vw 22050), rfl⟩, trivial⟩⟩) (h := ?_)
      rintro _ _ (⟨rfl, rfl⟩)
      refine v_know 98 true rfl (by simp) ?_
      refine v_know 94 false rfl rfl ?_
      refine v_ops [] (hk := ?_)
      refine k_val 101 (vb false) rfl rfl ?_
      refine l_do (d_bslice [(⟨B41, d41, T3⟩ : SlT)]) (fun B103 => ?_)
      refine v_know 101 false rfl rfl ?_
      refine k_val 101 (vb false) rfl rfl ?_
      refine v_callD 25200 [] (merge_spec B103 [⟨B41, d41, T3⟩] 1 (by simp) (by rw [TL_one]; exact hTl) (by rw [TL_one]; exact hT.ok)) Try.func16 (hB := ⟨⟨_, (Der.rdn (Der.vw 10103) (Each.cons (Der.vw 22050) Each.nil)), rfl⟩, trivial⟩) (h := ?_)
      rintro _ _ (⟨B104, d104, T4, hT4, hTl4, rfl, rfl⟩)
      obtain rfl := isT_again hT rfl hT4
      refine v_know 101 false rfl rfl ?_
      refine v_ops [] (hk := ?_)
      refine k_val 101 (vb false) rfl rfl ?_
      refine v_callD 25300 [] (sameTotals_spec B104 B41 T4 T4 d104 d41 hTl) Try.func15 (hB := ⟨⟨_, (Der.vw 25200), rfl⟩, ⟨⟨_, (Der.vw 22050), rfl⟩, trivial⟩⟩) (h := ?_)
      rintro _ _ (⟨rfl, rfl⟩)
      refine v_know 106 true rfl (by simp) ?_
      refine v_know 101 false rfl rfl ?_
      refine v_ops [] (hk := ?_)
      refine v_loop (fun m E H => ∃ (k : Nat), E = [(21, vn k)] ∧ H = [] ∧ m = T4.length - k ∧ k ≤ T4.length) [0, 1, 2, 3, 9, 11, 12, 22, 23, 24, 25, 26, 27, 28, 122, 123, 124, 125, 126, 127, 128, 129, 130, 131, 132, 133, 134, 135, 136, 137, 138, 139, 140, 141, 142, 143, 144, 145, 146, 147, 148, 149, 150, 151, 152, 153, 154, 155, 156, 157, 158, 159, 160, 161, 162, 163, 164, 165, 166, 167, 168, 169, 170, 171, 172, 173, 174, 175, 176, 177] (T4.length) ([(21, vn 0)]) ([]) (h0 := ⟨0, rfl, rfl, by omega, by omega⟩) (hr := ?_)
      rintro _ _ _ ⟨k, rfl, rfl, hmk, hk⟩
      refine v_code [] (hk := ?_)
      first | refine c_ifd rfl (fun h112 => ?_) (fun h112 => ?_) | refine c_ifn rfl (fun h112 => ?_) (fun h112 => ?_) | refine c_if rfl (fun h112 => ?_) (fun h112 => ?_)
      · refine v_code [] (hk := ?_)
        refine l_rd (r_eqSt (u := (T4.getD k total0).sum) (v := wz)) ?_
        refine v_ops [] (hk := ?_)
        first | refine c_ifd rfl (fun h121 => ?_) (fun h121 => ?_) | refine c_ifn rfl (fun h121 => ?_) (fun h121 => ?_) | refine c_if rfl (fun h121 => ?_) (fun h121 => ?_)
        · exact absurd h121 ((hT.2 _).1 (getD_mem h112)).1
        · refine v_code [] (hk := ?_)
          refine v_again (T4.length - (k + 1)) ⟨k + 1, rfl, rfl, by omega, by omega⟩
      · refine v_code [] (hk := ?_)
        refine v_call 26200 [] (add_spec A0 inn c0 (by omega) F0) Try.func7 (h := ?_)
        rintro _ _ (⟨v, ok, hv, rfl, rfl⟩)
        refine v_ops [] (hk := ?_)
        refine l_do d_alloc (fun g22 => ?_)
        refine v_ops [] (hk := ?_)
        refine v_cut (fun E H => E = [] ∧ H = []) [0, 1, 2, 3, 9, 26, 27, 28, 143, 144, 145, 146, 147, 148, 149, 150, 151, 152, 153, 154, 155, 156, 157, 158, 159, 160, 161, 162, 163, 164, 165, 166, 167, 168, 169, 170, 171, 172, 173, 174, 175, 176, 177] [] (h1 := ?_) (h2 := ?_)
        · first | refine c_ifd rfl (fun h127 => ?_) (fun h127 => ?_) | refine c_ifn rfl (fun h127 => ?_) (fun h127 => ?_) | refine c_if rfl (fun h127 => ?_) (fun h127 => ?_)
          · have hok : ok = true := by simpa using h127
            subst hok
            have hva := hv.yes
            have fv := (hv.fit).fitS (by have := hva.2.2.2; omega)
            refine v_code [] (hk := ?_)
            refine l_do (d_bslice [v]) (fun B130 => ?_)
            refine v_callD 26550 [] (sums_spec B130 [v] 1 (by simp) (by intro w hw; rw [List.mem_singleton.1 hw]; exact fv)) Try.func13 (hB := ⟨⟨_, (Der.rdn (Der.vw 10130) (Each.cons (Der.vw 26200) Each.nil)), rfl⟩, trivial⟩) (h := ?_)
            rintro _ _ (⟨B131, d131, T5, hT5, hTl5, rfl, rfl⟩)
            obtain rfl := isT_added hT hva hT5
            refine v_ops [] (hk := ?_)
            refine l_do d_alloc (fun g24 => ?_)
            refine v_ops [] (hk := ?_)
            refine l_rd (r_neSt (u := wOf (csum [v])) (v := wOf (csum inn))) ?_
            refine v_know 136 false rfl (by rw [csum_one, hva.2.1]; simp) ?_
            refine v_ops [] (hk := ?_)
            refine k_val 137 (vb false) rfl rfl ?_
            refine v_callD 27000 [] (sameTotals_spec B131 B41 T5 T5 d131 d41 hTl) Try.func15 (hB := ⟨⟨_, (Der.vw 26550), rfl⟩, ⟨⟨_, (Der.vw 22050), rfl⟩, trivial⟩⟩) (h := ?_)
            rintro _ _ (⟨rfl, rfl⟩)
            refine v_know 140 true rfl (by simp) ?_
            refine v_know 137 false rfl rfl ?_
            refine v_ops [] (hk := ?_)
            refine v_join (⟨rfl, rfl⟩)
          · refine v_code [] (hk := ?_)
            refine v_join (⟨rfl, rfl⟩)
        · rintro _ _ (⟨rfl, rfl⟩)
          refine v_ex [] (hk := ?_)
          refine v_call 27350 [] (balance_spec A0 A1 A2 inn out mint c0 c1 c2 fee (by omega) (by omega) f0 f2 f1m hfee) Try.func17 (h := ?_)
          rintro _ _ (⟨b1, hb1, rfl, rfl⟩)
          refine v_ops [] (hk := ?_)
          refine v_draw (.q 0 (.q 2 (.q 4 (.q 6 (.s2 1 (.s2 3 (.s2 5 (.s 7 (.s 8 (.q 9 (.q 10 .nil)))) 7 (.s 5 (.s 8 (.q 9 (.q 10 .nil))))) 7 (.s 3 (.s 5 (.s 8 (.q 9 (.q 10 .nil)))))) 7 (.s 1 (.s 3 (.s 5 (.s 8 (.q 9 (.q 10 .nil))))))))))) [10009] (hm := by kernel_rfl) (hs := by kernel_rfl) (hk := by kernel_rfl) (h := ?_)
          refine v_sch [] (hk := ?_)
          refine s_two ?_ ?_
          · refine s_do rfl (d_bslice [m]) (fun B149 => ?_)
            refine v_sch [] (hk := ?_)
            refine s_two ?_ ?_
            · refine s_do rfl d_append (fun p151 => ?_)
              refine v_sch [] (hk := ?_)
              refine s_two ?_ ?_
              · refine v_callS rfl 27650 [] (copyValues_spec A2 out c2 l2 (fun v hv => (S2 v hv).1)) Try.func18 (h := ?_)
                rintro _ _ (⟨B153, d153, out2, hs2, hl2, rfl, rfl⟩)
                refine ⟨cov_of (by repeat (first | exact trivial | refine ⟨rfl, ?_⟩)), ?_⟩
                refine s_do rfl (d_bslice [m]) (fun B155 => ?_)
                refine s_do rfl d_append (fun p156 => ?_)
                refine v_sch [] (hk := ?_)
                refine v_callD 28050 [] (balance_spec p151.1 A1 p156.1 ([m] ++ inn) (out2 ++ [m]) mint p151.2 c1 p156.2 fee (by simp; omega) (by simp; omega) fin (fou out2 hs2) f1m hfee) Try.func17 (hB := ⟨⟨_, (Der.rdn (Der.vw 10149) (Each.app (Each.cons (Der.vw 501) Each.nil) (Each.rdn 0))), rfl⟩, ⟨⟨_, (Der.vw 1), rfl⟩, ⟨⟨_, (Der.rdn (Der.vw 27650) (Each.app (bag_each 27651) (Each.cons (Der.vw 501) Each.nil))), rfl⟩, trivial⟩⟩⟩) (h := ?_)
                rintro _ _ (⟨b2, hb2, rfl, rfl⟩)
                obtain rfl : b2 = b1 := bool_iff (hb2.trans ((Bal.both m hs2).trans hb1.symm))
                refine v_ops [] (hk := ?_)
                refine k_val 164 (vb true) rfl (by simp) ?_
                refine k_val 165 (vsl 0 A0 inn.length c0) rfl (if_pos (by simp)) ?_
                refine k_val 166 (vsl 0 A0 inn.length c0) rfl (if_pos (by simp)) ?_
                refine v_callD 28350 [] (balance_spec A0 none A0 inn inn [] c0 0 c0 0 (by omega) (by omega) f0 f0 ⟨by simp, by simp⟩ ⟨by decide, by decide⟩) Try.func17 (hB := ⟨⟨_, (Der.vw 0), rfl⟩, ⟨⟨_, Der.nl, rfl⟩, ⟨⟨_, (Der.vw 0), rfl⟩, trivial⟩⟩⟩) (h := ?_)
                rintro _ _ (⟨b3, hb3, rfl, rfl⟩)
                obtain rfl := hb3.2 (Bal.self inn)
                refine v_know 167 true rfl rfl ?_
                refine v_know 164 true rfl rfl ?_
                refine v_ops [] (hk := ?_)
                refine k_val 169 (vb true) rfl rfl ?_
                refine l_do (d_bslice [(⟨0, m.A, m.c, m.assets⟩ : ValueM)]) (fun B175 => ?_)
                refine v_know 169 true rfl rfl ?_
                refine k_val 169 (vb true) rfl rfl ?_
                refine v_callD 28800 [] (balance_spec none m.A B175 [] [⟨0, m.A, m.c, m.assets⟩] m.assets 0 m.c 1 0 (by simp) (by simp) (by simp) (by intro v hv; rw [List.mem_singleton.1 hv]; exact ⟨fm.1, (show Fits64 0 from ⟨by decide, by decide⟩), fm.2.2⟩) ⟨fm.1, fm.2.2⟩ ⟨by decide, by decide⟩) Try.func17 (hB := ⟨⟨_, (Der.rdn Der.nl Each.nil), rfl⟩, ⟨⟨_, (Der.vw 501), rfl⟩, ⟨⟨_, (Der.rdn (Der.vw 10175) (Each.cons (Der.vw 501) Each.nil)), rfl⟩, trivial⟩⟩⟩) (h := ?_)
                rintro _ _ (⟨b4, hb4, rfl, rfl⟩)
                obtain rfl := hb4.2 (Bal.mint _ rfl)
                refine v_know 176 true rfl rfl ?_
                refine v_know 169 true rfl rfl ?_
                refine v_ops [] (hk := ?_)
                refine v_ret rfl [] (.cons (.tmp rfl) .nil) (h := ?_)
                exact ⟨rfl, rfl⟩
              · refine s_do rfl (d_bslice [m]) (fun B155 => ?_)
                refine v_callS rfl 27650 [] (copyValues_spec A2 out c2 l2 (fun v hv => (S2 v hv).1)) Try.func18 (h := ?_)
                rintro _ _ (⟨B153, d153, out2, hs2, hl2, rfl, rfl⟩)
                refine ⟨cov_of (by repeat (first | exact trivial | refine ⟨rfl, ?_⟩)), ?_⟩
                refine s_do rfl d_append (fun p156 => ?_)
                refine v_sch [] (hk := ?_)
                refine v_callD 28050 [] (balance_spec p151.1 A1 p156.1 ([m] ++ inn) (out2 ++ [m]) mint p151.2 c1 p156.2 fee (by simp; omega) (by simp; omega) fin (fou out2 hs2) f1m hfee) Try.func17 (hB := ⟨⟨_, (Der.rdn (Der.vw 10149) (Each.app (Each.cons (Der.vw 501) Each.nil) (Each.rdn 0))), rfl⟩, ⟨⟨_, (Der.vw 1), rfl⟩, ⟨⟨_, (Der.rdn (Der.vw 27650) (Each.app (bag_each 27651) (Each.cons (Der.vw 501) Each.nil))), rfl⟩, trivial⟩⟩⟩) (h := ?_)
                rintro _ _ (⟨b2, hb2, rfl, rfl⟩)
                obtain rfl : b2 = b1 := bool_iff (hb2.trans ((Bal.both m hs2).trans hb1.symm))
                refine v_ops [] (hk := ?_)
                refine k_val 164 (vb true) rfl (by simp) ?_
                refine k_val 165 (vsl 0 A0 inn.length c0) rfl (if_pos (by simp)) ?_
                refine k_val 166 (vsl 0 A0 inn.length c0) rfl (if_pos (by simp)) ?_
                refine v_callD 28350 [] (balance_spec A0 none A0 inn inn [] c0 0 c0 0 (by omega) (by omega) f0 f0 ⟨by simp, by simp⟩ ⟨by decide, by decide⟩) Try.func17 (hB := ⟨⟨_, (Der.vw 0), rfl⟩, ⟨⟨_, Der.nl, rfl⟩, ⟨⟨_, (Der.vw 0), rfl⟩, trivial⟩⟩⟩) (h := ?_)
                rintro _ _ (⟨b3, hb3, rfl, rfl⟩)
                obtain rfl := hb3.2 (Bal.self inn)
                refine v_know 167 true rfl rfl ?_
                refine v_know 164 true rfl rfl ?_
                refine v_ops [] (hk := ?_)
                refine k_val 169 (vb true) rfl rfl ?_
                refine l_do (d_bslice [(⟨0, m.A, m.c, m.assets⟩ : ValueM)]) (fun B175 => ?_)
                refine v_know 169 true rfl rfl ?_
                refine k_val 169 (vb true) rfl rfl ?_
                refine v_callD 28800 [] (balance_spec none m.A B175 [] [⟨0, m.A, m.c, m.assets⟩] m.assets 0 m.c 1 0 (by simp) (by simp) (by simp) (by intro v hv; rw [List.mem_singleton.1 hv]; exact ⟨fm.1, (show Fits64 0 from ⟨by decide, by decide⟩), fm.2.2⟩) ⟨fm.1, fm.2.2⟩ ⟨by decide, by decide⟩) Try.func17 (hB := ⟨⟨_, (Der.rdn Der.nl Each.nil), rfl⟩, ⟨⟨_, (Der.vw 501), rfl⟩, ⟨⟨_, (Der.rdn (Der.vw 10175) (Each.cons (Der.vw 501) Each.nil)), rfl⟩, trivial⟩⟩⟩) (h := ?_)
                rintro _ _ (⟨b4, hb4, rfl, rfl⟩)
                obtain rfl := hb4.2 (Bal.mint _ rfl)
                refine v_know 176 true rfl rfl ?_
                refine v_know 169 true rfl rfl ?_
                refine v_ops [] (hk := ?_)
                refine v_ret rfl [] (.cons (.tmp rfl) .nil) (h := ?_)
                exact ⟨rfl, rfl⟩
            · refine s_do rfl (d_bslice [m]) (fun B155 => ?_)
              refine s_do rfl d_append (fun p151 => ?_)
              refine v_callS rfl 27650 [] (copyValues_spec A2 out c2 l2 (fun v hv => (S2 v hv).1)) Try.func18 (h := ?_)
              rintro _ _ (⟨B153, d153, out2, hs2, hl2, rfl, rfl⟩)
              refine ⟨cov_of (by repeat (first | exact trivial | refine ⟨rfl, ?_⟩)), ?_⟩
              refine s_do rfl d_append (fun p156 => ?_)
              refine v_sch [] (hk := ?_)
              refine v_callD 28050 [] (balance_spec p151.1 A1 p156.1 ([m] ++ inn) (out2 ++ [m]) mint p151.2 c1 p156.2 fee (by simp; omega) (by simp; omega) fin (fou out2 hs2) f1m hfee) Try.func17 (hB := ⟨⟨_, (Der.rdn (Der.vw 10149) (Each.app (Each.cons (Der.vw 501) Each.nil) (Each.rdn 0))), rfl⟩, ⟨⟨_, (Der.vw 1), rfl⟩, ⟨⟨_, (Der.rdn (Der.vw 27650) (Each.app (bag_each 27651) (Each.cons (Der.vw 501) Each.nil))), rfl⟩, trivial⟩⟩⟩) (h := ?_)
              rintro _ _ (⟨b2, hb2, rfl, rfl⟩)
              obtain rfl : b2 = b1 := bool_iff (hb2.trans ((Bal.both m hs2).trans hb1.symm))
              refine v_ops [] (hk := ?_)
              refine k_val 164 (vb true) rfl (by simp) ?_
              refine k_val 165 (vsl 0 A0 inn.length c0) rfl (if_pos (by simp)) ?_
              refine k_val 166 (vsl 0 A0 inn.length c0) rfl (if_pos (by simp)) ?_
              refine v_callD 28350 [] (balance_spec A0 none A0 inn inn [] c0 0 c0 0 (by omega) (by omega) f0 f0 ⟨by simp, by simp⟩ ⟨by decide, by decide⟩) Try.func17 (hB := ⟨⟨_, (Der.vw 0), rfl⟩, ⟨⟨_, Der.nl, rfl⟩, ⟨⟨_, (Der.vw 0), rfl⟩, trivial⟩⟩⟩) (h := ?_)
              rintro _ _ (⟨b3, hb3, rfl, rfl⟩)
              obtain rfl := hb3.2 (Bal.self inn)
              refine v_know 167 true rfl rfl ?_
              refine v_know 164 true rfl rfl ?_
              refine v_ops [] (hk := ?_)
              refine k_val 169 (vb true) rfl rfl ?_
              refine l_do (d_bslice [(⟨0, m.A, m.c, m.assets⟩ : ValueM)]) (fun B175 => ?_)
              refine v_know 169 true rfl rfl ?_
              refine k_val 169 (vb true) rfl rfl ?_
              refine v_callD 28800 [] (balance_spec none m.A B175 [] [⟨0, m.A, m.c, m.assets⟩] m.assets 0 m.c 1 0 (by simp) (by simp) (by simp) (by intro v hv; rw [List.mem_singleton.1 hv]; exact ⟨fm.1, (show Fits64 0 from ⟨by decide, by decide⟩), fm.2.2⟩) ⟨fm.1, fm.2.2⟩ ⟨by decide, by decide⟩) Try.func17 (hB := ⟨⟨_, (Der.rdn Der.nl Each.nil), rfl⟩, ⟨⟨_, (Der.vw 501), rfl⟩, ⟨⟨_, (Der.rdn (Der.vw 10175) (Each.cons (Der.vw 501) Each.nil)), rfl⟩, trivial⟩⟩⟩) (h := ?_)
              rintro _ _ (⟨b4, hb4, rfl, rfl⟩)
              obtain rfl := hb4.2 (Bal.mint _ rfl)
              refine v_know 176 true rfl rfl ?_
              refine v_know 169 true rfl rfl ?_
              refine v_ops [] (hk := ?_)
              refine v_ret rfl [] (.cons (.tmp rfl) .nil) (h := ?_)
              exact ⟨rfl, rfl⟩
          · refine s_do rfl (d_bslice [m]) (fun B155 => ?_)
            refine s_do rfl (d_bslice [m]) (fun B149 => ?_)
            refine s_do rfl d_append (fun p151 => ?_)
            refine v_callS rfl 27650 [] (copyValues_spec A2 out c2 l2 (fun v hv => (S2 v hv).1)) Try.func18 (h := ?_)
            rintro _ _ (⟨B153, d153, out2, hs2, hl2, rfl, rfl⟩)
            refine ⟨cov_of (by repeat (first | exact trivial | refine ⟨rfl, ?_⟩)), ?_⟩
            refine s_do rfl d_append (fun p156 => ?_)
            refine v_sch [] (hk := ?_)
            refine v_callD 28050 [] (balance_spec p151.1 A1 p156.1 ([m] ++ inn) (out2 ++ [m]) mint p151.2 c1 p156.2 fee (by simp; omega) (by simp; omega) fin (fou out2 hs2) f1m hfee) Try.func17 (hB := ⟨⟨_, (Der.rdn (Der.vw 10149) (Each.app (Each.cons (Der.vw 501) Each.nil) (Each.rdn 0))), rfl⟩, ⟨⟨_, (Der.vw 1), rfl⟩, ⟨⟨_, (Der.rdn (Der.vw 27650) (Each.app (bag_each 27651) (Each.cons (Der.vw 501) Each.nil))), rfl⟩, trivial⟩⟩⟩) (h := ?_)
            rintro _ _ (⟨b2, hb2, rfl, rfl⟩)
            obtain rfl : b2 = b1 := bool_iff (hb2.trans ((Bal.both m hs2).trans hb1.symm))
            refine v_ops [] (hk := ?_)
            refine k_val 164 (vb true) rfl (by simp) ?_
            refine k_val 165 (vsl 0 A0 inn.length c0) rfl (if_pos (by simp)) ?_
            refine k_val 166 (vsl 0 A0 inn.length c0) rfl (if_pos (by simp)) ?_
            refine v_callD 28350 [] (balance_spec A0 none A0 inn inn [] c0 0 c0 0 (by omega) (by omega) f0 f0 ⟨by simp, by simp⟩ ⟨by decide, by decide⟩) Try.func17 (hB := ⟨⟨_, (Der.vw 0), rfl⟩, ⟨⟨_, Der.nl, rfl⟩, ⟨⟨_, (Der.vw 0), rfl⟩, trivial⟩⟩⟩) (h := ?_)
            rintro _ _ (⟨b3, hb3, rfl, rfl⟩)
            obtain rfl := hb3.2 (Bal.self inn)
            refine v_know 167 true rfl rfl ?_
            refine v_know 164 true rfl rfl ?_
            refine v_ops [] (hk := ?_)
            refine k_val 169 (vb true) rfl rfl ?_
            refine l_do (d_bslice [(⟨0, m.A, m.c, m.assets⟩ : ValueM)]) (fun B175 => ?_)
            refine v_know 169 true rfl rfl ?_
            refine k_val 169 (vb true) rfl rfl ?_
            refine v_callD 28800 [] (balance_spec none m.A B175 [] [⟨0, m.A, m.c, m.assets⟩] m.assets 0 m.c 1 0 (by simp) (by simp) (by simp) (by intro v hv; rw [List.mem_singleton.1 hv]; exact ⟨fm.1, (show Fits64 0 from ⟨by decide, by decide⟩), fm.2.2⟩) ⟨fm.1, fm.2.2⟩ ⟨by decide, by decide⟩) Try.func17 (hB := ⟨⟨_, (Der.rdn Der.nl Each.nil), rfl⟩, ⟨⟨_, (Der.vw 501), rfl⟩, ⟨⟨_, (Der.rdn (Der.vw 10175) (Each.cons (Der.vw 501) Each.nil)), rfl⟩, trivial⟩⟩⟩) (h := ?_)
            rintro _ _ (⟨b4, hb4, rfl, rfl⟩)
            obtain rfl := hb4.2 (Bal.mint _ rfl)
            refine v_know 176 true rfl rfl ?_
            refine v_know 169 true rfl rfl ?_
            refine v_ops [] (hk := ?_)
            refine v_ret rfl [] (.cons (.tmp rfl) .nil) (h := ?_)
            exact ⟨rfl, rfl⟩
end Go.Proofs.Ytlnckcgbpilmdaa
/- HEAP LIBRARY, third part: arguments that are hashes, read as data. My own text; it names no program. -/






set_option linter.unusedVariables false
set_option linter.unusedSimpArgs false
set_option linter.unusedSectionVars false
namespace Go.Proofs.Ytlnckcgbpilmdaa
namespace HL
open Go Go.RowKit Go.ChangeShapes Go.WideShapes Go.ChangeAt
section
variable {H : Type} {enc : TypeId × Value → H} {P : Program} {W : World} {base : Nat} {sp : Nat → Bool} {held : Bool} {T e : TypeId}
theorem wf_u8 {a : Int} (h : (Lit.int .u8 a).wf = true) : ∃ u : UInt8, a = u.toNat := by
  have h2 : 0 ≤ a ∧ a < 256 := by
    simp [Lit.wf, IntKind.min, IntKind.max, IntKind.signed, IntKind.bits] at h
    omega
  refine ⟨UInt8.ofNat a.toNat, ?_⟩
  rw [UInt8.toNat_ofNat_of_lt' (by simp; omega)]
  omega
theorem bytes_mapM (he : P.underlying e = some (.int .u8)) {m : Nat} : ∀ (cs : List Value) (xs : List (DataW H × List MemPlace)), cs.mapM (fun c => DataW.trod enc P W base sp held m e [c]) = some xs →
    ∃ bs : List UInt8, cs = bcells bs ∧ xs = bs.map fun b => (.lit (.int .u8 b.toNat), [])
  | [], xs, h => by
    simp at h
    subst h
    exact ⟨[], rfl, rfl⟩
  | c :: cs, xs, h => by
    rw [List.mapM_cons] at h
    simp only [bind, Option.bind_eq_some_iff, pure, Option.some.injEq] at h
    obtain ⟨y, hy, ys, hys, rfl⟩ := h
    obtain ⟨bs, rfl, rfl⟩ := bytes_mapM he cs ys hys
    obtain ⟨a, ea, rfl, wa⟩ := DataW.trod_int he hy
    obtain ⟨u, rfl⟩ := wf_u8 wa
    injection ea with ea
    subst ea
    exact ⟨u :: bs, rfl, rfl⟩
theorem mapM_range {α β : Type} (f : List α → Option β) (cs : List α) : (List.range cs.length).mapM (fun i => f ((cs.drop i).take 1)) = cs.mapM fun c => f [c] := by
  have gen : ∀ (cs : List α) (pre : List α), (List.range' pre.length cs.length).mapM (fun i => f (((pre ++ cs).drop i).take 1)) = cs.mapM fun c => f [c] := by
    intro cs
    induction cs with
    | nil => intro pre; rfl
    | cons c cs ih =>
      intro pre
      have h1 := ih (pre ++ [c])
      simp only [List.length_append, List.length_cons, List.length_nil, List.append_assoc, List.cons_append, List.nil_append] at h1
      simp only [List.length_cons, List.range'_succ, List.mapM_cons]
      rw [show List.range' (pre.length + 1) cs.length = List.range' (pre.length + (0 + 1)) cs.length from rfl, h1]
      simp
  have := gen cs []
  simpa [List.range_eq_range'] using this
theorem St.kept {w w' : World} {L : List Res} (h : St w w' No L) (may : MemPlace → Prop) : w.keptBut w' may := by
  refine ⟨h.os, h.output, fun i hi => ?_⟩
  rw [h.keep i hi id]
  cases w.heap[i]? with
  | none => trivial
  | some o =>
    cases o <;> simp
end
end HL
end Go.Proofs.Ytlnckcgbpilmdaa
/- ARGUMENTS READ AS DATA, and the end of a law's row. My own text; it names no program. -/






set_option linter.unusedVariables false
set_option linter.unusedSimpArgs false
set_option linter.unusedSectionVars false
namespace Go.Proofs.Ytlnckcgbpilmdaa
namespace HL
open Go Go.RowKit Go.ChangeShapes Go.WideShapes Go.ChangeAt
structure Opn (P : Program) (T : TypeId) {α : Type} (f : α → List At) (Q : World → α → Prop) (z : α → Nat) : Prop where
  op : ∀ {H : Type} (enc : TypeId × Value → H) (W : World) (fuel : Nat) (cs : List Value) (x : DataW H × List MemPlace), DataW.trod enc P W 0 (fun _ => true) true fuel T cs = some x → ∃ a, cs = flat (vals (f a)) ∧ Q W a ∧ z a ≤ Rows.uptoBulk x.1
theorem bulk_one {H : Type} (d : DataW H) : 1 ≤ Rows.uptoBulk d := by
  cases d with
  | lit l => cases l <;> simp [Rows.uptoBulk]
  | nil => simp [Rows.uptoBulk]
  | ptr d => simp [Rows.uptoBulk]
  | slice elems spare => simp [Rows.uptoBulk]
  | agg parts => simp [Rows.uptoBulk]
  | iface t d => simp [Rows.uptoBulk]
  | map entries => simp [Rows.uptoBulk]
  | held h => simp [Rows.uptoBulk]
theorem flat_one (p : PV) : flat (vals [.one p]) = [p.den] := by
  show flat [p.den] = _
  rw [flat_single, p.cells_den]
def Rng (k : IntKind) (n : Int) : Prop := k.min ≤ n ∧ n ≤ k.max
section
variable {P : Program} {T e : TypeId}
theorem opn_int (k : IntKind) [hu : UD P T (.int k)] : Opn P T (fun n : Int => [.one (.i k n)]) (fun _ n => Rng k n) (fun _ => 1) := ⟨fun enc W fuel cs x h => by
  obtain ⟨n, rfl, rfl, hw⟩ := DataW.trod_int hu.is h
  refine ⟨n, (flat_one (.i k n)).symm, ?_, bulk_one _⟩
  simp [Lit.wf] at hw
  exact hw⟩
theorem opn_string [hu : UD P T .string] : Opn P T (fun n : ByteArray => [.one (.s n)]) (fun _ n => n.size ≤ maxLen) (fun n => n.size + 1) := ⟨fun enc W fuel cs x h => by
  obtain ⟨n, rfl, rfl, hw⟩ := DataW.trod_string hu.is h
  refine ⟨n, (flat_one (.s n)).symm, hw, ?_⟩
  simp [Rows.uptoBulk]⟩
theorem opn_hash [hu : UD P T (.array 32 e)] [he : UD P e (.int .u8)] (hC : P.cellsOf T = 32 := by kernel_rfl) (hc : P.cellsOf e = 1 := by kernel_rfl) : Opn P T (fun h : Hash => [.hash h]) (fun _ _ => True) (fun _ => 1) := ⟨fun enc W fuel cs x h => by
  cases fuel with
  | zero => simp [DataW.trod] at h
  | succ m =>
    rw [DataW.trod_step] at h
    unfold DataW.trodStep at h
    simp only [hu.is] at h
    split at h
    · rename_i hl
      rw [hC] at hl
      simp only [Option.map_eq_some_iff, hc, Nat.mul_one] at h
      obtain ⟨xs, hx, e1⟩ := h
      have hr := mapM_range (fun c => DataW.trod enc P W 0 (fun _ => true) true m e c) cs
      rw [hl] at hr
      rw [hr] at hx
      obtain ⟨bs, hb, rfl⟩ := bytes_mapM he.is _ _ hx
      have hbl : bs.length = 32 := by rw [hb, length_bcells] at hl; exact hl
      refine ⟨⟨bs.toArray, by simpa using hbl⟩, ?_, trivial, bulk_one _⟩
      show cs = flat [hval _]
      rw [flat_single, cells_hval, hcells_eq, hb]
      simp [Vector.toList]
    · cases h⟩
theorem Opn.map {α β : Type} {f : α → List At} {Q : World → α → Prop} {z : α → Nat} (h : Opn P T f Q z) (g : α → β) {f' : β → List At} {Q' : World → β → Prop} {z' : β → Nat} (hf : ∀ a, f' (g a) = f a) (hQ : ∀ W a, Q W a → Q' W (g a)) (hz : ∀ a, z' (g a) ≤ z a) : Opn P T f' Q' z' := ⟨fun enc W fuel cs x hx => by
  obtain ⟨a, h1, h2, h3⟩ := h.op enc W fuel cs x hx
  exact ⟨g a, by rw [hf]; exact h1, hQ W a h2, Nat.le_trans (hz a) h3⟩⟩
structure PO (P : Program) where
  T : TypeId
  α : Type
  f : α → List At
  Q : World → α → Prop
  z : α → Nat
  sz : Nat
  h : Opn P T f Q z
  hc : P.cellsOf T = sz
def Tup : List (PO P) → Type
  | [] => Unit
  | p :: ps => p.α × Tup ps
def Tup.f : (ps : List (PO P)) → Tup ps → List At
  | [], _ => []
  | p :: ps, (a, t) => p.f a ++ Tup.f ps t
def Tup.Q : (ps : List (PO P)) → World → Tup ps → Prop
  | [], _, _ => True
  | p :: ps, W, (a, t) => p.Q W a ∧ Tup.Q ps W t
def Tup.z : (ps : List (PO P)) → Tup ps → Nat
  | [], _ => 0
  | p :: ps, (a, t) => p.z a + Tup.z ps t
def offs : Nat → List (PO P) → List (TypeId × Nat)
  | _, [] => []
  | o, p :: ps => (p.T, o) :: offs (o + p.sz) ps
def total : List (PO P) → Nat
  | [] => 0
  | p :: ps => p.sz + total ps
theorem open_fields {H : Type} (enc : TypeId × Value → H) (W : World) (n : Nat) (cs : List Value) : ∀ (ps : List (PO P)) (o : Nat) (xs : List (DataW H × List MemPlace)), cs.length = o + total ps → xs.length = ps.length →
    (∀ (i : Nat) (t : TypeId) (o' : Nat), (offs o ps)[i]? = some (t, o') → DataW.trod enc P W 0 (fun _ => true) true n t ((cs.drop o').take (P.cellsOf t)) = xs[i]?) → ∃ a : Tup ps, cs.drop o = flat (vals (Tup.f ps a)) ∧ Tup.Q ps W a ∧ Tup.z ps a ≤ Rows.uptoBulkAll (xs.map (·.1))
  | [], o, xs, hl, hx, h => ⟨(), by
      have : cs.drop o = [] := List.drop_eq_nil_of_le (by simp [total] at hl; omega)
      rw [this]
      exact flat_nil.symm, trivial, Nat.zero_le _⟩
  | p :: ps, o, xs, hl, hx, h => by
    cases xs with
    | nil => simp at hx
    | cons x xs =>
      have h0 := h 0 p.T o rfl
      simp only [List.getElem?_cons_zero] at h0
      obtain ⟨a, h1, h2, h3⟩ := p.h.op enc W n _ x h0
      obtain ⟨t, q1, q2, q3⟩ := open_fields enc W n cs ps (o + p.sz) xs (by simp [total] at hl; omega) (by simpa using hx) (fun i t o' hi => by
        have := h (i + 1) t o' (by simpa [offs] using hi)
        simpa using this)
      refine ⟨(a, t), ?_, ⟨h2, q2⟩, ?_⟩
      · show cs.drop o = flat (vals (p.f a ++ Tup.f ps t))
        rw [vals_append, flat_append, ← h1, ← q1, p.hc, ← List.drop_drop]
        exact (List.take_append_drop _ _).symm
      · show p.z a + Tup.z ps t ≤ Rows.uptoBulkAll ((x :: xs).map (·.1))
        simp only [List.map_cons, Rows.uptoBulkAll]
        omega
theorem opn_struct {fs : Array Field} (ps : List (PO P)) (hu : P.underlying T = some (.struct fs)) (ho : fs.toList.map (fun f => (f.type, f.offset)) = offs 0 ps) (hc : P.cellsOf T = total ps) : Opn P T (Tup.f ps) (Tup.Q ps) (fun a => Tup.z ps a + 1) := ⟨fun enc W fuel cs x h => by
  obtain ⟨xs, n, rfl, rfl, hl, hxl, hf⟩ := DataW.trod_struct hu h
  have hlen : fs.size = ps.length := by
    have gen : ∀ (o : Nat) (ps : List (PO P)), (offs o ps).length = ps.length := by
      intro o ps
      induction ps generalizing o with
      | nil => rfl
      | cons p ps ih => simp [offs, ih]
    have := congrArg List.length ho
    rw [gen, List.length_map, Array.length_toList] at this
    exact this
  obtain ⟨a, h1, h2, h3⟩ := open_fields enc W n cs ps 0 xs (by rw [hl, hc]; omega) (by rw [hxl, hlen]) (fun i t o' hi => by
    rw [← ho, List.getElem?_map] at hi
    obtain ⟨f, hfi, he⟩ := Option.map_eq_some_iff.1 hi
    simp only [Prod.mk.injEq] at he
    obtain ⟨rfl, rfl⟩ := he
    exact hf i f (by simpa using hfi))
  refine ⟨a, by simpa using h1, h2, ?_⟩
  simp only [Rows.uptoBulk]
  omega⟩
structure Sl (α : Type) where
  A : Option Addr
  c : Nat
  l : List α
theorem cells_of {W : World} {a : Addr} {n : Nat} {cs : List Value} (h : W.cells? 0 a n = some cs) : CellsAt W a cs ∧ cs.length = n := by
  unfold World.cells? at h
  rw [if_pos (Nat.zero_le _)] at h
  have hl' : cs.length = n := by
    have := mapM_some_length h
    rw [List.length_range] at this
    exact this
  refine ⟨fun j u hj => ?_, hl'⟩
  have hlt := (List.getElem?_eq_some_iff.1 hj).1
  have := mapM_some_get h j j (by rw [List.getElem?_range (by omega)])
  rw [this, hj]
theorem cells_join {W : World} {a : Addr} : ∀ {vs : List (List Value)} {sz : Nat} {o : Nat}, (∀ v ∈ vs, v.length = sz) → (∀ i v, vs[i]? = some v → CellsAt W (a.add (o + i * sz)) v) → CellsAt W (a.add o) vs.flatten
  | [], _, _, _, _ => fun j u hu => by simp at hu
  | v :: vs, sz, o, hl, h => by
    have h0 := h 0 v rfl
    simp only [Nat.zero_mul, Nat.add_zero] at h0
    have ih := cells_join (W := W) (a := a) (vs := vs) (sz := sz) (o := o + sz) (fun u hu => hl u (List.mem_cons_of_mem _ hu)) (fun i u hi => by
      have := h (i + 1) u (by simpa using hi)
      rw [show o + sz + i * sz = o + (i + 1) * sz by rw [Nat.add_mul, Nat.one_mul]; omega]
      exact this)
    have hv := hl v (List.mem_cons_self ..)
    intro j u hj
    rw [List.flatten_cons] at hj
    rw [add_of_add]
    by_cases hlt : j < v.length
    · rw [List.getElem?_append_left hlt] at hj
      have := h0 j u hj
      rwa [add_of_add] at this
    · rw [List.getElem?_append_right (by omega), hv] at hj
      have := ih _ u hj
      rw [add_of_add] at this
      rwa [show o + sz + (j - sz) = o + j by omega] at this
theorem bulkAll_append {H : Type} (xs ys : List (DataW H)) : Rows.uptoBulkAll (xs ++ ys) = Rows.uptoBulkAll xs + Rows.uptoBulkAll ys := by
  induction xs with
  | nil => simp [Rows.uptoBulkAll]
  | cons x xs ih => simp only [List.cons_append, Rows.uptoBulkAll, ih]; omega
theorem opn_slice {α : Type} (E : En α) {Q : World → α → Prop} {z : α → Nat} [hu : UD P T (.slice e)] (h : Opn P e (fun x => (E.f x).ats) Q z) (id : Nat) (hc : P.cellsOf e = E.sz := by kernel_rfl) :
    Opn P T (fun s : Sl α => [.one (.sl id s.A s.l.length s.c)]) (fun W s => s.l.length ≤ s.c ∧ (Res.rd s.A E s.l).holds W ∧ ∀ x ∈ s.l, Q W x) (fun s => (s.l.map z).sum + 1) := ⟨fun enc W fuel cs x hx => by
  rcases DataW.trod_slice hu.is hx with ⟨rfl, rfl⟩ | ⟨a, len, cap, elems, rest, n, rfl, rfl, rfl, _, hlc, _, hel, hget, _, _⟩
  · refine ⟨⟨none, 0, []⟩, (flat_one (.sl id none 0 0)).symm, ⟨Nat.le_refl _, ?_, by simp⟩, by simp [Rows.uptoBulk]⟩
    unfold Res.rd Res.fact
    left
    unfold En.dens flat
    rfl
  · rw [hc] at hget
    -- element by element
    have gen : ∀ (k : Nat), k ≤ len → ∃ l : List α, l.length = k ∧ (∀ i y, l[i]? = some y → CellsAt W (a.add (i * E.sz)) (flat (vals (E.f y).ats))) ∧ (∀ y ∈ l, Q W y) ∧ (l.map z).sum ≤ Rows.uptoBulkAll ((elems.take k).map (·.1)) := by
      intro k
      induction k with
      | zero => exact fun _ => ⟨[], rfl, by simp, by simp, by simp⟩
      | succ k ih =>
        intro hk
        obtain ⟨l, h1, h2, h3, h4⟩ := ih (by omega)
        have hlt : k < elems.length := by omega
        have hg := hget k (by omega)
        rw [List.getElem?_eq_getElem hlt] at hg
        obtain ⟨cs, hcs, hy⟩ := Option.bind_eq_some_iff.1 hg
        obtain ⟨y, e1, q1, q2⟩ := h.op enc W n cs _ hy
        subst e1
        refine ⟨l ++ [y], by simp [h1], fun i u hi => ?_, fun u hu => ?_, ?_⟩
        · by_cases hil : i < l.length
          · rw [List.getElem?_append_left hil] at hi
            exact h2 i u hi
          · rw [List.getElem?_append_right (by omega)] at hi
            have : i - l.length = 0 := by
              have := (List.getElem?_eq_some_iff.1 hi).1
              simp at this
              omega
            rw [this] at hi
            simp at hi
            subst hi
            have : i = k := by omega
            subst this
            exact (cells_of hcs).1
        · rcases List.mem_append.1 hu with hu | hu
          · exact h3 u hu
          · rw [List.mem_singleton.1 hu]; exact q1
        · rw [List.take_succ_eq_append_getElem hlt, List.map_append, List.map_append, List.sum_append]
          rw [bulkAll_append]
          simp only [List.map_cons, List.map_nil, Rows.uptoBulkAll, List.sum_cons, List.sum_nil]
          omega
    obtain ⟨l, h1, h2, h3, h4⟩ := gen len (Nat.le_refl _)
    refine ⟨⟨some a, cap, l⟩, ?_, ⟨by rw [h1]; exact hlc, ?_, h3⟩, ?_⟩
    · rw [flat_one]
      show _ = [Value.slice (some a) l.length cap]
      rw [h1]
    · unfold Res.rd Res.fact
      refine .inr ⟨a, rfl, ?_⟩
      have := cells_join (W := W) (a := a) (vs := l.map fun y => flat (vals (E.f y).ats)) (sz := E.sz) (o := 0) (fun v hv => by
        obtain ⟨y, _, rfl⟩ := List.mem_map.1 hv
        rw [length_flat, szs_vals]
        exact (E.ok y).2) (fun i v hi => by
        rw [List.getElem?_map] at hi
        obtain ⟨y, hy, rfl⟩ := Option.map_eq_some_iff.1 hi
        rw [Nat.zero_add]
        exact h2 i y hy)
      rw [add_zero] at this
      have e1 : flat (E.dens l) = (l.map fun y => flat (vals (E.f y).ats)).flatten := by
        unfold En.dens
        clear h1 h2 h3 h4 this
        induction l with
        | nil => show flat [] = _; rw [flat_nil]; rfl
        | cons y l ih => rw [List.map_cons, flat_cons, ih, SV.cells_den]; rfl
      rw [e1]
      exact this
    · simp only [Rows.uptoBulk]
      rw [show elems.take len = elems by rw [← hel]; exact List.take_length] at h4
      show (l.map z).sum + 1 ≤ _
      omega⟩
theorem opn_top {α : Type} {f : α → List At} {Q : World → α → Prop} {z : α → Nat} (h : Opn P T f Q z) (sv : α → SV) (hs : ∀ a, (sv a).ats = f a) {agg : Bool} (ha : ∀ a, (sv a).isAgg = agg) {H : Type} {enc : TypeId × Value → H} {W : World} {v : Value} {d : DataW H} {ps : List MemPlace} (hv : isAggV v = agg) (ht : DataW.Trod enc P W 0 (fun _ => true) true T v d ps) :
    ∃ a, v = (sv a).den ∧ Q W a ∧ z a ≤ Rows.uptoBulk d := by
  obtain ⟨fuel, hf⟩ := ht
  obtain ⟨a, h1, h2, h3⟩ := h.op enc W fuel _ _ hf
  refine ⟨a, ?_, h2, h3⟩
  rw [← hs, ← SV.cells_den] at h1
  have h4 := ha a
  rw [← (sv a).isAgg_den, ← hv] at h4
  generalize (sv a).den = u at h1 h4
  cases v <;> cases u <;> simp_all [Value.cells, isAggV]
theorem okw_agg {W : World} {b : Nat} {v : Value} {d : TypeDesc} (hu : P.underlying T = some d) (h : Value.okWide P W .any b T v) : isAggV v = (match d with | .struct _ | .array _ _ => true | _ => false) := by
  unfold Value.okWide at h
  rw [hu] at h
  cases d <;> simp only at h ⊢ <;> first
    | (obtain ⟨cs, rfl, _⟩ := h; rfl)
    | (unfold Cell.okWide Cell.ok at h; rw [hu] at h; cases v <;> simp_all [isAggV])
theorem St.below {w w' : World} {L : List Res} (h : St w w' No L) : Below w.heap.size w w' := ⟨h.os, h.tape, h.output, h.size, fun k hk => h.keep k hk id⟩
theorem St.noM {w w' : World} {M : Nat → Prop} {L : List Res} (h : St w w' M L) (hM : ∀ b, ¬ M b) : St w w' No L := by
  obtain rfl : M = No := funext fun b => propext ⟨fun h => (hM b h).elim, fun h => h.elim⟩
  exact h
theorem lk_all {B : Hp} {W : World} (h : ∀ p ∈ B, p.2.holds W) : ∀ i r, lk B i = some r → r.holds W := fun i r hi => by
  induction B with
  | nil => cases hi
  | cons p B ih =>
    obtain ⟨j, s⟩ := p
    rw [lk_cons] at hi
    split at hi
    · cases hi
      exact h _ (List.mem_cons_self ..)
    · exact ih (fun q hq => h q (List.mem_cons_of_mem _ hq)) hi
theorem args_below {H : Type} {enc : TypeId × Value → H} (hl : laidOutB P = true) {W W' : World} (hb : Below W.heap.size W W') : ∀ {ts : List TypeId} {vs : List Value} {ds : List (DataW H)} {ps : List MemPlace}, (ts.all fun t => P.readableRec t && decide (t < P.types.size)) = true → DataW.TrodAll enc P W 0 (fun _ => true) true ts vs ds ps → (∀ x ∈ ps, x.block < W.heap.size) →
    DataW.TrodAll enc P W' 0 (fun b => decide (b < W.heap.size)) true ts vs ds ps
  | [], vs, ds, ps, _, h, _ => by
    obtain ⟨rfl, rfl, rfl⟩ := trodAll_nil h
    exact rfl
  | t :: ts, vs, ds, ps, ht, h, hp => by
    obtain ⟨v, vs', d, ds', p, q, rfl, rfl, rfl, h1, h2⟩ := trodAll_cons h
    simp only [List.all_cons, Bool.and_eq_true, decide_eq_true_eq] at ht
    exact ⟨p, q, Below.trod hl ht.1.1 ht.1.2 h1 hb (fun x hx => hp x (List.mem_append_left _ hx)), args_below hl hb ht.2 h2 (fun x hx => hp x (List.mem_append_right _ hx)), rfl⟩
theorem row_post {f : Func} {s : ChangeSpec} {H : Type} {enc : TypeId × Value → H} {W W' : World} {args : Array Value} {ds gs : List (DataW H)} {before : List MemPlace} {L : List Res} {tb : TypeId} (hl : laidOutB P = true) (hv : s.vars = []) (hr : f.resultTypes = #[tb]) (hb : P.underlying tb = some .bool) (hrec : (f.params.toList.all fun t => P.readableRec t && decide (t < P.types.size)) = true)
    (hW : DataW.Whole enc P f.params.toList s.vars false W args.toList ds gs before) (hst : St W W' No L) (hs : gs = [] → (s.fn H (ds ++ gs)).results = [.lit (.bool true)] ∧ (s.fn H (ds ++ gs)).args = ds ∧ (s.fn H (ds ++ gs)).vars = []) : s.post enc P f false true false false W args (.bool true) W' := by
  have hlt := hW.lt
  obtain ⟨p, q, hA, hV, rfl, hfz, hnd⟩ := hW
  have hV' := hV
  rw [hv] at hV'
  obtain ⟨rfl, rfl⟩ := trodVars_none hV'
  obtain ⟨e1, e2, e3⟩ := hs rfl
  refine ⟨ds, [], p ++ [], [], p, [], ⟨p, [], hA, hV, rfl, hfz, hnd⟩, ?_, ?_, ?_, World.keptBut_mono (fun x hx => ⟨hx, .inr (.inl ?_)⟩) (hst.kept (· ∈ p ++ [])), fun h => by cases h⟩
  · rw [e1, hr]
    exact trodAll_mk1 (shut_bool hb true)
  · rw [e2]
    exact args_below hl hst.below hrec hA (fun x hx => hlt x (List.mem_append_left _ hx))
  · rw [e3, hv]
    exact rfl
  · simpa using hx
end
end HL
end Go.Proofs.Ytlnckcgbpilmdaa
/- ValueExact: for any bundles put in, minted, put out, any fee, and any other bundle: true. Upto form. -/



set_option linter.unusedVariables false
set_option linter.unusedSimpArgs false
namespace Go.Proofs.Ytlnckcgbpilmdaa
open Go Go.RowKit HL Go.ChangeShapes Go.WideShapes Go.ChangeAt
set_option maxRecDepth 100000 in
theorem opn_asset : Opn Try.prog 54 (fun x => (assetEn.f x).ats) (fun _ x => Rng .i64 x.amount) (fun x => x.name.size + 1) :=
  (opn_struct [⟨26, Hash, _, _, _, 32, opn_hash, by kernel_rfl⟩, ⟨9, ByteArray, _, _, _, 1, opn_string, by kernel_rfl⟩, ⟨2, Int, _, _, _, 1, opn_int .i64, by kernel_rfl⟩]
    Try.underlying54 (by kernel_rfl) (by kernel_rfl)).map (fun a => (⟨a.1, a.2.1, a.2.2.1⟩ : AssetP)) (fun a => rfl) (fun W a h => h.2.2.1) (fun a => by
      obtain ⟨h, s, i, u⟩ := a
      show s.size + 1 ≤ 1 + ((s.size + 1) + (1 + 0)) + 1
      omega)
set_option maxRecDepth 100000 in
theorem opn_value (id : Nat) : Opn Try.prog 24 (fun v : ValueM => [.one (.i .i64 v.coin), .one (.sl id v.A v.assets.length v.c)]) (fun W v => Rng .i64 v.coin ∧ v.assets.length ≤ v.c ∧ (Res.rd v.A assetEn v.assets).holds W ∧ ∀ x ∈ v.assets, Rng .i64 x.amount) (fun v => (v.assets.map fun x => x.name.size + 1).sum + 1) :=
  (opn_struct [⟨2, Int, _, _, _, 1, opn_int .i64, by kernel_rfl⟩, ⟨22, Sl AssetP, _, _, _, 1, opn_slice assetEn opn_asset id, by kernel_rfl⟩]
    Try.underlying24 (by kernel_rfl) (by kernel_rfl)).map (fun a => (⟨a.1, a.2.1.A, a.2.1.c, a.2.1.l⟩ : ValueM)) (fun a => rfl) (fun W a h => ⟨h.1, h.2.1.1, h.2.1.2.1, h.2.1.2.2⟩) (fun a => by
      obtain ⟨i, s, u⟩ := a
      show (s.l.map fun x => x.name.size + 1).sum + 1 ≤ 1 + (((s.l.map fun x => x.name.size + 1).sum + 1) + 0) + 1
      omega)
theorem sum_len : ∀ (l : List AssetP), l.length ≤ (l.map fun x => x.name.size + 1).sum
  | [] => by simp
  | x :: l => by
    have := sum_len l
    rw [List.map_cons, List.sum_cons, List.length_cons]
    omega
theorem sum_name {x : AssetP} : ∀ {l : List AssetP}, x ∈ l → x.name.size ≤ (l.map fun x => x.name.size + 1).sum
  | [], h => by cases h
  | y :: l, h => by
    rw [List.map_cons, List.sum_cons]
    rcases List.mem_cons.1 h with rfl | h
    · omega
    · have := sum_name h; omega
theorem fit_of {v : ValueM} {W : World} (h : Rng .i64 v.coin ∧ v.assets.length ≤ v.c ∧ (Res.rd v.A assetEn v.assets).holds W ∧ ∀ x ∈ v.assets, Rng .i64 x.amount) (hs : (v.assets.map fun x => x.name.size + 1).sum ≤ 1048576) : FitV v ∧ Short v.assets :=
  ⟨⟨Nat.le_trans (sum_len _) hs, h.1, fun x hx => h.2.2.2 x hx⟩, fun x hx => Nat.le_trans (sum_name hx) hs⟩
theorem opn_assets (id : Nat) : Opn Try.prog 22 (fun s : Sl AssetP => [.one (.sl id s.A s.l.length s.c)]) (fun W s => s.l.length ≤ s.c ∧ (Res.rd s.A assetEn s.l).holds W ∧ ∀ x ∈ s.l, Rng .i64 x.amount) (fun s => (s.l.map fun x => x.name.size + 1).sum + 1) := opn_slice assetEn opn_asset id
def zVal (v : ValueM) : Nat := (v.assets.map fun x => x.name.size + 1).sum + 1
theorem opn_values (id : Nat) : Opn Try.prog 29 (fun s : Sl ValueM => [.one (.sl id s.A s.l.length s.c)]) (fun W s => s.l.length ≤ s.c ∧ (Res.rd s.A valueEn s.l).holds W ∧ ∀ v ∈ s.l, (Rng .i64 v.coin ∧ v.assets.length ≤ v.c ∧ (Res.rd v.A assetEn v.assets).holds W ∧ ∀ x ∈ v.assets, Rng .i64 x.amount)) (fun s => (s.l.map zVal).sum + 1) := opn_slice valueEn (opn_value 0) id
theorem sum_at {α : Type} {f : α → Nat} {x : α} : ∀ {l : List α}, x ∈ l → f x ≤ (l.map f).sum
  | [], h => by cases h
  | y :: l, h => by
    rw [List.map_cons, List.sum_cons]
    rcases List.mem_cons.1 h with rfl | h
    · omega
    · have := sum_at (f := f) h; omega
theorem sum_len1 {α : Type} {f : α → Nat} : ∀ {l : List α}, (∀ x ∈ l, 1 ≤ f x) → l.length ≤ (l.map f).sum
  | [], _ => by simp
  | x :: l, h => by
    have h1 := h x (List.mem_cons_self ..)
    have := sum_len1 (f := f) (l := l) fun y hy => h y (List.mem_cons_of_mem _ hy)
    rw [List.map_cons, List.sum_cons, List.length_cons]
    omega
theorem rdn_of {W : World} {s : Sl ValueM} (h : (Res.rd s.A valueEn s.l).holds W ∧ ∀ v ∈ s.l, (Rng .i64 v.coin ∧ v.assets.length ≤ v.c ∧ (Res.rd v.A assetEn v.assets).holds W ∧ ∀ x ∈ v.assets, Rng .i64 x.amount)) : (rdValues s.A s.l).holds W := ⟨h.1, fun x hx _ _ => (h.2 x hx).2.2.1⟩
theorem fits_of_rows {W : World} {s : Sl ValueM} (h : ∀ v ∈ s.l, (Rng .i64 v.coin ∧ v.assets.length ≤ v.c ∧ (Res.rd v.A assetEn v.assets).holds W ∧ ∀ x ∈ v.assets, Rng .i64 x.amount)) (hs : (s.l.map zVal).sum ≤ 1048576) : s.l.length ≤ 1048576 ∧ (∀ v ∈ s.l, FitV v) ∧ Shorts s.l := by
  have h1 : ∀ v ∈ s.l, (v.assets.map fun x => x.name.size + 1).sum ≤ 1048576 := fun v hv => by
    have := sum_at (f := zVal) hv
    unfold zVal at this hs
    omega
  refine ⟨Nat.le_trans (sum_len1 fun x _ => by unfold zVal; omega) hs, fun v hv => (fit_of (h v hv) (h1 v hv)).1, fun v hv => ⟨(fit_of (h v hv) (h1 v hv)).1.1, (fit_of (h v hv) (h1 v hv)).2⟩⟩
namespace ValueExact
theorem own : ownKnob Try.prog.godebug = none := by kernel_rfl
set_option maxRecDepth 100000 in
theorem contract (H : Type) (enc : TypeId × Value → H) (W : World) (base : Nat) (args : Array Value) (ds gs : List (DataW H)) (before : List MemPlace)
    (hval : ∀ (j : Nat) t v, Try.f4.params[j]? = some t → args[j]? = some v → Value.okWide Try.prog W .any base t v)
    (hW : DataW.Whole enc Try.prog Try.f4.params.toList Rows.valueExactSpec.vars false W args.toList ds gs before) (hk : Rows.uptoSmall H (ds ++ gs) = true) :
    Calls Try.prog 4 args W fun e W' => ∃ v, e = .returned v ∧ Rows.valueExactSpec.post enc Try.prog Try.f4 false true false false W args v W' := by
  have hW' := hW
  obtain ⟨p, q, hA0, hV, rfl, hfz, hnd⟩ := hW
  have hA : DataW.TrodAll enc Try.prog W 0 (fun _ => true) true Try.f4.params.toList args.toList ds p := hA0
  rw [Try.params4] at hA hval
  obtain ⟨v0, vs0, d0, ds0, p0, q0, hargs, rfl, rfl, h0, r0⟩ := trodAll_cons hA
  obtain ⟨v1, vs1, d1, ds1, p1, q1, rfl, rfl, rfl, h1, r1⟩ := trodAll_cons r0
  obtain ⟨v2, vs2, d2, ds2, p2, q2, rfl, rfl, rfl, h2, r2⟩ := trodAll_cons r1
  obtain ⟨v3, vs3, d3, ds3, p3, q3, rfl, rfl, rfl, h3, r3⟩ := trodAll_cons r2
  obtain ⟨v4, vs4, d4, ds4, p4, q4, rfl, rfl, rfl, h4, r4⟩ := trodAll_cons r3
  obtain ⟨rfl, rfl, rfl⟩ := trodAll_nil r4
  obtain rfl : args = #[v0, v1, v2, v3, v4] := by cases args; simp_all
  obtain ⟨rfl, rfl⟩ := trodVars_none hV
  obtain ⟨a0, rfl, y0, z0⟩ := opn_top (opn_values 0) (fun s => .one (.sl 0 s.A s.l.length s.c)) (fun _ => rfl) (fun _ => rfl) (okw_agg Try.underlying29 (hval 0 _ v0 rfl rfl)) h0
  obtain ⟨a1, rfl, y1, z1⟩ := opn_top (opn_assets 1) (fun s => .one (.sl 1 s.A s.l.length s.c)) (fun _ => rfl) (fun _ => rfl) (okw_agg Try.underlying22 (hval 1 _ v1 rfl rfl)) h1
  obtain ⟨a2, rfl, y2, z2⟩ := opn_top (opn_values 2) (fun s => .one (.sl 2 s.A s.l.length s.c)) (fun _ => rfl) (fun _ => rfl) (okw_agg Try.underlying29 (hval 2 _ v2 rfl rfl)) h2
  obtain ⟨a3, rfl, y3, z3⟩ := opn_top (opn_int .i64) (fun n => .one (.i .i64 n)) (fun _ => rfl) (fun _ => rfl) (okw_agg Try.underlying2 (hval 3 _ v3 rfl rfl)) h3
  obtain ⟨a4, rfl, y4, z4⟩ := opn_top (opn_value 501) (fun v => .agg [.one (.i .i64 v.coin), .one (.sl 501 v.A v.assets.length v.c)]) (fun _ => rfl) (fun _ => rfl) (okw_agg Try.underlying24 (hval 4 _ v4 rfl rfl)) h4
  simp only [Rows.uptoSmall, decide_eq_true_eq, List.append_nil, Rows.uptoBulkAll] at hk
  obtain ⟨l0, f0, s0⟩ := fits_of_rows y0.2.2 (by omega)
  obtain ⟨l2, f2, s2⟩ := fits_of_rows y2.2.2 (by omega)
  obtain ⟨f4, s4⟩ := fit_of y4 (by omega)
  have l1 : a1.l.length ≤ 1048576 := Nat.le_trans (sum_len a1.l) (by omega)
  have s1 : Short a1.l := fun x hx => Nat.le_trans (sum_name hx) (by omega)
  have g0 := rdn_of y0.2
  have g2 := rdn_of y2.2
  refine (exact_spec a0.A a1.A a2.A a0.l a2.l a1.l a0.c a1.c a2.c a3 a4 l0 l2 s0 ⟨l1, s1⟩ s2 s4 f0 (fun x hx => y1.2.2 x hx) f2 f4 y3 W (lk_all (by rintro p hp; simp only [List.mem_cons, List.not_mem_nil, or_false] at hp; rcases hp with rfl | rfl | rfl | rfl; exact g0; exact y1.2.1; exact g2; exact y4.2.2.1)) (by simp [live]) (by simp [live]) (by simp [live])).mono fun e W' ⟨o, L, he, ho, hst⟩ => ?_
  obtain ⟨rfl, rfl⟩ := ho
  subst he
  exact ⟨_, rfl, row_post (by kernel_rfl) rfl rfl Try.underlying4 (by kernel_rfl) hW' (hst.noM fun _ h => by obtain ⟨_, h, _⟩ := h; simp [live] at h) fun _ => ⟨rfl, rfl, rfl⟩⟩
set_option maxRecDepth 100000 in
theorem lifted (os : Os) (started : os.Started) (H : Type) (enc : TypeId × Value → H) (F : Stop.Interp) :
    ReturnsInHanded {} Try.checked os 4 .any ((Rows.OpenSpec.upto Rows.valueExactSpec).pre6 enc Try.prog Try.f4 Rows.valueExactUptoRow.domain false) (((Rows.OpenSpec.upto Rows.valueExactSpec).at F).post enc Try.prog Try.f4 false true false false) := by
  refine returnsInHanded_of_cond (C := Try.checked) (s := Rows.OpenSpec.upto Rows.valueExactSpec) (k := Rows.uptoSmall) rfl own started (by kernel_rfl) Try.func4
    (OpenSpec.witness (enc := enc) (C := Try.checked) (s := Rows.OpenSpec.upto Rows.valueExactSpec) (k := Rows.uptoSmall) rfl false ⟨#[], #[.slice none 0 0, .slice none 0 0, .slice none 0 0, .int .i64 0, .agg #[.int .i64 0, .slice none 0 0]], []⟩ 8 (by kernel_rfl) (by kernel_rfl) (by kernel_rfl)
      (x := ([.nil, .nil, .nil, .lit (.int .i64 0), .agg [.lit (.int .i64 0), .nil]], [], [])) (by kernel_rfl) rfl (by kernel_rfl)) ?_
  intro W base args ds gs before hval hW _ hk _
  exact contract H enc W base args ds gs before hval hW hk
theorem proved : Rows.ValueExactUptoSaid :=
  OpenClaim.holds_of_cond 4 Try.f4 rfl rfl rfl rfl rfl rfl rfl ⟨rfl, rfl, rfl, rfl, rfl⟩ rfl rfl rfl rfl rfl (by kernel_rfl) Try.func4 (by kernel_rfl)
    (of_decide_eq_true (by kernel_rfl)) (by unfold Func.isWrapper; first | (rw [if_pos (by decide +kernel)]; kernel_rfl) | (rw [if_neg (by decide +kernel)]; exact ⟨rfl, rfl⟩))
    (fun os started H enc _ F => lifted os started H enc F)
end ValueExact
end Go.Proofs.Ytlnckcgbpilmdaa
