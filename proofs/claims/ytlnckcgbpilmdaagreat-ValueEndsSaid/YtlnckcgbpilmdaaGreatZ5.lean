/- Lemmas and walks: W8, N3. -/
import Derived.Test.YtlnckcgbpilmdaaGreatZ4
/- Purses are filled. -/

set_option linter.unusedVariables false
set_option linter.unusedSimpArgs false
set_option maxRecDepth 100000
namespace Go.Proofs.YtlnckcgbpilmdaaGreat
open Go Go.RowKit HL
def Fits64 (x : Int) : Prop := -9223372036854775808 ≤ x ∧ x ≤ 9223372036854775807
def FitV (v : ValueM) : Prop := v.assets.length ≤ 1048576 ∧ Fits64 v.coin ∧ ∀ x ∈ v.assets, Fits64 x.amount
theorem filled_spec (i : Nat) (A : Option Addr) (l : List ValueM) (c : Nat) (hl : l.length ≤ 1048576) (hf : ∀ v ∈ l, FitV v) : CSpec Tryz.prog 53 [.one (.sl 0 A l.length c)] [(0, rdValues A l)] [] fun o L => (∃ g gm co m cl, PI l co m cl ∧ o = .ret (.s (.one (.ptr 0 ⟨g, 0, none⟩))) ∧ L = [Res.va g 129 [.one (.i .i64 co), .one (.mp i gm)], Res.mp gm nameEn (intEn .i64) m cl]) ∨ (¬ FillOk l ∧ o = .pan thrown ∧ L = []) := by
  refine v_enter Tryz.func53 (h := fun w0 => ?_)
  refine v_code [] (hk := ?_)
  refine l_do (d_makeMap nameEn (intEn .i64)) (fun g8 => ?_)
  refine v_ops [] (hk := ?_)
  refine l_do d_box (fun g10 => ?_)
  refine v_ops [] (hk := ?_)
  refine v_loop (fun m E H => ∃ (k : Nat) (co : Int) (m0 : List (NameP × Int × Nat)) (cl0 : Nat), E = [(13, vn k)] ∧ H = [(10010, Res.va g10 129 [.one (.i .i64 co), .one (.mp 10008 g8)]), (10008, Res.mp g8 nameEn (intEn .i64) m0 cl0)] ∧ m = l.length - k ∧ k ≤ l.length ∧ (PI (l.take k) co m0 cl0)) [2, 3, 11, 12, 57] (l.length) ([(13, vn 0)]) ([(10010, Res.va g10 129 [.one (.i .i64 (0)), .one (.mp 10008 g8)]), (10008, Res.mp g8 nameEn (intEn .i64) ([]) (0))]) (h0 := ⟨0, 0, [], 0, rfl, rfl, by omega, by omega, PI.nil⟩) (hr := ?_)
  rintro _ _ _ ⟨k, co, m0, cl0, rfl, rfl, hmk, hk, hik0⟩
  refine v_code [] (hk := ?_)
  first | refine c_ifd rfl (fun h14 => ?_) (fun h14 => ?_) | refine c_ifn rfl (fun h14 => ?_) (fun h14 => ?_) | refine c_if rfl (fun h14 => ?_) (fun h14 => ?_)
  · have hv := hf _ (getD_mem (d := value0) h14)
    refine v_code [] (hk := ?_)
    refine l_do d_alloc (fun g5 => ?_)
    refine v_ops [] (hk := ?_)
    refine v_call 20900 [] (right_spec (l.getD k value0).coin (l.getD k value0).A (l.getD k value0).assets (l.getD k value0).c hv.1) Tryz.func27 (h := ?_)
    rintro _ _ (⟨rfl, rfl⟩)
    refine v_call 20950 [] (must_spec (decide (RightV (l.getD k value0).coin (l.getD k value0).assets))) Tryz.func68 (h := ?_)
    rintro _ _ (⟨hr, rfl, rfl⟩ | ⟨hr, rfl, rfl⟩)
    · simp only [decide_eq_true_eq] at hr
      refine v_ops [] (hk := ?_)
      refine v_draw (.q 0 (.q 1 (.q 2 (.q 3 (.q 4 (.q 6 (.q 7 (.s 5 (.s 8 (.q 9 (.q 10 (.s 11 .nil)))))))))))) [10008, 10012, 10005, 20900, 20901, 20902, 20903, 20950, 20951, 20952, 20953, 21400, 21401, 21402, 21403, 10033, 10007, 22150, 22151, 22152, 22153, 22500, 22501, 22502, 22503, 22700, 22701, 22702, 22703] (hm := by kernel_rfl) (hs := by kernel_rfl) (hk := by kernel_rfl) (h := ?_)
      refine v_sch [] (hk := ?_)
      refine v_callS rfl 21400 [] (more_spec ⟨g10, 0, none⟩ co (l.getD k value0).coin ⟨hr.1, hv.2.1.2⟩ ⟨by have := hik0.r.csum; have := hik0.sum; omega, hik0.le⟩) Tryz.func91 (h := ?_)
      rintro _ _ (⟨hc, rfl, rfl⟩ | ⟨hc, rfl, rfl⟩)
      · refine ⟨cov_of (by repeat (first | exact trivial | refine ⟨rfl, ?_⟩)), ?_⟩
        refine v_sch [] (hk := ?_)
        refine v_loop (fun m E H => ∃ (j : Nat) (mm : List (NameP × Int × Nat)) (cl : Nat), E = [(34, vn j)] ∧ H = [(10008, Res.mp g8 nameEn (intEn .i64) mm cl)] ∧ m = (l.getD k value0).assets.length - j ∧ j ≤ (l.getD k value0).assets.length ∧ (PJ (AL (l.take k) ++ (l.getD k value0).assets.take j) mm cl)) [2, 3, 5, 11, 12, 13, 14, 15, 16, 17, 18, 20, 21, 22, 23, 24, 25, 26, 27, 28, 29, 30, 31, 32, 33, 56, 57] ((l.getD k value0).assets.length) ([(34, vn 0)]) ([(10008, Res.mp g8 nameEn (intEn .i64) (m0) (cl0))]) (h0 := ⟨0, m0, cl0, rfl, rfl, by omega, by omega, by simpa using hik0.j⟩) (hr := ?_)
        rintro _ _ _ ⟨j, mm, cl, rfl, rfl, hmj, hj, hij0⟩
        refine v_code [] (hk := ?_)
        first | refine c_ifd rfl (fun h35 => ?_) (fun h35 => ?_) | refine c_ifn rfl (fun h35 => ?_) (fun h35 => ?_) | refine c_if rfl (fun h35 => ?_) (fun h35 => ?_)
        · have hl2 : (l.getD k value0).assets.length ≤ 1048576 := hv.1
          have hx := hv.2.2 _ (getD_mem (d := asset0) h35)
          refine v_code [] (hk := ?_)
          refine l_do d_alloc (fun g7 => ?_)
          refine v_ops [] (hk := ?_)
          refine v_draw (.q 0 (.q 1 (.q 2 (.q 3 (.q 4 (.q 6 (.q 7 (.q 8 (.q 9 (.q 10 (.q 11 (.q 14 (.q 15 (.s 5 (.s 12 (.s 13 (.s 16 (.s 17 .nil)))))))))))))))))) [10010, 10005, 10007] (hm := by kernel_rfl) (hs := by kernel_rfl) (hk := by kernel_rfl) (h := ?_)
          refine v_sch [] (hk := ?_)
          refine v_callS rfl 22150 [] (nameof_spec ((l.getD k value0).assets.getD j asset0)) Tryz.func57 (h := ?_)
          rintro _ _ (⟨rfl, rfl⟩)
          refine ⟨cov_of (by repeat (first | exact trivial | refine ⟨rfl, ?_⟩)), ?_⟩
          refine v_callS rfl 22500 [] (nameof_spec ((l.getD k value0).assets.getD j asset0)) Tryz.func57 (h := ?_)
          rintro _ _ (⟨rfl, rfl⟩)
          refine ⟨cov_of (by repeat (first | exact trivial | refine ⟨rfl, ?_⟩)), ?_⟩
          refine s_rd rfl (r_lookup1 (k := ((l.getD k value0).assets.getD j asset0).key)) ?_
          refine v_callS rfl 22700 [] (more_spec ⟨g10, 0, none⟩ ((mlook mm ((l.getD k value0).assets.getD j asset0).key).getD 0) ((l.getD k value0).assets.getD j asset0).amount ⟨by have := hr.2.2 _ (getD_mem (d := asset0) h35); omega, hx.2⟩ ⟨by have := (hij0.range ((l.getD k value0).assets.getD j asset0).key).1; omega, (hij0.range _).2⟩) Tryz.func91 (h := ?_)
          rintro _ _ (⟨hc2, rfl, rfl⟩ | ⟨hc2, rfl, rfl⟩)
          · refine ⟨cov_of (by repeat (first | exact trivial | refine ⟨rfl, ?_⟩)), ?_⟩
            refine s_do1 rfl (d_mapUpdate (k := ((l.getD k value0).assets.getD j asset0).key)) ?_
            refine v_sch [] (hk := ?_)
            refine v_again ((l.getD k value0).assets.length - (j + 1)) ⟨j + 1, mput mm cl ((l.getD k value0).assets.getD j asset0).key ((mlook mm ((l.getD k value0).assets.getD j asset0).key).getD 0 + ((l.getD k value0).assets.getD j asset0).amount), mclk mm cl ((l.getD k value0).assets.getD j asset0).key, rfl, rfl, by omega, by omega, hij0.snoc h35 (hr.2.2 _ (getD_mem (d := asset0) h35)) hc2⟩
          · refine v_ex [] (hk := ?_)
            refine k_pan [] (h := ?_)
            exact .inr ⟨fill_over h14 h35 hij0 hc2, rfl, rfl⟩
        · refine v_code [] (hk := ?_)
          refine v_again (l.length - (k + 1)) ⟨k + 1, co + (l.getD k value0).coin, mm, cl, rfl, rfl, by omega, by omega, hik0.snoc h14 hr hc (by rw [take_all' h35] at hij0; exact hij0)⟩
      · refine v_ex [] (hk := ?_)
        refine k_pan [] (h := ?_)
        exact .inr ⟨fill_coin h14 hik0 hc, rfl, rfl⟩
    · simp only [decide_eq_false_iff_not] at hr
      refine v_ex [] (hk := ?_)
      refine k_pan [] (h := ?_)
      exact .inr ⟨fill_not h14 hr, rfl, rfl⟩
  · refine v_code [] (hk := ?_)
    refine k_ret [10010, 10008] (.s (.one (.ptr 0 ⟨g10, 0, none⟩))) (.cons (.tmp rfl) .nil) (h := ?_)
    refine .inl ⟨g10, g8, co, m0, cl0, ?_, rfl, rfl⟩
    rw [take_all' h14] at hik0
    exact hik0
end Go.Proofs.YtlnckcgbpilmdaaGreat
/- The bundle of a sum: plain. -/

set_option linter.unusedVariables false
namespace Go.Proofs.YtlnckcgbpilmdaaGreat
open Go Go.RowKit HL
structure PM (f : NameP → Int) (m : List (NameP × Int × Nat)) (c : Nat) : Prop where
  wf : MWf m c
  look : ∀ n, (mlook m n).getD 0 = f n
  rng : ∀ n, 0 ≤ f n ∧ f n ≤ Max
theorem PJ.pm {P : List AssetP} {m : List (NameP × Int × Nat)} {c : Nat} (h : PJ P m c) : PM (tot P) m c := ⟨h.wf, h.look, fun n => ⟨tot_nonneg n h.pos, h.le n⟩⟩
theorem PM.less {a P : List AssetP} {m : List (NameP × Int × Nat)} {c : Nat} (h : PM (fun n => tot a n - tot P n) m c) {x : AssetP} (hx : 1 ≤ x.amount) (hle : x.amount ≤ (mlook m x.key).getD 0) : PM (fun n => tot a n - tot (P ++ [x]) n) (mput m c x.key ((mlook m x.key).getD 0 - x.amount)) (mclk m c x.key) where
  wf := h.wf.put _ _
  look n := by
    rw [mlook_put, tot_app, tot_one]
    have h1 := h.look n
    by_cases e : n = x.key
    · subst e
      rw [if_pos rfl, if_pos rfl]
      simp only [Option.getD_some]
      rw [h1]
      omega
    · rw [if_neg e, if_neg e]; omega
  rng n := by
    rw [tot_app, tot_one]
    have h1 := h.rng n
    have h2 := h.look n
    by_cases e : n = x.key
    · subst e; rw [if_pos rfl]; rw [h2] at hle; omega
    · rw [if_neg e]; omega
def IsB (f : NameP → Int) (al : List AssetP) : Prop := Rise AssetP.key al ∧ ∀ x, x ∈ al ↔ 1 ≤ x.amount ∧ f x.key = x.amount
theorem IsB.unique {f : NameP → Int} {al bs : List AssetP} (h1 : IsB f al) (h2 : IsB f bs) : al = bs := rise_ext h1.1 h2.1 fun x => by rw [h1.2, h2.2]
theorem atN_none {α : Type} {key : α → NameP} {l : List α} {n : NameP} (h : ∀ x ∈ l, key x ≠ n) : atN key l n = none := by
  unfold atN
  rw [List.find?_eq_none]
  intro x hx
  simpa using h x hx
theorem IsB.amt {f : NameP → Int} {al : List AssetP} (h : IsB f al) {n : NameP} (hp : 0 ≤ f n) : amt al n = f n := by
  unfold Proofs.YtlnckcgbpilmdaaGreat.amt
  by_cases h0 : f n = 0
  · rw [h0, atN_none]
    · rfl
    · rintro x hx rfl
      have := (h.2 x).1 hx
      omega
  · have hx : (⟨n.policy, n.name, f n⟩ : AssetP) ∈ al := (h.2 _).2 ⟨by show 1 ≤ f n; omega, rfl⟩
    have := atN_of h.1 hx
    have e : AssetP.key ⟨n.policy, n.name, f n⟩ = n := rfl
    rw [e] at this
    rw [this]
    rfl
def mkA (e : NameP × Int × Nat) : AssetP := ⟨e.1.policy, e.1.name, e.2.1⟩
def asF (done : List (NameP × Int × Nat)) : List AssetP := (done.filter fun e => decide (0 < e.2.1)).map mkA
theorem asF_yes {done : List (NameP × Int × Nat)} {e : NameP × Int × Nat} (h : 0 < e.2.1) : asF (done ++ [e]) = asF done ++ [mkA e] := by
  unfold asF
  rw [List.filter_append, List.map_append]
  simp [h]
theorem asF_no {done : List (NameP × Int × Nat)} {e : NameP × Int × Nat} (h : ¬ 0 < e.2.1) : asF (done ++ [e]) = asF done := by
  unfold asF
  rw [List.filter_append, List.map_append]
  simp [h]
theorem asF_len (done : List (NameP × Int × Nat)) : (asF done).length ≤ done.length := by
  unfold asF
  rw [List.length_map]
  exact List.length_filter_le _ _
theorem inj_keys {ν : Type} : ∀ {l : List (NameP × ν × Nat)}, (l.map (·.1)).Nodup → ∀ {x y}, x ∈ l → y ∈ l → x.1 = y.1 → x = y
  | [], _, x, y, hx, _, _ => by cases hx
  | z :: l, h, x, y, hx, hy, he => by
    rw [List.map_cons, List.nodup_cons] at h
    rcases List.mem_cons.1 hx with e1 | hx' <;> rcases List.mem_cons.1 hy with e2 | hy'
    · rw [e1, e2]
    · exact absurd (by rw [← e1, he]; exact List.mem_map_of_mem hy') h.1
    · exact absurd (by rw [← e2, ← he]; exact List.mem_map_of_mem hx') h.1
    · exact inj_keys h.2 hx' hy' he
theorem keys_done {ν : Type} {m done : List (NameP × ν × Nat)} {c : Nat} (hw : MWf m c) (hs : ∀ e ∈ done, e ∈ m) (hn : done.Nodup) : (done.map (·.1)).Nodup :=
  List.pairwise_map.2 (hn.imp_of_mem fun {a b} ha hb hab he => hab (inj_keys hw.keys (hs a ha) (hs b hb) he))
theorem asF_keys {m done : List (NameP × Int × Nat)} {c : Nat} (hw : MWf m c) (hs : ∀ e ∈ done, e ∈ m) (hn : done.Nodup) : ((asF done).map AssetP.key).Nodup := by
  unfold asF
  rw [List.map_map]
  have h := keys_done hw (done := done.filter fun e => decide (0 < e.2.1)) (fun e he => hs e ((List.mem_filter.1 he).1)) (hn.filter _)
  exact h
theorem mlook_mem {ν : Type} {m : List (NameP × ν × Nat)} {c : Nat} (hw : MWf m c) {e : NameP × ν × Nat} (he : e ∈ m) : mlook m e.1 = some e.2.1 := by
  unfold mlook
  cases hf : m.find? (fun x => decide (x.1 = e.1)) with
  | none => rw [List.find?_eq_none] at hf; exact absurd (hf e he) (by simp)
  | some f =>
    have h1 := List.mem_of_find?_eq_some hf
    have h2 : f.1 = e.1 := by simpa using List.find?_some hf
    rw [inj_keys hw.keys h1 he h2]
    rfl
theorem mem_mlook {ν : Type} {m : List (NameP × ν × Nat)} {n : NameP} {v : ν} (h : mlook m n = some v) : ∃ b, (n, v, b) ∈ m := by
  unfold mlook at h
  obtain ⟨f, hf, rfl⟩ := Option.map_eq_some_iff.1 h
  have h1 := List.mem_of_find?_eq_some hf
  have h2 : f.1 = n := by simpa using List.find?_some hf
  subst h2
  exact ⟨f.2.2, h1⟩
theorem asF_mem {f : NameP → Int} {m done : List (NameP × Int × Nat)} {c : Nat} (hj : PM f m c) (hs : ∀ e ∈ done, e ∈ m) (ha : ∀ e ∈ m, e ∈ done) (x : AssetP) : x ∈ asF done ↔ 1 ≤ x.amount ∧ f x.key = x.amount := by
  unfold asF
  constructor
  · intro hx
    obtain ⟨e, he, rfl⟩ := List.mem_map.1 hx
    obtain ⟨he, hp⟩ := List.mem_filter.1 he
    have hp' : 0 < e.2.1 := by simpa using hp
    have := hj.look e.1
    rw [mlook_mem hj.wf (hs e he)] at this
    exact ⟨hp', this.symm⟩
  · rintro ⟨h1, h2⟩
    have := hj.look x.key
    rw [h2] at this
    cases hm : mlook m x.key with
    | none => rw [hm] at this; simp at this; omega
    | some v =>
      rw [hm] at this
      obtain ⟨b, hb⟩ := mem_mlook hm
      have hv : v = x.amount := this
      refine List.mem_map.2 ⟨(x.key, v, b), List.mem_filter.2 ⟨ha _ hb, ?_⟩, ?_⟩
      · simp; omega
      · subst hv; rfl
theorem isB_perm {f : NameP → Int} {al bs : List AssetP} (hr : Rise AssetP.key al) (hp : al.Perm bs) (hm : ∀ x, x ∈ bs ↔ 1 ≤ x.amount ∧ f x.key = x.amount) : IsB f al := ⟨hr, fun x => by rw [hp.mem_iff, hm]⟩
theorem isB_len {f : NameP → Int} {al bs : List AssetP} (h : IsB f al) (hn : (bs.map AssetP.key).Nodup) (hm : ∀ x, x ∈ bs ↔ 1 ≤ x.amount ∧ f x.key = x.amount) : al.length = bs.length :=
  (perm_same (nodup_of_map h.1.nodup) (nodup_of_map hn) fun x => by rw [h.2, hm]).length_eq
end Go.Proofs.YtlnckcgbpilmdaaGreat
