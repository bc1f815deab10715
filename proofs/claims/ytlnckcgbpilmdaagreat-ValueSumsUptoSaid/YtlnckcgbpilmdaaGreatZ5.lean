/- Lemmas and walks: N3. -/
import Derived.Test.YtlnckcgbpilmdaaGreatZ4
/- The bundle of a sum: plain. -/

set_option linter.unusedVariables false
namespace Go.Proofs.YtlnckcgbpilmdaaGreat
open Go Go.RowKit HL
structure PM (f : NameP → Int) (m : List (NameP × Int × Nat)) (c : Nat) : Prop where
  wf : MWf m c
  look : ∀ n, (mlook m n).getD 0 = f n
  rng : ∀ n, 0 ≤ f n ∧ f n ≤ Max
theorem PJ.pm {P : List AssetP} {m : List (NameP × Int × Nat)} {c : Nat} (h : PJ P m c) : PM (tot P) m c := ⟨h.wf, h.look, fun n => ⟨tot_nonneg n h.pos, h.le n⟩⟩
theorem PM.less {a P : List AssetP} {m : List (NameP × Int × Nat)} {c : Nat} (h : PM (fun n => tot a n - tot P n) m c) {x : AssetP} (hx : 1 ≤ x.amount) (hle : x.amount ≤ (mlook m x.key).getD 0) : PM (fun n => tot a n - tot (P ++ [x]) n) (mput m c x.key ((mlook m x.key).getD 0 - x.amount)) (mclk m c x.key) where
  wf := h.wf.put _ _
  look n := by
    rw [mlook_put, tot_app, tot_one]
    have h1 := h.look n
    by_cases e : n = x.key
    · subst e
      rw [if_pos rfl, if_pos rfl]
      simp only [Option.getD_some]
      rw [h1]
      omega
    · rw [if_neg e, if_neg e]; omega
  rng n := by
    rw [tot_app, tot_one]
    have h1 := h.rng n
    have h2 := h.look n
    by_cases e : n = x.key
    · subst e; rw [if_pos rfl]; rw [h2] at hle; omega
    · rw [if_neg e]; omega
def IsB (f : NameP → Int) (al : List AssetP) : Prop := Rise AssetP.key al ∧ ∀ x, x ∈ al ↔ 1 ≤ x.amount ∧ f x.key = x.amount
theorem IsB.unique {f : NameP → Int} {al bs : List AssetP} (h1 : IsB f al) (h2 : IsB f bs) : al = bs := rise_ext h1.1 h2.1 fun x => by rw [h1.2, h2.2]
theorem atN_none {α : Type} {key : α → NameP} {l : List α} {n : NameP} (h : ∀ x ∈ l, key x ≠ n) : atN key l n = none := by
  unfold atN
  rw [List.find?_eq_none]
  intro x hx
  simpa using h x hx
theorem IsB.amt {f : NameP → Int} {al : List AssetP} (h : IsB f al) {n : NameP} (hp : 0 ≤ f n) : amt al n = f n := by
  unfold Proofs.YtlnckcgbpilmdaaGreat.amt
  by_cases h0 : f n = 0
  · rw [h0, atN_none]
    · rfl
    · rintro x hx rfl
      have := (h.2 x).1 hx
      omega
  · have hx : (⟨n.policy, n.name, f n⟩ : AssetP) ∈ al := (h.2 _).2 ⟨by show 1 ≤ f n; omega, rfl⟩
    have := atN_of h.1 hx
    have e : AssetP.key ⟨n.policy, n.name, f n⟩ = n := rfl
    rw [e] at this
    rw [this]
    rfl
def mkA (e : NameP × Int × Nat) : AssetP := ⟨e.1.policy, e.1.name, e.2.1⟩
def asF (done : List (NameP × Int × Nat)) : List AssetP := (done.filter fun e => decide (0 < e.2.1)).map mkA
theorem asF_yes {done : List (NameP × Int × Nat)} {e : NameP × Int × Nat} (h : 0 < e.2.1) : asF (done ++ [e]) = asF done ++ [mkA e] := by
  unfold asF
  rw [List.filter_append, List.map_append]
  simp [h]
theorem asF_no {done : List (NameP × Int × Nat)} {e : NameP × Int × Nat} (h : ¬ 0 < e.2.1) : asF (done ++ [e]) = asF done := by
  unfold asF
  rw [List.filter_append, List.map_append]
  simp [h]
theorem asF_len (done : List (NameP × Int × Nat)) : (asF done).length ≤ done.length := by
  unfold asF
  rw [List.length_map]
  exact List.length_filter_le _ _
theorem inj_keys {ν : Type} : ∀ {l : List (NameP × ν × Nat)}, (l.map (·.1)).Nodup → ∀ {x y}, x ∈ l → y ∈ l → x.1 = y.1 → x = y
  | [], _, x, y, hx, _, _ => by cases hx
  | z :: l, h, x, y, hx, hy, he => by
    rw [List.map_cons, List.nodup_cons] at h
    rcases List.mem_cons.1 hx with e1 | hx' <;> rcases List.mem_cons.1 hy with e2 | hy'
    · rw [e1, e2]
    · exact absurd (by rw [← e1, he]; exact List.mem_map_of_mem hy') h.1
    · exact absurd (by rw [← e2, ← he]; exact List.mem_map_of_mem hx') h.1
    · exact inj_keys h.2 hx' hy' he
theorem keys_done {ν : Type} {m done : List (NameP × ν × Nat)} {c : Nat} (hw : MWf m c) (hs : ∀ e ∈ done, e ∈ m) (hn : done.Nodup) : (done.map (·.1)).Nodup :=
  List.pairwise_map.2 (hn.imp_of_mem fun {a b} ha hb hab he => hab (inj_keys hw.keys (hs a ha) (hs b hb) he))
theorem asF_keys {m done : List (NameP × Int × Nat)} {c : Nat} (hw : MWf m c) (hs : ∀ e ∈ done, e ∈ m) (hn : done.Nodup) : ((asF done).map AssetP.key).Nodup := by
  unfold asF
  rw [List.map_map]
  have h := keys_done hw (done := done.filter fun e => decide (0 < e.2.1)) (fun e he => hs e ((List.mem_filter.1 he).1)) (hn.filter _)
  exact h
theorem mlook_mem {ν : Type} {m : List (NameP × ν × Nat)} {c : Nat} (hw : MWf m c) {e : NameP × ν × Nat} (he : e ∈ m) : mlook m e.1 = some e.2.1 := by
  unfold mlook
  cases hf : m.find? (fun x => decide (x.1 = e.1)) with
  | none => rw [List.find?_eq_none] at hf; exact absurd (hf e he) (by simp)
  | some f =>
    have h1 := List.mem_of_find?_eq_some hf
    have h2 : f.1 = e.1 := by simpa using List.find?_some hf
    rw [inj_keys hw.keys h1 he h2]
    rfl
theorem mem_mlook {ν : Type} {m : List (NameP × ν × Nat)} {n : NameP} {v : ν} (h : mlook m n = some v) : ∃ b, (n, v, b) ∈ m := by
  unfold mlook at h
  obtain ⟨f, hf, rfl⟩ := Option.map_eq_some_iff.1 h
  have h1 := List.mem_of_find?_eq_some hf
  have h2 : f.1 = n := by simpa using List.find?_some hf
  subst h2
  exact ⟨f.2.2, h1⟩
theorem asF_mem {f : NameP → Int} {m done : List (NameP × Int × Nat)} {c : Nat} (hj : PM f m c) (hs : ∀ e ∈ done, e ∈ m) (ha : ∀ e ∈ m, e ∈ done) (x : AssetP) : x ∈ asF done ↔ 1 ≤ x.amount ∧ f x.key = x.amount := by
  unfold asF
  constructor
  · intro hx
    obtain ⟨e, he, rfl⟩ := List.mem_map.1 hx
    obtain ⟨he, hp⟩ := List.mem_filter.1 he
    have hp' : 0 < e.2.1 := by simpa using hp
    have := hj.look e.1
    rw [mlook_mem hj.wf (hs e he)] at this
    exact ⟨hp', this.symm⟩
  · rintro ⟨h1, h2⟩
    have := hj.look x.key
    rw [h2] at this
    cases hm : mlook m x.key with
    | none => rw [hm] at this; simp at this; omega
    | some v =>
      rw [hm] at this
      obtain ⟨b, hb⟩ := mem_mlook hm
      have hv : v = x.amount := this
      refine List.mem_map.2 ⟨(x.key, v, b), List.mem_filter.2 ⟨ha _ hb, ?_⟩, ?_⟩
      · simp; omega
      · subst hv; rfl
theorem isB_perm {f : NameP → Int} {al bs : List AssetP} (hr : Rise AssetP.key al) (hp : al.Perm bs) (hm : ∀ x, x ∈ bs ↔ 1 ≤ x.amount ∧ f x.key = x.amount) : IsB f al := ⟨hr, fun x => by rw [hp.mem_iff, hm]⟩
theorem isB_len {f : NameP → Int} {al bs : List AssetP} (h : IsB f al) (hn : (bs.map AssetP.key).Nodup) (hm : ∀ x, x ∈ bs ↔ 1 ≤ x.amount ∧ f x.key = x.amount) : al.length = bs.length :=
  (perm_same (nodup_of_map h.1.nodup) (nodup_of_map hn) fun x => by rw [h.2, hm]).length_eq
end Go.Proofs.YtlnckcgbpilmdaaGreat
