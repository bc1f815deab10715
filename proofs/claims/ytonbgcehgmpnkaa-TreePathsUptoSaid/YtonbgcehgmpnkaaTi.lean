import Derived.Test.YtonbgcehgmpnkaaTh
set_option linter.unusedVariables false
set_option linter.unusedSimpArgs false
namespace Go.Proofs.Ytonbgcehgmpnkaa
open Go Go.RowKit HL BigFrame
structure RevAt (d dk : List Hash) (i : Nat) : Prop where
  len : dk.length = d.length
  at' : ∀ p, p < d.length → dk[p]? = if p < i ∨ d.length - 1 - p < i then d[d.length - 1 - p]? else d[p]?
theorem RevAt.start (d : List Hash) : RevAt d d 0 := ⟨rfl, fun p hp => by simp⟩
theorem RevAt.done {d dk : List Hash} {i : Nat} (h : RevAt d dk i) (hi : d.length ≤ 2 * i + 1) : dk = d.reverse := by
  apply List.ext_getElem?
  intro p
  by_cases hp : p < d.length
  · rw [h.at' p hp, List.getElem?_reverse hp]
    split
    · rfl
    · rename_i hn
      have : d.length - 1 - p = p := by omega
      rw [this]
  · rw [List.getElem?_eq_none (by have := h.len; omega), List.getElem?_eq_none (by simp; omega)]
theorem RevAt.step {d dk : List Hash} {i : Nat} (h : RevAt d dk i) (hi : 2 * i + 1 < d.length) {x y : Hash} (hx : dk[i]? = some x) (hy : dk[d.length - 1 - i]? = some y) : RevAt d ((dk.set i y).set (d.length - 1 - i) x) (i + 1) := by
  refine ⟨by simp [h.len], fun p hp => ?_⟩
  have hl := h.len
  have e1 := h.at' i (by omega)
  rw [hx, if_neg (by omega)] at e1
  have e2 := h.at' (d.length - 1 - i) (by omega)
  rw [hy, if_neg (by omega)] at e2
  by_cases h1 : p = d.length - 1 - i
  · subst h1
    rw [List.getElem?_set_self (by simp; omega), if_pos (by omega), show d.length - 1 - (d.length - 1 - i) = i by omega]
    exact e1
  · rw [List.getElem?_set_ne (by omega)]
    by_cases h2 : p = i
    · subst h2
      rw [List.getElem?_set_self (by omega), if_pos (by omega)]
      exact e2
    · rw [List.getElem?_set_ne (by omega), h.at' p hp]
      by_cases h3 : p < i ∨ d.length - 1 - p < i
      · rw [if_pos h3, if_pos (by omega)]
      · rw [if_neg h3, if_neg (by omega)]
set_option maxHeartbeats 4000000 in
set_option maxRecDepth 100000 in
theorem reverse_calls (A : Option Addr) (d : List Hash) (c : Nat) (w : World) (hr : (Res.row A d.length c 23 32 (flat (d.map hval))).holds w) (hd : d.length ≤ 1048576) :
    Calls Try.prog 30 #[.slice A d.length c] w fun e w' => e = .returned (.tuple #[]) ∧ St w w' (fun b => obl A = some b) [Res.row A d.length c 23 32 (flat (d.reverse.map hval))] := by
  have hst : St w w (fun b => obl A = some b) [Res.row A d.length c 23 32 (flat (d.map hval))] := (St.start1 hr).more fun b hb => fp_row.1 hb
  clear hr
  go_enter Try.func30, Try.ntmps30
  go_wp2
  go_loopg [2, 3] d.length (fun kx s2 s3 wr => ∃ (i : Nat) (dk : List Hash), s2 = .int .i64 i ∧ s3 = .int .i64 ((d.length : Int) - 1 - i) ∧ 2 * i ≤ d.length + 1 ∧ d.length - i ≤ kx ∧ RevAt d dk i ∧ St w wr (fun b => obl A = some b) [Res.row A d.length c 23 32 (flat (dk.map hval))])
  case atStart => exact ⟨0, d, rfl, by go_num, by omega, by omega, RevAt.start d, hst⟩
  case round =>
    clear hst
    obtain ⟨i, dk, rfl, rfl, hi2, hkx, hrv, hst⟩ := hrel
    by_cases hlt : 2 * i + 1 < d.length
    · have hc : (i : Int) < (d.length : Int) - 1 - i := by omega
      have hl := hrv.len
      obtain ⟨x, hx⟩ : ∃ x, dk[i]? = some x := ⟨_, List.getElem?_eq_getElem (by omega)⟩
      obtain ⟨y, hy⟩ : ∃ y, dk[d.length - 1 - i]? = some y := ⟨_, List.getElem?_eq_getElem (by omega)⟩
      have hrv2 := hrv.step hlt hx hy
      have HX := Lib.hid hx
      have HY := Lib.hid hy
      have HRV := Lib.hid hrv2
      clear hrv hrv2 hx hy
      go_wp2
      refine wp_region_sched (.q 0 (.q 1 (.q 2 (.q 3 (.q 4 (.q 5 (.q 6 (.q 8 (.q 9 (.q 10 (.s2 7 (.s 11 (.q 12 (.s 13 (.q 14 (.s 15 .nil))))) 11 (.s 7 (.q 12 (.s 13 (.q 14 (.s 15 .nil)))))))))))))))) (fun w1 => True) (by kernel_rfl) (by kernel_rfl) (by kernel_rfl) (by decide) (fun d v c a w h => by cases d <;> exact h) ?_
      have hst := hst.drew
      obtain ⟨ad, hAd⟩ := row_some (hst.get (i := 0) rfl) (by omega)
      iterate 6 (refine q_move rfl rfl rfl rfl trivial ?_; simp only [Act.put, List.setIfInBounds_toArray, List.set_cons_succ, List.set_cons_zero])
      refine q_elemP Try.underlying39 ty23 rfl rfl rfl rfl rfl trivial (by omega) (by omega) ⟨ad, hAd⟩ (fun p1 hp1 => ?_); simp only [Act.put, List.setIfInBounds_toArray, List.set_cons_succ, List.set_cons_zero]
      iterate 2 (refine q_move rfl rfl rfl rfl trivial ?_; simp only [Act.put, List.setIfInBounds_toArray, List.set_cons_succ, List.set_cons_zero])
      refine q_elemP Try.underlying39 ty23 rfl rfl rfl rfl rfl trivial (by omega) (by omega) ⟨ad, hAd⟩ (fun p2 hp2 => ?_); simp only [Act.put, List.setIfInBounds_toArray, List.set_cons_succ, List.set_cons_zero]
      have hrd := hst.row_rd (i := 0) rfl
      have hy := HY.out
      have hx := HX.out
      have hpy := hp1.cells hrd (hashes_sz dk) (by omega) (v := hval y) (by simp [show ((d.length : Int) - 1 - i).toNat = d.length - 1 - i by omega, hy])
      have hpx := hp2.cells hrd (hashes_sz dk) (by omega) (v := hval x) (by simp [hx])
      refine sched_two ?_ ?_
      all_goals first | (refine o_load (v := hval y) rfl rfl (.sched rfl rfl) (fits_hash _) hpy ?_; refine ⟨trivial, ?_⟩; simp only [Act.put, List.setIfInBounds_toArray, List.set_cons_succ, List.set_cons_zero]; refine o_load (v := hval x) rfl rfl (.sched rfl rfl) (fits_hash _) hpx ?_; refine ⟨trivial, ?_⟩; simp only [Act.put, List.setIfInBounds_toArray, List.set_cons_succ, List.set_cons_zero]) | (refine o_load (v := hval x) rfl rfl (.sched rfl rfl) (fits_hash _) hpx ?_; refine ⟨trivial, ?_⟩; simp only [Act.put, List.setIfInBounds_toArray, List.set_cons_succ, List.set_cons_zero]; refine o_load (v := hval y) rfl rfl (.sched rfl rfl) (fits_hash _) hpy ?_; refine ⟨trivial, ?_⟩; simp only [Act.put, List.setIfInBounds_toArray, List.set_cons_succ, List.set_cons_zero])
      all_goals
        refine q_elemP Try.underlying39 ty23 rfl rfl rfl rfl rfl trivial (by omega) (by omega) ⟨ad, hAd⟩ (fun p3 hp3 => ?_); simp only [Act.put, List.setIfInBounds_toArray, List.set_cons_succ, List.set_cons_zero]
        refine o_storeE (i := 0) rfl hp3 (u := hval x) (by simp [hx]) rfl rfl rfl (.sched rfl rfl) hst (fits_hash _) (ok1_hval _) (hashes_sz dk) (size_hval _) ?_
        intro w2 hst2
        refine ⟨trivial, ?_⟩
        simp only [List.set_cons_zero, Int.toNat_natCast, ← List.map_set] at hst2
        try simp only [Act.put, List.setIfInBounds_toArray, List.set_cons_succ, List.set_cons_zero]
        refine q_elemP Try.underlying39 ty23 rfl rfl rfl rfl rfl trivial (by omega) (by omega) ⟨ad, hAd⟩ (fun p4 hp4 => ?_); simp only [Act.put, List.setIfInBounds_toArray, List.set_cons_succ, List.set_cons_zero]
        have hy2 : (dk.set i y)[d.length - 1 - i]? = some y := by rw [List.getElem?_set_ne (by omega)]; exact hy
        refine o_storeE (i := 0) rfl hp4 (u := hval y) (by rw [show ((d.length : Int) - 1 - i).toNat = d.length - 1 - i by omega, List.getElem?_map, hy2]; rfl) rfl rfl rfl (.sched rfl rfl) hst2 (fits_hash _) (ok1_hval _) (hashes_sz _) (size_hval _) ?_
        intro w3 hst3
        refine ⟨trivial, ?_⟩
        simp only [List.set_cons_zero, show ((d.length : Int) - 1 - i).toNat = d.length - 1 - i by omega, ← List.map_set] at hst3
        try simp only [Act.put, List.setIfInBounds_toArray, List.set_cons_succ, List.set_cons_zero]
        refine sched_nil ?_
        clear hst hst2 hy hx hy2 hrd hpy hpx
        go_wp2
        go_roundg (d.length - (i + 1))
        case measure => omega
        case rel => exact ⟨i + 1, _, by go_num, by go_num, by omega, Nat.le_refl _, HRV.out, hst3⟩
    · have hc : ¬ (i : Int) < (d.length : Int) - 1 - i := by omega
      have he := hrv.done (by omega)
      rw [he] at hst
      go_wp2
      refine ⟨by simp, .tuple #[], by simp [results, Try.results30, Sem.run_pure], rfl, by rw [← List.map_reverse]; exact hst⟩
end Go.Proofs.Ytonbgcehgmpnkaa
