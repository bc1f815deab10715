/- behind: the walk. -/
import Derived.Test.YtonbgcehgmpnkaaG4
set_option linter.unusedVariables false
set_option linter.unusedSimpArgs false
set_option maxRecDepth 100000
set_option maxHeartbeats 8000000
namespace Go.Proofs.Ytonbgcehgmpnkaa
open Go Go.RowKit HL
theorem rows_tail {α : Type} {A : Option Addr} {c k : Nat} {e : TypeId} {E : En α} {l : List α} {w : World} (h : (Res.rows A c e E l).holds w) (hk : k ≤ l.length) : (Res.rows (tailA A c k E.sz) (c - k) e E (l.drop k)).holds w := by
  unfold Res.rows at h ⊢
  have := row_tail E.pos (E.sizes l) h hk
  rw [List.length_drop]
  have e1 : E.dens (l.drop k) = (E.dens l).drop k := by unfold En.dens; rw [List.map_drop]
  rw [e1]
  exact this
structure BInv (l : List LeafP) (id : Hash) (q : List Hash) (s : List (Hash × Bool × Nat)) (c : Nat) : Prop where
  wf : MWf s c
  all : AllT s
  sound : ∀ x ∈ s.map (·.1), Desc l id x
  inq : ∀ x ∈ q, x = id ∨ x ∈ s.map (·.1)
  clo : ∀ p, p = id ∨ p ∈ s.map (·.1) → p ∉ q → ∀ k ∈ kidsOf l p, k ∈ s.map (·.1)
  few : q.length ≤ s.length + 1
theorem BInv.start (l : List LeafP) (id : Hash) : BInv l id [id] [] 0 := by
  refine ⟨MWf.nil, fun x h => ?_, fun x h => ?_, fun x h => .inl (List.mem_singleton.1 h), fun p h hn => ?_, Nat.le_refl _⟩
  · cases h
  · cases h
  · rcases h with rfl | h
    · exact absurd (List.mem_singleton.2 rfl) hn
    · cases h
theorem Desc.leaf {l : List LeafP} {id x : Hash} (h : Desc l id x) : x ∈ l.map (·.id) := by
  cases h with
  | kid h => exact kids_ids h
  | on _ h => exact kids_ids h
theorem BInv.small {l : List LeafP} {id : Hash} {q : List Hash} {s : List (Hash × Bool × Nat)} {c : Nat} (h : BInv l id q s c) : s.length ≤ l.length := by
  have := iter_len (l := l.map (·.id)) (done := s.map (·.1)) (fun x hx => (h.sound x hx).leaf) h.wf.keys
  simpa using this
theorem BInv.add {l : List LeafP} {id p y : Hash} {q : List Hash} {s : List (Hash × Bool × Nat)} {c : Nat} (h : BInv l id (p :: q) s c) (hy : y ∈ kidsOf l p) (hn : y ∉ s.map (·.1)) : BInv l id (p :: (q ++ [y])) (mput s c y true) (mclk s c y) ∧ (mput s c y true).length = s.length + 1 := by
  have hlen : (mput s c y true).length = s.length + 1 := by rw [put_new hn]; simp
  refine ⟨⟨h.wf.put y true, ?_, ?_, ?_, ?_, ?_⟩, hlen⟩
  · intro x hx
    rw [put_new hn] at hx
    rcases List.mem_append.1 hx with hx | hx
    · exact h.all x hx
    · rw [List.mem_singleton.1 hx]
  · intro x hx
    rcases (put_keys x).1 hx with rfl | hx
    · rcases h.inq p (List.mem_cons_self ..) with rfl | hp
      · exact .kid hy
      · exact .on (h.sound p hp) hy
    · exact h.sound x hx
  · intro x hx
    rw [put_keys]
    rcases List.mem_cons.1 hx with rfl | hx
    · rcases h.inq x (List.mem_cons_self ..) with h1 | h1
      · exact .inl h1
      · exact .inr (.inr h1)
    · rcases List.mem_append.1 hx with hx | hx
      · rcases h.inq x (List.mem_cons_of_mem _ hx) with h1 | h1
        · exact .inl h1
        · exact .inr (.inr h1)
      · exact .inr (.inl (List.mem_singleton.1 hx))
  · intro p' hp' hnq k hk
    rw [put_keys] at hp' ⊢
    have hnq' : p' ∉ p :: q := fun hm => hnq (by
      rcases List.mem_cons.1 hm with rfl | hm
      · exact List.mem_cons_self ..
      · exact List.mem_cons_of_mem _ (List.mem_append_left _ hm))
    have hne : p' ≠ y := fun e => hnq (by subst e; exact List.mem_cons_of_mem _ (List.mem_append_right _ (List.mem_singleton.2 rfl)))
    rcases hp' with hp' | hp' | hp'
    · exact .inr (h.clo p' (.inl hp') hnq' k hk)
    · exact absurd hp' hne
    · exact .inr (h.clo p' (.inr hp') hnq' k hk)
  · have := h.few
    simp only [List.length_cons, List.length_append, List.length_nil] at this ⊢
    omega
theorem BInv.pop {l : List LeafP} {id p : Hash} {q : List Hash} {s : List (Hash × Bool × Nat)} {c : Nat} (h : BInv l id (p :: q) s c) (hall : ∀ k ∈ kidsOf l p, k ∈ s.map (·.1)) : BInv l id q s c := by
  refine ⟨h.wf, h.all, h.sound, fun x hx => h.inq x (List.mem_cons_of_mem _ hx), fun p' hp' hnq k hk => ?_, ?_⟩
  · by_cases e : p' = p
    · subst e; exact hall k hk
    · exact h.clo p' hp' (fun hm => by
        rcases List.mem_cons.1 hm with h1 | h1
        · exact e h1
        · exact hnq h1) k hk
  · have := h.few
    simp only [List.length_cons] at this
    omega
/-- What is behind one is there, just that. -/
structure Behind (l : List LeafP) (id : Hash) (s : List (Hash × Bool × Nat)) (c : Nat) : Prop where
  wf : MWf s c
  all : AllT s
  iff : ∀ x, x ∈ s.map (·.1) ↔ Desc l id x
  few : s.length ≤ l.length
theorem BInv.done {l : List LeafP} {id : Hash} {s : List (Hash × Bool × Nat)} {c : Nat} (h : BInv l id [] s c) : Behind l id s c := ⟨h.wf, h.all, fun x => ⟨h.sound x, fun hd => by
  induction hd with
  | kid hx => exact h.clo id (.inl rfl) (by simp) _ hx
  | on _ hx ih => exact h.clo _ (.inr ih) (by simp) _ hx⟩, h.small⟩
theorem look_no {s : List (Hash × Bool × Nat)} {k : Hash} (h : AllT s) (hl : (!((mlook s k).getD false)) = true) : k ∉ s.map (·.1) := by
  rw [allT_look h] at hl
  simpa using hl
theorem look_yes {s : List (Hash × Bool × Nat)} {k : Hash} (h : AllT s) (hl : (!((mlook s k).getD false)) = false) : k ∈ s.map (·.1) := by
  rw [allT_look h] at hl
  simpa using hl
theorem behind_spec (gl gk : Nat) (xs : List (Hash × KV × Nat)) (l : List LeafP) (id : Hash) (hk : KidsOf xs l) (hl : l.length ≤ 3000) : CSpec Try.prog 31 [.agg [.one (.mp 100 gl), .one (.mp 101 gk)], .agg [.hash id]] [(101, kidsR gk xs)] [] fun o L =>
    ∃ g s c, Behind l id s c ∧ o = .ret (.s (.one (.mp 0 g))) ∧ L = [Res.mp g hashEn boolEn s c] := by
  have hkm := kidsR_map 101 gk xs
  refine k_enter Try.func31 rfl rfl (h := fun w0 => ?_)
  refine c_seq ?_
  refine c_region ?_
  refine l_do d_box (fun g2 => ?_)
  refine l_do d_box (fun g3 => ?_)
  refine l_rd r_assign ?_
  refine l_nil ?_
  refine x_then ?_
  refine c_seq ?_
  refine c_region ?_
  refine l_do (d_makeMap hashEn boolEn) (fun g9 => ?_)
  refine l_rd r_assign ?_
  refine l_nil ?_
  refine x_then ?_
  refine c_seq ?_
  refine c_seq ?_
  refine c_region ?_
  first | refine l_rd r_load ?_ | refine l_rd r_loadE ?_
  refine l_do (d_bslice [_]) (fun B11 => ?_)
  refine l_rd r_assign ?_
  refine l_nil ?_
  refine x_then ?_
  refine c_block ?_
  refine c_loop (fun m E H => ∃ q s c A cq, E = [(6, vsl 10011 A q.length cq)] ∧ H = [(10011, Res.rows A cq 23 hashEn q), (10009, Res.mp g9 hashEn boolEn s c)] ∧ BInv l id q s c ∧ m = l.length - s.length + q.length) [0, 1, 2, 3, 5, 9, 10, 11, 39] [10002] (l.length + 1) ([(6, vsl 10011 B11 [id].length [id].length)]) ([(10011, Res.rows B11 [id].length 23 hashEn [id]), (10009, Res.mp g9 hashEn boolEn [] 0)]) rfl rfl (⟨[id], [], 0, B11, 1, rfl, rfl, BInv.start l id, rfl⟩) (by repeat (first | exact trivial | refine ⟨⟨_, rfl, (by first | rfl | exact den_int (by omega))⟩, ?_⟩)) (by repeat (first | exact trivial | refine ⟨rfl, ?_⟩)) rfl (fun _ _ _ hI => ?_)
  obtain ⟨q, s, c, A, cq, rfl, rfl, hb, rfl⟩ := hI
  refine c_seq ?_
  refine c_seq ?_
  refine c_region ?_
  refine l_rd r_move ?_
  refine l_rd r_len ?_
  refine l_rd r_gtr ?_
  refine l_nil ?_
  refine x_then ?_
  first | refine c_ifd rfl (fun h14 => ?_) (fun h14 => ?_) | refine c_ifn rfl (fun h14 => ?_) (fun h14 => ?_) | refine c_if rfl (fun h14 => ?_) (fun h14 => ?_)
  · obtain ⟨p, t, rfl⟩ : ∃ p t, q = p :: t := by (cases q with | nil => simp at h14 | cons p t => exact ⟨p, t, rfl⟩)
    refine c_skip ?_
    refine x_then ?_
    refine c_seq ?_
    refine c_block ?_
    refine c_seq ?_
    refine c_draw (.q 0 (.q 1 (.q 2 (.q 3 (.q 4 (.q 5 (.q 6 (.q 7 .nil)))))))) [10002, 10003, 10009, 10011, 10013, 10023, 10008, 10036, 10037] (hm := by kernel_rfl) (hs := by kernel_rfl) (hk := by kernel_rfl) (hQ := fun d v c a w h => by cases d <;> exact h) (h := ?_)
    first | refine q_rd rfl r_field ?_ | refine q_rd rfl r_fieldE ?_
    first | refine q_rd rfl r_load ?_ | refine q_rd rfl r_loadE ?_
    refine q_rd rfl r_move ?_
    refine q_ix rfl (fun ad20 y20 hA20 h20 => ?_)
    obtain rfl : p = y20 := by simpa using h20
    first | refine q_rd rfl r_load ?_ | refine q_rd rfl r_loadE ?_
    first | refine q_rd rfl r_lookup1 ?_ | refine q_rd rfl r_lookup1N ?_
    refine q_rd rfl r_len ?_
    refine q_rd rfl r_move ?_
    refine s_nil ?_
    refine x_then ?_
    refine c_block ?_
    have hv : View (kidsR gk xs) (Res.rd ((mlook xs p).getD kv0).1 hashEn ((mlook xs p).getD kv0).2.2) := kidsR_rowD p
    have hko : ((mlook xs p).getD kv0).2.2 = kidsOf l p := hk.look p
    have hkl : (kidsOf l p).length ≤ l.length := by (unfold kidsOf; rw [List.length_map]; exact List.length_filter_le ..)
    refine c_loop (fun m E H => ∃ j : Nat, ∃ q' s' c' A' cq', E = [(24, vint j), (6, vsl 10011 A' (p :: q').length cq')] ∧ H = [(10011, Res.rows A' cq' 23 hashEn (p :: q')), (10009, Res.mp g9 hashEn boolEn s' c')] ∧ BInv l id (p :: q') s' c' ∧ j ≤ (kidsOf l p).length ∧ (∀ k ∈ (kidsOf l p).take j, k ∈ s'.map (·.1)) ∧ l.length - s'.length + q'.length = l.length - s.length + t.length ∧ m = (kidsOf l p).length - j) [0, 1, 2, 3, 5, 9, 10, 11, 12, 13, 14, 15, 16, 17, 18, 19, 20, 21, 22, 23, 39] [10002] ((kidsOf l p).length) ([(24, vint (0 : Nat)), (6, vsl 10011 A (p :: t).length cq)]) ([(10011, Res.rows A cq 23 hashEn (p :: t)), (10009, Res.mp g9 hashEn boolEn s c)]) rfl rfl (⟨0, t, s, c, A, cq, rfl, rfl, hb, Nat.zero_le _, by simp, rfl, rfl⟩) (by repeat (first | exact trivial | refine ⟨⟨_, rfl, (by first | rfl | exact den_int (by omega))⟩, ?_⟩)) (by repeat (first | exact trivial | refine ⟨rfl, ?_⟩)) rfl (fun _ _ _ hI => ?_)
    obtain ⟨j, q', s', c', A', cq', rfl, rfl, hb', hj, htk, hpot, rfl⟩ := hI
    refine c_seq ?_
    refine c_region ?_
    refine l_rd r_lss ?_
    refine l_nil ?_
    refine x_then ?_
    refine c_seq ?_
    first | refine c_ifd rfl (fun h25 => ?_) (fun h25 => ?_) | refine c_ifn rfl (fun h25 => ?_) (fun h25 => ?_) | refine c_if rfl (fun h25 => ?_) (fun h25 => ?_)
    · have h25k := h25
      rw [hko] at h25k
      refine c_skip ?_
      refine x_then ?_
      refine c_seq ?_
      refine c_block ?_
      refine c_seq ?_
      refine c_region ?_
      refine l_ix (fun ad26 y26 hA26 h26 => ?_)
      first | refine l_rd r_load ?_ | refine l_rd r_loadE ?_
      refine l_do d_alloc (fun g8 => ?_)
      first | refine l_do1 d_store ?_ | refine l_do1 d_storeE ?_
      refine l_nil ?_
      refine x_then ?_
      refine c_seq ?_
      refine c_region ?_
      refine l_rd r_move ?_
      first | refine l_rd r_load ?_ | refine l_rd r_loadE ?_
      first | refine l_rd r_lookup1 ?_ | refine l_rd r_lookup1N ?_
      refine l_rd r_not ?_
      refine l_nil ?_
      refine x_then ?_
      first | refine c_ifd rfl (fun h31 => ?_) (fun h31 => ?_) | refine c_ifn rfl (fun h31 => ?_) (fun h31 => ?_) | refine c_if rfl (fun h31 => ?_) (fun h31 => ?_)
      · have hqn : (p :: q').length = q'.length + 1 := rfl
        have hfw := hb'.few
        have hsm0 := hb'.small
        refine c_seq ?_
        refine c_region ?_
        refine l_rd r_move ?_
        first | refine l_rd r_load ?_ | refine l_rd r_loadE ?_
        refine l_do1 (d_mapUpdate) ?_
        refine l_nil ?_
        refine x_then ?_
        refine c_region ?_
        refine l_rd r_move ?_
        first | refine l_rd r_load ?_ | refine l_rd r_loadE ?_
        refine l_do (d_bslice [_]) (fun B36 => ?_)
        refine l_do d_append (fun p37 => ?_)
        refine l_rd r_assign ?_
        refine l_nil ?_
        refine x_in (x_then ?_)
        refine c_region ?_
        first | refine l_rd r_add ?_ | refine l_rd r_addW ?_
        refine l_rd r_move ?_
        refine l_nil ?_
        refine x_then ?_
        have hlk : j < (kidsOf l p).length := by omega
        have hsm := hb'.small
        rw [hko] at h26
        refine k_again ((kidsOf l p).length - (j + 1)) (by first | exact ⟨j + 1, q' ++ [y26], _, _, p37.1, p37.2, rfl, rfl, (hb'.add (List.mem_of_getElem? h26) (look_no hb'.all h31)).1, hlk, by (intro k hk; rw [put_keys]; rw [take_get h26] at hk; rcases List.mem_append.1 hk with hk | hk; exact .inr (htk k hk); exact .inl (List.mem_singleton.1 hk)), by (have h8 := (hb'.add (List.mem_of_getElem? h26) (look_no hb'.all h31)); have h9 := h8.1.small; rw [h8.2] at h9 ⊢; simp only [List.length_append, List.length_cons, List.length_nil]; omega), rfl⟩ | exact ⟨j + 1, q', s', c', A', cq', rfl, rfl, hb', hlk, by (intro k hk; rw [take_get h26] at hk; rcases List.mem_append.1 hk with hk | hk; exact htk k hk; rw [List.mem_singleton.1 hk]; exact look_yes hb'.all h31), hpot, rfl⟩) (by omega) (by repeat (first | exact trivial | refine ⟨⟨_, rfl, (by first | rfl | exact den_int (by omega))⟩, ?_⟩)) (by repeat (first | exact trivial | refine ⟨rfl, ?_⟩))
      · refine c_skip ?_
        refine x_in (x_then ?_)
        refine c_region ?_
        first | refine l_rd r_add ?_ | refine l_rd r_addW ?_
        refine l_rd r_move ?_
        refine l_nil ?_
        refine x_then ?_
        have hlk : j < (kidsOf l p).length := by omega
        have hsm := hb'.small
        rw [hko] at h26
        refine k_again ((kidsOf l p).length - (j + 1)) (by first | exact ⟨j + 1, q' ++ [y26], _, _, p37.1, p37.2, rfl, rfl, (hb'.add (List.mem_of_getElem? h26) (look_no hb'.all h31)).1, hlk, by (intro k hk; rw [put_keys]; rw [take_get h26] at hk; rcases List.mem_append.1 hk with hk | hk; exact .inr (htk k hk); exact .inl (List.mem_singleton.1 hk)), by (have h8 := (hb'.add (List.mem_of_getElem? h26) (look_no hb'.all h31)); have h9 := h8.1.small; rw [h8.2] at h9 ⊢; simp only [List.length_append, List.length_cons, List.length_nil]; omega), rfl⟩ | exact ⟨j + 1, q', s', c', A', cq', rfl, rfl, hb', hlk, by (intro k hk; rw [take_get h26] at hk; rcases List.mem_append.1 hk with hk | hk; exact htk k hk; rw [List.mem_singleton.1 hk]; exact look_yes hb'.all h31), hpot, rfl⟩) (by omega) (by repeat (first | exact trivial | refine ⟨⟨_, rfl, (by first | rfl | exact den_int (by omega))⟩, ?_⟩)) (by repeat (first | exact trivial | refine ⟨rfl, ?_⟩))
    · have hqn : (p :: q').length = q'.length + 1 := rfl
      refine c_exit ?_
      refine x_thenE (x_thenE (x_inE (x_in (x_then ?_))))
      refine c_region ?_
      refine l_rd r_move ?_
      refine l_rd (r_sliceL (j := 1)) ?_
      refine l_rd r_assign ?_
      refine l_nil ?_
      refine x_then ?_
      refine k_conv 10011 (Res.rows (tailA A' cq' 1 32) (cq' - 1) 23 hashEn q') rfl (fun w h => rows_tail h (by simp)) (fun b hb => by unfold Res.rows at hb ⊢; rw [fp_row] at hb ⊢; rw [← hb, obl_tailA]) ?_
      have hall : ∀ k ∈ kidsOf l p, k ∈ s'.map (·.1) := fun k hk => htk k (by rw [List.take_of_length_le (by rw [hko] at h25; omega)]; exact hk)
      have hlen1 : (p :: t).length = t.length + 1 := rfl
      have hsm := hb'.small
      refine k_again (l.length - s'.length + q'.length) ⟨q', s', c', _, _, rfl, rfl, hb'.pop hall, rfl⟩ (by omega) (by repeat (first | exact trivial | refine ⟨⟨_, rfl, (by first | rfl | exact den_int (by omega))⟩, ?_⟩)) (by repeat (first | exact trivial | refine ⟨rfl, ?_⟩))
  · refine c_exit ?_
    refine x_thenE (x_thenE (x_inE (x_then ?_)))
    refine c_seq ?_
    refine c_region ?_
    refine l_rd r_move ?_
    refine l_rd r_assign ?_
    refine l_nil ?_
    refine x_then ?_
    refine c_ret ?_
    obtain rfl : q = [] := by (cases q with | nil => rfl | cons p t => simp at h14)
    refine k_ret [10009] (.s (.one (.mp 0 g9))) (.cons (.tmp rfl) .nil) (h := ?_)
    exact ⟨g9, s, c, hb.done, rfl, rfl⟩
end Go.Proofs.Ytonbgcehgmpnkaa
