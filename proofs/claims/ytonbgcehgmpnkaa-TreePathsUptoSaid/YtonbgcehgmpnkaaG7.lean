/- Gone: the walk. -/
import Derived.Test.YtonbgcehgmpnkaaG6
set_option linter.unusedVariables false
set_option linter.unusedSimpArgs false
set_option maxRecDepth 100000
set_option maxHeartbeats 8000000
namespace Go.Proofs.Ytonbgcehgmpnkaa
open Go Go.RowKit HL
theorem goneH_in {l : List LeafP} {h : Int} {dest : Hash} (h30 : mhas (lents l) dest = true) : goneH l h dest = ((mlook (lents l) dest).getD leaf0).height := if_pos h30
theorem goneH_out {l : List LeafP} {h : Int} {dest : Hash} (h30 : mhas (lents l) dest = false) : goneH l h dest = h := if_neg (by rw [h30]; simp)
section
variable {l : List LeafP} {h H : Int} {dest : Hash} {sb : List (Hash × Bool × Nat)} {cb : Nat} {e : Hash × LeafP × Nat}
theorem gone_yes (hbe : Behind l dest sb cb) (he : e ∈ lents l) (hH : goneH l h dest = H) (h55 : (!((mlook sb e.1).getD false)) = true) (h65 : (if true = true then !(looseL e.2.1 && decide (H < e.2.1.height)) else false) = true) : GoneP l h dest e.2.1 := by
  refine ⟨fun hd => look_no hbe.all h55 ?_, fun ⟨h1, h2⟩ => ?_⟩
  · rw [hbe.iff, (lents_mem he).2]
    exact hd
  · rw [hH] at h2
    simp [h1, h2] at h65
theorem gone_no1 (hbe : Behind l dest sb cb) (he : e ∈ lents l) (h55 : (!((mlook sb e.1).getD false)) = false) : ¬ GoneP l h dest e.2.1 := fun hg => hg.1 (by
  have := look_yes hbe.all h55
  rw [hbe.iff, (lents_mem he).2] at this
  exact this)
theorem gone_no2 (hH : goneH l h dest = H) (h65 : (if true = true then !(looseL e.2.1 && decide (H < e.2.1.height)) else false) = false) : ¬ GoneP l h dest e.2.1 := fun hg => hg.2 (by
  rw [hH]
  simpa using h65)
end
theorem gone_spec (g gl gk : Nat) (xs : List (Hash × KV × Nat)) (root : Hash) (h : Int) (l : List LeafP) (dest : Hash) (hks : KidsOf xs l) (hh : High l) (hok : NewOk root h l) : CSpec Try.prog 14 [.one (.ptr 0 ⟨g, 0, none⟩), .agg [.hash dest]] [(0, treeR g gl gk xs root h l)] [] fun o L =>
    ∃ ids A c, GoneIs l root h dest ids ∧ o = .ret (vsl 0 A ids.length c) ∧ L = [Res.rows A c 23 hashEn ids] := by
  have hwf := lents_wf hok.2.2.2.1
  have hlen : (lents l).length = l.length := by unfold lents; simp
  have h3000 := hok.2.2.1
  refine k_enter Try.func14 rfl rfl (h := fun w0 => ?_)
  refine c_seq ?_
  refine k_part 0 900 (treeR g gl gk xs root h l) rfl (View.refl _) ?_
  refine k_part 900 100 (Res.mp gl hashEn leafEn (lents l) l.length) rfl (tree_leaves g gl gk xs root h l) ?_
  refine k_part 900 101 (kidsR gk xs) rfl (tree_kidsR g gl gk xs root h l) ?_
  refine k_part 900 0 (Res.va g 54 [.one (.mp 100 gl), .one (.mp 101 gk), .hash root, .one (.i .i64 h)]) rfl (tree_va g gl gk xs root h l) ?_
  refine c_region ?_
  refine l_do d_box (fun g3 => ?_)
  refine l_rd r_assign ?_
  refine l_nil ?_
  refine x_then ?_
  refine c_seq ?_
  refine c_seq ?_
  refine c_region ?_
  refine l_rd r_move ?_
  first | refine l_rd r_load ?_ | refine l_rd r_loadE ?_
  refine l_call 20700 [(0, 900)] (stands_spec g gl gk xs root h l dest hh hok) Try.func9 (h := ?_)
  rintro _ _ (⟨rfl, rfl⟩)
  refine l_rd r_not ?_
  refine l_nil ?_
  refine x_then ?_
  first | refine c_ifd rfl (fun h15 => ?_) (fun h15 => ?_) | refine c_ifn rfl (fun h15 => ?_) (fun h15 => ?_) | refine c_if rfl (fun h15 => ?_) (fun h15 => ?_)
  · refine c_seq ?_
    refine c_region ?_
    refine l_rd r_assign ?_
    refine l_nil ?_
    refine x_then ?_
    refine c_ret ?_
    refine x_thenR ?_
    refine k_nil 700 23 hashEn ?_
    refine k_ret [700] (vsl 0 none 0 0) (.cons (.tmp rfl) .nil) (h := ?_)
    exact ⟨[], none, 0, ⟨List.Pairwise.nil, Nat.zero_le _, by rw [if_neg (by simpa using h15)]⟩, rfl, rfl⟩
  · refine c_skip ?_
    refine x_then ?_
    refine c_seq ?_
    refine c_region ?_
    refine l_rd r_move ?_
    first | refine l_rd r_nilCheck ?_ | refine l_rd r_nilCheckF ?_
    first | refine l_rd r_field ?_ | refine l_rd r_fieldE ?_
    first | refine l_rd r_load ?_ | refine l_rd r_loadE ?_
    refine l_rd r_assign ?_
    refine l_nil ?_
    refine x_then ?_
    refine c_seq ?_
    refine c_seq ?_
    refine c_draw (.q 0 (.q 1 (.q 2 (.q 3 (.q 4 (.q 5 (.q 6 (.q 7 (.q 8 (.q 9 (.s 10 (.s 11 (.q 12 .nil))))))))))))) [10003, 20700, 20701, 20702, 20703, 21900, 21901, 21902, 21903, 10039, 10010, 10011, 22850, 22851, 22852, 22853, 23450, 23451, 23452, 23453] (hm := by kernel_rfl) (hs := by kernel_rfl) (hk := by kernel_rfl) (hQ := fun d v c a w h => by cases d <;> exact h) (h := ?_)
    refine q_rd rfl r_move ?_
    first | refine q_rd rfl r_nilCheck ?_ | refine q_rd rfl r_nilCheckF ?_
    first | refine q_rd rfl r_field ?_ | refine q_rd rfl r_fieldE ?_
    first | refine q_rd rfl r_field ?_ | refine q_rd rfl r_fieldE ?_
    first | refine q_rd rfl r_load ?_ | refine q_rd rfl r_loadE ?_
    first | refine q_rd rfl r_load ?_ | refine q_rd rfl r_loadE ?_
    first | refine q_rd rfl r_lookup2 ?_ | refine q_rd rfl r_lookup2N ?_
    refine q_rd rfl r_move ?_
    first | refine q_rd rfl r_extract ?_ | refine q_rd rfl r_extractN ?_
    refine q_rd rfl r_extract ?_
    refine s_do rfl d_alloc (fun g6 => ?_)
    first | refine s_do1 rfl d_store ?_ | refine s_do1 rfl d_storeE ?_
    refine q_rd rfl r_assign ?_
    refine s_nil ?_
    refine x_then ?_
    refine c_seq ?_
    refine c_region ?_
    refine l_rd r_move ?_
    refine l_nil ?_
    refine x_then ?_
    first | refine c_ifd rfl (fun h30 => ?_) (fun h30 => ?_) | refine c_ifn rfl (fun h30 => ?_) (fun h30 => ?_) | refine c_if rfl (fun h30 => ?_) (fun h30 => ?_)
    · refine c_region ?_
      first | refine l_rd r_field ?_ | refine l_rd r_fieldE ?_
      first | refine l_rd r_load ?_ | refine l_rd r_loadE ?_
      refine l_rd r_assign ?_
      refine l_nil ?_
      refine x_then ?_
      refine c_seq ?_
      refine c_draw (.q 0 (.q 1 (.q 2 (.q 3 (.q 4 (.s2 5 (.q 7 (.s 6 (.q 8 .nil))) 6 (.s 5 (.q 7 (.q 8 .nil))))))))) [10003, 20700, 20701, 20702, 20703, 10006, 21900, 21901, 21902, 21903, 10039, 10010, 10011, 22850, 22851, 22852, 22853, 23450, 23451, 23452, 23453] (hm := by kernel_rfl) (hs := by kernel_rfl) (hk := by kernel_rfl) (hQ := fun d v c a w h => by cases d <;> exact h) (h := ?_)
      refine q_rd rfl r_move ?_
      first | refine q_rd rfl r_nilCheck ?_ | refine q_rd rfl r_nilCheckF ?_
      first | refine q_rd rfl r_field ?_ | refine q_rd rfl r_fieldE ?_
      first | refine q_rd rfl r_load ?_ | refine q_rd rfl r_loadE ?_
      first | refine q_rd rfl r_load ?_ | refine q_rd rfl r_loadE ?_
      refine s_two ?_ ?_
      · refine s_call rfl 21900 [] (behind_spec gl gk xs l dest hks hok.2.2.1) Try.func31 (h := ?_)
        rintro _ _ (⟨gb, sb, cb, hbe, rfl, rfl⟩)
        refine ⟨cov_of (by repeat (first | exact trivial | refine ⟨rfl, ?_⟩)), ?_⟩
        refine q_rd rfl r_assign ?_
        refine s_do rfl (d_makeMap hashEn boolEn) (fun g39 => ?_)
        refine q_rd rfl r_assign ?_
        refine s_nil ?_
        refine x_then ?_
        refine c_seq ?_
        refine c_seq ?_
        refine c_region ?_
        refine l_rd r_move ?_
        first | refine l_rd r_nilCheck ?_ | refine l_rd r_nilCheckF ?_
        first | refine l_rd r_field ?_ | refine l_rd r_fieldE ?_
        first | refine l_rd r_field ?_ | refine l_rd r_fieldE ?_
        first | refine l_rd r_load ?_ | refine l_rd r_loadE ?_
        refine l_do d_range (fun r45 => ?_)
        refine l_nil ?_
        refine x_then ?_
        refine c_block ?_
        refine c_loop (fun m E H => ∃ done so co, E = [] ∧ H = [(10045, Res.itr 100 r45 gl l.length done), (10039, Res.mp g39 hashEn boolEn so co)] ∧ GInv l h dest done so co ∧ m = l.length - done.length) [0, 1, 3, 5, 6, 7, 8, 9, 12, 13, 14, 15, 16, 17, 18, 19, 20, 21, 22, 23, 24, 25, 26, 27, 28, 29, 30, 31, 32, 33, 34, 35, 36, 37, 38, 39, 40, 41, 42, 43, 44, 45, 68, 69] [10003, 10006, 21900] (l.length) ([]) ([(10045, Res.itr 100 r45 gl l.length []), (10039, Res.mp g39 hashEn boolEn [] 0)]) rfl rfl (⟨[], [], 0, rfl, rfl, GInv.start l h dest, rfl⟩) (by repeat (first | exact trivial | refine ⟨⟨_, rfl, (by first | rfl | exact den_int (by omega))⟩, ?_⟩)) (by repeat (first | exact trivial | refine ⟨rfl, ?_⟩)) rfl (fun _ _ _ hI => ?_)
        obtain ⟨done, so, co, rfl, rfl, hi, rfl⟩ := hI
        have hsub := hi.sub
        refine c_seq ?_
        refine c_region ?_
        refine l_next (fun o46 no46 yes46 => ?_)
        first | refine l_rd r_extract ?_ | refine l_rd r_extractN ?_
        refine l_nil ?_
        refine x_then ?_
        refine c_seq ?_
        first | refine c_ifd rfl (fun h47 => ?_) (fun h47 => ?_) | refine c_ifn rfl (fun h47 => ?_) (fun h47 => ?_) | refine c_if rfl (fun h47 => ?_) (fun h47 => ?_)
        · obtain ⟨e46, rfl⟩ := Option.isSome_iff_exists.1 h47
          obtain ⟨hm46, hn46⟩ := yes46 e46 rfl
          have hsub := hi.sub
          refine c_skip ?_
          refine x_then ?_
          refine c_block ?_
          refine c_seq ?_
          refine c_region ?_
          refine l_rd r_entry ?_
          first | refine l_rd r_extract ?_ | refine l_rd r_extractN ?_
          refine l_rd r_extract ?_
          refine l_do d_alloc (fun g10 => ?_)
          refine l_do d_alloc (fun g11 => ?_)
          first | refine l_do1 d_store ?_ | refine l_do1 d_storeE ?_
          first | refine l_do1 d_store ?_ | refine l_do1 d_storeE ?_
          refine l_nil ?_
          refine x_then ?_
          refine c_seq ?_
          refine c_region ?_
          refine l_rd r_move ?_
          first | refine l_rd r_load ?_ | refine l_rd r_loadE ?_
          first | refine l_rd r_lookup1 ?_ | refine l_rd r_lookup1N ?_
          refine l_rd r_not ?_
          refine l_rd r_move ?_
          refine k_case 55 rfl (fun c55 => ?_) (fun c55 => ?_)
          · first | refine l_rd r_load ?_ | refine l_rd r_loadE ?_
            refine l_call 22850 [] (loose_spec e46.2.1) Try.func24 (h := ?_)
            rintro _ _ (⟨rfl, rfl⟩)
            refine l_rd r_move ?_
            first | refine l_rdG [] rfl (fun hg => r_field) ?_ | refine l_rdG [] rfl (fun hg => r_fieldE) ?_
            first | refine l_rdG [59] ⟨_, _, ⟨_, .inl ⟨rfl, rfl⟩⟩, rfl, rfl⟩ (fun hg => r_load) ?_ | refine l_rdG [59] ⟨_, _, ⟨_, .inl ⟨rfl, rfl⟩⟩, rfl, rfl⟩ (fun hg => r_loadE) ?_
            refine l_rdG [] rfl (fun hg => r_move) ?_
            refine l_rdG [60, 61] ⟨_, _, ⟨_, .inl ⟨rfl, rfl⟩⟩, ⟨_, _, ⟨_, .inl ⟨rfl, rfl⟩⟩, rfl, rfl⟩, rfl⟩ (fun hg => r_gtr) ?_
            first | refine l_rd r_and ?_ | refine l_rd r_pickB ?_ | refine l_rd r_pick ?_
            refine l_rd r_not ?_
            first | refine l_rd r_and ?_ | refine l_rd r_pickB ?_ | refine l_rd r_pick ?_
            refine l_nil ?_
            refine x_then ?_
            first | refine c_ifd rfl (fun h65 => ?_) (fun h65 => ?_) | refine c_ifn rfl (fun h65 => ?_) (fun h65 => ?_) | refine c_if rfl (fun h65 => ?_) (fun h65 => ?_)
            · refine c_region ?_
              refine l_rd r_move ?_
              first | refine l_rd r_load ?_ | refine l_rd r_loadE ?_
              refine l_do1 (d_mapUpdate) ?_
              refine l_nil ?_
              refine x_in (x_then ?_)
              have hle46 := (iter_snoc hsub hi.nd hm46 hn46).2.2
              refine k_again (l.length - (done.length + 1)) (by first | exact ⟨_, _, _, rfl, rfl, hi.yes hm46 hn46 (gone_yes hbe hm46 (goneH_in h30) c55 h65), by simp⟩ | exact ⟨_, _, _, rfl, rfl, hi.yes hm46 hn46 (gone_yes hbe hm46 (goneH_out h30) c55 h65), by simp⟩ | exact ⟨_, _, _, rfl, rfl, hi.no hm46 hn46 (gone_no1 hbe hm46 c55), by simp⟩ | exact ⟨_, _, _, rfl, rfl, hi.no hm46 hn46 (gone_no2 (goneH_in h30) h65), by simp⟩ | exact ⟨_, _, _, rfl, rfl, hi.no hm46 hn46 (gone_no2 (goneH_out h30) h65), by simp⟩) (by omega) (by repeat (first | exact trivial | refine ⟨⟨_, rfl, (by first | rfl | exact den_int (by omega))⟩, ?_⟩)) (by repeat (first | exact trivial | refine ⟨rfl, ?_⟩))
            · refine c_skip ?_
              refine x_in (x_then ?_)
              have hle46 := (iter_snoc hsub hi.nd hm46 hn46).2.2
              refine k_again (l.length - (done.length + 1)) (by first | exact ⟨_, _, _, rfl, rfl, hi.yes hm46 hn46 (gone_yes hbe hm46 (goneH_in h30) c55 h65), by simp⟩ | exact ⟨_, _, _, rfl, rfl, hi.yes hm46 hn46 (gone_yes hbe hm46 (goneH_out h30) c55 h65), by simp⟩ | exact ⟨_, _, _, rfl, rfl, hi.no hm46 hn46 (gone_no1 hbe hm46 c55), by simp⟩ | exact ⟨_, _, _, rfl, rfl, hi.no hm46 hn46 (gone_no2 (goneH_in h30) h65), by simp⟩ | exact ⟨_, _, _, rfl, rfl, hi.no hm46 hn46 (gone_no2 (goneH_out h30) h65), by simp⟩) (by omega) (by repeat (first | exact trivial | refine ⟨⟨_, rfl, (by first | rfl | exact den_int (by omega))⟩, ?_⟩)) (by repeat (first | exact trivial | refine ⟨rfl, ?_⟩))
          · refine l_skip ?_
            refine l_skip ?_
            refine l_skip ?_
            refine l_skip ?_
            refine l_skip ?_
            refine l_skip ?_
            refine l_skip ?_
            refine l_skip ?_
            refine l_skip ?_
            first | refine l_rd r_and ?_ | refine l_rd r_pickB ?_ | refine l_rd r_pick ?_
            refine l_nil ?_
            refine x_then ?_
            refine c_false rfl ?_
            refine c_skip ?_
            refine x_in (x_then ?_)
            have hle46 := (iter_snoc hsub hi.nd hm46 hn46).2.2
            refine k_again (l.length - (done.length + 1)) (by first | exact ⟨_, _, _, rfl, rfl, hi.yes hm46 hn46 (gone_yes hbe hm46 (goneH_in h30) c55 h65), by simp⟩ | exact ⟨_, _, _, rfl, rfl, hi.yes hm46 hn46 (gone_yes hbe hm46 (goneH_out h30) c55 h65), by simp⟩ | exact ⟨_, _, _, rfl, rfl, hi.no hm46 hn46 (gone_no1 hbe hm46 c55), by simp⟩ | exact ⟨_, _, _, rfl, rfl, hi.no hm46 hn46 (gone_no2 (goneH_in h30) h65), by simp⟩ | exact ⟨_, _, _, rfl, rfl, hi.no hm46 hn46 (gone_no2 (goneH_out h30) h65), by simp⟩) (by omega) (by repeat (first | exact trivial | refine ⟨⟨_, rfl, (by first | rfl | exact den_int (by omega))⟩, ?_⟩)) (by repeat (first | exact trivial | refine ⟨rfl, ?_⟩))
        · have hall := no46 (by simpa using h47)
          refine c_exit ?_
          refine x_thenE (x_thenE (x_inE (x_then ?_)))
          refine c_seq ?_
          refine c_region ?_
          refine l_rd r_move ?_
          refine l_call 23450 [] (rising_spec g39 co _ so mapOf_mp hi.wf (by have := hi.few; have := iter_len hi.sub hi.nd; omega)) Try.func32 (h := ?_)
          rintro _ _ (⟨A, c, rfl, rfl⟩)
          refine l_rd r_assign ?_
          refine l_nil ?_
          refine x_then ?_
          refine c_ret ?_
          refine k_ret [23450] (vsl 0 A so.length c) (.cons (.tmp rfl) .nil) (h := ?_)
          exact ⟨sortH (so.map (·.1)), A, c, hi.done hall (by simpa using h15), by rw [(sortH_perm _).length_eq, List.length_map], rfl⟩
      · refine s_do rfl (d_makeMap hashEn boolEn) (fun g39 => ?_)
        refine s_call rfl 21900 [] (behind_spec gl gk xs l dest hks hok.2.2.1) Try.func31 (h := ?_)
        rintro _ _ (⟨gb, sb, cb, hbe, rfl, rfl⟩)
        refine ⟨cov_of (by repeat (first | exact trivial | refine ⟨rfl, ?_⟩)), ?_⟩
        refine q_rd rfl r_assign ?_
        refine q_rd rfl r_assign ?_
        refine s_nil ?_
        refine x_then ?_
        refine c_seq ?_
        refine c_seq ?_
        refine c_region ?_
        refine l_rd r_move ?_
        first | refine l_rd r_nilCheck ?_ | refine l_rd r_nilCheckF ?_
        first | refine l_rd r_field ?_ | refine l_rd r_fieldE ?_
        first | refine l_rd r_field ?_ | refine l_rd r_fieldE ?_
        first | refine l_rd r_load ?_ | refine l_rd r_loadE ?_
        refine l_do d_range (fun r45 => ?_)
        refine l_nil ?_
        refine x_then ?_
        refine c_block ?_
        refine c_loop (fun m E H => ∃ done so co, E = [] ∧ H = [(10045, Res.itr 100 r45 gl l.length done), (10039, Res.mp g39 hashEn boolEn so co)] ∧ GInv l h dest done so co ∧ m = l.length - done.length) [0, 1, 3, 5, 6, 7, 8, 9, 12, 13, 14, 15, 16, 17, 18, 19, 20, 21, 22, 23, 24, 25, 26, 27, 28, 29, 30, 31, 32, 33, 34, 35, 36, 37, 38, 39, 40, 41, 42, 43, 44, 45, 68, 69] [10003, 10006, 21900] (l.length) ([]) ([(10045, Res.itr 100 r45 gl l.length []), (10039, Res.mp g39 hashEn boolEn [] 0)]) rfl rfl (⟨[], [], 0, rfl, rfl, GInv.start l h dest, rfl⟩) (by repeat (first | exact trivial | refine ⟨⟨_, rfl, (by first | rfl | exact den_int (by omega))⟩, ?_⟩)) (by repeat (first | exact trivial | refine ⟨rfl, ?_⟩)) rfl (fun _ _ _ hI => ?_)
        obtain ⟨done, so, co, rfl, rfl, hi, rfl⟩ := hI
        have hsub := hi.sub
        refine c_seq ?_
        refine c_region ?_
        refine l_next (fun o46 no46 yes46 => ?_)
        first | refine l_rd r_extract ?_ | refine l_rd r_extractN ?_
        refine l_nil ?_
        refine x_then ?_
        refine c_seq ?_
        first | refine c_ifd rfl (fun h47 => ?_) (fun h47 => ?_) | refine c_ifn rfl (fun h47 => ?_) (fun h47 => ?_) | refine c_if rfl (fun h47 => ?_) (fun h47 => ?_)
        · obtain ⟨e46, rfl⟩ := Option.isSome_iff_exists.1 h47
          obtain ⟨hm46, hn46⟩ := yes46 e46 rfl
          have hsub := hi.sub
          refine c_skip ?_
          refine x_then ?_
          refine c_block ?_
          refine c_seq ?_
          refine c_region ?_
          refine l_rd r_entry ?_
          first | refine l_rd r_extract ?_ | refine l_rd r_extractN ?_
          refine l_rd r_extract ?_
          refine l_do d_alloc (fun g10 => ?_)
          refine l_do d_alloc (fun g11 => ?_)
          first | refine l_do1 d_store ?_ | refine l_do1 d_storeE ?_
          first | refine l_do1 d_store ?_ | refine l_do1 d_storeE ?_
          refine l_nil ?_
          refine x_then ?_
          refine c_seq ?_
          refine c_region ?_
          refine l_rd r_move ?_
          first | refine l_rd r_load ?_ | refine l_rd r_loadE ?_
          first | refine l_rd r_lookup1 ?_ | refine l_rd r_lookup1N ?_
          refine l_rd r_not ?_
          refine l_rd r_move ?_
          refine k_case 55 rfl (fun c55 => ?_) (fun c55 => ?_)
          · first | refine l_rd r_load ?_ | refine l_rd r_loadE ?_
            refine l_call 22850 [] (loose_spec e46.2.1) Try.func24 (h := ?_)
            rintro _ _ (⟨rfl, rfl⟩)
            refine l_rd r_move ?_
            first | refine l_rdG [] rfl (fun hg => r_field) ?_ | refine l_rdG [] rfl (fun hg => r_fieldE) ?_
            first | refine l_rdG [59] ⟨_, _, ⟨_, .inl ⟨rfl, rfl⟩⟩, rfl, rfl⟩ (fun hg => r_load) ?_ | refine l_rdG [59] ⟨_, _, ⟨_, .inl ⟨rfl, rfl⟩⟩, rfl, rfl⟩ (fun hg => r_loadE) ?_
            refine l_rdG [] rfl (fun hg => r_move) ?_
            refine l_rdG [60, 61] ⟨_, _, ⟨_, .inl ⟨rfl, rfl⟩⟩, ⟨_, _, ⟨_, .inl ⟨rfl, rfl⟩⟩, rfl, rfl⟩, rfl⟩ (fun hg => r_gtr) ?_
            first | refine l_rd r_and ?_ | refine l_rd r_pickB ?_ | refine l_rd r_pick ?_
            refine l_rd r_not ?_
            first | refine l_rd r_and ?_ | refine l_rd r_pickB ?_ | refine l_rd r_pick ?_
            refine l_nil ?_
            refine x_then ?_
            first | refine c_ifd rfl (fun h65 => ?_) (fun h65 => ?_) | refine c_ifn rfl (fun h65 => ?_) (fun h65 => ?_) | refine c_if rfl (fun h65 => ?_) (fun h65 => ?_)
            · refine c_region ?_
              refine l_rd r_move ?_
              first | refine l_rd r_load ?_ | refine l_rd r_loadE ?_
              refine l_do1 (d_mapUpdate) ?_
              refine l_nil ?_
              refine x_in (x_then ?_)
              have hle46 := (iter_snoc hsub hi.nd hm46 hn46).2.2
              refine k_again (l.length - (done.length + 1)) (by first | exact ⟨_, _, _, rfl, rfl, hi.yes hm46 hn46 (gone_yes hbe hm46 (goneH_in h30) c55 h65), by simp⟩ | exact ⟨_, _, _, rfl, rfl, hi.yes hm46 hn46 (gone_yes hbe hm46 (goneH_out h30) c55 h65), by simp⟩ | exact ⟨_, _, _, rfl, rfl, hi.no hm46 hn46 (gone_no1 hbe hm46 c55), by simp⟩ | exact ⟨_, _, _, rfl, rfl, hi.no hm46 hn46 (gone_no2 (goneH_in h30) h65), by simp⟩ | exact ⟨_, _, _, rfl, rfl, hi.no hm46 hn46 (gone_no2 (goneH_out h30) h65), by simp⟩) (by omega) (by repeat (first | exact trivial | refine ⟨⟨_, rfl, (by first | rfl | exact den_int (by omega))⟩, ?_⟩)) (by repeat (first | exact trivial | refine ⟨rfl, ?_⟩))
            · refine c_skip ?_
              refine x_in (x_then ?_)
              have hle46 := (iter_snoc hsub hi.nd hm46 hn46).2.2
              refine k_again (l.length - (done.length + 1)) (by first | exact ⟨_, _, _, rfl, rfl, hi.yes hm46 hn46 (gone_yes hbe hm46 (goneH_in h30) c55 h65), by simp⟩ | exact ⟨_, _, _, rfl, rfl, hi.yes hm46 hn46 (gone_yes hbe hm46 (goneH_out h30) c55 h65), by simp⟩ | exact ⟨_, _, _, rfl, rfl, hi.no hm46 hn46 (gone_no1 hbe hm46 c55), by simp⟩ | exact ⟨_, _, _, rfl, rfl, hi.no hm46 hn46 (gone_no2 (goneH_in h30) h65), by simp⟩ | exact ⟨_, _, _, rfl, rfl, hi.no hm46 hn46 (gone_no2 (goneH_out h30) h65), by simp⟩) (by omega) (by repeat (first | exact trivial | refine ⟨⟨_, rfl, (by first | rfl | exact den_int (by omega))⟩, ?_⟩)) (by repeat (first | exact trivial | refine ⟨rfl, ?_⟩))
          · refine l_skip ?_
            refine l_skip ?_
            refine l_skip ?_
            refine l_skip ?_
            refine l_skip ?_
            refine l_skip ?_
            refine l_skip ?_
            refine l_skip ?_
            refine l_skip ?_
            first | refine l_rd r_and ?_ | refine l_rd r_pickB ?_ | refine l_rd r_pick ?_
            refine l_nil ?_
            refine x_then ?_
            refine c_false rfl ?_
            refine c_skip ?_
            refine x_in (x_then ?_)
            have hle46 := (iter_snoc hsub hi.nd hm46 hn46).2.2
            refine k_again (l.length - (done.length + 1)) (by first | exact ⟨_, _, _, rfl, rfl, hi.yes hm46 hn46 (gone_yes hbe hm46 (goneH_in h30) c55 h65), by simp⟩ | exact ⟨_, _, _, rfl, rfl, hi.yes hm46 hn46 (gone_yes hbe hm46 (goneH_out h30) c55 h65), by simp⟩ | exact ⟨_, _, _, rfl, rfl, hi.no hm46 hn46 (gone_no1 hbe hm46 c55), by simp⟩ | exact ⟨_, _, _, rfl, rfl, hi.no hm46 hn46 (gone_no2 (goneH_in h30) h65), by simp⟩ | exact ⟨_, _, _, rfl, rfl, hi.no hm46 hn46 (gone_no2 (goneH_out h30) h65), by simp⟩) (by omega) (by repeat (first | exact trivial | refine ⟨⟨_, rfl, (by first | rfl | exact den_int (by omega))⟩, ?_⟩)) (by repeat (first | exact trivial | refine ⟨rfl, ?_⟩))
        · have hall := no46 (by simpa using h47)
          refine c_exit ?_
          refine x_thenE (x_thenE (x_inE (x_then ?_)))
          refine c_seq ?_
          refine c_region ?_
          refine l_rd r_move ?_
          refine l_call 23450 [] (rising_spec g39 co _ so mapOf_mp hi.wf (by have := hi.few; have := iter_len hi.sub hi.nd; omega)) Try.func32 (h := ?_)
          rintro _ _ (⟨A, c, rfl, rfl⟩)
          refine l_rd r_assign ?_
          refine l_nil ?_
          refine x_then ?_
          refine c_ret ?_
          refine k_ret [23450] (vsl 0 A so.length c) (.cons (.tmp rfl) .nil) (h := ?_)
          exact ⟨sortH (so.map (·.1)), A, c, hi.done hall (by simpa using h15), by rw [(sortH_perm _).length_eq, List.length_map], rfl⟩
    · refine c_skip ?_
      refine x_then ?_
      refine c_seq ?_
      refine c_draw (.q 0 (.q 1 (.q 2 (.q 3 (.q 4 (.s2 5 (.q 7 (.s 6 (.q 8 .nil))) 6 (.s 5 (.q 7 (.q 8 .nil))))))))) [10003, 20700, 20701, 20702, 20703, 10006, 21900, 21901, 21902, 21903, 10039, 10010, 10011, 22850, 22851, 22852, 22853, 23450, 23451, 23452, 23453] (hm := by kernel_rfl) (hs := by kernel_rfl) (hk := by kernel_rfl) (hQ := fun d v c a w h => by cases d <;> exact h) (h := ?_)
      refine q_rd rfl r_move ?_
      first | refine q_rd rfl r_nilCheck ?_ | refine q_rd rfl r_nilCheckF ?_
      first | refine q_rd rfl r_field ?_ | refine q_rd rfl r_fieldE ?_
      first | refine q_rd rfl r_load ?_ | refine q_rd rfl r_loadE ?_
      first | refine q_rd rfl r_load ?_ | refine q_rd rfl r_loadE ?_
      refine s_two ?_ ?_
      · refine s_call rfl 21900 [] (behind_spec gl gk xs l dest hks hok.2.2.1) Try.func31 (h := ?_)
        rintro _ _ (⟨gb, sb, cb, hbe, rfl, rfl⟩)
        refine ⟨cov_of (by repeat (first | exact trivial | refine ⟨rfl, ?_⟩)), ?_⟩
        refine q_rd rfl r_assign ?_
        refine s_do rfl (d_makeMap hashEn boolEn) (fun g39 => ?_)
        refine q_rd rfl r_assign ?_
        refine s_nil ?_
        refine x_then ?_
        refine c_seq ?_
        refine c_seq ?_
        refine c_region ?_
        refine l_rd r_move ?_
        first | refine l_rd r_nilCheck ?_ | refine l_rd r_nilCheckF ?_
        first | refine l_rd r_field ?_ | refine l_rd r_fieldE ?_
        first | refine l_rd r_field ?_ | refine l_rd r_fieldE ?_
        first | refine l_rd r_load ?_ | refine l_rd r_loadE ?_
        refine l_do d_range (fun r45 => ?_)
        refine l_nil ?_
        refine x_then ?_
        refine c_block ?_
        refine c_loop (fun m E H => ∃ done so co, E = [] ∧ H = [(10045, Res.itr 100 r45 gl l.length done), (10039, Res.mp g39 hashEn boolEn so co)] ∧ GInv l h dest done so co ∧ m = l.length - done.length) [0, 1, 3, 5, 6, 7, 8, 9, 12, 13, 14, 15, 16, 17, 18, 19, 20, 21, 22, 23, 24, 25, 26, 27, 28, 29, 30, 31, 32, 33, 34, 35, 36, 37, 38, 39, 40, 41, 42, 43, 44, 45, 68, 69] [10003, 10006, 21900] (l.length) ([]) ([(10045, Res.itr 100 r45 gl l.length []), (10039, Res.mp g39 hashEn boolEn [] 0)]) rfl rfl (⟨[], [], 0, rfl, rfl, GInv.start l h dest, rfl⟩) (by repeat (first | exact trivial | refine ⟨⟨_, rfl, (by first | rfl | exact den_int (by omega))⟩, ?_⟩)) (by repeat (first | exact trivial | refine ⟨rfl, ?_⟩)) rfl (fun _ _ _ hI => ?_)
        obtain ⟨done, so, co, rfl, rfl, hi, rfl⟩ := hI
        have hsub := hi.sub
        refine c_seq ?_
        refine c_region ?_
        refine l_next (fun o46 no46 yes46 => ?_)
        first | refine l_rd r_extract ?_ | refine l_rd r_extractN ?_
        refine l_nil ?_
        refine x_then ?_
        refine c_seq ?_
        first | refine c_ifd rfl (fun h47 => ?_) (fun h47 => ?_) | refine c_ifn rfl (fun h47 => ?_) (fun h47 => ?_) | refine c_if rfl (fun h47 => ?_) (fun h47 => ?_)
        · obtain ⟨e46, rfl⟩ := Option.isSome_iff_exists.1 h47
          obtain ⟨hm46, hn46⟩ := yes46 e46 rfl
          have hsub := hi.sub
          refine c_skip ?_
          refine x_then ?_
          refine c_block ?_
          refine c_seq ?_
          refine c_region ?_
          refine l_rd r_entry ?_
          first | refine l_rd r_extract ?_ | refine l_rd r_extractN ?_
          refine l_rd r_extract ?_
          refine l_do d_alloc (fun g10 => ?_)
          refine l_do d_alloc (fun g11 => ?_)
          first | refine l_do1 d_store ?_ | refine l_do1 d_storeE ?_
          first | refine l_do1 d_store ?_ | refine l_do1 d_storeE ?_
          refine l_nil ?_
          refine x_then ?_
          refine c_seq ?_
          refine c_region ?_
          refine l_rd r_move ?_
          first | refine l_rd r_load ?_ | refine l_rd r_loadE ?_
          first | refine l_rd r_lookup1 ?_ | refine l_rd r_lookup1N ?_
          refine l_rd r_not ?_
          refine l_rd r_move ?_
          refine k_case 55 rfl (fun c55 => ?_) (fun c55 => ?_)
          · first | refine l_rd r_load ?_ | refine l_rd r_loadE ?_
            refine l_call 22850 [] (loose_spec e46.2.1) Try.func24 (h := ?_)
            rintro _ _ (⟨rfl, rfl⟩)
            refine l_rd r_move ?_
            first | refine l_rdG [] rfl (fun hg => r_field) ?_ | refine l_rdG [] rfl (fun hg => r_fieldE) ?_
            first | refine l_rdG [59] ⟨_, _, ⟨_, .inl ⟨rfl, rfl⟩⟩, rfl, rfl⟩ (fun hg => r_load) ?_ | refine l_rdG [59] ⟨_, _, ⟨_, .inl ⟨rfl, rfl⟩⟩, rfl, rfl⟩ (fun hg => r_loadE) ?_
            refine l_rdG [] rfl (fun hg => r_move) ?_
            refine l_rdG [60, 61] ⟨_, _, ⟨_, .inl ⟨rfl, rfl⟩⟩, ⟨_, _, ⟨_, .inl ⟨rfl, rfl⟩⟩, rfl, rfl⟩, rfl⟩ (fun hg => r_gtr) ?_
            first | refine l_rd r_and ?_ | refine l_rd r_pickB ?_ | refine l_rd r_pick ?_
            refine l_rd r_not ?_
            first | refine l_rd r_and ?_ | refine l_rd r_pickB ?_ | refine l_rd r_pick ?_
            refine l_nil ?_
            refine x_then ?_
            first | refine c_ifd rfl (fun h65 => ?_) (fun h65 => ?_) | refine c_ifn rfl (fun h65 => ?_) (fun h65 => ?_) | refine c_if rfl (fun h65 => ?_) (fun h65 => ?_)
            · refine c_region ?_
              refine l_rd r_move ?_
              first | refine l_rd r_load ?_ | refine l_rd r_loadE ?_
              refine l_do1 (d_mapUpdate) ?_
              refine l_nil ?_
              refine x_in (x_then ?_)
              have hle46 := (iter_snoc hsub hi.nd hm46 hn46).2.2
              refine k_again (l.length - (done.length + 1)) (by first | exact ⟨_, _, _, rfl, rfl, hi.yes hm46 hn46 (gone_yes hbe hm46 (goneH_in h30) c55 h65), by simp⟩ | exact ⟨_, _, _, rfl, rfl, hi.yes hm46 hn46 (gone_yes hbe hm46 (goneH_out h30) c55 h65), by simp⟩ | exact ⟨_, _, _, rfl, rfl, hi.no hm46 hn46 (gone_no1 hbe hm46 c55), by simp⟩ | exact ⟨_, _, _, rfl, rfl, hi.no hm46 hn46 (gone_no2 (goneH_in h30) h65), by simp⟩ | exact ⟨_, _, _, rfl, rfl, hi.no hm46 hn46 (gone_no2 (goneH_out h30) h65), by simp⟩) (by omega) (by repeat (first | exact trivial | refine ⟨⟨_, rfl, (by first | rfl | exact den_int (by omega))⟩, ?_⟩)) (by repeat (first | exact trivial | refine ⟨rfl, ?_⟩))
            · refine c_skip ?_
              refine x_in (x_then ?_)
              have hle46 := (iter_snoc hsub hi.nd hm46 hn46).2.2
              refine k_again (l.length - (done.length + 1)) (by first | exact ⟨_, _, _, rfl, rfl, hi.yes hm46 hn46 (gone_yes hbe hm46 (goneH_in h30) c55 h65), by simp⟩ | exact ⟨_, _, _, rfl, rfl, hi.yes hm46 hn46 (gone_yes hbe hm46 (goneH_out h30) c55 h65), by simp⟩ | exact ⟨_, _, _, rfl, rfl, hi.no hm46 hn46 (gone_no1 hbe hm46 c55), by simp⟩ | exact ⟨_, _, _, rfl, rfl, hi.no hm46 hn46 (gone_no2 (goneH_in h30) h65), by simp⟩ | exact ⟨_, _, _, rfl, rfl, hi.no hm46 hn46 (gone_no2 (goneH_out h30) h65), by simp⟩) (by omega) (by repeat (first | exact trivial | refine ⟨⟨_, rfl, (by first | rfl | exact den_int (by omega))⟩, ?_⟩)) (by repeat (first | exact trivial | refine ⟨rfl, ?_⟩))
          · refine l_skip ?_
            refine l_skip ?_
            refine l_skip ?_
            refine l_skip ?_
            refine l_skip ?_
            refine l_skip ?_
            refine l_skip ?_
            refine l_skip ?_
            refine l_skip ?_
            first | refine l_rd r_and ?_ | refine l_rd r_pickB ?_ | refine l_rd r_pick ?_
            refine l_nil ?_
            refine x_then ?_
            refine c_false rfl ?_
            refine c_skip ?_
            refine x_in (x_then ?_)
            have hle46 := (iter_snoc hsub hi.nd hm46 hn46).2.2
            refine k_again (l.length - (done.length + 1)) (by first | exact ⟨_, _, _, rfl, rfl, hi.yes hm46 hn46 (gone_yes hbe hm46 (goneH_in h30) c55 h65), by simp⟩ | exact ⟨_, _, _, rfl, rfl, hi.yes hm46 hn46 (gone_yes hbe hm46 (goneH_out h30) c55 h65), by simp⟩ | exact ⟨_, _, _, rfl, rfl, hi.no hm46 hn46 (gone_no1 hbe hm46 c55), by simp⟩ | exact ⟨_, _, _, rfl, rfl, hi.no hm46 hn46 (gone_no2 (goneH_in h30) h65), by simp⟩ | exact ⟨_, _, _, rfl, rfl, hi.no hm46 hn46 (gone_no2 (goneH_out h30) h65), by simp⟩) (by omega) (by repeat (first | exact trivial | refine ⟨⟨_, rfl, (by first | rfl | exact den_int (by omega))⟩, ?_⟩)) (by repeat (first | exact trivial | refine ⟨rfl, ?_⟩))
        · have hall := no46 (by simpa using h47)
          refine c_exit ?_
          refine x_thenE (x_thenE (x_inE (x_then ?_)))
          refine c_seq ?_
          refine c_region ?_
          refine l_rd r_move ?_
          refine l_call 23450 [] (rising_spec g39 co _ so mapOf_mp hi.wf (by have := hi.few; have := iter_len hi.sub hi.nd; omega)) Try.func32 (h := ?_)
          rintro _ _ (⟨A, c, rfl, rfl⟩)
          refine l_rd r_assign ?_
          refine l_nil ?_
          refine x_then ?_
          refine c_ret ?_
          refine k_ret [23450] (vsl 0 A so.length c) (.cons (.tmp rfl) .nil) (h := ?_)
          exact ⟨sortH (so.map (·.1)), A, c, hi.done hall (by simpa using h15), by rw [(sortH_perm _).length_eq, List.length_map], rfl⟩
      · refine s_do rfl (d_makeMap hashEn boolEn) (fun g39 => ?_)
        refine s_call rfl 21900 [] (behind_spec gl gk xs l dest hks hok.2.2.1) Try.func31 (h := ?_)
        rintro _ _ (⟨gb, sb, cb, hbe, rfl, rfl⟩)
        refine ⟨cov_of (by repeat (first | exact trivial | refine ⟨rfl, ?_⟩)), ?_⟩
        refine q_rd rfl r_assign ?_
        refine q_rd rfl r_assign ?_
        refine s_nil ?_
        refine x_then ?_
        refine c_seq ?_
        refine c_seq ?_
        refine c_region ?_
        refine l_rd r_move ?_
        first | refine l_rd r_nilCheck ?_ | refine l_rd r_nilCheckF ?_
        first | refine l_rd r_field ?_ | refine l_rd r_fieldE ?_
        first | refine l_rd r_field ?_ | refine l_rd r_fieldE ?_
        first | refine l_rd r_load ?_ | refine l_rd r_loadE ?_
        refine l_do d_range (fun r45 => ?_)
        refine l_nil ?_
        refine x_then ?_
        refine c_block ?_
        refine c_loop (fun m E H => ∃ done so co, E = [] ∧ H = [(10045, Res.itr 100 r45 gl l.length done), (10039, Res.mp g39 hashEn boolEn so co)] ∧ GInv l h dest done so co ∧ m = l.length - done.length) [0, 1, 3, 5, 6, 7, 8, 9, 12, 13, 14, 15, 16, 17, 18, 19, 20, 21, 22, 23, 24, 25, 26, 27, 28, 29, 30, 31, 32, 33, 34, 35, 36, 37, 38, 39, 40, 41, 42, 43, 44, 45, 68, 69] [10003, 10006, 21900] (l.length) ([]) ([(10045, Res.itr 100 r45 gl l.length []), (10039, Res.mp g39 hashEn boolEn [] 0)]) rfl rfl (⟨[], [], 0, rfl, rfl, GInv.start l h dest, rfl⟩) (by repeat (first | exact trivial | refine ⟨⟨_, rfl, (by first | rfl | exact den_int (by omega))⟩, ?_⟩)) (by repeat (first | exact trivial | refine ⟨rfl, ?_⟩)) rfl (fun _ _ _ hI => ?_)
        obtain ⟨done, so, co, rfl, rfl, hi, rfl⟩ := hI
        have hsub := hi.sub
        refine c_seq ?_
        refine c_region ?_
        refine l_next (fun o46 no46 yes46 => ?_)
        first | refine l_rd r_extract ?_ | refine l_rd r_extractN ?_
        refine l_nil ?_
        refine x_then ?_
        refine c_seq ?_
        first | refine c_ifd rfl (fun h47 => ?_) (fun h47 => ?_) | refine c_ifn rfl (fun h47 => ?_) (fun h47 => ?_) | refine c_if rfl (fun h47 => ?_) (fun h47 => ?_)
        · obtain ⟨e46, rfl⟩ := Option.isSome_iff_exists.1 h47
          obtain ⟨hm46, hn46⟩ := yes46 e46 rfl
          have hsub := hi.sub
          refine c_skip ?_
          refine x_then ?_
          refine c_block ?_
          refine c_seq ?_
          refine c_region ?_
          refine l_rd r_entry ?_
          first | refine l_rd r_extract ?_ | refine l_rd r_extractN ?_
          refine l_rd r_extract ?_
          refine l_do d_alloc (fun g10 => ?_)
          refine l_do d_alloc (fun g11 => ?_)
          first | refine l_do1 d_store ?_ | refine l_do1 d_storeE ?_
          first | refine l_do1 d_store ?_ | refine l_do1 d_storeE ?_
          refine l_nil ?_
          refine x_then ?_
          refine c_seq ?_
          refine c_region ?_
          refine l_rd r_move ?_
          first | refine l_rd r_load ?_ | refine l_rd r_loadE ?_
          first | refine l_rd r_lookup1 ?_ | refine l_rd r_lookup1N ?_
          refine l_rd r_not ?_
          refine l_rd r_move ?_
          refine k_case 55 rfl (fun c55 => ?_) (fun c55 => ?_)
          · first | refine l_rd r_load ?_ | refine l_rd r_loadE ?_
            refine l_call 22850 [] (loose_spec e46.2.1) Try.func24 (h := ?_)
            rintro _ _ (⟨rfl, rfl⟩)
            refine l_rd r_move ?_
            first | refine l_rdG [] rfl (fun hg => r_field) ?_ | refine l_rdG [] rfl (fun hg => r_fieldE) ?_
            first | refine l_rdG [59] ⟨_, _, ⟨_, .inl ⟨rfl, rfl⟩⟩, rfl, rfl⟩ (fun hg => r_load) ?_ | refine l_rdG [59] ⟨_, _, ⟨_, .inl ⟨rfl, rfl⟩⟩, rfl, rfl⟩ (fun hg => r_loadE) ?_
            refine l_rdG [] rfl (fun hg => r_move) ?_
            refine l_rdG [60, 61] ⟨_, _, ⟨_, .inl ⟨rfl, rfl⟩⟩, ⟨_, _, ⟨_, .inl ⟨rfl, rfl⟩⟩, rfl, rfl⟩, rfl⟩ (fun hg => r_gtr) ?_
            first | refine l_rd r_and ?_ | refine l_rd r_pickB ?_ | refine l_rd r_pick ?_
            refine l_rd r_not ?_
            first | refine l_rd r_and ?_ | refine l_rd r_pickB ?_ | refine l_rd r_pick ?_
            refine l_nil ?_
            refine x_then ?_
            first | refine c_ifd rfl (fun h65 => ?_) (fun h65 => ?_) | refine c_ifn rfl (fun h65 => ?_) (fun h65 => ?_) | refine c_if rfl (fun h65 => ?_) (fun h65 => ?_)
            · refine c_region ?_
              refine l_rd r_move ?_
              first | refine l_rd r_load ?_ | refine l_rd r_loadE ?_
              refine l_do1 (d_mapUpdate) ?_
              refine l_nil ?_
              refine x_in (x_then ?_)
              have hle46 := (iter_snoc hsub hi.nd hm46 hn46).2.2
              refine k_again (l.length - (done.length + 1)) (by first | exact ⟨_, _, _, rfl, rfl, hi.yes hm46 hn46 (gone_yes hbe hm46 (goneH_in h30) c55 h65), by simp⟩ | exact ⟨_, _, _, rfl, rfl, hi.yes hm46 hn46 (gone_yes hbe hm46 (goneH_out h30) c55 h65), by simp⟩ | exact ⟨_, _, _, rfl, rfl, hi.no hm46 hn46 (gone_no1 hbe hm46 c55), by simp⟩ | exact ⟨_, _, _, rfl, rfl, hi.no hm46 hn46 (gone_no2 (goneH_in h30) h65), by simp⟩ | exact ⟨_, _, _, rfl, rfl, hi.no hm46 hn46 (gone_no2 (goneH_out h30) h65), by simp⟩) (by omega) (by repeat (first | exact trivial | refine ⟨⟨_, rfl, (by first | rfl | exact den_int (by omega))⟩, ?_⟩)) (by repeat (first | exact trivial | refine ⟨rfl, ?_⟩))
            · refine c_skip ?_
              refine x_in (x_then ?_)
              have hle46 := (iter_snoc hsub hi.nd hm46 hn46).2.2
              refine k_again (l.length - (done.length + 1)) (by first | exact ⟨_, _, _, rfl, rfl, hi.yes hm46 hn46 (gone_yes hbe hm46 (goneH_in h30) c55 h65), by simp⟩ | exact ⟨_, _, _, rfl, rfl, hi.yes hm46 hn46 (gone_yes hbe hm46 (goneH_out h30) c55 h65), by simp⟩ | exact ⟨_, _, _, rfl, rfl, hi.no hm46 hn46 (gone_no1 hbe hm46 c55), by simp⟩ | exact ⟨_, _, _, rfl, rfl, hi.no hm46 hn46 (gone_no2 (goneH_in h30) h65), by simp⟩ | exact ⟨_, _, _, rfl, rfl, hi.no hm46 hn46 (gone_no2 (goneH_out h30) h65), by simp⟩) (by omega) (by repeat (first | exact trivial | refine ⟨⟨_, rfl, (by first | rfl | exact den_int (by omega))⟩, ?_⟩)) (by repeat (first | exact trivial | refine ⟨rfl, ?_⟩))
          · refine l_skip ?_
            refine l_skip ?_
            refine l_skip ?_
            refine l_skip ?_
            refine l_skip ?_
            refine l_skip ?_
            refine l_skip ?_
            refine l_skip ?_
            refine l_skip ?_
            first | refine l_rd r_and ?_ | refine l_rd r_pickB ?_ | refine l_rd r_pick ?_
            refine l_nil ?_
            refine x_then ?_
            refine c_false rfl ?_
            refine c_skip ?_
            refine x_in (x_then ?_)
            have hle46 := (iter_snoc hsub hi.nd hm46 hn46).2.2
            refine k_again (l.length - (done.length + 1)) (by first | exact ⟨_, _, _, rfl, rfl, hi.yes hm46 hn46 (gone_yes hbe hm46 (goneH_in h30) c55 h65), by simp⟩ | exact ⟨_, _, _, rfl, rfl, hi.yes hm46 hn46 (gone_yes hbe hm46 (goneH_out h30) c55 h65), by simp⟩ | exact ⟨_, _, _, rfl, rfl, hi.no hm46 hn46 (gone_no1 hbe hm46 c55), by simp⟩ | exact ⟨_, _, _, rfl, rfl, hi.no hm46 hn46 (gone_no2 (goneH_in h30) h65), by simp⟩ | exact ⟨_, _, _, rfl, rfl, hi.no hm46 hn46 (gone_no2 (goneH_out h30) h65), by simp⟩) (by omega) (by repeat (first | exact trivial | refine ⟨⟨_, rfl, (by first | rfl | exact den_int (by omega))⟩, ?_⟩)) (by repeat (first | exact trivial | refine ⟨rfl, ?_⟩))
        · have hall := no46 (by simpa using h47)
          refine c_exit ?_
          refine x_thenE (x_thenE (x_inE (x_then ?_)))
          refine c_seq ?_
          refine c_region ?_
          refine l_rd r_move ?_
          refine l_call 23450 [] (rising_spec g39 co _ so mapOf_mp hi.wf (by have := hi.few; have := iter_len hi.sub hi.nd; omega)) Try.func32 (h := ?_)
          rintro _ _ (⟨A, c, rfl, rfl⟩)
          refine l_rd r_assign ?_
          refine l_nil ?_
          refine x_then ?_
          refine c_ret ?_
          refine k_ret [23450] (vsl 0 A so.length c) (.cons (.tmp rfl) .nil) (h := ?_)
          exact ⟨sortH (so.map (·.1)), A, c, hi.done hall (by simpa using h15), by rw [(sortH_perm _).length_eq, List.length_map], rfl⟩
end Go.Proofs.Ytonbgcehgmpnkaa
