import Derived.Test.YtonbgcehgmpnkaaP1
set_option linter.unusedVariables false
set_option linter.unusedSimpArgs false
set_option maxRecDepth 100000
set_option maxHeartbeats 8000000
namespace Go.Proofs.Ytonbgcehgmpnkaa
open Go Go.RowKit HL
theorem high_more {l : List LeafP} {x : LeafP} (h : High l) (hx : x.height ≤ 9223372036854775807) : High (l ++ [x]) := fun y hy => by
  rcases List.mem_append.1 hy with hy | hy
  · exact h y hy
  · rw [List.mem_singleton.1 hy]; exact hx
theorem best_spec_law (root : Hash) (h : Int) (A : Option Addr) (l : List LeafP) (c : Nat) (turn : Int) (more : LeafP) (hl : l.length ≤ 1048576) (hc : l.length ≤ c) (hh : High l) (hm : more.height ≤ 9223372036854775807) :
    CSpec Try.prog 3 [.agg [.hash root], .one (.i .i64 h), .one (.sl 2 A l.length c), .one (.i .i64 turn), leafEn.f more] [(2, Res.rd A leafEn l)] [] fun o L => o = .ret (vb true) ∧ L = [] := by
  refine k_enter Try.func3 rfl rfl (h := fun w0 => ?_)
  refine c_seq ?_
  refine c_region ?_
  refine l_do d_box (fun g5 => ?_)
  refine l_do d_box (fun g9 => ?_)
  refine l_rd r_assign ?_
  refine l_nil ?_
  refine x_then ?_
  refine c_seq ?_
  refine c_seq ?_
  refine c_region ?_
  refine l_call 21250 [] (awake_spec) Try.func6 (h := ?_)
  rintro _ _ (⟨rfl, rfl⟩)
  refine l_rd r_not ?_
  refine l_nil ?_
  refine x_then ?_
  refine c_false rfl ?_
  refine c_skip ?_
  refine x_then ?_
  refine c_seq ?_
  refine c_seq ?_
  refine c_region ?_
  refine l_rd r_move ?_
  refine l_rd r_len ?_
  refine l_rd r_gtr ?_
  refine l_nil ?_
  refine x_then ?_
  first | refine c_ifd rfl (fun h29 => ?_) (fun h29 => ?_) | refine c_ifn rfl (fun h29 => ?_) (fun h29 => ?_) | refine c_if rfl (fun h29 => ?_) (fun h29 => ?_)
  · refine c_seq ?_
    refine c_region ?_
    refine l_rd r_assign ?_
    refine l_nil ?_
    refine x_then ?_
    refine c_ret ?_
    refine x_thenR ?_
    refine k_ret [] _ (.cons (.tmp rfl) .nil) (h := ?_)
    exact ⟨rfl, rfl⟩
  · refine c_skip ?_
    refine x_then ?_
    refine c_seq ?_
    refine c_region ?_
    first | refine l_rd r_load ?_ | refine l_rd r_loadE ?_
    refine l_rd r_move ?_
    refine l_rd r_move ?_
    refine l_call 21700 [] (new_spec root h A l c hl) Try.func7 (h := ?_)
    rintro _ _ (⟨hno, rfl, rfl⟩ | ⟨hok, g, gl, gk, xs, hks, rfl, rfl⟩)
    · refine l_rd r_move ?_
      first | refine l_rd r_extract ?_ | refine l_rd r_extractN ?_
      refine l_rd r_extract ?_
      refine l_rd r_assign ?_
      refine l_rd r_assign ?_
      refine l_nil ?_
      refine x_then ?_
      refine c_seq ?_
      refine c_seq ?_
      refine c_region ?_
      refine l_rd r_move ?_
      refine l_rd r_neq ?_
      refine l_nil ?_
      refine x_then ?_
      refine c_true rfl ?_
      refine c_seq ?_
      refine c_region ?_
      refine l_rd r_move ?_
      refine l_rd r_eqNilP ?_
      refine l_rd r_move ?_
      refine l_rdG [] rfl (fun hg => r_move) ?_
      refine l_rdG [42] ⟨_, _, ⟨_, .inl ⟨rfl, rfl⟩⟩, rfl, rfl⟩ (fun hg => r_eql) ?_
      first | refine l_rd r_and ?_ | refine l_rd r_pickB ?_ | refine l_rd r_pick ?_
      refine l_rd r_assign ?_
      refine l_nil ?_
      refine x_then ?_
      refine c_ret ?_
      refine x_thenR ?_
      refine k_ret [] _ (.cons (.tmp rfl) .nil) (h := ?_)
      exact ⟨rfl, rfl⟩
    · refine l_rd r_move ?_
      first | refine l_rd r_extract ?_ | refine l_rd r_extractN ?_
      refine l_rd r_extract ?_
      refine l_rd r_assign ?_
      refine l_rd r_assign ?_
      refine l_nil ?_
      refine x_then ?_
      refine c_seq ?_
      refine c_seq ?_
      refine c_region ?_
      refine l_rd r_move ?_
      refine l_rd r_neq ?_
      refine l_nil ?_
      refine x_then ?_
      refine c_false rfl ?_
      refine c_skip ?_
      refine x_then ?_
      refine c_seq ?_
      refine c_region ?_
      refine l_rd r_move ?_
      refine l_call 22350 [] (best_spec g gl gk xs root h l hks hok) Try.func8 (h := ?_)
      rintro _ _ (⟨b, hb, hbi, rfl, rfl⟩)
      refine l_rd r_move ?_
      first | refine l_rd r_extract ?_ | refine l_rd r_extractN ?_
      refine l_rd r_extract ?_
      refine l_do d_alloc (fun g13 => ?_)
      first | refine l_do1 d_store ?_ | refine l_do1 d_storeE ?_
      refine l_rd r_assign ?_
      refine l_nil ?_
      refine x_then ?_
      refine c_seq ?_
      refine c_seq ?_
      refine c_region ?_
      refine l_rd r_move ?_
      first | refine l_rd r_load ?_ | refine l_rd r_loadE ?_
      refine l_call 22600 [] (stands_spec g gl gk xs root h l b hh hok) Try.func9 (h := ?_)
      rintro _ _ (⟨rfl, rfl⟩)
      refine l_rd r_not ?_
      refine l_rd r_move ?_
      first | refine l_rdG [] rfl (fun hg => r_load) ?_ | refine l_rdG [] rfl (fun hg => r_loadE) ?_
      first | refine l_rdG [] rfl (fun hg => r_load) ?_ | refine l_rdG [] rfl (fun hg => r_loadE) ?_
      refine l_rdG [55, 56] ⟨_, _, ⟨_, .inl ⟨rfl, rfl⟩⟩, ⟨_, _, ⟨_, .inl ⟨rfl, rfl⟩⟩, rfl, rfl⟩, rfl⟩ (fun hg => r_eqH) ?_
      refine l_rdG [57] ⟨_, _, ⟨_, .inl ⟨rfl, rfl⟩⟩, rfl, rfl⟩ (fun hg => r_move) ?_
      refine l_rdG [] rfl (fun hg => r_move) ?_
      refine l_rdG [] rfl (fun hg => r_move) ?_
      refine l_rdG [59, 60] ⟨_, _, ⟨_, .inl ⟨rfl, rfl⟩⟩, ⟨_, _, ⟨_, .inl ⟨rfl, rfl⟩⟩, rfl, rfl⟩, rfl⟩ (fun hg => r_neq) ?_
      first | refine l_rdG [58, 61] ⟨_, _, ⟨_, .inl ⟨rfl, rfl⟩⟩, ⟨_, _, ⟨_, .inr ⟨_, rfl, rfl⟩⟩, rfl, rfl⟩, rfl⟩ (fun hg => r_and) ?_ | refine l_rdG [58, 61] ⟨_, _, ⟨_, .inl ⟨rfl, rfl⟩⟩, ⟨_, _, ⟨_, .inr ⟨_, rfl, rfl⟩⟩, rfl, rfl⟩, rfl⟩ (fun hg => r_pickB) ?_ | refine l_rdG [58, 61] ⟨_, _, ⟨_, .inl ⟨rfl, rfl⟩⟩, ⟨_, _, ⟨_, .inr ⟨_, rfl, rfl⟩⟩, rfl, rfl⟩, rfl⟩ (fun hg => r_pick) ?_
      first | refine l_rd r_or ?_ | refine l_rd r_pickB ?_ | refine l_rd r_pick ?_
      refine l_nil ?_
      refine x_then ?_
      first | refine c_ifd rfl (fun h63 => ?_) (fun h63 => ?_) | refine c_ifn rfl (fun h63 => ?_) (fun h63 => ?_) | refine c_if rfl (fun h63 => ?_) (fun h63 => ?_)
      · refine c_seq ?_
        refine c_region ?_
        refine l_rd r_assign ?_
        refine l_nil ?_
        refine x_then ?_
        refine c_ret ?_
        refine x_thenR ?_
        refine k_ret [] _ (.cons (.tmp rfl) .nil) (h := ?_)
        exfalso
        have q1 := best_stands hok hbi
        have q2 := best_root hok hbi
        simp only [q1, Bool.not_true, Bool.false_or, Bool.and_eq_true, decide_eq_true_eq, Bool.not_eq_true', decide_eq_false_iff_not] at h63
        exact h63.2 (q2 h63.1)
      · refine c_skip ?_
        refine x_then ?_
        refine c_seq ?_
        refine c_seq ?_
        refine c_region ?_
        refine l_rd r_assign ?_
        refine l_nil ?_
        refine x_then ?_
        refine c_block ?_
        refine c_loop (fun m E H => ∃ k : Nat, E = [(15, vint k)] ∧ H = [] ∧ m = l.length - k ∧ k ≤ l.length) [0, 1, 2, 3, 4, 5, 9, 11, 12, 13, 14, 16, 17, 18, 19, 20, 21, 22, 23, 24, 25, 26, 27, 28, 29, 30, 31, 32, 33, 34, 35, 36, 37, 38, 39, 40, 41, 42, 43, 44, 45, 46, 47, 48, 49, 50, 51, 52, 53, 54, 55, 56, 57, 58, 59, 60, 61, 62, 63, 106, 107, 108, 109, 110, 111, 112, 113, 114, 115, 116, 117, 118, 119, 120, 121, 122, 123, 124, 125, 126, 127, 128, 129, 130, 131, 132, 133, 134, 135, 136, 137, 138, 139, 140, 141, 142, 143, 144, 145, 146, 147, 148, 149, 150, 151, 152, 153, 154, 155, 156, 157, 158, 159, 160, 161, 162, 163, 164, 165, 166, 167, 168, 169, 170, 171, 172, 173, 174, 175, 176, 177, 178, 179, 180, 181, 182, 183, 184, 185, 186, 187, 188, 189, 190, 191, 192] [10005, 10009, 10013, 21700] (l.length) ([(15, vint (0 : Nat))]) ([]) rfl rfl (⟨0, rfl, rfl, rfl, by omega⟩) (by repeat (first | exact trivial | refine ⟨⟨_, rfl, (by first | rfl | exact den_int (by omega))⟩, ?_⟩)) (by repeat (first | exact trivial | refine ⟨rfl, ?_⟩)) rfl (fun _ _ _ hI => ?_)
        obtain ⟨k, rfl, rfl, rfl, hk⟩ := hI
        refine c_seq ?_
        refine c_seq ?_
        refine c_region ?_
        refine l_rd r_move ?_
        refine l_rd r_move ?_
        refine l_rd r_len ?_
        refine l_rd r_lss ?_
        refine l_nil ?_
        refine x_then ?_
        first | refine c_ifd rfl (fun h67 => ?_) (fun h67 => ?_) | refine c_ifn rfl (fun h67 => ?_) (fun h67 => ?_) | refine c_if rfl (fun h67 => ?_) (fun h67 => ?_)
        · refine c_skip ?_
          refine x_then ?_
          refine c_seq ?_
          refine c_block ?_
          refine c_seq ?_
          refine c_draw (.q 0 (.q 1 (.q 2 (.q 3 (.q 4 (.q 5 (.s 6 (.q 7 (.q 8 (.q 9 (.q 10 (.q 11 (.q 12 (.q 13 (.q 14 (.q 15 (.q 16 (.q 17 (.q 18 (.q 19 (.q 20 (.q 21 (.q 22 (.q 23 (.q 24 (.q 25 (.q 26 (.q 27 (.q 28 (.q 29 (.q 30 (.q 31 (.q 32 (.q 33 (.q 34 (.q 35 .nil)))))))))))))))))))))))))))))))))))) [10005, 10009, 21250, 21251, 21252, 21253, 10028, 21700, 21701, 21702, 21703, 22350, 22351, 22352, 22353, 10013, 22600, 22601, 22602, 22603, 10066, 23800, 23801, 23802, 23803, 10108, 25500, 25501, 25502, 25503, 10114, 10118, 10122, 26150, 26151, 26152, 26153, 26400, 26401, 26402, 26403, 10019, 10146, 10148, 10150, 10151, 27600, 27601, 27602, 27603, 28050, 28051, 28052, 28053, 10023, 28750, 28751, 28752, 28753] (hm := by kernel_rfl) (hs := by kernel_rfl) (hk := by kernel_rfl) (hQ := fun d v c a w h => by cases d <;> exact h) (h := ?_)
          refine q_rd rfl r_move ?_
          refine q_rd rfl r_move ?_
          refine q_rd rfl r_move ?_
          refine q_ix rfl (fun ad73 y73 hA73 h73 => ?_)
          first | refine q_rd rfl r_field ?_ | refine q_rd rfl r_fieldE ?_
          first | refine q_rd rfl r_load ?_ | refine q_rd rfl r_loadE ?_
          refine s_call rfl 23800 [] (stands_spec g gl gk xs root h l y73.id hh hok) Try.func9 (h := ?_)
          rintro _ _ (⟨rfl, rfl⟩)
          refine ⟨cov_of (by repeat (first | exact trivial | refine ⟨rfl, ?_⟩)), ?_⟩
          refine q_rd rfl r_move ?_
          refine k_caseC 77 rfl (fun c77 => ?_) (fun c77 => ?_)
          · refine q_rd rfl r_move ?_
            refine q_rd rfl r_move ?_
            refine q_ix rfl (fun ad80 y80 hA80 h80 => ?_)
            first | refine q_rd rfl r_field ?_ | refine q_rd rfl r_fieldE ?_
            first | refine q_rd rfl r_load ?_ | refine q_rd rfl r_loadE ?_
            refine q_rd rfl r_move ?_
            refine q_rd rfl r_gtr ?_
            refine q_rd rfl r_move ?_
            refine k_caseC 85 rfl (fun c85 => ?_) (fun c85 => ?_)
            · refine q_skip rfl ?_
              refine q_skip rfl ?_
              refine q_skip rfl ?_
              refine q_skip rfl ?_
              refine q_skip rfl ?_
              refine q_skip rfl ?_
              refine q_skip rfl ?_
              refine q_skip rfl ?_
              refine q_skip rfl ?_
              refine q_skip rfl ?_
              refine q_skip rfl ?_
              refine q_skip rfl ?_
              refine q_skip rfl ?_
              refine q_skip rfl ?_
              refine q_skip rfl ?_
              refine q_skip rfl ?_
              refine q_skip rfl ?_
              refine q_skip rfl ?_
              first | refine q_rd rfl r_or ?_ | refine q_rd rfl r_pickB ?_ | refine q_rd rfl r_pick ?_
              first | refine q_rd rfl r_and ?_ | refine q_rd rfl r_pickB ?_ | refine q_rd rfl r_pick ?_
              refine s_nil ?_
              refine x_then ?_
              refine c_true rfl ?_
              refine c_seq ?_
              refine c_region ?_
              refine l_rd r_assign ?_
              refine l_nil ?_
              refine x_then ?_
              refine c_ret ?_
              refine x_inR (x_thenR (x_thenR (x_inR (x_thenR ?_))))
              refine k_ret [] _ (.cons (.tmp rfl) .nil) (h := ?_)
              exfalso
              obtain rfl := opt_eq h73 h80
              have q := (best_most hok hbi (List.mem_of_getElem? h73) c77).1
              have := of_decide_eq_true c85
              omega
            · refine q_rd rfl r_move ?_
              refine q_rd rfl r_move ?_
              refine q_ix rfl (fun ad88 y88 hA88 h88 => ?_)
              first | refine q_rd rfl r_field ?_ | refine q_rd rfl r_fieldE ?_
              first | refine q_rd rfl r_load ?_ | refine q_rd rfl r_loadE ?_
              refine q_rd rfl r_move ?_
              refine q_rd rfl r_eql ?_
              refine q_rd rfl r_move ?_
              refine k_caseC 93 rfl (fun c93 => ?_) (fun c93 => ?_)
              · refine q_rd rfl r_move ?_
                refine q_rd rfl r_move ?_
                refine q_ix rfl (fun ad96 y96 hA96 h96 => ?_)
                first | refine q_rd rfl r_field ?_ | refine q_rd rfl r_fieldE ?_
                first | refine q_rd rfl r_sliceArr ?_ | refine q_rd rfl r_sliceArrE ?_
                first | refine q_rd rfl r_convStrV ?_ | refine q_rd rfl r_convStrE ?_ | refine q_rd rfl r_convStr ?_
                first | refine q_rd rfl r_sliceArr ?_ | refine q_rd rfl r_sliceArrE ?_
                first | refine q_rd rfl r_convStrV ?_ | refine q_rd rfl r_convStrE ?_ | refine q_rd rfl r_convStr ?_
                refine q_rd rfl r_lssS ?_
                first | refine q_rd rfl r_and ?_ | refine q_rd rfl r_pickB ?_ | refine q_rd rfl r_pick ?_
                first | refine q_rd rfl r_or ?_ | refine q_rd rfl r_pickB ?_ | refine q_rd rfl r_pick ?_
                first | refine q_rd rfl r_and ?_ | refine q_rd rfl r_pickB ?_ | refine q_rd rfl r_pick ?_
                refine s_nil ?_
                refine x_then ?_
                first | refine c_ifd rfl (fun h105 => ?_) (fun h105 => ?_) | refine c_ifn rfl (fun h105 => ?_) (fun h105 => ?_) | refine c_if rfl (fun h105 => ?_) (fun h105 => ?_)
                · refine c_seq ?_
                  refine c_region ?_
                  refine l_rd r_assign ?_
                  refine l_nil ?_
                  refine x_then ?_
                  refine c_ret ?_
                  refine x_inR (x_thenR (x_thenR (x_inR (x_thenR ?_))))
                  refine k_ret [] _ (.cons (.tmp rfl) .nil) (h := ?_)
                  exfalso
                  obtain rfl := opt_eq h73 h88
                  obtain rfl := opt_eq h73 h96
                  exact (best_most hok hbi (List.mem_of_getElem? h73) c77).2 (of_decide_eq_true c93) ((bltS_hash _ _).1 h105)
                · refine c_skip ?_
                  refine x_in (x_then ?_)
                  refine c_region ?_
                  refine l_rd r_move ?_
                  first | refine l_rd r_add ?_ | refine l_rd r_addW ?_
                  refine l_rd r_assign ?_
                  refine l_nil ?_
                  refine x_then ?_
                  refine k_again (l.length - (k + 1)) ⟨k + 1, rfl, rfl, rfl, by omega⟩ (by omega) (by repeat (first | exact trivial | refine ⟨⟨_, rfl, (by first | rfl | exact den_int (by omega))⟩, ?_⟩)) (by repeat (first | exact trivial | refine ⟨rfl, ?_⟩))
              · refine q_skip rfl ?_
                refine q_skip rfl ?_
                refine q_skip rfl ?_
                refine q_skip rfl ?_
                refine q_skip rfl ?_
                refine q_skip rfl ?_
                refine q_skip rfl ?_
                refine q_skip rfl ?_
                refine q_skip rfl ?_
                first | refine q_rd rfl r_and ?_ | refine q_rd rfl r_pickB ?_ | refine q_rd rfl r_pick ?_
                first | refine q_rd rfl r_or ?_ | refine q_rd rfl r_pickB ?_ | refine q_rd rfl r_pick ?_
                first | refine q_rd rfl r_and ?_ | refine q_rd rfl r_pickB ?_ | refine q_rd rfl r_pick ?_
                refine s_nil ?_
                refine x_then ?_
                refine c_false rfl ?_
                refine c_skip ?_
                refine x_in (x_then ?_)
                refine c_region ?_
                refine l_rd r_move ?_
                first | refine l_rd r_add ?_ | refine l_rd r_addW ?_
                refine l_rd r_assign ?_
                refine l_nil ?_
                refine x_then ?_
                refine k_again (l.length - (k + 1)) ⟨k + 1, rfl, rfl, rfl, by omega⟩ (by omega) (by repeat (first | exact trivial | refine ⟨⟨_, rfl, (by first | rfl | exact den_int (by omega))⟩, ?_⟩)) (by repeat (first | exact trivial | refine ⟨rfl, ?_⟩))
          · refine q_skip rfl ?_
            refine q_skip rfl ?_
            refine q_skip rfl ?_
            refine q_skip rfl ?_
            refine q_skip rfl ?_
            refine q_skip rfl ?_
            refine q_skip rfl ?_
            refine q_skip rfl ?_
            refine q_skip rfl ?_
            refine q_skip rfl ?_
            refine q_skip rfl ?_
            refine q_skip rfl ?_
            refine q_skip rfl ?_
            refine q_skip rfl ?_
            refine q_skip rfl ?_
            refine q_skip rfl ?_
            refine q_skip rfl ?_
            refine q_skip rfl ?_
            refine q_skip rfl ?_
            refine q_skip rfl ?_
            refine q_skip rfl ?_
            refine q_skip rfl ?_
            refine q_skip rfl ?_
            refine q_skip rfl ?_
            refine q_skip rfl ?_
            refine q_skip rfl ?_
            refine q_skip rfl ?_
            first | refine q_rd rfl r_and ?_ | refine q_rd rfl r_pickB ?_ | refine q_rd rfl r_pick ?_
            refine s_nil ?_
            refine x_then ?_
            refine c_false rfl ?_
            refine c_skip ?_
            refine x_in (x_then ?_)
            refine c_region ?_
            refine l_rd r_move ?_
            first | refine l_rd r_add ?_ | refine l_rd r_addW ?_
            refine l_rd r_assign ?_
            refine l_nil ?_
            refine x_then ?_
            refine k_again (l.length - (k + 1)) ⟨k + 1, rfl, rfl, rfl, by omega⟩ (by omega) (by repeat (first | exact trivial | refine ⟨⟨_, rfl, (by first | rfl | exact den_int (by omega))⟩, ?_⟩)) (by repeat (first | exact trivial | refine ⟨rfl, ?_⟩))
        · refine c_exit ?_
          refine x_thenE (x_thenE (x_inE (x_then ?_)))
          refine c_seq ?_
          refine c_region ?_
          refine l_rd r_move ?_
          refine l_rd r_move ?_
          refine l_rd r_len ?_
          first | refine l_rd r_add ?_ | refine l_rd r_addW ?_
          refine l_call 25500 [] (pick_spec turn (l.length + 1) (by omega) (by omega)) Try.func10 (h := ?_)
          rintro _ _ (⟨k, hk, rfl, rfl⟩)
          refine l_rd r_assign ?_
          refine l_nil ?_
          refine x_then ?_
          refine c_seq ?_
          refine c_draw (.q 0 (.q 1 (.q 3 (.q 4 (.q 5 (.q 7 (.q 8 (.q 9 (.s 2 (.s 6 (.s 10 (.s 11 (.q 12 (.q 13 (.q 14 (.q 15 (.q 16 .nil))))))))))))))))) [10005, 10009, 10013, 10019, 10023] (hm := by kernel_rfl) (hs := by kernel_rfl) (hk := by kernel_rfl) (hQ := fun d v c a w h => by cases d <;> exact h) (h := ?_)
          first | refine q_rd rfl r_load ?_ | refine q_rd rfl r_loadE ?_
          refine q_rd rfl r_move ?_
          refine q_rd rfl r_move ?_
          refine q_rd rfl r_move ?_
          refine q_rd rfl r_sliceL ?_
          refine q_rd rfl r_move ?_
          refine q_rd rfl r_move ?_
          refine q_rd rfl r_sliceH ?_
          refine s_do rfl (d_bslice []) (fun B114 => ?_)
          refine s_do rfl d_append (fun p118 => ?_)
          refine s_do rfl d_append (fun p122 => ?_)
          refine s_call rfl 26150 [] (new_spec root h p122.1 ([] ++ l.drop k ++ l.take k) p122.2 (by simp only [List.length_append, List.length_drop, List.length_take, List.length_nil]; omega)) Try.func7 (h := ?_)
          rintro _ _ (⟨hno2, rfl, rfl⟩ | ⟨hok2, g2, gl2, gk2, xs2, hks2, rfl, rfl⟩)
          · exact absurd (new_perm (turn_perm l k) hok) (by simpa using hno2)
          · refine ⟨cov_of (by repeat (first | exact trivial | refine ⟨rfl, ?_⟩)), ?_⟩
            refine q_rd rfl r_move ?_
            first | refine q_rd rfl r_extract ?_ | refine q_rd rfl r_extractN ?_
            refine q_rd rfl r_extract ?_
            refine q_rd rfl r_assign ?_
            refine q_rd rfl r_assign ?_
            refine s_nil ?_
            refine x_then ?_
            refine c_seq ?_
            refine c_region ?_
            refine l_rd r_move ?_
            refine l_call 26400 [] (best_spec g2 gl2 gk2 xs2 root h _ hks2 hok2) Try.func8 (h := ?_)
            rintro _ _ (⟨b2, hb2, hbi2, rfl, rfl⟩)
            refine l_rd r_move ?_
            first | refine l_rd r_extract ?_ | refine l_rd r_extractN ?_
            refine l_rd r_extract ?_
            refine l_do d_alloc (fun g19 => ?_)
            first | refine l_do1 d_store ?_ | refine l_do1 d_storeE ?_
            refine l_rd r_assign ?_
            refine l_nil ?_
            refine x_then ?_
            refine c_seq ?_
            refine c_seq ?_
            refine c_region ?_
            refine l_rd r_move ?_
            refine l_rd r_neq ?_
            refine l_rd r_move ?_
            first | refine l_rdG [] rfl (fun hg => r_load) ?_ | refine l_rdG [] rfl (fun hg => r_loadE) ?_
            first | refine l_rdG [] rfl (fun hg => r_load) ?_ | refine l_rdG [] rfl (fun hg => r_loadE) ?_
            refine l_rdG [134, 135] ⟨_, _, ⟨_, .inl ⟨rfl, rfl⟩⟩, ⟨_, _, ⟨_, .inl ⟨rfl, rfl⟩⟩, rfl, rfl⟩, rfl⟩ (fun hg => r_neH) ?_
            first | refine l_rd r_or ?_ | refine l_rd r_pickB ?_ | refine l_rd r_pick ?_
            refine l_rd r_move ?_
            refine l_rdG [] rfl (fun hg => r_move) ?_
            refine l_rdG [] rfl (fun hg => r_move) ?_
            refine l_rdG [139, 140] ⟨_, _, ⟨_, .inl ⟨rfl, rfl⟩⟩, ⟨_, _, ⟨_, .inl ⟨rfl, rfl⟩⟩, rfl, rfl⟩, rfl⟩ (fun hg => r_neq) ?_
            first | refine l_rd r_or ?_ | refine l_rd r_pickB ?_ | refine l_rd r_pick ?_
            refine l_nil ?_
            refine x_then ?_
            first | refine c_ifd rfl (fun h142 => ?_) (fun h142 => ?_) | refine c_ifn rfl (fun h142 => ?_) (fun h142 => ?_) | refine c_if rfl (fun h142 => ?_) (fun h142 => ?_)
            · refine c_seq ?_
              refine c_region ?_
              refine l_rd r_assign ?_
              refine l_nil ?_
              refine x_then ?_
              refine c_ret ?_
              refine x_thenR ?_
              refine k_ret [] _ (.cons (.tmp rfl) .nil) (h := ?_)
              exfalso
              have q := best_one (lev_perm hok.2.2.2.1 (turn_perm l k)) hbi (show BestIs (l.drop k ++ l.take k) root h b2 hb2 from hbi2)
              simp [q.1, q.2] at h142
            · refine c_skip ?_
              refine x_then ?_
              refine c_seq ?_
              refine c_cut (fun E H => (¬ NewOk root h (l ++ [more]) ∧ E = [(21, .s (.one .pn)), (22, vint 2)] ∧ H = []) ∨ (NewOk root h (l ++ [more]) ∧ ∃ g3 gl3 gk3 xs3, KidsOf xs3 (l ++ [more]) ∧ E = [(21, vp 27600 ⟨g3, 0, none⟩), (22, vint 0)] ∧ H = [(27600, treeR g3 gl3 gk3 xs3 root h (l ++ [more]))])) [0, 1, 2, 3, 4, 5, 9, 11, 12, 13, 14, 15, 16, 17, 18, 19, 20, 23, 24, 25, 26, 27, 28, 29, 30, 31, 32, 33, 34, 35, 36, 37, 38, 39, 40, 41, 42, 43, 44, 45, 46, 47, 48, 49, 50, 51, 52, 53, 54, 55, 56, 57, 58, 59, 60, 61, 62, 63, 64, 65, 66, 67, 68, 69, 70, 71, 72, 73, 74, 75, 76, 77, 78, 79, 80, 81, 82, 83, 84, 85, 86, 87, 88, 89, 90, 91, 92, 93, 94, 95, 96, 97, 98, 99, 100, 101, 102, 103, 104, 105, 106, 107, 108, 109, 110, 111, 112, 113, 114, 115, 116, 117, 118, 119, 120, 121, 122, 123, 124, 125, 126, 127, 128, 129, 130, 131, 132, 133, 134, 135, 136, 137, 138, 139, 140, 141, 142, 155, 156, 157, 158, 159, 160, 161, 162, 163, 164, 165, 166, 167, 168, 169, 170, 171, 172, 173, 174, 175, 176, 177, 178, 179, 180, 181, 182, 183, 184, 185, 186, 187, 188, 189, 190, 191, 192] [10005, 10009, 10013, 10019] rfl rfl ?_ ?_
              · refine c_draw (.q 0 (.q 1 (.q 3 (.q 5 (.s2 2 (.s2 4 (.s 6 (.s 7 (.s 8 (.q 9 (.q 10 (.q 11 (.q 12 (.q 13 .nil)))))))) 6 (.s 4 (.s 7 (.s 8 (.q 9 (.q 10 (.q 11 (.q 12 (.q 13 .nil))))))))) 6 (.s 2 (.s 4 (.s 7 (.s 8 (.q 9 (.q 10 (.q 11 (.q 12 (.q 13 .nil)))))))))))))) [10005, 10009, 10013, 10019, 10023] (hm := by kernel_rfl) (hs := by kernel_rfl) (hk := by kernel_rfl) (hQ := fun d v c a w h => by cases d <;> exact h) (h := ?_)
                first | refine q_rd rfl r_load ?_ | refine q_rd rfl r_loadE ?_
                refine q_rd rfl r_move ?_
                refine q_rd rfl r_move ?_
                first | refine q_rd rfl r_load ?_ | refine q_rd rfl r_loadE ?_
                refine s_two ?_ ?_
                · refine s_do rfl (d_bslice []) (fun B146 => ?_)
                  refine s_two ?_ ?_
                  · refine s_do rfl d_append (fun p148 => ?_)
                    refine s_do rfl (d_bslice [_]) (fun B150 => ?_)
                    refine s_do rfl d_append (fun p151 => ?_)
                    refine s_call rfl 27600 [] (new_spec root h p151.1 ([] ++ l ++ [more]) p151.2 (by simp only [List.length_append, List.length_cons, List.length_nil]; have := hok.2.2.1; omega)) Try.func7 (h := ?_)
                    rintro _ _ (⟨hno3, rfl, rfl⟩ | ⟨hok3, g3, gl3, gk3, xs3, hks3, rfl, rfl⟩)
                    · refine ⟨cov_of (by repeat (first | exact trivial | refine ⟨rfl, ?_⟩)), ?_⟩
                      refine q_rd rfl r_move ?_
                      first | refine q_rd rfl r_extract ?_ | refine q_rd rfl r_extractN ?_
                      refine q_rd rfl r_extract ?_
                      refine q_rd rfl r_assign ?_
                      refine q_rd rfl r_assign ?_
                      refine s_nil ?_
                      refine x_then ?_
                      refine k_join (by first | exact .inl ⟨hno3, rfl, rfl⟩ | exact .inr ⟨hok3, g3, gl3, gk3, xs3, hks3, rfl, rfl⟩) (by repeat (first | exact trivial | refine ⟨⟨_, rfl, (by first | rfl | exact den_int (by omega))⟩, ?_⟩)) (by repeat (first | exact trivial | refine ⟨rfl, ?_⟩))
                    · refine ⟨cov_of (by repeat (first | exact trivial | refine ⟨rfl, ?_⟩)), ?_⟩
                      refine q_rd rfl r_move ?_
                      first | refine q_rd rfl r_extract ?_ | refine q_rd rfl r_extractN ?_
                      refine q_rd rfl r_extract ?_
                      refine q_rd rfl r_assign ?_
                      refine q_rd rfl r_assign ?_
                      refine s_nil ?_
                      refine x_then ?_
                      refine k_join (by first | exact .inl ⟨hno3, rfl, rfl⟩ | exact .inr ⟨hok3, g3, gl3, gk3, xs3, hks3, rfl, rfl⟩) (by repeat (first | exact trivial | refine ⟨⟨_, rfl, (by first | rfl | exact den_int (by omega))⟩, ?_⟩)) (by repeat (first | exact trivial | refine ⟨rfl, ?_⟩))
                  · refine s_do rfl (d_bslice [_]) (fun B150 => ?_)
                    refine s_do rfl d_append (fun p148 => ?_)
                    refine s_do rfl d_append (fun p151 => ?_)
                    refine s_call rfl 27600 [] (new_spec root h p151.1 ([] ++ l ++ [more]) p151.2 (by simp only [List.length_append, List.length_cons, List.length_nil]; have := hok.2.2.1; omega)) Try.func7 (h := ?_)
                    rintro _ _ (⟨hno3, rfl, rfl⟩ | ⟨hok3, g3, gl3, gk3, xs3, hks3, rfl, rfl⟩)
                    · refine ⟨cov_of (by repeat (first | exact trivial | refine ⟨rfl, ?_⟩)), ?_⟩
                      refine q_rd rfl r_move ?_
                      first | refine q_rd rfl r_extract ?_ | refine q_rd rfl r_extractN ?_
                      refine q_rd rfl r_extract ?_
                      refine q_rd rfl r_assign ?_
                      refine q_rd rfl r_assign ?_
                      refine s_nil ?_
                      refine x_then ?_
                      refine k_join (by first | exact .inl ⟨hno3, rfl, rfl⟩ | exact .inr ⟨hok3, g3, gl3, gk3, xs3, hks3, rfl, rfl⟩) (by repeat (first | exact trivial | refine ⟨⟨_, rfl, (by first | rfl | exact den_int (by omega))⟩, ?_⟩)) (by repeat (first | exact trivial | refine ⟨rfl, ?_⟩))
                    · refine ⟨cov_of (by repeat (first | exact trivial | refine ⟨rfl, ?_⟩)), ?_⟩
                      refine q_rd rfl r_move ?_
                      first | refine q_rd rfl r_extract ?_ | refine q_rd rfl r_extractN ?_
                      refine q_rd rfl r_extract ?_
                      refine q_rd rfl r_assign ?_
                      refine q_rd rfl r_assign ?_
                      refine s_nil ?_
                      refine x_then ?_
                      refine k_join (by first | exact .inl ⟨hno3, rfl, rfl⟩ | exact .inr ⟨hok3, g3, gl3, gk3, xs3, hks3, rfl, rfl⟩) (by repeat (first | exact trivial | refine ⟨⟨_, rfl, (by first | rfl | exact den_int (by omega))⟩, ?_⟩)) (by repeat (first | exact trivial | refine ⟨rfl, ?_⟩))
                · refine s_do rfl (d_bslice [_]) (fun B150 => ?_)
                  refine s_do rfl (d_bslice []) (fun B146 => ?_)
                  refine s_do rfl d_append (fun p148 => ?_)
                  refine s_do rfl d_append (fun p151 => ?_)
                  refine s_call rfl 27600 [] (new_spec root h p151.1 ([] ++ l ++ [more]) p151.2 (by simp only [List.length_append, List.length_cons, List.length_nil]; have := hok.2.2.1; omega)) Try.func7 (h := ?_)
                  rintro _ _ (⟨hno3, rfl, rfl⟩ | ⟨hok3, g3, gl3, gk3, xs3, hks3, rfl, rfl⟩)
                  · refine ⟨cov_of (by repeat (first | exact trivial | refine ⟨rfl, ?_⟩)), ?_⟩
                    refine q_rd rfl r_move ?_
                    first | refine q_rd rfl r_extract ?_ | refine q_rd rfl r_extractN ?_
                    refine q_rd rfl r_extract ?_
                    refine q_rd rfl r_assign ?_
                    refine q_rd rfl r_assign ?_
                    refine s_nil ?_
                    refine x_then ?_
                    refine k_join (by first | exact .inl ⟨hno3, rfl, rfl⟩ | exact .inr ⟨hok3, g3, gl3, gk3, xs3, hks3, rfl, rfl⟩) (by repeat (first | exact trivial | refine ⟨⟨_, rfl, (by first | rfl | exact den_int (by omega))⟩, ?_⟩)) (by repeat (first | exact trivial | refine ⟨rfl, ?_⟩))
                  · refine ⟨cov_of (by repeat (first | exact trivial | refine ⟨rfl, ?_⟩)), ?_⟩
                    refine q_rd rfl r_move ?_
                    first | refine q_rd rfl r_extract ?_ | refine q_rd rfl r_extractN ?_
                    refine q_rd rfl r_extract ?_
                    refine q_rd rfl r_assign ?_
                    refine q_rd rfl r_assign ?_
                    refine s_nil ?_
                    refine x_then ?_
                    refine k_join (by first | exact .inl ⟨hno3, rfl, rfl⟩ | exact .inr ⟨hok3, g3, gl3, gk3, xs3, hks3, rfl, rfl⟩) (by repeat (first | exact trivial | refine ⟨⟨_, rfl, (by first | rfl | exact den_int (by omega))⟩, ?_⟩)) (by repeat (first | exact trivial | refine ⟨rfl, ?_⟩))
              · rintro _ _ (⟨hno3, rfl, rfl⟩ | ⟨hok3, g3, gl3, gk3, xs3, hks3, rfl, rfl⟩)
                · refine x_then ?_
                  refine c_seq ?_
                  refine c_seq ?_
                  refine c_region ?_
                  refine l_rd r_move ?_
                  refine l_rd r_neq ?_
                  refine l_nil ?_
                  refine x_then ?_
                  refine c_true rfl ?_
                  refine c_seq ?_
                  refine c_region ?_
                  refine l_rd r_move ?_
                  refine l_rd r_eql ?_
                  refine l_rd r_assign ?_
                  refine l_nil ?_
                  refine x_then ?_
                  refine c_ret ?_
                  refine x_thenR ?_
                  refine k_ret [] _ (.cons (.tmp rfl) .nil) (h := ?_)
                  exact ⟨rfl, rfl⟩
                · refine x_then ?_
                  refine c_seq ?_
                  refine c_seq ?_
                  refine c_region ?_
                  refine l_rd r_move ?_
                  refine l_rd r_neq ?_
                  refine l_nil ?_
                  refine x_then ?_
                  refine c_false rfl ?_
                  refine c_skip ?_
                  refine x_then ?_
                  refine c_seq ?_
                  refine c_region ?_
                  refine l_rd r_move ?_
                  refine l_call 28050 [] (best_spec g3 gl3 gk3 xs3 root h _ hks3 hok3) Try.func8 (h := ?_)
                  rintro _ _ (⟨b3, hb3, hbi3, rfl, rfl⟩)
                  refine l_rd r_move ?_
                  first | refine l_rd r_extract ?_ | refine l_rd r_extractN ?_
                  refine l_rd r_extract ?_
                  refine l_do d_alloc (fun g23 => ?_)
                  first | refine l_do1 d_store ?_ | refine l_do1 d_storeE ?_
                  refine l_rd r_assign ?_
                  refine l_nil ?_
                  refine x_then ?_
                  refine c_seq ?_
                  refine c_seq ?_
                  refine c_region ?_
                  first | refine l_rd r_load ?_ | refine l_rd r_loadE ?_
                  first | refine l_rd r_load ?_ | refine l_rd r_loadE ?_
                  refine l_rd r_eqH ?_
                  refine l_rd r_move ?_
                  refine l_rdG [] rfl (fun hg => r_move) ?_
                  refine l_rdG [] rfl (fun hg => r_move) ?_
                  refine l_rdG [168, 169] ⟨_, _, ⟨_, .inl ⟨rfl, rfl⟩⟩, ⟨_, _, ⟨_, .inl ⟨rfl, rfl⟩⟩, rfl, rfl⟩, rfl⟩ (fun hg => r_eql) ?_
                  first | refine l_rd r_and ?_ | refine l_rd r_pickB ?_ | refine l_rd r_pick ?_
                  refine l_nil ?_
                  refine x_then ?_
                  first | refine c_ifd rfl (fun h171 => ?_) (fun h171 => ?_) | refine c_ifn rfl (fun h171 => ?_) (fun h171 => ?_) | refine c_if rfl (fun h171 => ?_) (fun h171 => ?_)
                  · refine c_seq ?_
                    refine c_region ?_
                    refine l_rd r_assign ?_
                    refine l_nil ?_
                    refine x_then ?_
                    refine c_ret ?_
                    refine x_thenR ?_
                    refine k_ret [] _ (.cons (.tmp rfl) .nil) (h := ?_)
                    exact ⟨rfl, rfl⟩
                  · refine c_skip ?_
                    refine x_then ?_
                    refine c_seq ?_
                    refine c_draw (.q 0 (.q 1 (.q 2 (.s 3 (.q 4 (.q 5 (.q 6 (.q 7 (.q 8 (.q 9 (.q 10 (.q 11 (.q 12 (.q 13 (.q 14 (.q 15 (.q 16 (.q 17 (.q 18 (.q 19 (.q 20 (.q 21 .nil)))))))))))))))))))))) [10005, 10009, 21250, 21251, 21252, 21253, 10028, 21700, 21701, 21702, 21703, 22350, 22351, 22352, 22353, 10013, 22600, 22601, 22602, 22603, 10066, 23800, 23801, 23802, 23803, 10108, 25500, 25501, 25502, 25503, 10114, 10118, 10122, 26150, 26151, 26152, 26153, 26400, 26401, 26402, 26403, 10019, 10146, 10148, 10150, 10151, 27600, 27601, 27602, 27603, 28050, 28051, 28052, 28053, 10023, 28750, 28751, 28752, 28753] (hm := by kernel_rfl) (hs := by kernel_rfl) (hk := by kernel_rfl) (hQ := fun d v c a w h => by cases d <;> exact h) (h := ?_)
                    refine q_rd rfl r_move ?_
                    first | refine q_rd rfl r_field ?_ | refine q_rd rfl r_fieldE ?_
                    first | refine q_rd rfl r_load ?_ | refine q_rd rfl r_loadE ?_
                    refine s_call rfl 28750 [] (stands_spec g3 gl3 gk3 xs3 root h _ more.id (high_more hh hm) hok3) Try.func9 (h := ?_)
                    rintro _ _ (⟨rfl, rfl⟩)
                    refine ⟨cov_of (by repeat (first | exact trivial | refine ⟨rfl, ?_⟩)), ?_⟩
                    refine q_rd rfl r_move ?_
                    refine q_rdG rfl [] rfl (fun hg => r_move) ?_
                    refine q_rdG rfl [] rfl (fun hg => r_move) ?_
                    refine q_rdG rfl [177, 178] ⟨_, _, ⟨_, .inl ⟨rfl, rfl⟩⟩, ⟨_, _, ⟨_, .inl ⟨rfl, rfl⟩⟩, rfl, rfl⟩, rfl⟩ (fun hg => r_gtr) ?_
                    refine q_rdG rfl [179] ⟨_, _, ⟨_, .inl ⟨rfl, rfl⟩⟩, rfl, rfl⟩ (fun hg => r_move) ?_
                    refine q_rdG rfl [] rfl (fun hg => r_move) ?_
                    refine q_rdG rfl [] rfl (fun hg => r_move) ?_
                    refine q_rdG rfl [181, 182] ⟨_, _, ⟨_, .inl ⟨rfl, rfl⟩⟩, ⟨_, _, ⟨_, .inl ⟨rfl, rfl⟩⟩, rfl, rfl⟩, rfl⟩ (fun hg => r_eql) ?_
                    refine q_rdG rfl [183] ⟨_, _, ⟨_, .inl ⟨rfl, rfl⟩⟩, rfl, rfl⟩ (fun hg => r_move) ?_
                    first | refine q_rdG rfl [] rfl (fun hg => r_sliceArr) ?_ | refine q_rdG rfl [] rfl (fun hg => r_sliceArrE) ?_
                    first | refine q_rdG rfl [185] ⟨_, _, ⟨_, .inl ⟨rfl, rfl⟩⟩, rfl, rfl⟩ (fun hg => r_convStrV) ?_ | refine q_rdG rfl [185] ⟨_, _, ⟨_, .inl ⟨rfl, rfl⟩⟩, rfl, rfl⟩ (fun hg => r_convStrE) ?_ | refine q_rdG rfl [185] ⟨_, _, ⟨_, .inl ⟨rfl, rfl⟩⟩, rfl, rfl⟩ (fun hg => r_convStr) ?_
                    first | refine q_rdG rfl [] rfl (fun hg => r_sliceArr) ?_ | refine q_rdG rfl [] rfl (fun hg => r_sliceArrE) ?_
                    first | refine q_rdG rfl [187] ⟨_, _, ⟨_, .inl ⟨rfl, rfl⟩⟩, rfl, rfl⟩ (fun hg => r_convStrV) ?_ | refine q_rdG rfl [187] ⟨_, _, ⟨_, .inl ⟨rfl, rfl⟩⟩, rfl, rfl⟩ (fun hg => r_convStrE) ?_ | refine q_rdG rfl [187] ⟨_, _, ⟨_, .inl ⟨rfl, rfl⟩⟩, rfl, rfl⟩ (fun hg => r_convStr) ?_
                    refine q_rdG rfl [186, 188] ⟨_, _, ⟨_, .inl ⟨rfl, rfl⟩⟩, ⟨_, _, ⟨_, .inl ⟨rfl, rfl⟩⟩, rfl, rfl⟩, rfl⟩ (fun hg => r_lssS) ?_
                    first | refine q_rdG rfl [184, 189] ⟨_, _, ⟨_, .inl ⟨rfl, rfl⟩⟩, ⟨_, _, ⟨_, .inr ⟨_, rfl, rfl⟩⟩, rfl, rfl⟩, rfl⟩ (fun hg => r_and) ?_ | refine q_rdG rfl [184, 189] ⟨_, _, ⟨_, .inl ⟨rfl, rfl⟩⟩, ⟨_, _, ⟨_, .inr ⟨_, rfl, rfl⟩⟩, rfl, rfl⟩, rfl⟩ (fun hg => r_pickB) ?_ | refine q_rdG rfl [184, 189] ⟨_, _, ⟨_, .inl ⟨rfl, rfl⟩⟩, ⟨_, _, ⟨_, .inr ⟨_, rfl, rfl⟩⟩, rfl, rfl⟩, rfl⟩ (fun hg => r_pick) ?_
                    first | refine q_rdG rfl [180, 190] ⟨_, _, ⟨_, .inl ⟨rfl, rfl⟩⟩, ⟨_, _, ⟨_, .inr ⟨_, rfl, rfl⟩⟩, rfl, rfl⟩, rfl⟩ (fun hg => r_or) ?_ | refine q_rdG rfl [180, 190] ⟨_, _, ⟨_, .inl ⟨rfl, rfl⟩⟩, ⟨_, _, ⟨_, .inr ⟨_, rfl, rfl⟩⟩, rfl, rfl⟩, rfl⟩ (fun hg => r_pickB) ?_ | refine q_rdG rfl [180, 190] ⟨_, _, ⟨_, .inl ⟨rfl, rfl⟩⟩, ⟨_, _, ⟨_, .inr ⟨_, rfl, rfl⟩⟩, rfl, rfl⟩, rfl⟩ (fun hg => r_pick) ?_
                    first | refine q_rd rfl r_and ?_ | refine q_rd rfl r_pickB ?_ | refine q_rd rfl r_pick ?_
                    refine q_rd rfl r_assign ?_
                    refine s_nil ?_
                    refine x_then ?_
                    refine c_ret ?_
                    refine k_ret [] _ (.cons (.tmp rfl) .nil) (h := ?_)
                    have q := best_more hok3 hbi hbi3 (by simpa using h171)
                    refine ⟨congrArg (fun x => Out.ret (vb x)) ?_, rfl⟩
                    rw [q.1, Bool.true_and]
                    rcases q.2 with q | ⟨q1, q2⟩
                    · simp [q]
                    · simp [q1, (bltS_hash b3 b).2 q2]
end Go.Proofs.Ytonbgcehgmpnkaa
