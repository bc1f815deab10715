/- TreePaths: the walk of the law. -/
import Derived.Test.YtonbgcehgmpnkaaP5
import Derived.Test.YtonbgcehgmpnkaaKA
set_option linter.unusedVariables false
set_option linter.unusedSimpArgs false
set_option maxRecDepth 100000
set_option maxHeartbeats 8000000
namespace Go.Proofs.Ytonbgcehgmpnkaa
open Go Go.RowKit HL
instance : Inhabited LeafP := ⟨leaf0⟩
theorem paths_spec_law (root : Hash) (h : Int) (A : Option Addr) (l : List LeafP) (c : Nat) (a b : Hash) (hl : l.length ≤ 1048576) (hc : l.length ≤ c) (hh : High l) :
    CSpec Try.prog 4 [.agg [.hash root], .one (.i .i64 h), .one (.sl 2 A l.length c), .agg [.hash a], .agg [.hash b]] [(2, Res.rd A leafEn l)] [] fun o L => o = .ret (vb true) ∧ L = [] := by
  refine k_enter Try.func4 rfl rfl (h := fun w0 => ?_)
  refine c_seq ?_
  refine c_region ?_
  refine l_do d_box (fun g5 => ?_)
  refine l_do d_box (fun g8 => ?_)
  refine l_do d_box (fun g9 => ?_)
  refine l_rd r_assign ?_
  refine l_nil ?_
  refine x_then ?_
  refine c_seq ?_
  refine c_seq ?_
  refine c_region ?_
  refine l_call 21600 [] (awake_spec) Try.func6 (h := ?_)
  rintro _ _ (⟨rfl, rfl⟩)
  refine l_rd r_not ?_
  refine l_nil ?_
  refine x_then ?_
  refine c_false rfl ?_
  refine c_skip ?_
  refine x_then ?_
  refine c_seq ?_
  refine c_seq ?_
  refine c_region ?_
  refine l_rd r_move ?_
  refine l_rd r_len ?_
  refine l_rd r_gtr ?_
  refine l_nil ?_
  refine x_then ?_
  first | refine c_ifd rfl (fun h36 => ?_) (fun h36 => ?_) | refine c_ifn rfl (fun h36 => ?_) (fun h36 => ?_) | refine c_if rfl (fun h36 => ?_) (fun h36 => ?_)
  · refine c_seq ?_
    refine c_region ?_
    refine l_rd r_assign ?_
    refine l_nil ?_
    refine x_then ?_
    refine c_ret ?_
    refine x_thenR ?_
    refine k_ret [] _ (.cons (.tmp rfl) .nil) (h := ?_)
    exact ⟨rfl, rfl⟩
  · refine c_skip ?_
    refine x_then ?_
    refine c_seq ?_
    refine c_region ?_
    first | refine l_rd r_load ?_ | refine l_rd r_loadE ?_ | refine l_rd (r_loadT (hj := by omega)) ?_
    refine l_rd r_move ?_
    refine l_rd r_move ?_
    refine l_call 22050 [] (new_spec root h A l c hl) Try.func7 (h := ?_)
    rintro _ _ (⟨hno, rfl, rfl⟩ | ⟨hok, g, gl, gk, xs, hks, rfl, rfl⟩)
    · refine l_rd r_move ?_
      first | refine l_rd r_extract ?_ | refine l_rd r_extractN ?_
      refine l_rd r_extract ?_
      refine l_rd r_assign ?_
      refine l_rd r_assign ?_
      refine l_nil ?_
      refine x_then ?_
      refine c_seq ?_
      refine c_seq ?_
      refine c_region ?_
      refine l_rd r_move ?_
      refine l_rd r_neq ?_
      refine l_nil ?_
      refine x_then ?_
      refine c_true rfl ?_
      refine c_seq ?_
      refine c_region ?_
      refine l_rd r_assign ?_
      refine l_nil ?_
      refine x_then ?_
      refine c_ret ?_
      refine x_thenR ?_
      refine k_ret [] _ (.cons (.tmp rfl) .nil) (h := ?_)
      exact ⟨rfl, rfl⟩
    · refine l_rd r_move ?_
      first | refine l_rd r_extract ?_ | refine l_rd r_extractN ?_
      refine l_rd r_extract ?_
      refine l_rd r_assign ?_
      refine l_rd r_assign ?_
      refine l_nil ?_
      refine x_then ?_
      refine c_seq ?_
      refine c_seq ?_
      refine c_region ?_
      refine l_rd r_move ?_
      refine l_rd r_neq ?_
      refine l_nil ?_
      refine x_then ?_
      refine c_false rfl ?_
      refine c_skip ?_
      refine x_then ?_
      refine c_seq ?_
      refine c_region ?_
      refine l_rd r_move ?_
      first | refine l_rd r_load ?_ | refine l_rd r_loadE ?_ | refine l_rd (r_loadT (hj := by omega)) ?_
      refine l_call 22450 [] (way_spec g gl gk xs root h l a hh hok) Try.func11 (h := ?_)
      rintro _ _ (⟨Aa, ca, hla, rfl, rfl⟩)
      refine l_rd r_move ?_
      first | refine l_rd r_extract ?_ | refine l_rd r_extractN ?_
      refine l_rd r_extract ?_
      refine l_rd r_assign ?_
      refine l_rd r_assign ?_
      refine l_nil ?_
      refine x_then ?_
      refine c_seq ?_
      refine c_region ?_
      refine l_rd r_move ?_
      first | refine l_rd r_load ?_ | refine l_rd r_loadE ?_ | refine l_rd (r_loadT (hj := by omega)) ?_
      refine l_call 22750 [] (way_spec g gl gk xs root h l b hh hok) Try.func11 (h := ?_)
      rintro _ _ (⟨Ab, cb, hlb, rfl, rfl⟩)
      refine l_rd r_move ?_
      first | refine l_rd r_extract ?_ | refine l_rd r_extractN ?_
      refine l_rd r_extract ?_
      refine l_rd r_assign ?_
      refine l_rd r_assign ?_
      refine l_nil ?_
      refine x_then ?_
      refine c_seq ?_
      refine c_region ?_
      refine l_rd r_move ?_
      first | refine l_rd r_load ?_ | refine l_rd r_loadE ?_ | refine l_rd (r_loadT (hj := by omega)) ?_
      first | refine l_rd r_load ?_ | refine l_rd r_loadE ?_ | refine l_rd (r_loadT (hj := by omega)) ?_
      refine l_call 23100 [] (path_spec g gl gk xs root h l a b hh hok) Try.func12 (h := ?_)
      rintro _ _ (⟨d1, u1, ok1, A1, c1, A2, c2, hp1, hd1, hu1, rfl, rfl⟩)
      refine l_rd r_move ?_
      first | refine l_rd r_extract ?_ | refine l_rd r_extractN ?_
      refine l_rd r_extract ?_
      refine l_rd r_extract ?_
      refine l_rd r_assign ?_
      refine l_rd r_assign ?_
      refine l_rd r_assign ?_
      refine l_nil ?_
      refine x_then ?_
      refine c_seq ?_
      refine c_region ?_
      refine l_rd r_move ?_
      first | refine l_rd r_load ?_ | refine l_rd r_loadE ?_ | refine l_rd (r_loadT (hj := by omega)) ?_
      first | refine l_rd r_load ?_ | refine l_rd r_loadE ?_ | refine l_rd (r_loadT (hj := by omega)) ?_
      refine l_call 23500 [] (path_spec g gl gk xs root h l b a hh hok) Try.func12 (h := ?_)
      rintro _ _ (⟨d2, u2, ok2, A3, c3, A4, c4, hp2, hd2, hu2, rfl, rfl⟩)
      have pf := path_facts hp1 hp2
      clear hp1 hp2
      refine l_rd r_move ?_
      first | refine l_rd r_extract ?_ | refine l_rd r_extractN ?_
      refine l_rd r_extract ?_
      refine l_rd r_extract ?_
      refine l_rd r_assign ?_
      refine l_rd r_assign ?_
      refine l_rd r_assign ?_
      refine l_nil ?_
      refine x_then ?_
      refine c_seq ?_
      refine c_seq ?_
      refine c_region ?_
      refine l_rd r_move ?_
      refine l_rd r_move ?_
      refine l_rd r_move ?_
      refine l_rdG [] rfl (fun hg => r_move) ?_
      first | refine l_rd r_and ?_ | refine l_rd r_pickB ?_ | refine l_rd r_pick ?_
      refine l_rd r_neB ?_
      refine l_rd r_move ?_
      refine l_rdG [] rfl (fun hg => r_move) ?_
      refine l_rdG [] rfl (fun hg => r_move) ?_
      refine l_rdG [81, 82] ⟨_, _, ⟨_, .inl ⟨rfl, rfl⟩⟩, ⟨_, _, ⟨_, .inl ⟨rfl, rfl⟩⟩, rfl, rfl⟩, rfl⟩ (fun hg => r_neB) ?_
      first | refine l_rd r_or ?_ | refine l_rd r_pickB ?_ | refine l_rd r_pick ?_
      refine l_rd r_move ?_
      refine l_rdG [] rfl (fun hg => r_move) ?_
      refine l_rdG [86] ⟨_, _, ⟨_, .inl ⟨rfl, rfl⟩⟩, rfl, rfl⟩ (fun hg => r_move) ?_
      refine l_rdG [] rfl (fun hg => r_move) ?_
      first | refine l_rdG [] rfl (fun hg => r_load) ?_ | refine l_rdG [] rfl (fun hg => r_loadE) ?_ | refine l_rdG [] rfl (fun hg => (r_loadT (hj := (by first | omega | (have hgg := hg; simp only [cond_true, cond_false, Bool.and_eq_true, Bool.or_eq_true, Bool.not_eq_true', Bool.not_eq_false', Bool.and_eq_false_imp, Bool.or_eq_false_iff, decide_eq_true_eq, decide_eq_false_iff_not] at hgg; omega))))) ?_
      refine l_rdG [] rfl (fun hg => r_move) ?_
      refine l_rdG [] rfl (fun hg => r_move) ?_
      refine l_callG [] [88, 89, 90, 91] ⟨_, _, ⟨_, .inl ⟨rfl, rfl⟩⟩, ⟨_, _, ⟨_, .inl ⟨rfl, rfl⟩⟩, ⟨_, _, ⟨_, .inl ⟨rfl, rfl⟩⟩, ⟨_, _, ⟨_, .inl ⟨rfl, rfl⟩⟩, rfl, rfl⟩, rfl⟩, rfl⟩, rfl⟩ (fun hg => chain_spec A l c root h Aa ((wayOf l root h a).getD []) ca hl (by have := hok.2.2.1; omega) hok.1 (by have := hok.2.1; omega)) Try.func13 (h := ?_)
      refine l_rdG [92] ⟨_, _, ⟨_, .inl ⟨rfl, rfl⟩⟩, rfl, rfl⟩ (fun hg => r_not) ?_
      first | refine l_rdG [87, 93] ⟨_, _, ⟨_, .inl ⟨rfl, rfl⟩⟩, ⟨_, _, ⟨_, .inr ⟨_, rfl, rfl⟩⟩, rfl, rfl⟩, rfl⟩ (fun hg => r_and) ?_ | refine l_rdG [87, 93] ⟨_, _, ⟨_, .inl ⟨rfl, rfl⟩⟩, ⟨_, _, ⟨_, .inr ⟨_, rfl, rfl⟩⟩, rfl, rfl⟩, rfl⟩ (fun hg => r_pickB) ?_ | refine l_rdG [87, 93] ⟨_, _, ⟨_, .inl ⟨rfl, rfl⟩⟩, ⟨_, _, ⟨_, .inr ⟨_, rfl, rfl⟩⟩, rfl, rfl⟩, rfl⟩ (fun hg => r_pick) ?_
      first | refine l_rd r_or ?_ | refine l_rd r_pickB ?_ | refine l_rd r_pick ?_
      refine l_nil ?_
      refine x_then ?_
      first | refine c_ifd rfl (fun h95 => ?_) (fun h95 => ?_) | refine c_ifn rfl (fun h95 => ?_) (fun h95 => ?_) | refine c_if rfl (fun h95 => ?_) (fun h95 => ?_)
      · refine c_seq ?_
        refine c_region ?_
        refine l_rd r_assign ?_
        refine l_nil ?_
        refine x_then ?_
        refine c_ret ?_
        refine x_thenR ?_
        refine k_ret [] _ (.cons (.tmp rfl) .nil) (h := ?_)
        exfalso
        revert h95
        rw [pf.ok2, pf.ok]
        cases hs : (wayOf l root h a).isSome with
        | true => obtain ⟨w, hw⟩ := Option.isSome_iff_exists.1 hs; rw [hw]; simp [(way_chain hok.1 hw).1]
        | false => simp
      · refine c_skip ?_
        refine x_then ?_
        refine c_seq ?_
        refine c_seq ?_
        refine c_region ?_
        refine l_rd r_move ?_
        refine l_rd r_not ?_
        refine l_nil ?_
        refine x_then ?_
        first | refine c_ifd rfl (fun h97 => ?_) (fun h97 => ?_) | refine c_ifn rfl (fun h97 => ?_) (fun h97 => ?_) | refine c_if rfl (fun h97 => ?_) (fun h97 => ?_)
        · refine c_seq ?_
          refine c_region ?_
          refine l_rd r_move ?_
          refine l_rd r_len ?_
          refine l_rd r_move ?_
          refine l_rd r_len ?_
          first | refine l_rd r_add ?_ | refine l_rd r_addW ?_
          refine l_rd r_eql ?_
          refine l_rd r_assign ?_
          refine l_nil ?_
          refine x_then ?_
          refine c_ret ?_
          refine x_thenR ?_
          refine k_ret [] _ (.cons (.tmp rfl) .nil) (h := ?_)
          have e := pf.no (by simpa using h97)
          rw [e.1, e.2]
          exact ⟨by simp; rfl, rfl⟩
        · obtain ⟨wa, wb, hwa, hwb, rfl, rfl, rfl, rfl⟩ := pf.yes (by simpa using h97)
          have hn := cpl_le wa wb
          have q1 : ((wa.drop (cpl wa wb)).reverse).length = wa.length - cpl wa wb := by simp
          have q2 : (wb.drop (cpl wa wb)).length = wb.length - cpl wa wb := by simp
          have q3 : ((wb.drop (cpl wa wb)).reverse).length = wb.length - cpl wa wb := by simp
          have q4 : (wa.drop (cpl wa wb)).length = wa.length - cpl wa wb := by simp
          have q5 : ((wayOf l root h a).getD []).length = wa.length := by rw [hwa]; rfl
          have q6 : ((wayOf l root h b).getD []).length = wb.length := by rw [hwb]; rfl
          refine c_skip ?_
          refine x_then ?_
          refine c_seq ?_
          refine c_region ?_
          refine l_rd r_move ?_
          refine l_rd r_len ?_
          refine l_rd r_move ?_
          refine l_rd r_len ?_
          first | refine l_rd r_sub ?_ | refine l_rd r_subW ?_
          refine l_rd r_assign ?_
          refine l_nil ?_
          refine x_then ?_
          refine c_seq ?_
          refine c_seq ?_
          refine c_draw (.q 0 (.q 1 (.q 2 (.q 3 (.q 4 (.q 5 (.q 6 (.q 7 (.q 8 (.q 9 (.q 10 (.q 11 (.q 12 (.q 13 (.q 14 (.q 15 (.q 16 (.q 17 (.q 18 (.q 19 (.q 20 (.q 21 (.q 22 (.q 23 (.q 24 (.q 25 (.q 26 (.q 27 (.q 28 (.q 29 (.q 30 (.q 31 (.q 32 (.q 33 (.q 34 (.q 35 (.q 36 (.q 37 (.q 38 (.q 39 (.q 40 (.q 41 (.q 42 (.q 43 (.q 44 .nil))))))))))))))))))))))))))))))))))))))))))))) [10005, 10008, 10009, 21600, 21601, 21602, 21603, 10035, 22050, 22051, 22052, 22053, 22450, 22451, 22452, 22453, 22750, 22751, 22752, 22753, 23100, 23101, 23102, 23103, 23500, 23501, 23502, 23503, 24600, 24601, 24602, 24603, 10099, 10101, 10105, 10107, 10114, 10116, 10122, 10124, 10129, 10131, 10136, 10140, 10156, 10166, 10176, 10190, 10208, 31100, 31101, 31102, 31103, 10225, 31750, 31751, 31752, 31753, 10028, 33100, 33101, 33102, 33103, 10268, 10270, 10275, 10280] (hm := by kernel_rfl) (hs := by kernel_rfl) (hk := by kernel_rfl) (hQ := fun d v c a w h => by cases d <;> exact h) (h := ?_)
          refine q_rd rfl r_move ?_
          refine q_rd rfl r_lss ?_
          refine q_rd rfl r_move ?_
          refine q_rdG rfl [] rfl (fun hg => r_move) ?_
          refine q_rdG rfl [] rfl (fun hg => r_move) ?_
          refine q_rdG rfl [113] ⟨_, _, ⟨_, .inl ⟨rfl, rfl⟩⟩, rfl, rfl⟩ (fun hg => r_len) ?_
          refine q_rdG rfl [] rfl (fun hg => r_move) ?_
          refine q_rdG rfl [115] ⟨_, _, ⟨_, .inl ⟨rfl, rfl⟩⟩, rfl, rfl⟩ (fun hg => r_len) ?_
          first | refine q_rdG rfl [114, 116] ⟨_, _, ⟨_, .inl ⟨rfl, rfl⟩⟩, ⟨_, _, ⟨_, .inl ⟨rfl, rfl⟩⟩, rfl, rfl⟩, rfl⟩ (fun hg => r_sub) ?_ | refine q_rdG rfl [114, 116] ⟨_, _, ⟨_, .inl ⟨rfl, rfl⟩⟩, ⟨_, _, ⟨_, .inl ⟨rfl, rfl⟩⟩, rfl, rfl⟩, rfl⟩ (fun hg => r_subW) ?_
          refine q_rdG rfl [112, 117] ⟨_, _, ⟨_, .inl ⟨rfl, rfl⟩⟩, ⟨_, _, ⟨_, .inl ⟨rfl, rfl⟩⟩, rfl, rfl⟩, rfl⟩ (fun hg => r_neq) ?_
          first | refine q_rd rfl r_or ?_ | refine q_rd rfl r_pickB ?_ | refine q_rd rfl r_pick ?_
          refine q_rd rfl r_move ?_
          refine q_rdG rfl [] rfl (fun hg => r_move) ?_
          refine q_rdG rfl [121] ⟨_, _, ⟨_, .inl ⟨rfl, rfl⟩⟩, rfl, rfl⟩ (fun hg => r_len) ?_
          refine q_rdG rfl [] rfl (fun hg => r_move) ?_
          refine q_rdG rfl [123] ⟨_, _, ⟨_, .inl ⟨rfl, rfl⟩⟩, rfl, rfl⟩ (fun hg => r_len) ?_
          refine q_rdG rfl [122, 124] ⟨_, _, ⟨_, .inl ⟨rfl, rfl⟩⟩, ⟨_, _, ⟨_, .inl ⟨rfl, rfl⟩⟩, rfl, rfl⟩, rfl⟩ (fun hg => r_neq) ?_
          first | refine q_rd rfl r_or ?_ | refine q_rd rfl r_pickB ?_ | refine q_rd rfl r_pick ?_
          refine q_rd rfl r_move ?_
          refine q_rdG rfl [] rfl (fun hg => r_move) ?_
          refine q_rdG rfl [128] ⟨_, _, ⟨_, .inl ⟨rfl, rfl⟩⟩, rfl, rfl⟩ (fun hg => r_len) ?_
          refine q_rdG rfl [] rfl (fun hg => r_move) ?_
          refine q_rdG rfl [130] ⟨_, _, ⟨_, .inl ⟨rfl, rfl⟩⟩, rfl, rfl⟩ (fun hg => r_len) ?_
          refine q_rdG rfl [129, 131] ⟨_, _, ⟨_, .inl ⟨rfl, rfl⟩⟩, ⟨_, _, ⟨_, .inl ⟨rfl, rfl⟩⟩, rfl, rfl⟩, rfl⟩ (fun hg => r_neq) ?_
          first | refine q_rd rfl r_or ?_ | refine q_rd rfl r_pickB ?_ | refine q_rd rfl r_pick ?_
          refine q_rd rfl r_move ?_
          refine q_rdG rfl [] rfl (fun hg => r_move) ?_
          refine q_rdG rfl [135] ⟨_, _, ⟨_, .inl ⟨rfl, rfl⟩⟩, rfl, rfl⟩ (fun hg => r_len) ?_
          refine q_rdG rfl [136] ⟨_, _, ⟨_, .inl ⟨rfl, rfl⟩⟩, rfl, rfl⟩ (fun hg => r_gtr) ?_
          refine q_rdG rfl [137] ⟨_, _, ⟨_, .inl ⟨rfl, rfl⟩⟩, rfl, rfl⟩ (fun hg => r_move) ?_
          refine q_rdG rfl [] rfl (fun hg => r_move) ?_
          refine q_rdG rfl [139] ⟨_, _, ⟨_, .inl ⟨rfl, rfl⟩⟩, rfl, rfl⟩ (fun hg => r_len) ?_
          refine q_rdG rfl [140] ⟨_, _, ⟨_, .inl ⟨rfl, rfl⟩⟩, rfl, rfl⟩ (fun hg => r_gtr) ?_
          first | refine q_rdG rfl [138, 141] ⟨_, _, ⟨_, .inl ⟨rfl, rfl⟩⟩, ⟨_, _, ⟨_, .inr ⟨_, rfl, rfl⟩⟩, rfl, rfl⟩, rfl⟩ (fun hg => r_and) ?_ | refine q_rdG rfl [138, 141] ⟨_, _, ⟨_, .inl ⟨rfl, rfl⟩⟩, ⟨_, _, ⟨_, .inr ⟨_, rfl, rfl⟩⟩, rfl, rfl⟩, rfl⟩ (fun hg => r_pickB) ?_ | refine q_rdG rfl [138, 141] ⟨_, _, ⟨_, .inl ⟨rfl, rfl⟩⟩, ⟨_, _, ⟨_, .inr ⟨_, rfl, rfl⟩⟩, rfl, rfl⟩, rfl⟩ (fun hg => r_pick) ?_
          refine q_rdG rfl [142] ⟨_, _, ⟨_, .inl ⟨rfl, rfl⟩⟩, rfl, rfl⟩ (fun hg => r_move) ?_
          refine q_rdG rfl [] rfl (fun hg => r_move) ?_
          refine q_rdG rfl [] rfl (fun hg => r_move) ?_
          refine q_rdG rfl [144, 145] ⟨_, _, ⟨_, .inl ⟨rfl, rfl⟩⟩, ⟨_, _, ⟨_, .inl ⟨rfl, rfl⟩⟩, rfl, rfl⟩, rfl⟩ (fun hg => (r_indexT (hj := (by first | omega | (have hgg := hg; simp only [cond_true, cond_false, Bool.and_eq_true, Bool.or_eq_true, Bool.not_eq_true', Bool.not_eq_false', Bool.and_eq_false_imp, Bool.or_eq_false_iff, decide_eq_true_eq, decide_eq_false_iff_not] at hgg; omega))))) ?_
          first | refine q_rdG rfl [146] ⟨_, _, ⟨_, .inl ⟨rfl, rfl⟩⟩, rfl, rfl⟩ (fun hg => r_load) ?_ | refine q_rdG rfl [146] ⟨_, _, ⟨_, .inl ⟨rfl, rfl⟩⟩, rfl, rfl⟩ (fun hg => r_loadE) ?_ | refine q_rdG rfl [146] ⟨_, _, ⟨_, .inl ⟨rfl, rfl⟩⟩, rfl, rfl⟩ (fun hg => (r_loadT (hj := (by first | omega | (have hgg := hg; simp only [cond_true, cond_false, Bool.and_eq_true, Bool.or_eq_true, Bool.not_eq_true', Bool.not_eq_false', Bool.and_eq_false_imp, Bool.or_eq_false_iff, decide_eq_true_eq, decide_eq_false_iff_not] at hgg; omega))))) ?_
          refine q_rdG rfl [] rfl (fun hg => r_move) ?_
          refine q_rdG rfl [148] ⟨_, _, ⟨_, .inl ⟨rfl, rfl⟩⟩, rfl, rfl⟩ (fun hg => (r_indexT (hj := (by first | omega | (have hgg := hg; simp only [cond_true, cond_false, Bool.and_eq_true, Bool.or_eq_true, Bool.not_eq_true', Bool.not_eq_false', Bool.and_eq_false_imp, Bool.or_eq_false_iff, decide_eq_true_eq, decide_eq_false_iff_not] at hgg; omega))))) ?_
          first | refine q_rdG rfl [149] ⟨_, _, ⟨_, .inl ⟨rfl, rfl⟩⟩, rfl, rfl⟩ (fun hg => r_load) ?_ | refine q_rdG rfl [149] ⟨_, _, ⟨_, .inl ⟨rfl, rfl⟩⟩, rfl, rfl⟩ (fun hg => r_loadE) ?_ | refine q_rdG rfl [149] ⟨_, _, ⟨_, .inl ⟨rfl, rfl⟩⟩, rfl, rfl⟩ (fun hg => (r_loadT (hj := (by first | omega | (have hgg := hg; simp only [cond_true, cond_false, Bool.and_eq_true, Bool.or_eq_true, Bool.not_eq_true', Bool.not_eq_false', Bool.and_eq_false_imp, Bool.or_eq_false_iff, decide_eq_true_eq, decide_eq_false_iff_not] at hgg; omega))))) ?_
          refine q_rdG rfl [147, 150] ⟨_, _, ⟨_, .inl ⟨rfl, rfl⟩⟩, ⟨_, _, ⟨_, .inl ⟨rfl, rfl⟩⟩, rfl, rfl⟩, rfl⟩ (fun hg => r_eqH) ?_
          first | refine q_rdG rfl [143, 151] ⟨_, _, ⟨_, .inl ⟨rfl, rfl⟩⟩, ⟨_, _, ⟨_, .inr ⟨_, rfl, rfl⟩⟩, rfl, rfl⟩, rfl⟩ (fun hg => r_and) ?_ | refine q_rdG rfl [143, 151] ⟨_, _, ⟨_, .inl ⟨rfl, rfl⟩⟩, ⟨_, _, ⟨_, .inr ⟨_, rfl, rfl⟩⟩, rfl, rfl⟩, rfl⟩ (fun hg => r_pickB) ?_ | refine q_rdG rfl [143, 151] ⟨_, _, ⟨_, .inl ⟨rfl, rfl⟩⟩, ⟨_, _, ⟨_, .inr ⟨_, rfl, rfl⟩⟩, rfl, rfl⟩, rfl⟩ (fun hg => r_pick) ?_
          first | refine q_rd rfl r_or ?_ | refine q_rd rfl r_pickB ?_ | refine q_rd rfl r_pick ?_
          refine s_nil ?_
          refine x_then ?_
          first | refine c_ifd rfl (fun h153 => ?_) (fun h153 => ?_) | refine c_ifn rfl (fun h153 => ?_) (fun h153 => ?_) | refine c_if rfl (fun h153 => ?_) (fun h153 => ?_)
          · refine c_seq ?_
            refine c_region ?_
            refine l_rd r_assign ?_
            refine l_nil ?_
            refine x_then ?_
            refine c_ret ?_
            refine x_thenR ?_
            refine k_ret [] _ (.cons (.tmp rfl) .nil) (h := ?_)
            exfalso
            simp only [hwa, hwb, Option.getD_some, q1, q2, q3, q4] at h153
            simp only [Bool.or_eq_true, Bool.and_eq_true, decide_eq_true_eq, Bool.not_eq_true', decide_eq_false_iff_not] at h153
            rcases h153 with (((h | h) | h) | h) | ⟨⟨h1, h2⟩, h3⟩
            · omega
            · omega
            · exact h trivial
            · exact h trivial
            · rw [getD_drop, show ((wa.length : Int) - ((wa.length - cpl wa wb : Nat) : Int)).toNat = cpl wa wb by omega] at h3
              exact cpl_ne wa wb _ _ (getD_some default (by omega)) (getD_some default (by omega)) h3
          · refine c_skip ?_
            refine x_then ?_
            refine c_seq ?_
            refine c_seq ?_
            refine c_region ?_
            refine l_rd r_assign ?_
            refine l_nil ?_
            refine x_then ?_
            refine c_block ?_
            refine c_loopA (fun m E H => ∃ (k : Nat), E = [(24, vint (k : Nat))] ∧ H = [] ∧ m = (wa.length - cpl wa wb) - k ∧ k ≤ (wa.length - cpl wa wb)) [0, 1, 2, 3, 4, 5, 8, 9, 11, 12, 13, 14, 15, 16, 17, 18, 19, 20, 21, 22, 23, 25, 26, 27, 28, 29, 30, 31, 32, 33, 34, 35, 36, 37, 38, 39, 40, 41, 42, 43, 44, 45, 46, 47, 48, 49, 50, 51, 52, 53, 54, 55, 56, 57, 58, 59, 60, 61, 62, 63, 64, 65, 66, 67, 68, 69, 70, 71, 72, 73, 74, 75, 76, 77, 78, 79, 80, 81, 82, 83, 84, 85, 86, 87, 88, 89, 90, 91, 92, 93, 94, 95, 96, 97, 98, 99, 100, 101, 102, 103, 104, 105, 106, 107, 108, 109, 110, 111, 112, 113, 114, 115, 116, 117, 118, 119, 120, 121, 122, 123, 124, 125, 126, 127, 128, 129, 130, 131, 132, 133, 134, 135, 136, 137, 138, 139, 140, 141, 142, 143, 144, 145, 146, 147, 148, 149, 150, 151, 152, 153, 188, 189, 190, 191, 192, 193, 194, 195, 196, 197, 198, 199, 200, 201, 202, 203, 204, 205, 206, 207, 208, 209, 210, 211, 212, 213, 214, 215, 216, 217, 218, 219, 220, 221, 222, 223, 224, 225, 226, 227, 228, 229, 230, 231, 232, 233, 234, 235, 236, 237, 238, 239, 240, 241, 242, 243, 244, 245, 246, 247, 248, 249, 250, 251, 252, 253, 254, 255, 256, 257, 258, 259, 260, 261, 262, 263, 264, 265, 266, 267, 268, 269, 270, 271, 272, 273, 274, 275, 276, 277, 278, 279, 280, 281, 282, 283, 284, 285, 286, 287]  ((wa.length - cpl wa wb)) ([(24, vint (0 : Nat))]) ([]) rfl rfl (⟨0, rfl, rfl, by omega, by omega⟩) (by repeat (first | exact trivial | refine ⟨⟨_, rfl, (by first | rfl | exact den_int (by omega))⟩, ?_⟩)) (by repeat (first | exact trivial | refine ⟨rfl, ?_⟩)) rfl (fun _ _ _ hI => ?_)
            obtain ⟨k, rfl, rfl, hmk, hk⟩ := hI
            refine c_seq ?_
            refine c_seq ?_
            refine c_region ?_
            refine l_rd r_move ?_
            refine l_rd r_move ?_
            refine l_rd r_len ?_
            refine l_rd r_lss ?_
            refine l_nil ?_
            refine x_then ?_
            first | refine c_ifd rfl (fun h157 => ?_) (fun h157 => ?_) | refine c_ifn rfl (fun h157 => ?_) (fun h157 => ?_) | refine c_if rfl (fun h157 => ?_) (fun h157 => ?_)
            · refine c_skip ?_
              refine x_then ?_
              refine c_seq ?_
              refine c_block ?_
              refine c_seq ?_
              refine c_draw (.q 0 (.q 1 (.q 2 (.q 3 (.q 4 (.q 5 (.q 6 (.q 7 (.q 8 (.q 9 (.q 10 (.q 11 (.q 12 (.q 13 (.q 14 (.q 15 (.q 16 (.q 17 (.q 18 (.q 19 (.q 20 (.q 21 (.q 22 (.q 23 (.q 24 (.q 25 (.q 26 (.q 27 .nil)))))))))))))))))))))))))))) [10005, 10008, 10009, 21600, 21601, 21602, 21603, 10035, 22050, 22051, 22052, 22053, 22450, 22451, 22452, 22453, 22750, 22751, 22752, 22753, 23100, 23101, 23102, 23103, 23500, 23501, 23502, 23503, 24600, 24601, 24602, 24603, 10099, 10101, 10105, 10107, 10114, 10116, 10122, 10124, 10129, 10131, 10136, 10140, 10156, 10166, 10176, 10190, 10208, 31100, 31101, 31102, 31103, 10225, 31750, 31751, 31752, 31753, 10028, 33100, 33101, 33102, 33103, 10268, 10270, 10275, 10280] (hm := by kernel_rfl) (hs := by kernel_rfl) (hk := by kernel_rfl) (hQ := fun d v c a w h => by cases d <;> exact h) (h := ?_)
              refine q_rd rfl r_move ?_
              refine q_rd rfl r_move ?_
              first | refine q_ix rfl (fun ad162 y162 hA162 h162 => ?_) | refine q_rd rfl (r_indexT (hj := by omega)) ?_
              first | refine q_rd rfl r_load ?_ | refine q_rd rfl r_loadE ?_ | refine q_rd rfl (r_loadT (hj := by omega)) ?_
              refine q_rd rfl r_move ?_
              refine q_rd rfl r_move ?_
              refine q_rd rfl r_len ?_
              first | refine q_rd rfl r_sub ?_ | refine q_rd rfl r_subW ?_
              refine q_rd rfl r_move ?_
              first | refine q_rd rfl r_sub ?_ | refine q_rd rfl r_subW ?_
              first | refine q_ix rfl (fun ad170 y170 hA170 h170 => ?_) | refine q_rd rfl (r_indexT (hj := by omega)) ?_
              first | refine q_rd rfl r_load ?_ | refine q_rd rfl r_loadE ?_ | refine q_rd rfl (r_loadT (hj := by omega)) ?_
              refine q_rd rfl r_neH ?_
              refine q_rd rfl r_move ?_
              refine q_rdG rfl [] rfl (fun hg => r_move) ?_
              refine q_rdG rfl [] rfl (fun hg => r_move) ?_
              refine q_rdG rfl [175] ⟨_, _, ⟨_, .inl ⟨rfl, rfl⟩⟩, rfl, rfl⟩ (fun hg => r_len) ?_
              first | refine q_rdG rfl [176] ⟨_, _, ⟨_, .inl ⟨rfl, rfl⟩⟩, rfl, rfl⟩ (fun hg => r_sub) ?_ | refine q_rdG rfl [176] ⟨_, _, ⟨_, .inl ⟨rfl, rfl⟩⟩, rfl, rfl⟩ (fun hg => r_subW) ?_
              refine q_rdG rfl [] rfl (fun hg => r_move) ?_
              first | refine q_rdG rfl [177, 178] ⟨_, _, ⟨_, .inl ⟨rfl, rfl⟩⟩, ⟨_, _, ⟨_, .inl ⟨rfl, rfl⟩⟩, rfl, rfl⟩, rfl⟩ (fun hg => r_sub) ?_ | refine q_rdG rfl [177, 178] ⟨_, _, ⟨_, .inl ⟨rfl, rfl⟩⟩, ⟨_, _, ⟨_, .inl ⟨rfl, rfl⟩⟩, rfl, rfl⟩, rfl⟩ (fun hg => r_subW) ?_
              refine q_rdG rfl [174, 179] ⟨_, _, ⟨_, .inl ⟨rfl, rfl⟩⟩, ⟨_, _, ⟨_, .inl ⟨rfl, rfl⟩⟩, rfl, rfl⟩, rfl⟩ (fun hg => (r_indexT (hj := (by first | omega | (have hgg := hg; simp only [cond_true, cond_false, Bool.and_eq_true, Bool.or_eq_true, Bool.not_eq_true', Bool.not_eq_false', Bool.and_eq_false_imp, Bool.or_eq_false_iff, decide_eq_true_eq, decide_eq_false_iff_not] at hgg; omega))))) ?_
              first | refine q_rdG rfl [180] ⟨_, _, ⟨_, .inl ⟨rfl, rfl⟩⟩, rfl, rfl⟩ (fun hg => r_load) ?_ | refine q_rdG rfl [180] ⟨_, _, ⟨_, .inl ⟨rfl, rfl⟩⟩, rfl, rfl⟩ (fun hg => r_loadE) ?_ | refine q_rdG rfl [180] ⟨_, _, ⟨_, .inl ⟨rfl, rfl⟩⟩, rfl, rfl⟩ (fun hg => (r_loadT (hj := (by first | omega | (have hgg := hg; simp only [cond_true, cond_false, Bool.and_eq_true, Bool.or_eq_true, Bool.not_eq_true', Bool.not_eq_false', Bool.and_eq_false_imp, Bool.or_eq_false_iff, decide_eq_true_eq, decide_eq_false_iff_not] at hgg; omega))))) ?_
              refine q_rdG rfl [] rfl (fun hg => r_move) ?_
              refine q_rdG rfl [] rfl (fun hg => r_move) ?_
              refine q_rdG rfl [182, 183] ⟨_, _, ⟨_, .inl ⟨rfl, rfl⟩⟩, ⟨_, _, ⟨_, .inl ⟨rfl, rfl⟩⟩, rfl, rfl⟩, rfl⟩ (fun hg => (r_indexT (hj := (by first | omega | (have hgg := hg; simp only [cond_true, cond_false, Bool.and_eq_true, Bool.or_eq_true, Bool.not_eq_true', Bool.not_eq_false', Bool.and_eq_false_imp, Bool.or_eq_false_iff, decide_eq_true_eq, decide_eq_false_iff_not] at hgg; omega))))) ?_
              first | refine q_rdG rfl [184] ⟨_, _, ⟨_, .inl ⟨rfl, rfl⟩⟩, rfl, rfl⟩ (fun hg => r_load) ?_ | refine q_rdG rfl [184] ⟨_, _, ⟨_, .inl ⟨rfl, rfl⟩⟩, rfl, rfl⟩ (fun hg => r_loadE) ?_ | refine q_rdG rfl [184] ⟨_, _, ⟨_, .inl ⟨rfl, rfl⟩⟩, rfl, rfl⟩ (fun hg => (r_loadT (hj := (by first | omega | (have hgg := hg; simp only [cond_true, cond_false, Bool.and_eq_true, Bool.or_eq_true, Bool.not_eq_true', Bool.not_eq_false', Bool.and_eq_false_imp, Bool.or_eq_false_iff, decide_eq_true_eq, decide_eq_false_iff_not] at hgg; omega))))) ?_
              refine q_rdG rfl [181, 185] ⟨_, _, ⟨_, .inl ⟨rfl, rfl⟩⟩, ⟨_, _, ⟨_, .inl ⟨rfl, rfl⟩⟩, rfl, rfl⟩, rfl⟩ (fun hg => r_neH) ?_
              first | refine q_rd rfl r_or ?_ | refine q_rd rfl r_pickB ?_ | refine q_rd rfl r_pick ?_
              refine s_nil ?_
              refine x_then ?_
              first | refine c_ifd rfl (fun h187 => ?_) (fun h187 => ?_) | refine c_ifn rfl (fun h187 => ?_) (fun h187 => ?_) | refine c_if rfl (fun h187 => ?_) (fun h187 => ?_)
              · refine c_seq ?_
                refine c_region ?_
                refine l_rd r_assign ?_
                refine l_nil ?_
                refine x_then ?_
                refine c_ret ?_
                refine x_inR (x_thenR (x_thenR (x_inR (x_thenR ?_))))
                refine k_ret [] _ (.cons (.tmp rfl) .nil) (h := ?_)
                exfalso
                simp only [hwa, Option.getD_some, q4] at h187
                simp only [Bool.or_eq_true, decide_eq_true_eq, Bool.not_eq_true', decide_eq_false_iff_not] at h187
                have h5 := drop_rev h162
                rcases h187 with h | h
                · exact h (getD_of (by rw [show ((wa.length : Int) - 1 - (k : Int)).toNat = wa.length - 1 - k by omega]; exact h5)).symm
                · refine h ?_
                  rw [getD_rev (by omega), q4]
                  congr 1
                  omega
              · refine c_skip ?_
                refine x_in (x_then ?_)
                refine c_region ?_
                refine l_rd r_move ?_
                first | refine l_rd r_add ?_ | refine l_rd r_addW ?_
                refine l_rd r_assign ?_
                refine l_nil ?_
                refine x_then ?_
                refine k_again ((wa.length - cpl wa wb) - (k + 1)) ⟨k + 1, rfl, rfl, by omega, by omega⟩ (by omega) (by repeat (first | exact trivial | refine ⟨⟨_, rfl, (by first | rfl | exact den_int (by omega))⟩, ?_⟩)) (by repeat (first | exact trivial | refine ⟨rfl, ?_⟩))
            · refine c_exit ?_
              refine x_thenE (x_thenE (x_inE (x_then ?_)))
              refine c_seq ?_
              refine c_seq ?_
              refine c_region ?_
              refine l_rd r_assign ?_
              refine l_nil ?_
              refine x_then ?_
              refine c_block ?_
              refine c_loopA (fun m E H => ∃ (k2 : Nat), E = [(25, vint (k2 : Nat))] ∧ H = [] ∧ m = (wb.length - cpl wa wb) - k2 ∧ k2 ≤ (wb.length - cpl wa wb)) [0, 1, 2, 3, 4, 5, 8, 9, 11, 12, 13, 14, 15, 16, 17, 18, 19, 20, 21, 22, 23, 24, 26, 27, 28, 29, 30, 31, 32, 33, 34, 35, 36, 37, 38, 39, 40, 41, 42, 43, 44, 45, 46, 47, 48, 49, 50, 51, 52, 53, 54, 55, 56, 57, 58, 59, 60, 61, 62, 63, 64, 65, 66, 67, 68, 69, 70, 71, 72, 73, 74, 75, 76, 77, 78, 79, 80, 81, 82, 83, 84, 85, 86, 87, 88, 89, 90, 91, 92, 93, 94, 95, 96, 97, 98, 99, 100, 101, 102, 103, 104, 105, 106, 107, 108, 109, 110, 111, 112, 113, 114, 115, 116, 117, 118, 119, 120, 121, 122, 123, 124, 125, 126, 127, 128, 129, 130, 131, 132, 133, 134, 135, 136, 137, 138, 139, 140, 141, 142, 143, 144, 145, 146, 147, 148, 149, 150, 151, 152, 153, 154, 155, 156, 157, 158, 159, 160, 161, 162, 163, 164, 165, 166, 167, 168, 169, 170, 171, 172, 173, 174, 175, 176, 177, 178, 179, 180, 181, 182, 183, 184, 185, 186, 187, 220, 221, 222, 223, 224, 225, 226, 227, 228, 229, 230, 231, 232, 233, 234, 235, 236, 237, 238, 239, 240, 241, 242, 243, 244, 245, 246, 247, 248, 249, 250, 251, 252, 253, 254, 255, 256, 257, 258, 259, 260, 261, 262, 263, 264, 265, 266, 267, 268, 269, 270, 271, 272, 273, 274, 275, 276, 277, 278, 279, 280, 281, 282, 283, 284, 285, 286, 287]  ((wb.length - cpl wa wb)) ([(25, vint (0 : Nat))]) ([]) rfl rfl (⟨0, rfl, rfl, by omega, by omega⟩) (by repeat (first | exact trivial | refine ⟨⟨_, rfl, (by first | rfl | exact den_int (by omega))⟩, ?_⟩)) (by repeat (first | exact trivial | refine ⟨rfl, ?_⟩)) rfl (fun _ _ _ hI => ?_)
              obtain ⟨k2, rfl, rfl, hmk2, hk2⟩ := hI
              refine c_seq ?_
              refine c_seq ?_
              refine c_region ?_
              refine l_rd r_move ?_
              refine l_rd r_move ?_
              refine l_rd r_len ?_
              refine l_rd r_lss ?_
              refine l_nil ?_
              refine x_then ?_
              first | refine c_ifd rfl (fun h191 => ?_) (fun h191 => ?_) | refine c_ifn rfl (fun h191 => ?_) (fun h191 => ?_) | refine c_if rfl (fun h191 => ?_) (fun h191 => ?_)
              · refine c_skip ?_
                refine x_then ?_
                refine c_seq ?_
                refine c_block ?_
                refine c_seq ?_
                refine c_draw (.q 0 (.q 1 (.q 2 (.q 3 (.q 4 (.q 5 (.q 6 (.q 7 (.q 8 (.q 9 (.q 10 (.q 11 (.q 12 (.q 13 (.q 14 (.q 15 (.q 16 (.q 17 (.q 18 (.q 19 (.q 20 (.q 21 (.q 22 (.q 23 (.q 24 (.q 25 .nil)))))))))))))))))))))))))) [10005, 10008, 10009, 21600, 21601, 21602, 21603, 10035, 22050, 22051, 22052, 22053, 22450, 22451, 22452, 22453, 22750, 22751, 22752, 22753, 23100, 23101, 23102, 23103, 23500, 23501, 23502, 23503, 24600, 24601, 24602, 24603, 10099, 10101, 10105, 10107, 10114, 10116, 10122, 10124, 10129, 10131, 10136, 10140, 10156, 10166, 10176, 10190, 10208, 31100, 31101, 31102, 31103, 10225, 31750, 31751, 31752, 31753, 10028, 33100, 33101, 33102, 33103, 10268, 10270, 10275, 10280] (hm := by kernel_rfl) (hs := by kernel_rfl) (hk := by kernel_rfl) (hQ := fun d v c a w h => by cases d <;> exact h) (h := ?_)
                refine q_rd rfl r_move ?_
                refine q_rd rfl r_move ?_
                first | refine q_ix rfl (fun ad196 y196 hA196 h196 => ?_) | refine q_rd rfl (r_indexT (hj := by omega)) ?_
                first | refine q_rd rfl r_load ?_ | refine q_rd rfl r_loadE ?_ | refine q_rd rfl (r_loadT (hj := by omega)) ?_
                refine q_rd rfl r_move ?_
                refine q_rd rfl r_move ?_
                refine q_rd rfl r_move ?_
                first | refine q_rd rfl r_add ?_ | refine q_rd rfl r_addW ?_
                first | refine q_ix rfl (fun ad202 y202 hA202 h202 => ?_) | refine q_rd rfl (r_indexT (hj := by omega)) ?_
                first | refine q_rd rfl r_load ?_ | refine q_rd rfl r_loadE ?_ | refine q_rd rfl (r_loadT (hj := by omega)) ?_
                refine q_rd rfl r_neH ?_
                refine q_rd rfl r_move ?_
                refine q_rdG rfl [] rfl (fun hg => r_move) ?_
                refine q_rdG rfl [] rfl (fun hg => r_move) ?_
                refine q_rdG rfl [207] ⟨_, _, ⟨_, .inl ⟨rfl, rfl⟩⟩, rfl, rfl⟩ (fun hg => r_len) ?_
                first | refine q_rdG rfl [208] ⟨_, _, ⟨_, .inl ⟨rfl, rfl⟩⟩, rfl, rfl⟩ (fun hg => r_sub) ?_ | refine q_rdG rfl [208] ⟨_, _, ⟨_, .inl ⟨rfl, rfl⟩⟩, rfl, rfl⟩ (fun hg => r_subW) ?_
                refine q_rdG rfl [] rfl (fun hg => r_move) ?_
                first | refine q_rdG rfl [209, 210] ⟨_, _, ⟨_, .inl ⟨rfl, rfl⟩⟩, ⟨_, _, ⟨_, .inl ⟨rfl, rfl⟩⟩, rfl, rfl⟩, rfl⟩ (fun hg => r_sub) ?_ | refine q_rdG rfl [209, 210] ⟨_, _, ⟨_, .inl ⟨rfl, rfl⟩⟩, ⟨_, _, ⟨_, .inl ⟨rfl, rfl⟩⟩, rfl, rfl⟩, rfl⟩ (fun hg => r_subW) ?_
                refine q_rdG rfl [206, 211] ⟨_, _, ⟨_, .inl ⟨rfl, rfl⟩⟩, ⟨_, _, ⟨_, .inl ⟨rfl, rfl⟩⟩, rfl, rfl⟩, rfl⟩ (fun hg => (r_indexT (hj := (by first | omega | (have hgg := hg; simp only [cond_true, cond_false, Bool.and_eq_true, Bool.or_eq_true, Bool.not_eq_true', Bool.not_eq_false', Bool.and_eq_false_imp, Bool.or_eq_false_iff, decide_eq_true_eq, decide_eq_false_iff_not] at hgg; omega))))) ?_
                first | refine q_rdG rfl [212] ⟨_, _, ⟨_, .inl ⟨rfl, rfl⟩⟩, rfl, rfl⟩ (fun hg => r_load) ?_ | refine q_rdG rfl [212] ⟨_, _, ⟨_, .inl ⟨rfl, rfl⟩⟩, rfl, rfl⟩ (fun hg => r_loadE) ?_ | refine q_rdG rfl [212] ⟨_, _, ⟨_, .inl ⟨rfl, rfl⟩⟩, rfl, rfl⟩ (fun hg => (r_loadT (hj := (by first | omega | (have hgg := hg; simp only [cond_true, cond_false, Bool.and_eq_true, Bool.or_eq_true, Bool.not_eq_true', Bool.not_eq_false', Bool.and_eq_false_imp, Bool.or_eq_false_iff, decide_eq_true_eq, decide_eq_false_iff_not] at hgg; omega))))) ?_
                refine q_rdG rfl [] rfl (fun hg => r_move) ?_
                refine q_rdG rfl [] rfl (fun hg => r_move) ?_
                refine q_rdG rfl [214, 215] ⟨_, _, ⟨_, .inl ⟨rfl, rfl⟩⟩, ⟨_, _, ⟨_, .inl ⟨rfl, rfl⟩⟩, rfl, rfl⟩, rfl⟩ (fun hg => (r_indexT (hj := (by first | omega | (have hgg := hg; simp only [cond_true, cond_false, Bool.and_eq_true, Bool.or_eq_true, Bool.not_eq_true', Bool.not_eq_false', Bool.and_eq_false_imp, Bool.or_eq_false_iff, decide_eq_true_eq, decide_eq_false_iff_not] at hgg; omega))))) ?_
                first | refine q_rdG rfl [216] ⟨_, _, ⟨_, .inl ⟨rfl, rfl⟩⟩, rfl, rfl⟩ (fun hg => r_load) ?_ | refine q_rdG rfl [216] ⟨_, _, ⟨_, .inl ⟨rfl, rfl⟩⟩, rfl, rfl⟩ (fun hg => r_loadE) ?_ | refine q_rdG rfl [216] ⟨_, _, ⟨_, .inl ⟨rfl, rfl⟩⟩, rfl, rfl⟩ (fun hg => (r_loadT (hj := (by first | omega | (have hgg := hg; simp only [cond_true, cond_false, Bool.and_eq_true, Bool.or_eq_true, Bool.not_eq_true', Bool.not_eq_false', Bool.and_eq_false_imp, Bool.or_eq_false_iff, decide_eq_true_eq, decide_eq_false_iff_not] at hgg; omega))))) ?_
                refine q_rdG rfl [213, 217] ⟨_, _, ⟨_, .inl ⟨rfl, rfl⟩⟩, ⟨_, _, ⟨_, .inl ⟨rfl, rfl⟩⟩, rfl, rfl⟩, rfl⟩ (fun hg => r_neH) ?_
                first | refine q_rd rfl r_or ?_ | refine q_rd rfl r_pickB ?_ | refine q_rd rfl r_pick ?_
                refine s_nil ?_
                refine x_then ?_
                first | refine c_ifd rfl (fun h219 => ?_) (fun h219 => ?_) | refine c_ifn rfl (fun h219 => ?_) (fun h219 => ?_) | refine c_if rfl (fun h219 => ?_) (fun h219 => ?_)
                · refine c_seq ?_
                  refine c_region ?_
                  refine l_rd r_assign ?_
                  refine l_nil ?_
                  refine x_then ?_
                  refine c_ret ?_
                  refine x_inR (x_thenR (x_thenR (x_inR (x_thenR ?_))))
                  refine k_ret [] _ (.cons (.tmp rfl) .nil) (h := ?_)
                  exfalso
                  simp only [hwa, hwb, Option.getD_some, q1, q3] at h219
                  simp only [Bool.or_eq_true, decide_eq_true_eq, Bool.not_eq_true', decide_eq_false_iff_not] at h219
                  rcases h219 with h | h
                  · refine h (getD_of ?_).symm
                    rw [List.getElem?_drop] at h196
                    rw [← h196]
                    congr 1
                    omega
                  · refine h ?_
                    rw [getD_rev (by omega), q2]
                    congr 1
                    omega
                · refine c_skip ?_
                  refine x_in (x_then ?_)
                  refine c_region ?_
                  refine l_rd r_move ?_
                  first | refine l_rd r_add ?_ | refine l_rd r_addW ?_
                  refine l_rd r_assign ?_
                  refine l_nil ?_
                  refine x_then ?_
                  refine k_again ((wb.length - cpl wa wb) - (k2 + 1)) ⟨k2 + 1, rfl, rfl, by omega, by omega⟩ (by omega) (by repeat (first | exact trivial | refine ⟨⟨_, rfl, (by first | rfl | exact den_int (by omega))⟩, ?_⟩)) (by repeat (first | exact trivial | refine ⟨rfl, ?_⟩))
              · refine c_exit ?_
                refine x_thenE (x_thenE (x_inE (x_then ?_)))
                refine c_seq ?_
                refine c_region ?_
                refine l_rd r_move ?_
                first | refine l_rd r_load ?_ | refine l_rd r_loadE ?_ | refine l_rd (r_loadT (hj := by omega)) ?_
                refine l_call 31100 [] (gone_spec g gl gk xs root h l a hks hh hok) Try.func14 (h := ?_)
                rintro _ _ (⟨ids, Ag, cg, hgo, rfl, rfl⟩)
                have hgl := hgo.2.1
                refine l_rd r_assign ?_
                refine l_nil ?_
                refine x_then ?_
                refine c_seq ?_
                refine c_seq ?_
                refine c_region ?_
                refine l_rd r_assign ?_
                refine l_nil ?_
                refine x_then ?_
                refine c_block ?_
                refine c_loopA (fun m E H => ∃ (k3 : Nat), E = [(27, vint (k3 : Nat))] ∧ H = [] ∧ m = ids.length - k3 ∧ k3 ≤ ids.length) [0, 1, 2, 3, 4, 5, 8, 9, 11, 12, 13, 14, 15, 16, 17, 18, 19, 20, 21, 22, 23, 24, 25, 26, 32, 33, 34, 35, 36, 37, 38, 39, 40, 41, 42, 43, 44, 45, 46, 47, 48, 49, 50, 51, 52, 53, 54, 55, 56, 57, 58, 59, 60, 61, 62, 63, 64, 65, 66, 67, 68, 69, 70, 71, 72, 73, 74, 75, 76, 77, 78, 79, 80, 81, 82, 83, 84, 85, 86, 87, 88, 89, 90, 91, 92, 93, 94, 95, 96, 97, 98, 99, 100, 101, 102, 103, 104, 105, 106, 107, 108, 109, 110, 111, 112, 113, 114, 115, 116, 117, 118, 119, 120, 121, 122, 123, 124, 125, 126, 127, 128, 129, 130, 131, 132, 133, 134, 135, 136, 137, 138, 139, 140, 141, 142, 143, 144, 145, 146, 147, 148, 149, 150, 151, 152, 153, 154, 155, 156, 157, 158, 159, 160, 161, 162, 163, 164, 165, 166, 167, 168, 169, 170, 171, 172, 173, 174, 175, 176, 177, 178, 179, 180, 181, 182, 183, 184, 185, 186, 187, 188, 189, 190, 191, 192, 193, 194, 195, 196, 197, 198, 199, 200, 201, 202, 203, 204, 205, 206, 207, 208, 209, 210, 211, 212, 213, 214, 215, 216, 217, 218, 219, 220, 221, 222]  (ids.length) ([(27, vint (0 : Nat))]) ([]) rfl rfl (⟨0, rfl, rfl, by omega, by omega⟩) (by repeat (first | exact trivial | refine ⟨⟨_, rfl, (by first | rfl | exact den_int (by omega))⟩, ?_⟩)) (by repeat (first | exact trivial | refine ⟨rfl, ?_⟩)) rfl (fun _ _ _ hI => ?_)
                obtain ⟨k3, rfl, rfl, hmk3, hk3⟩ := hI
                refine c_seq ?_
                refine c_seq ?_
                refine c_region ?_
                refine l_rd r_move ?_
                refine l_rd r_move ?_
                refine l_rd r_len ?_
                refine l_rd r_lss ?_
                refine l_nil ?_
                refine x_then ?_
                first | refine c_ifd rfl (fun h226 => ?_) (fun h226 => ?_) | refine c_ifn rfl (fun h226 => ?_) (fun h226 => ?_) | refine c_if rfl (fun h226 => ?_) (fun h226 => ?_)
                · refine c_skip ?_
                  refine x_then ?_
                  refine c_seq ?_
                  refine c_block ?_
                  refine c_seq ?_
                  refine c_region ?_
                  refine l_rd r_move ?_
                  refine l_rd r_move ?_
                  refine l_rd r_move ?_
                  first | refine l_ix (fun ad233 y233 hA233 h233 => ?_) | refine l_rd (r_indexT (hj := by omega)) ?_
                  first | refine l_rd r_load ?_ | refine l_rd r_loadE ?_ | refine l_rd (r_loadT (hj := by omega)) ?_
                  refine l_call 31750 [] (find_spec A l c y233 hl) Try.func15 (h := ?_)
                  rintro _ _ (⟨rfl, rfl⟩)
                  refine l_rd r_move ?_
                  first | refine l_rd r_extract ?_ | refine l_rd r_extractN ?_
                  refine l_rd r_extract ?_
                  refine l_do d_alloc (fun g28 => ?_)
                  first | refine l_do1 d_store ?_ | refine l_do1 d_storeE ?_
                  refine l_rd r_assign ?_
                  refine l_nil ?_
                  refine x_then ?_
                  refine c_seq ?_
                  refine c_seq ?_
                  refine c_draw (.q 0 (.q 1 (.q 2 (.q 3 (.q 4 (.q 5 (.q 6 (.q 7 (.q 8 (.q 9 (.q 10 (.q 11 (.q 12 (.q 13 (.q 14 (.q 15 (.q 16 (.q 17 (.q 18 (.q 19 .nil)))))))))))))))))))) [10005, 10008, 10009, 21600, 21601, 21602, 21603, 10035, 22050, 22051, 22052, 22053, 22450, 22451, 22452, 22453, 22750, 22751, 22752, 22753, 23100, 23101, 23102, 23103, 23500, 23501, 23502, 23503, 24600, 24601, 24602, 24603, 10099, 10101, 10105, 10107, 10114, 10116, 10122, 10124, 10129, 10131, 10136, 10140, 10156, 10166, 10176, 10190, 10208, 31100, 31101, 31102, 31103, 10225, 31750, 31751, 31752, 31753, 10028, 33100, 33101, 33102, 33103, 10268, 10270, 10275, 10280] (hm := by kernel_rfl) (hs := by kernel_rfl) (hk := by kernel_rfl) (hQ := fun d v c a w h => by cases d <;> exact h) (h := ?_)
                  refine q_rd rfl r_move ?_
                  refine q_rd rfl r_not ?_
                  refine q_rd rfl r_move ?_
                  refine q_rdG rfl [] rfl (fun hg => r_move) ?_
                  refine q_rdG rfl [241] ⟨_, _, ⟨_, .inl ⟨rfl, rfl⟩⟩, rfl, rfl⟩ (fun hg => r_gtr) ?_
                  refine q_rdG rfl [242] ⟨_, _, ⟨_, .inl ⟨rfl, rfl⟩⟩, rfl, rfl⟩ (fun hg => r_move) ?_
                  refine q_rdG rfl [] rfl (fun hg => r_move) ?_
                  refine q_rdG rfl [] rfl (fun hg => r_move) ?_
                  first | refine q_rdG rfl [245] ⟨_, _, ⟨_, .inl ⟨rfl, rfl⟩⟩, rfl, rfl⟩ (fun hg => r_sub) ?_ | refine q_rdG rfl [245] ⟨_, _, ⟨_, .inl ⟨rfl, rfl⟩⟩, rfl, rfl⟩ (fun hg => r_subW) ?_
                  refine q_rdG rfl [244, 246] ⟨_, _, ⟨_, .inl ⟨rfl, rfl⟩⟩, ⟨_, _, ⟨_, .inl ⟨rfl, rfl⟩⟩, rfl, rfl⟩, rfl⟩ (fun hg => (r_indexT (hj := (by first | omega | (have hgg := hg; simp only [cond_true, cond_false, Bool.and_eq_true, Bool.or_eq_true, Bool.not_eq_true', Bool.not_eq_false', Bool.and_eq_false_imp, Bool.or_eq_false_iff, decide_eq_true_eq, decide_eq_false_iff_not] at hgg; omega))))) ?_
                  first | refine q_rdG rfl [247] ⟨_, _, ⟨_, .inl ⟨rfl, rfl⟩⟩, rfl, rfl⟩ (fun hg => r_sliceArr) ?_ | refine q_rdG rfl [247] ⟨_, _, ⟨_, .inl ⟨rfl, rfl⟩⟩, rfl, rfl⟩ (fun hg => r_sliceArrE) ?_
                  first | refine q_rdG rfl [248] ⟨_, _, ⟨_, .inl ⟨rfl, rfl⟩⟩, rfl, rfl⟩ (fun hg => r_convStrV) ?_ | refine q_rdG rfl [248] ⟨_, _, ⟨_, .inl ⟨rfl, rfl⟩⟩, rfl, rfl⟩ (fun hg => r_convStrE) ?_ | refine q_rdG rfl [248] ⟨_, _, ⟨_, .inl ⟨rfl, rfl⟩⟩, rfl, rfl⟩ (fun hg => (r_convStrT (hj := (by first | omega | (have hgg := hg; simp only [cond_true, cond_false, Bool.and_eq_true, Bool.or_eq_true, Bool.not_eq_true', Bool.not_eq_false', Bool.and_eq_false_imp, Bool.or_eq_false_iff, decide_eq_true_eq, decide_eq_false_iff_not] at hgg; omega))))) ?_ | refine q_rdG rfl [248] ⟨_, _, ⟨_, .inl ⟨rfl, rfl⟩⟩, rfl, rfl⟩ (fun hg => r_convStr) ?_
                  refine q_rdG rfl [] rfl (fun hg => r_move) ?_
                  refine q_rdG rfl [] rfl (fun hg => r_move) ?_
                  refine q_rdG rfl [250, 251] ⟨_, _, ⟨_, .inl ⟨rfl, rfl⟩⟩, ⟨_, _, ⟨_, .inl ⟨rfl, rfl⟩⟩, rfl, rfl⟩, rfl⟩ (fun hg => (r_indexT (hj := (by first | omega | (have hgg := hg; simp only [cond_true, cond_false, Bool.and_eq_true, Bool.or_eq_true, Bool.not_eq_true', Bool.not_eq_false', Bool.and_eq_false_imp, Bool.or_eq_false_iff, decide_eq_true_eq, decide_eq_false_iff_not] at hgg; omega))))) ?_
                  first | refine q_rdG rfl [252] ⟨_, _, ⟨_, .inl ⟨rfl, rfl⟩⟩, rfl, rfl⟩ (fun hg => r_sliceArr) ?_ | refine q_rdG rfl [252] ⟨_, _, ⟨_, .inl ⟨rfl, rfl⟩⟩, rfl, rfl⟩ (fun hg => r_sliceArrE) ?_
                  first | refine q_rdG rfl [253] ⟨_, _, ⟨_, .inl ⟨rfl, rfl⟩⟩, rfl, rfl⟩ (fun hg => r_convStrV) ?_ | refine q_rdG rfl [253] ⟨_, _, ⟨_, .inl ⟨rfl, rfl⟩⟩, rfl, rfl⟩ (fun hg => r_convStrE) ?_ | refine q_rdG rfl [253] ⟨_, _, ⟨_, .inl ⟨rfl, rfl⟩⟩, rfl, rfl⟩ (fun hg => (r_convStrT (hj := (by first | omega | (have hgg := hg; simp only [cond_true, cond_false, Bool.and_eq_true, Bool.or_eq_true, Bool.not_eq_true', Bool.not_eq_false', Bool.and_eq_false_imp, Bool.or_eq_false_iff, decide_eq_true_eq, decide_eq_false_iff_not] at hgg; omega))))) ?_ | refine q_rdG rfl [253] ⟨_, _, ⟨_, .inl ⟨rfl, rfl⟩⟩, rfl, rfl⟩ (fun hg => r_convStr) ?_
                  refine q_rdG rfl [249, 254] ⟨_, _, ⟨_, .inl ⟨rfl, rfl⟩⟩, ⟨_, _, ⟨_, .inl ⟨rfl, rfl⟩⟩, rfl, rfl⟩, rfl⟩ (fun hg => r_geqS) ?_
                  first | refine q_rdG rfl [243, 255] ⟨_, _, ⟨_, .inl ⟨rfl, rfl⟩⟩, ⟨_, _, ⟨_, .inr ⟨_, rfl, rfl⟩⟩, rfl, rfl⟩, rfl⟩ (fun hg => r_and) ?_ | refine q_rdG rfl [243, 255] ⟨_, _, ⟨_, .inl ⟨rfl, rfl⟩⟩, ⟨_, _, ⟨_, .inr ⟨_, rfl, rfl⟩⟩, rfl, rfl⟩, rfl⟩ (fun hg => r_pickB) ?_ | refine q_rdG rfl [243, 255] ⟨_, _, ⟨_, .inl ⟨rfl, rfl⟩⟩, ⟨_, _, ⟨_, .inr ⟨_, rfl, rfl⟩⟩, rfl, rfl⟩, rfl⟩ (fun hg => r_pick) ?_
                  first | refine q_rd rfl r_or ?_ | refine q_rd rfl r_pickB ?_ | refine q_rd rfl r_pick ?_
                  refine s_nil ?_
                  refine x_then ?_
                  first | refine c_ifd rfl (fun h257 => ?_) (fun h257 => ?_) | refine c_ifn rfl (fun h257 => ?_) (fun h257 => ?_) | refine c_if rfl (fun h257 => ?_) (fun h257 => ?_)
                  · refine c_seq ?_
                    refine c_region ?_
                    refine l_rd r_assign ?_
                    refine l_nil ?_
                    refine x_then ?_
                    refine c_ret ?_
                    refine x_thenR (x_inR (x_thenR (x_thenR (x_inR (x_thenR ?_)))))
                    refine k_ret [] _ (.cons (.tmp rfl) .nil) (h := ?_)
                    exfalso
                    simp only [Bool.or_eq_true, Bool.and_eq_true, decide_eq_true_eq, Bool.not_eq_true', decide_eq_false_iff_not] at h257
                    have hmem := List.mem_of_getElem? h233
                    rcases h257 with h | ⟨h1, h2⟩
                    · rw [gone_find hgo hwa hmem] at h; cases h
                    · rw [bltS_hash] at h2
                      exact h2 (gone_lt hgo (i := k3 - 1) (by rw [show ((k3 : Int) - 1).toNat = k3 - 1 by omega]; exact getD_some default (by omega)) (by rw [show k3 - 1 + 1 = k3 by omega]; exact getD_some default (by omega)))
                  · refine c_skip ?_
                    refine x_then ?_
                    refine c_seq ?_
                    refine c_region ?_
                    refine l_rd r_move ?_
                    first | refine l_rd r_field ?_ | refine l_rd r_fieldE ?_
                    first | refine l_rd r_load ?_ | refine l_rd r_loadE ?_ | refine l_rd (r_loadT (hj := by omega)) ?_
                    refine l_call 33100 [] (way_spec g gl gk xs root h l ((findL l y233).getD leaf0).id hh hok) Try.func11 (h := ?_)
                    rintro _ _ (⟨Ay, cy, hly, rfl, rfl⟩)
                    refine l_rd r_move ?_
                    first | refine l_rd r_extract ?_ | refine l_rd r_extractN ?_
                    refine l_rd r_extract ?_
                    refine l_rd r_assign ?_
                    refine l_rd r_assign ?_
                    refine l_nil ?_
                    refine x_then ?_
                    refine c_seq ?_
                    refine c_draw (.q 0 (.q 1 (.q 2 (.q 3 (.q 4 (.q 5 (.q 6 (.q 7 (.q 8 (.q 9 (.q 10 (.q 11 (.q 12 (.q 13 (.q 14 (.q 15 (.q 16 (.q 17 (.q 18 (.q 19 (.q 20 (.q 21 (.q 22 .nil))))))))))))))))))))))) [10005, 10008, 10009, 21600, 21601, 21602, 21603, 10035, 22050, 22051, 22052, 22053, 22450, 22451, 22452, 22453, 22750, 22751, 22752, 22753, 23100, 23101, 23102, 23103, 23500, 23501, 23502, 23503, 24600, 24601, 24602, 24603, 10099, 10101, 10105, 10107, 10114, 10116, 10122, 10124, 10129, 10131, 10136, 10140, 10156, 10166, 10176, 10190, 10208, 31100, 31101, 31102, 31103, 10225, 31750, 31751, 31752, 31753, 10028, 33100, 33101, 33102, 33103, 10268, 10270, 10275, 10280] (hm := by kernel_rfl) (hs := by kernel_rfl) (hk := by kernel_rfl) (hQ := fun d v c a w h => by cases d <;> exact h) (h := ?_)
                    refine q_rd rfl r_move ?_
                    refine q_rd rfl r_move ?_
                    refine q_rdG rfl [] rfl (fun hg => r_move) ?_
                    refine q_rdG rfl [267] ⟨_, _, ⟨_, .inl ⟨rfl, rfl⟩⟩, rfl, rfl⟩ (fun hg => r_len) ?_
                    refine q_rdG rfl [] rfl (fun hg => r_move) ?_
                    refine q_rdG rfl [269] ⟨_, _, ⟨_, .inl ⟨rfl, rfl⟩⟩, rfl, rfl⟩ (fun hg => r_len) ?_
                    refine q_rdG rfl [268, 270] ⟨_, _, ⟨_, .inl ⟨rfl, rfl⟩⟩, ⟨_, _, ⟨_, .inl ⟨rfl, rfl⟩⟩, rfl, rfl⟩, rfl⟩ (fun hg => r_gtr) ?_
                    first | refine q_rd rfl r_and ?_ | refine q_rd rfl r_pickB ?_ | refine q_rd rfl r_pick ?_
                    refine q_rd rfl r_move ?_
                    refine q_rdG rfl [] rfl (fun hg => r_move) ?_
                    refine q_rdG rfl [274] ⟨_, _, ⟨_, .inl ⟨rfl, rfl⟩⟩, rfl, rfl⟩ (fun hg => r_len) ?_
                    refine q_rdG rfl [275] ⟨_, _, ⟨_, .inl ⟨rfl, rfl⟩⟩, rfl, rfl⟩ (fun hg => r_eql) ?_
                    refine q_rdG rfl [276] ⟨_, _, ⟨_, .inl ⟨rfl, rfl⟩⟩, rfl, rfl⟩ (fun hg => r_move) ?_
                    refine q_rdG rfl [] rfl (fun hg => r_move) ?_
                    refine q_rdG rfl [] rfl (fun hg => r_move) ?_
                    refine q_rdG rfl [279] ⟨_, _, ⟨_, .inl ⟨rfl, rfl⟩⟩, rfl, rfl⟩ (fun hg => r_len) ?_
                    first | refine q_rdG rfl [280] ⟨_, _, ⟨_, .inl ⟨rfl, rfl⟩⟩, rfl, rfl⟩ (fun hg => r_sub) ?_ | refine q_rdG rfl [280] ⟨_, _, ⟨_, .inl ⟨rfl, rfl⟩⟩, rfl, rfl⟩ (fun hg => r_subW) ?_
                    refine q_rdG rfl [278, 281] ⟨_, _, ⟨_, .inl ⟨rfl, rfl⟩⟩, ⟨_, _, ⟨_, .inl ⟨rfl, rfl⟩⟩, rfl, rfl⟩, rfl⟩ (fun hg => (r_indexT (hj := (by first | omega | (have hgg := hg; simp only [cond_true, cond_false, Bool.and_eq_true, Bool.or_eq_true, Bool.not_eq_true', Bool.not_eq_false', Bool.and_eq_false_imp, Bool.or_eq_false_iff, decide_eq_true_eq, decide_eq_false_iff_not] at hgg; omega))))) ?_
                    first | refine q_rdG rfl [282] ⟨_, _, ⟨_, .inl ⟨rfl, rfl⟩⟩, rfl, rfl⟩ (fun hg => r_load) ?_ | refine q_rdG rfl [282] ⟨_, _, ⟨_, .inl ⟨rfl, rfl⟩⟩, rfl, rfl⟩ (fun hg => r_loadE) ?_ | refine q_rdG rfl [282] ⟨_, _, ⟨_, .inl ⟨rfl, rfl⟩⟩, rfl, rfl⟩ (fun hg => (r_loadT (hj := (by first | omega | (have hgg := hg; simp only [cond_true, cond_false, Bool.and_eq_true, Bool.or_eq_true, Bool.not_eq_true', Bool.not_eq_false', Bool.and_eq_false_imp, Bool.or_eq_false_iff, decide_eq_true_eq, decide_eq_false_iff_not] at hgg; omega))))) ?_
                    first | refine q_rdG rfl [] rfl (fun hg => r_load) ?_ | refine q_rdG rfl [] rfl (fun hg => r_loadE) ?_ | refine q_rdG rfl [] rfl (fun hg => (r_loadT (hj := (by first | omega | (have hgg := hg; simp only [cond_true, cond_false, Bool.and_eq_true, Bool.or_eq_true, Bool.not_eq_true', Bool.not_eq_false', Bool.and_eq_false_imp, Bool.or_eq_false_iff, decide_eq_true_eq, decide_eq_false_iff_not] at hgg; omega))))) ?_
                    refine q_rdG rfl [283, 284] ⟨_, _, ⟨_, .inl ⟨rfl, rfl⟩⟩, ⟨_, _, ⟨_, .inl ⟨rfl, rfl⟩⟩, rfl, rfl⟩, rfl⟩ (fun hg => r_eqH) ?_
                    first | refine q_rdG rfl [277, 285] ⟨_, _, ⟨_, .inl ⟨rfl, rfl⟩⟩, ⟨_, _, ⟨_, .inr ⟨_, rfl, rfl⟩⟩, rfl, rfl⟩, rfl⟩ (fun hg => r_or) ?_ | refine q_rdG rfl [277, 285] ⟨_, _, ⟨_, .inl ⟨rfl, rfl⟩⟩, ⟨_, _, ⟨_, .inr ⟨_, rfl, rfl⟩⟩, rfl, rfl⟩, rfl⟩ (fun hg => r_pickB) ?_ | refine q_rdG rfl [277, 285] ⟨_, _, ⟨_, .inl ⟨rfl, rfl⟩⟩, ⟨_, _, ⟨_, .inr ⟨_, rfl, rfl⟩⟩, rfl, rfl⟩, rfl⟩ (fun hg => r_pick) ?_
                    first | refine q_rd rfl r_and ?_ | refine q_rd rfl r_pickB ?_ | refine q_rd rfl r_pick ?_
                    refine s_nil ?_
                    refine x_then ?_
                    first | refine c_ifd rfl (fun h287 => ?_) (fun h287 => ?_) | refine c_ifn rfl (fun h287 => ?_) (fun h287 => ?_) | refine c_if rfl (fun h287 => ?_) (fun h287 => ?_)
                    · refine c_seq ?_
                      refine c_region ?_
                      refine l_rd r_assign ?_
                      refine l_nil ?_
                      refine x_then ?_
                      refine c_ret ?_
                      refine x_inR (x_thenR (x_thenR (x_inR (x_thenR ?_))))
                      refine k_ret [] _ (.cons (.tmp rfl) .nil) (h := ?_)
                      exfalso
                      have hmem := List.mem_of_getElem? h233
                      rw [(find_mem (gone_find hgo hwa hmem)).2] at h287
                      simp only [Bool.or_eq_true, Bool.and_eq_true, decide_eq_true_eq] at h287
                      obtain ⟨⟨h1, h2⟩, h3⟩ := h287
                      obtain ⟨wy, hwy⟩ := Option.isSome_iff_exists.1 h1
                      simp only [hwa, hwy, Option.getD_some] at h2 h3
                      refine gone_way hok.1 hgo hwa hmem hwy (by omega) (h3.imp (fun h => by omega) fun h => ?_)
                      rw [show ((wa.length : Int) - 1).toNat = wa.length - 1 by omega] at h
                      rw [← h]
                      exact getD_some default (by omega)
                    · refine c_skip ?_
                      refine x_in (x_then ?_)
                      refine c_region ?_
                      refine l_rd r_move ?_
                      first | refine l_rd r_add ?_ | refine l_rd r_addW ?_
                      refine l_rd r_assign ?_
                      refine l_nil ?_
                      refine x_then ?_
                      refine k_again (ids.length - (k3 + 1)) ⟨k3 + 1, rfl, rfl, by omega, by omega⟩ (by omega) (by repeat (first | exact trivial | refine ⟨⟨_, rfl, (by first | rfl | exact den_int (by omega))⟩, ?_⟩)) (by repeat (first | exact trivial | refine ⟨rfl, ?_⟩))
                · refine c_exit ?_
                  refine x_thenE (x_thenE (x_inE (x_then ?_)))
                  refine c_seq ?_
                  refine c_region ?_
                  refine l_rd r_assign ?_
                  refine l_nil ?_
                  refine x_then ?_
                  refine c_ret ?_
                  refine k_ret [] _ (.cons (.tmp rfl) .nil) (h := ?_)
                  exact ⟨rfl, rfl⟩
end Go.Proofs.Ytonbgcehgmpnkaa
