import Derived.Test.YtonbgcehgmpnkaaKt
import Derived.Test.YtonbgcehgmpnkaaK7
import Derived.Test.YtonbgcehgmpnkaaTp
set_option linter.unusedVariables false
set_option maxRecDepth 100000
set_option maxHeartbeats 8000000
namespace Go.Proofs.Ytonbgcehgmpnkaa
open Go Go.RowKit HL
def leafEn : En LeafP := ⟨fun x => .agg [.hash x.id, .hash x.parent, .one (.i .i64 x.height), .one (.i .i64 x.mark)], true, 66, fun _ => ⟨rfl, rfl⟩, by decide⟩
def findL (l : List LeafP) (h : Hash) : Option LeafP := l.find? fun x => x.id = h
theorem find_spec (A : Option Addr) (l : List LeafP) (c : Nat) (h : Hash) (hl : l.length ≤ 1048576) : CSpec Try.prog 15 [.one (.sl 0 A l.length c), .agg [.hash h]] [(0, Res.rd A leafEn l)] [] fun o L =>
    o = .ret (.tup [(leafEn.f ((findL l h).getD leaf0)), .one (.b (findL l h).isSome)]) ∧ L = [] := by
  refine k_enter Try.func15 rfl rfl (h := fun w0 => ?_)
  refine c_seq ?_
  refine c_region ?_
  refine l_do d_box (fun g3 => ?_)
  refine l_do d_alloc (fun g4 => ?_)
  refine l_rd r_assign ?_
  refine l_nil ?_
  refine x_then ?_
  refine c_seq ?_
  refine c_seq ?_
  refine c_region ?_
  refine l_rd r_assign ?_
  refine l_nil ?_
  refine x_then ?_
  refine c_block ?_
  refine c_loop (fun m E H => ∃ k : Nat, E = [(6, vint k)] ∧ H = [] ∧ m = l.length - k ∧ k ≤ l.length ∧ ∀ x ∈ l.take k, ¬ x.id = h) [0, 1, 3, 4, 24] [10003, 10004] (l.length) ([(6, vint (0 : Nat))]) ([]) rfl rfl (⟨0, rfl, rfl, rfl, by omega, by simp⟩) (by repeat (first | exact trivial | refine ⟨⟨_, rfl, (by first | rfl | exact den_int (by omega))⟩, ?_⟩)) (by repeat (first | exact trivial | refine ⟨rfl, ?_⟩)) rfl (fun _ _ _ hI => ?_)
  obtain ⟨k, rfl, rfl, rfl, hk, hno⟩ := hI
  refine c_seq ?_
  refine c_seq ?_
  refine c_region ?_
  refine l_rd r_move ?_
  refine l_rd r_move ?_
  refine l_rd r_len ?_
  refine l_rd r_lss ?_
  refine l_nil ?_
  refine x_then ?_
  first | refine c_ifd rfl (fun h10 => ?_) (fun h10 => ?_) | refine c_ifn rfl (fun h10 => ?_) (fun h10 => ?_) | refine c_if rfl (fun h10 => ?_) (fun h10 => ?_)
  · refine c_skip ?_
    refine x_then ?_
    refine c_seq ?_
    refine c_block ?_
    refine c_seq ?_
    refine c_draw (.q 0 (.q 1 (.q 2 (.q 3 (.q 4 (.q 5 (.q 6 .nil))))))) [10003, 10004, 10009] (hm := by kernel_rfl) (hs := by kernel_rfl) (hk := by kernel_rfl) (hQ := fun d v c a w h => by cases d <;> exact h) (h := ?_)
    refine q_rd rfl r_move ?_
    refine q_rd rfl r_move ?_
    refine q_ix rfl (fun ad15 y15 hA15 h15 => ?_)
    first | refine q_rd rfl r_field ?_ | refine q_rd rfl r_fieldE ?_
    first | refine q_rd rfl r_load ?_ | refine q_rd rfl r_loadE ?_
    first | refine q_rd rfl r_load ?_ | refine q_rd rfl r_loadE ?_
    refine q_rd rfl r_eqH ?_
    refine s_nil ?_
    refine x_then ?_
    first | refine c_ifd rfl (fun h19 => ?_) (fun h19 => ?_) | refine c_ifn rfl (fun h19 => ?_) (fun h19 => ?_) | refine c_if rfl (fun h19 => ?_) (fun h19 => ?_)
    · refine c_seq ?_
      refine c_region ?_
      refine l_rd r_move ?_
      refine l_rd r_move ?_
      refine l_ix (fun ad22 y22 hA22 h22 => ?_)
      first | refine l_rd r_load ?_ | refine l_rd r_loadE ?_
      first | refine l_do1 d_store ?_ | refine l_do1 d_storeE ?_
      refine l_rd r_assign ?_
      refine l_nil ?_
      refine x_then ?_
      refine c_ret ?_
      refine x_inR (x_thenR (x_thenR (x_inR (x_thenR ?_))))
      refine k_ret [] _ (.cons (.cell inferInstance rfl rfl rfl rfl) (.cons (.tmp rfl) .nil)) (h := ?_)
      obtain rfl := opt_eq h15 h22
      rw [show findL l h = some y15 from find_at h15 (by simpa using hno) (by simpa using h19)]
      exact ⟨rfl, rfl⟩
    · refine c_skip ?_
      refine x_in (x_then ?_)
      refine c_region ?_
      refine l_rd r_move ?_
      first | refine l_rd r_add ?_ | refine l_rd r_addW ?_
      refine l_rd r_assign ?_
      refine l_nil ?_
      refine x_then ?_
      refine k_again (l.length - (k + 1)) ⟨k + 1, rfl, rfl, rfl, by omega, all_take h15 hno h19⟩ (by omega) (by repeat (first | exact trivial | refine ⟨⟨_, rfl, (by first | rfl | exact den_int (by omega))⟩, ?_⟩)) (by repeat (first | exact trivial | refine ⟨rfl, ?_⟩))
  · refine c_exit ?_
    refine x_thenE (x_thenE (x_inE (x_then ?_)))
    refine c_seq ?_
    refine c_region ?_
    refine l_rd r_build ?_
    first | refine l_do1 d_store ?_ | refine l_do1 d_storeE ?_
    refine l_rd r_assign ?_
    refine l_nil ?_
    refine x_then ?_
    refine c_ret ?_
    refine k_ret [] _ (.cons (.cell inferInstance rfl rfl rfl rfl) (.cons (.tmp rfl) .nil)) (h := ?_)
    rw [take_all h10] at hno
    rw [show findL l h = none from find_no (by simpa using hno)]
    exact ⟨rfl, rfl⟩
def chainOk (l : List LeafP) : Hash → Int → List Hash → Bool
  | _, _, [] => true
  | frm, h, i :: ids => if (!(findL l i).isSome || !decide (((findL l i).getD leaf0).parent = frm) || !decide (((findL l i).getD leaf0).height = h + 1) || decide (((findL l i).getD leaf0).mark = 1) || decide (((findL l i).getD leaf0).mark = 4)) = true then false
    else chainOk l ((findL l i).getD leaf0).id (h + 1) ids
theorem chain_spec (A : Option Addr) (l : List LeafP) (c : Nat) (frm : Hash) (h : Int) (A2 : Option Addr) (ids : List Hash) (c2 : Nat) (hl : l.length ≤ 1048576) (hi : ids.length ≤ 1048576) (h0 : 0 ≤ h) (h1 : h ≤ 9000000000) :
    CSpec Try.prog 13 [.one (.sl 0 A l.length c), .agg [.hash frm], .one (.i .i64 h), .one (.sl 3 A2 ids.length c2)] [(0, Res.rd A leafEn l), (3, Res.rd A2 hashEn ids)] [] fun o L =>
    o = .ret (vb (chainOk l frm h ids)) ∧ L = [] := by
  refine k_enter Try.func13 rfl rfl (h := fun w0 => ?_)
  refine c_seq ?_
  refine c_region ?_
  refine l_do d_box (fun g5 => ?_)
  refine l_rd r_assign ?_
  refine l_nil ?_
  refine x_then ?_
  refine c_seq ?_
  refine c_seq ?_
  refine c_region ?_
  refine l_rd r_assign ?_
  refine l_nil ?_
  refine x_then ?_
  refine c_block ?_
  refine c_loop (fun m E H => ∃ (k : Nat) (fr : Hash), E = [(9, vint k), (2, vint (h + k))] ∧ H = [(10005, Res.va g5 23 [.hash fr])] ∧ m = ids.length - k ∧ k ≤ ids.length ∧ chainOk l frm h ids = chainOk l fr (h + k) (ids.drop k)) [0, 1, 3, 5] [] (ids.length) ([(9, vint (0 : Nat)), (2, vint (h + (0 : Nat)))]) ([(10005, Res.va g5 23 [.hash frm])]) rfl rfl (⟨0, frm, rfl, rfl, rfl, by omega, by simp⟩) (by repeat (first | exact trivial | refine ⟨⟨_, rfl, (by first | rfl | exact den_int (by omega))⟩, ?_⟩)) (by repeat (first | exact trivial | refine ⟨rfl, ?_⟩)) rfl (fun _ _ _ hI => ?_)
  obtain ⟨k, fr, rfl, rfl, rfl, hk, hno⟩ := hI
  refine c_seq ?_
  refine c_seq ?_
  refine c_region ?_
  refine l_rd r_move ?_
  refine l_rd r_move ?_
  refine l_rd r_len ?_
  refine l_rd r_lss ?_
  refine l_nil ?_
  refine x_then ?_
  first | refine c_ifd rfl (fun h15 => ?_) (fun h15 => ?_) | refine c_ifn rfl (fun h15 => ?_) (fun h15 => ?_) | refine c_if rfl (fun h15 => ?_) (fun h15 => ?_)
  · refine c_skip ?_
    refine x_then ?_
    refine c_seq ?_
    refine c_block ?_
    refine c_seq ?_
    refine c_region ?_
    refine l_rd r_move ?_
    refine l_rd r_move ?_
    refine l_rd r_move ?_
    refine l_ix (fun ad22 y22 hA22 h22 => ?_)
    first | refine l_rd r_load ?_ | refine l_rd r_loadE ?_
    refine l_call 21200 [] (find_spec A l c y22 hl) Try.func15 (h := ?_)
    rintro _ _ (⟨rfl, rfl⟩)
    refine l_rd r_move ?_
    first | refine l_rd r_extract ?_ | refine l_rd r_extractN ?_
    refine l_rd r_extract ?_
    refine l_do d_alloc (fun g10 => ?_)
    first | refine l_do1 d_store ?_ | refine l_do1 d_storeE ?_
    refine l_rd r_assign ?_
    refine l_nil ?_
    refine x_then ?_
    refine c_seq ?_
    refine c_seq ?_
    refine c_region ?_
    refine l_rd r_move ?_
    refine l_rd r_not ?_
    refine l_rd r_move ?_
    first | refine l_rdG [] rfl (fun hg => r_field) ?_ | refine l_rdG [] rfl (fun hg => r_fieldE) ?_
    first | refine l_rdG [30] ⟨_, _, ⟨_, .inl ⟨rfl, rfl⟩⟩, rfl, rfl⟩ (fun hg => r_load) ?_ | refine l_rdG [30] ⟨_, _, ⟨_, .inl ⟨rfl, rfl⟩⟩, rfl, rfl⟩ (fun hg => r_loadE) ?_
    first | refine l_rdG [] rfl (fun hg => r_load) ?_ | refine l_rdG [] rfl (fun hg => r_loadE) ?_
    refine l_rdG [31, 32] ⟨_, _, ⟨_, .inl ⟨rfl, rfl⟩⟩, ⟨_, _, ⟨_, .inl ⟨rfl, rfl⟩⟩, rfl, rfl⟩, rfl⟩ (fun hg => r_neH) ?_
    first | refine l_rd r_or ?_ | refine l_rd r_pickB ?_ | refine l_rd r_pick ?_
    refine l_rd r_move ?_
    first | refine l_rdG [] rfl (fun hg => r_field) ?_ | refine l_rdG [] rfl (fun hg => r_fieldE) ?_
    first | refine l_rdG [36] ⟨_, _, ⟨_, .inl ⟨rfl, rfl⟩⟩, rfl, rfl⟩ (fun hg => r_load) ?_ | refine l_rdG [36] ⟨_, _, ⟨_, .inl ⟨rfl, rfl⟩⟩, rfl, rfl⟩ (fun hg => r_loadE) ?_
    refine l_rdG [] rfl (fun hg => r_move) ?_
    first | refine l_rdG [38] ⟨_, _, ⟨_, .inl ⟨rfl, rfl⟩⟩, rfl, rfl⟩ (fun hg => r_add) ?_ | refine l_rdG [38] ⟨_, _, ⟨_, .inl ⟨rfl, rfl⟩⟩, rfl, rfl⟩ (fun hg => r_addW) ?_
    refine l_rdG [37, 39] ⟨_, _, ⟨_, .inl ⟨rfl, rfl⟩⟩, ⟨_, _, ⟨_, .inl ⟨rfl, rfl⟩⟩, rfl, rfl⟩, rfl⟩ (fun hg => r_neq) ?_
    first | refine l_rd r_or ?_ | refine l_rd r_pickB ?_ | refine l_rd r_pick ?_
    refine l_rd r_move ?_
    first | refine l_rdG [] rfl (fun hg => r_field) ?_ | refine l_rdG [] rfl (fun hg => r_fieldE) ?_
    first | refine l_rdG [43] ⟨_, _, ⟨_, .inl ⟨rfl, rfl⟩⟩, rfl, rfl⟩ (fun hg => r_load) ?_ | refine l_rdG [43] ⟨_, _, ⟨_, .inl ⟨rfl, rfl⟩⟩, rfl, rfl⟩ (fun hg => r_loadE) ?_
    refine l_rdG [44] ⟨_, _, ⟨_, .inl ⟨rfl, rfl⟩⟩, rfl, rfl⟩ (fun hg => r_eql) ?_
    first | refine l_rd r_or ?_ | refine l_rd r_pickB ?_ | refine l_rd r_pick ?_
    refine l_rd r_move ?_
    first | refine l_rdG [] rfl (fun hg => r_field) ?_ | refine l_rdG [] rfl (fun hg => r_fieldE) ?_
    first | refine l_rdG [48] ⟨_, _, ⟨_, .inl ⟨rfl, rfl⟩⟩, rfl, rfl⟩ (fun hg => r_load) ?_ | refine l_rdG [48] ⟨_, _, ⟨_, .inl ⟨rfl, rfl⟩⟩, rfl, rfl⟩ (fun hg => r_loadE) ?_
    refine l_rdG [49] ⟨_, _, ⟨_, .inl ⟨rfl, rfl⟩⟩, rfl, rfl⟩ (fun hg => r_eql) ?_
    first | refine l_rd r_or ?_ | refine l_rd r_pickB ?_ | refine l_rd r_pick ?_
    refine l_nil ?_
    refine x_then ?_
    first | refine c_ifd rfl (fun h51 => ?_) (fun h51 => ?_) | refine c_ifn rfl (fun h51 => ?_) (fun h51 => ?_) | refine c_if rfl (fun h51 => ?_) (fun h51 => ?_)
    · refine c_seq ?_
      refine c_region ?_
      refine l_rd r_assign ?_
      refine l_nil ?_
      refine x_then ?_
      refine c_ret ?_
      refine x_thenR (x_inR (x_thenR (x_thenR (x_inR (x_thenR ?_)))))
      refine k_ret [] _ (.cons (.tmp rfl) .nil) (h := ?_)
      rw [hno, drop_get h22, chainOk, if_pos h51]
      exact ⟨rfl, rfl⟩
    · refine c_skip ?_
      refine x_then ?_
      refine c_seq ?_
      refine c_region ?_
      first | refine l_rd r_field ?_ | refine l_rd r_fieldE ?_
      first | refine l_rd r_load ?_ | refine l_rd r_loadE ?_
      first | refine l_do1 d_store ?_ | refine l_do1 d_storeE ?_
      refine l_nil ?_
      refine x_then ?_
      refine c_region ?_
      refine l_rd r_move ?_
      first | refine l_rd r_add ?_ | refine l_rd r_addW ?_
      refine l_rd r_assign ?_
      refine l_nil ?_
      refine x_in (x_then ?_)
      refine c_region ?_
      refine l_rd r_move ?_
      first | refine l_rd r_add ?_ | refine l_rd r_addW ?_
      refine l_rd r_assign ?_
      refine l_nil ?_
      refine x_then ?_
      refine k_again (ids.length - (k + 1)) ⟨k + 1, _, rfl, rfl, rfl, by omega, by rw [hno, drop_get h22, chainOk, if_neg (by rw [h51]; simp), show h + (k : Int) + 1 = h + ((k + 1 : Nat) : Int) by omega]⟩ (by omega) (by repeat (first | exact trivial | refine ⟨⟨_, rfl, (by first | rfl | exact den_int (by omega))⟩, ?_⟩)) (by repeat (first | exact trivial | refine ⟨rfl, ?_⟩))
  · refine c_exit ?_
    refine x_thenE (x_thenE (x_inE (x_then ?_)))
    refine c_seq ?_
    refine c_region ?_
    refine l_rd r_assign ?_
    refine l_nil ?_
    refine x_then ?_
    refine c_ret ?_
    refine k_ret [] _ (.cons (.tmp rfl) .nil) (h := ?_)
    rw [hno, List.drop_eq_nil_of_le (by omega)]
    exact ⟨rfl, rfl⟩
end Go.Proofs.Ytonbgcehgmpnkaa
