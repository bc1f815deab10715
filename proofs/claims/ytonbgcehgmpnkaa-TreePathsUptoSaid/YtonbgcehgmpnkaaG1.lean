/- maps.Keys, slices.Collect, over the hashes of a map. -/
import Derived.Test.YtonbgcehgmpnkaaF3
import Derived.Test.YtonbgcehgmpnkaaK9
set_option linter.unusedVariables false
set_option linter.unusedSimpArgs false
set_option maxRecDepth 100000
set_option maxHeartbeats 8000000
namespace Go.Proofs.Ytonbgcehgmpnkaa
open Go Go.RowKit HL
theorem keys_spec (i g : Nat) : CSpec Try.prog 38 [.one (.mp i g)] [] [] fun o L =>
    ∃ gb, o = .ret (.s (.one (.fn 42 [.pointer (some ⟨gb, 0, none⟩)] [0]))) ∧ L = [Res.va gb 65 [.one (.mp i g)]] := by
  refine k_enter Try.func38 rfl rfl (h := fun w0 => ?_)
  refine c_seq ?_
  refine c_region ?_
  refine l_do d_box (fun g1 => ?_)
  refine l_rd r_assign ?_
  refine l_nil ?_
  refine x_then ?_
  refine c_seq ?_
  refine c_region ?_
  refine l_rd r_makeFunc ?_
  refine l_rd r_assign ?_
  refine l_nil ?_
  refine x_then ?_
  refine c_ret ?_
  refine k_ret [10001] (.s (.one (.fn _ [.pointer (some ⟨g1, 0, none⟩)] [0]))) (.cons (.tmp rfl) .nil) (h := ?_)
  exact ⟨g1, rfl, rfl⟩
theorem keys_iter (gb g c : Nat) (R : Res) (l : List (Hash × Bool × Nat)) (hm : MapOf R g hashEn boolEn l c) (hw : MWf l c) : ISpec Try.prog 42 [.one (.ptr 1 ⟨gb, 0, none⟩)] [(1, Res.va gb 65 [.one (.mp 50 g)]), (50, R)] hashEn
    (fun ss => ss.Perm (l.map (·.1))) (fun pre _ => pre.length < l.length) := by
  refine k_enterY Try.func42 rfl rfl (h := fun w0 ll J r0 hJ0 hY => ⟨_, rfl, ?_⟩)
  refine c_seq ?_
  refine c_region ?_
  first | refine l_rd r_load ?_ | refine l_rd r_loadE ?_
  refine l_do d_range (fun r5 => ?_)
  refine l_nil ?_
  refine x_then ?_
  refine c_block ?_
  refine c_loop (fun m E H => ∃ done r, E = [] ∧ H = [(10005, Res.itr 50 r5 g c done), (9, r)] ∧ J (done.map (·.1)) r ∧ (∀ e ∈ done, e ∈ l) ∧ done.Nodup ∧ m = l.length - done.length) [0, 1, 4, 5] [] (l.length) ([]) ([(10005, Res.itr 50 r5 g c []), (9, r0)]) rfl rfl (⟨[], r0, rfl, rfl, hJ0, by simp, List.nodup_nil, rfl⟩) (by repeat (first | exact trivial | refine ⟨⟨_, rfl, (by first | rfl | exact den_int (by omega))⟩, ?_⟩)) (by repeat (first | exact trivial | refine ⟨rfl, ?_⟩)) rfl (fun _ _ _ hI => ?_)
  obtain ⟨done, r, rfl, rfl, hJ, hsub, hnd, rfl⟩ := hI
  refine c_seq ?_
  refine c_region ?_
  refine l_next (fun o6 no6 yes6 => ?_)
  first | refine l_rd r_extract ?_ | refine l_rd r_extractN ?_
  refine l_nil ?_
  refine x_then ?_
  refine c_seq ?_
  first | refine c_ifd rfl (fun h7 => ?_) (fun h7 => ?_) | refine c_ifn rfl (fun h7 => ?_) (fun h7 => ?_) | refine c_if rfl (fun h7 => ?_) (fun h7 => ?_)
  · obtain ⟨e6, rfl⟩ := Option.isSome_iff_exists.1 h7
    obtain ⟨hm6, hn6⟩ := yes6 e6 rfl
    obtain ⟨hs2, hn2, hl2⟩ := iter_snoc hsub hnd hm6 hn6
    refine c_skip ?_
    refine x_then ?_
    refine c_block ?_
    refine c_seq ?_
    refine c_region ?_
    refine l_rd r_entry ?_
    first | refine l_rd r_extract ?_ | refine l_rd r_extractN ?_
    refine l_do d_alloc (fun g3 => ?_)
    first | refine l_do1 d_store ?_ | refine l_do1 d_storeE ?_
    refine l_nil ?_
    refine x_then ?_
    refine c_seq ?_
    refine c_regionY ?_
    refine i_rd r_move ?_
    first | refine i_rd r_load ?_ | refine i_rd r_loadE ?_
    refine i_yield (iy := 9) hY hJ (by rw [List.length_map]; omega) (fun r12 hJ12 => ?_)
    refine i_rd r_not ?_
    refine i_nil ?_
    refine x_then ?_
    refine c_false rfl ?_
    refine c_skip ?_
    refine x_in (x_then ?_)
    refine k_again (l.length - (done.length + 1)) ⟨done ++ [e6], r12, rfl, rfl, by rw [List.map_append]; exact hJ12, hs2, hn2, by rw [List.length_append]; rfl⟩ (by omega) (by repeat (first | exact trivial | refine ⟨⟨_, rfl, (by first | rfl | exact den_int (by omega))⟩, ?_⟩)) (by repeat (first | exact trivial | refine ⟨rfl, ?_⟩))
  · refine c_exit ?_
    refine x_thenE (x_thenE (x_inE ?_))
    exact k_endY (done.map (·.1)) ((iter_perm hw hsub hnd (no6 (by simpa using h7))).map _) hJ
end Go.Proofs.Ytonbgcehgmpnkaa
