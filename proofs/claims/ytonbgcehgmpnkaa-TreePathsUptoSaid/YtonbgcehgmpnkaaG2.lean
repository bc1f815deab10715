/- slices.AppendSeq, slices.Collect, over the keys of a map. -/
import Derived.Test.YtonbgcehgmpnkaaG1
set_option linter.unusedVariables false
set_option linter.unusedSimpArgs false
set_option maxRecDepth 100000
set_option maxHeartbeats 8000000
namespace Go.Proofs.Ytonbgcehgmpnkaa
open Go Go.RowKit HL
theorem appendSeq_spec (gb g c : Nat) (R : Res) (l : List (Hash × Bool × Nat)) (hm : MapOf R g hashEn boolEn l c) (hw : MWf l c) (hl : l.length ≤ 1048576) : CSpec Try.prog 43 [.one (.sl 0 none 0 0), .one (.fn 42 [.pointer (some ⟨gb, 0, none⟩)] [1])]
    [(1, Res.va gb 65 [.one (.mp 50 g)]), (50, R)] [] fun o L => ∃ ss A c', ss.Perm (l.map (·.1)) ∧ o = .ret (vsl 0 A ss.length c') ∧ L = [Res.rows A c' 23 hashEn ss] := by
  refine k_enterM Try.func43 rfl rfl (h := fun w0 => ?_)
  refine c_seq ?_
  refine c_region ?_
  refine l_do d_box (fun g2 => ?_)
  refine l_rd r_assign ?_
  refine l_nil ?_
  refine x_then ?_
  refine c_seq ?_
  refine c_seq ?_
  refine c_region ?_
  refine l_rd r_move ?_
  refine l_nil ?_
  refine x_then ?_
  refine c_block ?_
  refine k_nil 600 23 hashEn ?_
  refine c_rangeFunc (fun pre H => ∃ A c', H = [(10002, Res.va g2 39 [.one (.sl 600 A pre.length c')]), (600, Res.rows A c' 23 hashEn pre)]) ([(10002, Res.va g2 39 [.one (.sl 600 none 0 0)]), (600, Res.rows none 0 23 hashEn [])]) [] (cid [(1, 1), (50, 50)] []) rfl (keys_iter gb g c R l hm hw) (⟨none, 0, rfl⟩) Try.func42 rfl rfl (fun l db q mm pre x H1 w1 M1 hI hG => ?_) (fun db xs H1 hS hI => ?_) (by rintro _ _ ⟨A, c', rfl⟩; rfl) (by repeat (first | exact trivial | refine ⟨rfl, ?_⟩)) (by repeat (first | exact trivial | refine ⟨⟨_, rfl, by first | assumption | exact View.refl _ | exact view_rows⟩, ?_⟩))
  · obtain ⟨A, c', rfl⟩ := hI
    refine n_region (by repeat (first | exact lets_no | exact lets_round | refine lets_then ?_ | refine lets_in ?_)) ?_
    refine l_do d_alloc (fun g5 => ?_)
    first | refine l_do1 d_store ?_ | refine l_do1 d_storeE ?_
    refine l_nil ?_
    refine x_then ?_
    refine k_begin (h := ?_)
    refine n_block ?_
    refine n_region (by repeat (first | exact lets_no | exact lets_round | refine lets_then ?_ | refine lets_in ?_)) ?_
    first | refine l_rd r_load ?_ | refine l_rd r_loadE ?_
    first | refine l_rd r_load ?_ | refine l_rd r_loadE ?_
    refine l_do (d_bslice [_]) (fun B10 => ?_)
    first | refine l_do d_append (fun p11 => ?_) | refine l_do d_append0 (fun p11 => ?_)
    first | refine l_do1 d_store ?_ | refine l_do1 d_storeE ?_
    refine l_nil ?_
    refine x_in ?_
    exact k_round _ ⟨_, _, rfl⟩ (by repeat (first | exact trivial | refine ⟨rfl, ?_⟩))
  · obtain ⟨A, c', rfl⟩ := hI
    refine x_in (x_then ?_)
    refine c_seq ?_
    refine c_region ?_
    first | refine l_rd r_load ?_ | refine l_rd r_loadE ?_
    refine l_rd r_assign ?_
    refine l_nil ?_
    refine x_then ?_
    refine c_ret ?_
    refine k_retM [600] (vsl 0 A xs.length c') (.cons (.tmp rfl) .nil) (h := ?_)
    exact ⟨xs, A, c', hS, rfl, rfl⟩
end Go.Proofs.Ytonbgcehgmpnkaa
