/- Lemmas and walks: UC, UD, UE, UF, UG, UH, W4, UI, UJ. -/
import Derived.Test.YtfopgaijfeeioaaGreatZ5
/- READING: nodes, walked. -/

set_option linter.unusedVariables false
set_option linter.unusedSimpArgs false
set_option maxRecDepth 100000
set_option maxHeartbeats 4000000
namespace Go.Proofs.YtfopgaijfeeioaaGreat
open Go Go.RowKit HL
def GetM {α : Type} (enc : α → SV) (p : Pr α) (g : Nat) (A : Option Addr) (c : Nat) (all : List UInt8) (s : Rd) (o : Out) (L : List Res) : Prop := (∃ x t B', s.bad = false ∧ p (all.drop s.o) = some (x, t) ∧ TailOk A c (all.length - t.length) B' ∧ o = .ret (.s (enc x)) ∧ L = [rdr g B' c all.length ⟨all.length - t.length, false⟩]) ∨ ((s.bad = true ∨ p (all.drop s.o) = none) ∧ o = .pan wrong ∧ ∃ s' B', TailOk A c s'.o B' ∧ s'.o ≤ all.length ∧ L = [rdr g B' c all.length s'])
abbrev getNM (g1 g2 g3 : Nat) : List (Int × FnV × Nat) := [(1, some (255, [pa g1, pa g2]), 0), (2, some (256, [pa g1, pa g2]), 1), (3, some (257, [pa g1, pa g2]), 2), (4, some (254, [pa g1, pa g2]), 3), (6, some (254, [pa g1, pa g2]), 4), (5, some (258, [pa g1, pa g2, pa g3]), 5)]
theorem node_no1 {all : List UInt8} {s s1 : Rd} {k : Nat} (h : Got2 (pU 1) all s k s1) (hb : s1.bad = true) : s.bad = true ∨ pNode (all.drop s.o) = none := by
  rcases h with ⟨_, t, _, rfl⟩ | ⟨h, _⟩
  · cases hb
  · rcases h with h | h
    · exact .inl h
    · refine .inr ?_
      unfold pNode
      rw [h]
      rfl
theorem node_no2 {α : Type} {upd : α → NodeP} {p : Pr α} {all : List UInt8} {s s1 s2 : Rd} {k : Nat} {x : α} (h : Got2 (pU 1) all s k s1) (hb : s1.bad = false) (hr : ∀ t, pU 1 (all.drop s.o) = some (k, t) → pNode (all.drop s.o) = (p t).map fun r => (upd r.1, r.2)) (hg : Got2 p all s1 x s2) (hb2 : s2.bad = true) : s.bad = true ∨ pNode (all.drop s.o) = none := by
  rcases h with ⟨h0, t, ht, rfl⟩ | ⟨_, h⟩
  · obtain ⟨u, hu⟩ := sfx_pU 1 _ _ _ ht
    have e := sfx_drop hu
    rcases hg with ⟨_, t2, _, rfl⟩ | ⟨h, _⟩
    · cases hb2
    · rcases h with h | h
      · cases h
      · simp only at h
        rw [e] at h
        exact .inr (by rw [hr t ht, h]; rfl)
  · rw [h] at hb; cases hb
theorem node_yes {α : Type} {upd : α → NodeP} {p : Pr α} {all : List UInt8} {s s1 s2 : Rd} {k : Nat} {x : α} (h : Got2 (pU 1) all s k s1) (hb : s1.bad = false) (hr : ∀ t, pU 1 (all.drop s.o) = some (k, t) → pNode (all.drop s.o) = (p t).map fun r => (upd r.1, r.2)) (hg : Got2 p all s1 x s2) (hb2 : s2.bad = false) : ∃ t, s.bad = false ∧ pNode (all.drop s.o) = some (upd x, t) ∧ s2 = ⟨all.length - t.length, false⟩ := by
  rcases h with ⟨h0, t, ht, rfl⟩ | ⟨_, h⟩
  · obtain ⟨u, hu⟩ := sfx_pU 1 _ _ _ ht
    have e := sfx_drop hu
    rcases hg with ⟨_, t2, ht2, rfl⟩ | ⟨_, h⟩
    · simp only at ht2
      rw [e] at ht2
      exact ⟨t2, h0, by rw [hr t ht, ht2]; rfl, rfl⟩
    · rw [h] at hb2; cases hb2
  · rw [h] at hb; cases hb
theorem gnode_none (g : Nat) (A B : Option Addr) (c : Nat) (all : List UInt8) (s : Rd) (hB : TailOk A c s.o B) (ho : s.o ≤ all.length) (hl : all.length ≤ 70368744177664) (hk : ∀ g1 g2 g3, mlook (getNM g1 g2 g3) ((((tot 0 (pU 1) all s).1 : Nat)) : Int) = none) (hr : s.bad = true ∨ pNode (all.drop s.o) = none) : CSpec Tryz.prog 198 [.agg [.one (.ptr 910 ⟨g, 0, none⟩)]] [(911, wrow A c all)] [(910, rdr g B c all.length s)] (GetM nodeEn.f pNode g A c all s) := by
  refine v_enter Tryz.func198 (h := fun w0 => ?_)
  refine v_code [] (hk := ?_)
  refine l_do d_box (fun g1 => ?_)
  refine l_do d_alloc (fun g2 => ?_)
  refine v_ops [] (hk := ?_)
  refine v_call 20350 [(900, 900), (901, 901), (910, 910), (911, 911), (920, 920), (921, 921), (930, 930), (931, 931)] (rU8_spec g A B c all s hB ho hl) Tryz.func235 (h := ?_)
  rintro _ _ (⟨rfl, B7, hB7, rfl⟩)
  refine k_ren 20350 910 rfl ?_
  refine v_ops [] (hk := ?_)
  refine l_do d_alloc (fun g3 => ?_)
  refine k_val 9 (.s (.one (.fn 254 [pa g1, pa g2] []))) rfl rfl ?_
  refine l_do1 d_store ?_
  refine v_ops [] (hk := ?_)
  refine l_do (d_makeMap (intEn .i64) fnEn) (fun g10 => ?_)
  refine v_ops [] (hk := ?_)
  refine k_val 11 (.s (fnEn.f (some (255, [pa g1, pa g2])))) rfl rfl ?_
  refine l_do1 (d_insert (k := (1 : Int)) (v := some (255, [pa g1, pa g2]))) ?_
  refine v_ops [] (hk := ?_)
  refine k_val 12 (.s (fnEn.f (some (256, [pa g1, pa g2])))) rfl rfl ?_
  refine l_do1 (d_insert (k := (2 : Int)) (v := some (256, [pa g1, pa g2]))) ?_
  refine v_ops [] (hk := ?_)
  refine k_val 13 (.s (fnEn.f (some (257, [pa g1, pa g2])))) rfl rfl ?_
  refine l_do1 (d_insert (k := (3 : Int)) (v := some (257, [pa g1, pa g2]))) ?_
  refine v_ops [] (hk := ?_)
  refine k_val 14 (.s (fnEn.f (some (254, [pa g1, pa g2])))) rfl rfl ?_
  refine l_do1 (d_insert (k := (4 : Int)) (v := some (254, [pa g1, pa g2]))) ?_
  refine v_ops [] (hk := ?_)
  refine k_val 15 (.s (fnEn.f (some (254, [pa g1, pa g2])))) rfl rfl ?_
  refine l_do1 (d_insert (k := (6 : Int)) (v := some (254, [pa g1, pa g2]))) ?_
  refine v_ops [] (hk := ?_)
  refine k_val 16 (.s (fnEn.f (some (258, [pa g1, pa g2, pa g3])))) rfl rfl ?_
  refine l_do1 (d_insert (k := (5 : Int)) (v := some (258, [pa g1, pa g2, pa g3]))) ?_
  refine v_ops [] (hk := ?_)
  refine k_res 10010 (Res.mp g10 (intEn .i64) fnEn (getNM g1 g2 g3) 6) rfl (by simp [mput, mclk, mhas, mlook, mset, getNM]; rfl) ?_
  refine l_rd (r_lookup1 (k := (((tot 0 (pU 1) all s).1 : Nat) : Int)) (zv := none) (Ev := fnEn)) ?_
  refine k_val 20 (.s (fnEn.f (none))) rfl (by rw [hk]; rfl) ?_
  refine v_ops [] (hk := ?_)
  refine l_rd (r_neNilFn (by kernel_rfl)) ?_
  refine k_val 23 (vb false) rfl rfl ?_
  refine l_do (d_bslice [false]) (fun X24 => ?_)
  refine v_call 21250 [(7, 10024), (900, 900), (901, 901), (910, 910), (911, 911), (920, 920), (921, 921), (930, 930), (931, 931)] (met1_spec g B7 X24 c all.length 1 ((tot 0 (pU 1) all s).2) false) Tryz.func146 (h := ?_)
  rintro _ _ (⟨h, _⟩ | ⟨_, rfl, rfl⟩)
  · cases h
  · refine v_ex [] (hk := ?_)
    refine k_pan [910] (h := ?_)
    exact .inr ⟨hr, rfl, _, B7, hB7, tot_room _ _ ho, rfl⟩
theorem gnode_gen (g : Nat) (A B : Option Addr) (c : Nat) (all : List UInt8) (s : Rd) (hB : TailOk A c s.o B) (ho : s.o ≤ all.length) (hl : all.length ≤ 70368744177664) (i : FuncId) {fn : Func} {α : Type} (upd : α → NodeP) (p : Pr α) (al : Nat → Nat → Nat → List SV) (hk : ∀ g1 g2 g3, mlook (getNM g1 g2 g3) ((((tot 0 (pU 1) all s).1 : Nat)) : Int) = some (some (i, (al g1 g2 g3).map SV.den))) (hf : Tryz.prog.funcs[i]? = some fn)
  (hs : ∀ g11 g12 g13 B, TailOk A c ((tot 0 (pU 1) all s).2).o B → CSpec Tryz.prog i (al g11 g12 g13) [(11, Res.va g11 174 [.one (.ptr 910 ⟨g, 0, none⟩)]), (13, Res.va g13 1 [.one (.fn 254 [pa g11, pa g12] [])]), (911, wrow A c all)] [(12, Res.va g12 76 (nodeEn.f {node0 with kind := (((tot 0 (pU 1) all s).1 : Nat) : Int)}).ats), (910, rdr g B c all.length ((tot 0 (pU 1) all s).2))] (NodeGet upd p g12 g A c all ((tot 0 (pU 1) all s).2)))
  (hr : ∀ t, pU 1 (all.drop s.o) = some ((tot 0 (pU 1) all s).1, t) → pNode (all.drop s.o) = (p t).map fun r => (upd r.1, r.2)) (hfb : fn.body.isNone = false := by rfl) (hfn : (fn.name == "runtime.NumGoroutine") = false := by rfl) : CSpec Tryz.prog 198 [.agg [.one (.ptr 910 ⟨g, 0, none⟩)]] [(911, wrow A c all)] [(910, rdr g B c all.length s)] (GetM nodeEn.f pNode g A c all s) := by
  have h7 := got_tot 0 (pU 1) all s
  refine v_enter Tryz.func198 (h := fun w0 => ?_)
  refine v_code [] (hk := ?_)
  refine l_do d_box (fun g1 => ?_)
  refine l_do d_alloc (fun g2 => ?_)
  refine v_ops [] (hk := ?_)
  refine v_call 20350 [(900, 900), (901, 901), (910, 910), (911, 911), (920, 920), (921, 921), (930, 930), (931, 931)] (rU8_spec g A B c all s hB ho hl) Tryz.func235 (h := ?_)
  rintro _ _ (⟨rfl, B7, hB7, rfl⟩)
  refine k_ren 20350 910 rfl ?_
  refine v_ops [] (hk := ?_)
  refine l_do d_alloc (fun g3 => ?_)
  refine k_val 9 (.s (.one (.fn 254 [pa g1, pa g2] []))) rfl rfl ?_
  refine l_do1 d_store ?_
  refine v_ops [] (hk := ?_)
  refine l_do (d_makeMap (intEn .i64) fnEn) (fun g10 => ?_)
  refine v_ops [] (hk := ?_)
  refine k_val 11 (.s (fnEn.f (some (255, [pa g1, pa g2])))) rfl rfl ?_
  refine l_do1 (d_insert (k := (1 : Int)) (v := some (255, [pa g1, pa g2]))) ?_
  refine v_ops [] (hk := ?_)
  refine k_val 12 (.s (fnEn.f (some (256, [pa g1, pa g2])))) rfl rfl ?_
  refine l_do1 (d_insert (k := (2 : Int)) (v := some (256, [pa g1, pa g2]))) ?_
  refine v_ops [] (hk := ?_)
  refine k_val 13 (.s (fnEn.f (some (257, [pa g1, pa g2])))) rfl rfl ?_
  refine l_do1 (d_insert (k := (3 : Int)) (v := some (257, [pa g1, pa g2]))) ?_
  refine v_ops [] (hk := ?_)
  refine k_val 14 (.s (fnEn.f (some (254, [pa g1, pa g2])))) rfl rfl ?_
  refine l_do1 (d_insert (k := (4 : Int)) (v := some (254, [pa g1, pa g2]))) ?_
  refine v_ops [] (hk := ?_)
  refine k_val 15 (.s (fnEn.f (some (254, [pa g1, pa g2])))) rfl rfl ?_
  refine l_do1 (d_insert (k := (6 : Int)) (v := some (254, [pa g1, pa g2]))) ?_
  refine v_ops [] (hk := ?_)
  refine k_val 16 (.s (fnEn.f (some (258, [pa g1, pa g2, pa g3])))) rfl rfl ?_
  refine l_do1 (d_insert (k := (5 : Int)) (v := some (258, [pa g1, pa g2, pa g3]))) ?_
  refine v_ops [] (hk := ?_)
  refine k_res 10010 (Res.mp g10 (intEn .i64) fnEn (getNM g1 g2 g3) 6) rfl (by simp [mput, mclk, mhas, mlook, mset, getNM]; rfl) ?_
  refine l_rd (r_lookup1 (k := (((tot 0 (pU 1) all s).1 : Nat) : Int)) (zv := none) (Ev := fnEn)) ?_
  refine k_val 20 (.s (fnEn.f (some (i, (al g1 g2 g3).map SV.den)))) rfl (by rw [hk]; rfl) ?_
  refine v_ops [] (hk := ?_)
  refine l_rd (r_neNilFn (by kernel_rfl)) ?_
  refine k_val 23 (vb true) rfl rfl ?_
  refine l_do (d_bslice [true]) (fun X24 => ?_)
  refine v_call 21250 [(7, 10024), (900, 900), (901, 901), (910, 910), (911, 911), (920, 920), (921, 921), (930, 930), (931, 931)] (met1_spec g B7 X24 c all.length 1 ((tot 0 (pU 1) all s).2) true) Tryz.func146 (h := ?_)
  rintro _ _ (⟨_, hb, rfl, rfl⟩ | ⟨hb, rfl, rfl⟩)
  · refine v_ops [] (hk := ?_)
    refine v_call 21350 [(11, 10001), (12, 10002), (13, 10003), (900, 900), (901, 901), (910, 910), (911, 911), (920, 920), (921, 921), (930, 930), (931, 931)] (hs g1 g2 g3 B7 hB7) hf (hb := hfb) (hn := hfn) (h := ?_)
    rintro _ _ (⟨rfl, x, s2, n2, B2, hg, hn, hB2, ho2, rfl⟩)
    refine k_ren 21350 10002 rfl ?_
    refine k_ren 21351 910 rfl ?_
    refine k_keep [(910, _), (10001, _), (10002, _)] ⟨rfl, rfl, rfl, trivial⟩ ?_
    refine v_ops [] (hk := ?_)
    refine v_call 21450 [(900, 900), (901, 901), (910, 910), (911, 911), (920, 920), (921, 921), (930, 930), (931, 931)] (met0_spec g B2 c all.length s2) Tryz.func146 (h := ?_)
    rintro _ _ (⟨_, hb2, rfl, rfl⟩ | ⟨hb2, rfl, rfl⟩)
    · refine v_ops [] (hk := ?_)
      obtain ⟨t, h0, h1, rfl⟩ := node_yes h7 hb hr hg hb2
      have hn2 := hn rfl
      subst hn2
      refine k_ret [910] (.s (nodeEn.f (upd x))) (.cons (.cell inferInstance rfl rfl rfl rfl) .nil) (h := ?_)
      exact .inl ⟨upd x, t, B2, h0, h1, hB2, rfl, rfl⟩
    · refine v_ex [] (hk := ?_)
      refine k_pan [910] (h := ?_)
      exact .inr ⟨node_no2 h7 hb hr hg (by simpa using hb2), rfl, s2, B2, hB2, ho2, rfl⟩
  · refine v_ex [] (hk := ?_)
    refine k_pan [910] (h := ?_)
    exact .inr ⟨node_no1 h7 (by simpa using hb), rfl, _, B7, hB7, tot_room _ _ ho, rfl⟩
end Go.Proofs.YtfopgaijfeeioaaGreat
/- READING: nodes, all kinds. -/

set_option linter.unusedVariables false
set_option linter.unusedSimpArgs false
set_option maxRecDepth 100000
namespace Go.Proofs.YtfopgaijfeeioaaGreat
open Go Go.RowKit HL
theorem look_gn {g1 g2 g3 : Nat} {k : Int} (h1 : k ≠ 1) (h2 : k ≠ 2) (h3 : k ≠ 3) (h4 : k ≠ 4) (h5 : k ≠ 5) (h6 : k ≠ 6) : mlook (getNM g1 g2 g3) k = none := by
  simp [mlook, getNM, Ne.symm h1, Ne.symm h2, Ne.symm h3, Ne.symm h4, Ne.symm h5, Ne.symm h6]
theorem pNode_of {b t : List UInt8} {k : Nat} (h : pU 1 b = some (k, t)) : pNode b = (if k = 1 then (pI t).map fun r => ((⟨1, r.1, 0, noB, 0⟩ : NodeP), r.2)
  else if k = 2 then (pText 200 t).map fun r => (⟨2, 0, 0, r.1, 0⟩, r.2)
  else if k = 3 then (pU 8 t).map fun r => (⟨3, 0, r.1, noB, 0⟩, r.2)
  else if k = 4 then (pCount 100 t).map fun r => (⟨4, 0, 0, noB, r.1⟩, r.2)
  else if k = 5 then (pU 4 t).bind fun r => (pCount 100 r.2).map fun u => (⟨5, r.1, 0, noB, u.1⟩, u.2)
  else if k = 6 then (pCount 100 t).map fun r => (⟨6, 0, 0, noB, r.1⟩, r.2)
  else none) := by
  unfold pNode
  rw [h]
  rfl
theorem gnode_spec (g : Nat) (A B : Option Addr) (c : Nat) (all : List UInt8) (s : Rd) (hB : TailOk A c s.o B) (ho : s.o ≤ all.length) (hl : all.length ≤ 70368744177664) : CSpec Tryz.prog 198 [.agg [.one (.ptr 910 ⟨g, 0, none⟩)]] [(911, wrow A c all)] [(910, rdr g B c all.length s)] (GetM nodeEn.f pNode g A c all s) := by
  generalize hkk : (tot 0 (pU 1) all s).1 = kk
  by_cases h1 : kk = 1
  · refine gnode_gen g A B c all s hB ho hl 255 (fun x : Int => {node0 with kind := (((tot 0 (pU 1) all s).1 : Nat) : Int), int := x}) (pI) (fun g1 g2 _ => [.one (.ptr 11 ⟨g1, 0, none⟩), .one (.ptr 12 ⟨g2, 0, none⟩)]) (fun _ _ _ => by rw [hkk, h1]; simp [mlook, getNM]; exact ⟨rfl, rfl⟩) Tryz.func255 (fun g11 g12 g13 B hB => gn2_spec g g11 g12 g13 A B c all _ _ hB (tot_room _ _ ho) hl) (fun t ht => ?_)
    rw [hkk] at ht
    rw [pNode_of ht, if_pos h1]
    simp only [hkk, h1]; rfl
  by_cases h2 : kk = 2
  · refine gnode_gen g A B c all s hB ho hl 256 (fun x : ByteArray => {node0 with kind := (((tot 0 (pU 1) all s).1 : Nat) : Int), bytes := x}) (pText 200) (fun g1 g2 _ => [.one (.ptr 11 ⟨g1, 0, none⟩), .one (.ptr 12 ⟨g2, 0, none⟩)]) (fun _ _ _ => by rw [hkk, h2]; simp [mlook, getNM]; exact ⟨rfl, rfl⟩) Tryz.func256 (fun g11 g12 g13 B hB => gn3_spec g g11 g12 g13 A B c all _ _ hB (tot_room _ _ ho) hl) (fun t ht => ?_)
    rw [hkk] at ht
    rw [pNode_of ht, if_neg h1, if_pos h2]
    simp only [hkk, h2]; rfl
  by_cases h3 : kk = 3
  · refine gnode_gen g A B c all s hB ho hl 257 (fun x : Nat => {node0 with kind := (((tot 0 (pU 1) all s).1 : Nat) : Int), bits := (x : Int)}) (pU 8) (fun g1 g2 _ => [.one (.ptr 11 ⟨g1, 0, none⟩), .one (.ptr 12 ⟨g2, 0, none⟩)]) (fun _ _ _ => by rw [hkk, h3]; simp [mlook, getNM]; exact ⟨rfl, rfl⟩) Tryz.func257 (fun g11 g12 g13 B hB => gn4_spec g g11 g12 g13 A B c all _ _ hB (tot_room _ _ ho) hl) (fun t ht => ?_)
    rw [hkk] at ht
    rw [pNode_of ht, if_neg h1, if_neg h2, if_pos h3]
    simp only [hkk, h3]; rfl
  by_cases h4 : kk = 4
  · refine gnode_gen g A B c all s hB ho hl 254 (fun x : Nat => {node0 with kind := (((tot 0 (pU 1) all s).1 : Nat) : Int), kids := (x : Int)}) (pCount 100) (fun g1 g2 _ => [.one (.ptr 11 ⟨g1, 0, none⟩), .one (.ptr 12 ⟨g2, 0, none⟩)]) (fun _ _ _ => by rw [hkk, h4]; simp [mlook, getNM]; exact ⟨rfl, rfl⟩) Tryz.func254 (fun g11 g12 g13 B hB => gn1_spec g g11 g12 g13 A B c all _ _ hB (tot_room _ _ ho) hl) (fun t ht => ?_)
    rw [hkk] at ht
    rw [pNode_of ht, if_neg h1, if_neg h2, if_neg h3, if_pos h4]
    simp only [hkk, h4]; rfl
  by_cases h5 : kk = 5
  · refine gnode_gen g A B c all s hB ho hl 258 (fun x : Nat × Nat => {node0 with kind := (((tot 0 (pU 1) all s).1 : Nat) : Int), int := (x.1 : Int), kids := (x.2 : Int)}) (fun b => (pU 4 b).bind fun r => (pCount 100 r.2).map fun u => ((r.1, u.1), u.2)) (fun g1 g2 g3 => [.one (.ptr 11 ⟨g1, 0, none⟩), .one (.ptr 12 ⟨g2, 0, none⟩), .one (.ptr 13 ⟨g3, 0, none⟩)]) (fun _ _ _ => by rw [hkk, h5]; simp [mlook, getNM]; exact ⟨rfl, rfl, rfl⟩) Tryz.func258 (fun g11 g12 g13 B hB => gn5_spec g g11 g12 g13 A B c all _ _ hB (tot_room _ _ ho) hl) (fun t ht => ?_)
    rw [hkk] at ht
    rw [pNode_of ht, if_neg h1, if_neg h2, if_neg h3, if_neg h4, if_pos h5]
    cases pU 4 t with
      | none => rfl
      | some r => cases h : pCount 100 r.2 with
        | none => simp only [Option.bind_some, h, Option.map_none]
        | some u => simp only [Option.bind_some, h, Option.map_some, hkk, h5]; rfl
  by_cases h6 : kk = 6
  · refine gnode_gen g A B c all s hB ho hl 254 (fun x : Nat => {node0 with kind := (((tot 0 (pU 1) all s).1 : Nat) : Int), kids := (x : Int)}) (pCount 100) (fun g1 g2 _ => [.one (.ptr 11 ⟨g1, 0, none⟩), .one (.ptr 12 ⟨g2, 0, none⟩)]) (fun _ _ _ => by rw [hkk, h6]; simp [mlook, getNM]; exact ⟨rfl, rfl⟩) Tryz.func254 (fun g11 g12 g13 B hB => gn1_spec g g11 g12 g13 A B c all _ _ hB (tot_room _ _ ho) hl) (fun t ht => ?_)
    rw [hkk] at ht
    rw [pNode_of ht, if_neg h1, if_neg h2, if_neg h3, if_neg h4, if_neg h5, if_pos h6]
    simp only [hkk, h6]; rfl
  refine gnode_none g A B c all s hB ho hl (fun _ _ _ => by rw [hkk]; exact look_gn (by omega) (by omega) (by omega) (by omega) (by omega) (by omega)) ?_
  have h7 := got_tot 0 (pU 1) all s
  rw [hkk] at h7
  rcases h7 with ⟨_, t, ht, _⟩ | ⟨h, _⟩
  · refine .inr ?_
    rw [pNode_of ht, if_neg h1, if_neg h2, if_neg h3, if_neg h4, if_neg h5, if_neg h6]
  · rcases h with h | h
    · exact .inl h
    · refine .inr ?_
      unfold pNode
      rw [h]
      rfl
end Go.Proofs.YtfopgaijfeeioaaGreat
/- READING: terms. -/

set_option linter.unusedVariables false
set_option linter.unusedSimpArgs false
set_option maxRecDepth 100000
set_option maxHeartbeats 4000000
namespace Go.Proofs.YtfopgaijfeeioaaGreat
open Go Go.RowKit HL
def GetO {α μ : Type} (enc : μ → SV) (own : μ → List Res) (con : μ → α) (p : Pr α) (g : Nat) (A : Option Addr) (c : Nat) (all : List UInt8) (s : Rd) (o : Out) (L : List Res) : Prop := (∃ x t B', s.bad = false ∧ p (all.drop s.o) = some (con x, t) ∧ TailOk A c (all.length - t.length) B' ∧ o = .ret (.s (enc x)) ∧ L = rdr g B' c all.length ⟨all.length - t.length, false⟩ :: own x) ∨ ((s.bad = true ∨ p (all.drop s.o) = none) ∧ o = .pan wrong ∧ ∃ s' B', TailOk A c s'.o B' ∧ s'.o ≤ all.length ∧ L = [rdr g B' c all.length s'])
structure TermM where
  A : Option Addr
  c : Nat
  l : List NodeP
abbrev TermM.enc (x : TermM) : SV := .agg [.one (.sl 1 x.A x.l.length x.c)]
abbrev TermM.own (x : TermM) : List Res := [Res.rows x.A x.c 76 nodeEn x.l]
theorem pT_step {f : Nat} {left : Int} {acc : List NodeP} {b : List UInt8} (h : 0 < left) (ha : acc.length < 100) : pT (f + 1) left acc b = (pNode b).bind fun q => pT f (left - 1 + q.1.kids) (acc ++ [q.1]) q.2 := by
  rw [pT, if_neg (by omega), if_neg (by omega)]
theorem pT_full {f : Nat} {left : Int} {acc : List NodeP} {b : List UInt8} (h : 0 < left) (ha : ¬ acc.length < 100) : pT (f + 1) left acc b = none := by
  rw [pT, if_neg (by omega), if_pos (by omega)]
theorem pT_done {f : Nat} {left : Int} {acc : List NodeP} {b : List UInt8} (h : ¬ 0 < left) : pT (f + 1) left acc b = some (acc, b) := by
  rw [pT, if_pos (by omega)]
theorem pTerm_no {b : List UInt8} (h : pT 102 1 [] b = none) : pTerm b = none := by
  unfold pTerm
  rw [h]
  rfl
theorem gterm_spec (g : Nat) (A B : Option Addr) (c : Nat) (all : List UInt8) (s : Rd) (hB : TailOk A c s.o B) (ho : s.o ≤ all.length) (hl : all.length ≤ 70368744177664) : CSpec Tryz.prog 119 [.agg [.one (.ptr 910 ⟨g, 0, none⟩)]] [(911, wrow A c all)] [(910, rdr g B c all.length s)] (GetO TermM.enc TermM.own TermM.l pTerm g A c all s) := by
  refine v_enter Tryz.func119 (h := fun w0 => ?_)
  refine v_code [] (hk := ?_)
  refine l_do d_box (fun g1 => ?_)
  refine l_do d_alloc (fun g2 => ?_)
  refine v_ops [] (hk := ?_)
  refine k_nil 10026 76 nodeEn ?_
  refine v_loop (fun m E H => ∃ (k : Nat) (left : Int) (acc : List NodeP) (sk : Rd) (B2 : Option Addr) (A4 : Option Addr) (c4 : Nat), E = [(3, .s (.one (.i .i64 left)))] ∧ H = [(910, rdr g B2 c all.length sk), (10002, Res.va g2 39 [.one (.sl 10026 A4 acc.length c4)]), (10026, Res.rows A4 c4 76 nodeEn acc)] ∧ m = 101 - k ∧ k ≤ 101 ∧ (pT (102 - k) left acc (all.drop sk.o) = pT 102 1 [] (all.drop s.o)) ∧ (s.bad = sk.bad) ∧ (TailOk A c sk.o B2) ∧ (sk.o ≤ all.length) ∧ (acc.length = k) ∧ (0 ≤ left ∧ left ≤ 1 + 100 * k) ∧ (∀ n ∈ acc, FitN n)) [1, 2, 28, 29, 30, 31, 33] (101) ([(3, .s (.one (.i .i64 (1))))]) ([(910, rdr g (B) c all.length (s)), (10002, Res.va g2 39 [.one (.sl 10026 (none) ([]).length (0))]), (10026, Res.rows (none) (0) 76 nodeEn ([]))]) (h0 := ⟨0, 1, [], s, B, none, 0, rfl, rfl, by omega, by omega, rfl, rfl, hB, ho, rfl, ⟨by omega, by omega⟩, by simp⟩) (hr := ?_)
  rintro _ _ _ ⟨k, left, acc, sk, B2, A4, c4, rfl, rfl, hmk, hk, hik0, hik1, hik2, hik3, hik4, hik5, hik6⟩
  refine v_code [] (hk := ?_)
  first | refine c_ifd rfl (fun h6 => ?_) (fun h6 => ?_) | refine c_ifn rfl (fun h6 => ?_) (fun h6 => ?_) | refine c_if rfl (fun h6 => ?_) (fun h6 => ?_)
  · have hleft : 0 < left := h6
    have hk0 : 102 - k = (101 - k) + 1 := by omega
    rw [hk0] at hik0
    refine v_code [] (hk := ?_)
    refine l_do (d_bslice [decide (acc.length < 100)]) (fun X14 => ?_)
    refine v_call 20750 [(7, 10014), (900, 900), (901, 901), (910, 910), (911, 911), (920, 920), (921, 921), (930, 930), (931, 931)] (met1_spec g B2 X14 c all.length 1 sk (decide (acc.length < 100))) Tryz.func146 (h := ?_)
    rintro _ _ (⟨hq, hb, rfl, rfl⟩ | ⟨hq, rfl, rfl⟩)
    · have hq : acc.length < 100 := of_decide_eq_true hq
      rw [pT_step hleft hq] at hik0
      refine v_ops [] (hk := ?_)
      refine v_call 20850 [(900, 900), (901, 901), (910, 910), (911, 911), (920, 920), (921, 921), (930, 930), (931, 931)] (gnode_spec g A B2 c all sk hik2 hik3 hl) Tryz.func198 (h := ?_)
      rintro _ _ (⟨x, t, B3, _, hp, hB3, rfl, rfl⟩ | ⟨hn, rfl, s3, B3, hB3, ho3, rfl⟩)
      · refine k_ren 20850 910 rfl ?_
        refine k_keep [(910, _), (10001, _), (10002, _), (10026, _)] ⟨rfl, rfl, rfl, rfl, trivial⟩ ?_
        obtain ⟨hi1, hi2, hi3, hi4⟩ := pNode_inv hp
        have hd := sfx_drop hi1
        refine l_do d_alloc (fun g4 => ?_)
        refine v_ops [] (hk := ?_)
        refine l_do (d_bslice [x]) (fun X25 => ?_)
        refine l_do d_append (fun p26 => ?_)
        refine v_ops [] (hk := ?_)
        refine v_again (101 - (k + 1)) ⟨k + 1, left + x.kids - 1, acc ++ [x], ⟨all.length - t.length, false⟩, B3, p26.1, p26.2, rfl, rfl, by omega, by omega, by rw [← hik0, hp, hd, show left + x.kids - 1 = left - 1 + x.kids by omega, show 102 - (k + 1) = 101 - k by omega]; rfl, by rw [hik1]; exact hb, hB3, Nat.sub_le _ _, by simp [hik4], ⟨by omega, by omega⟩, (fun n hn => (List.mem_append.1 hn).elim (hik6 n) fun h => by rw [List.mem_singleton.1 h]; exact hi2)⟩
      · refine k_ren 20850 910 rfl ?_
        refine v_ex [] (hk := ?_)
        refine k_pan [910] (h := ?_)
        exact .inr ⟨(by rcases hn with hn | hn; exact .inl (by rw [hik1]; exact hn); exact .inr (pTerm_no (by rw [← hik0, hn]; rfl))), rfl, s3, B3, hB3, ho3, rfl⟩
    · refine v_ex [] (hk := ?_)
      refine k_pan [910] (h := ?_)
      exact .inr ⟨(by rcases hq with hq | hq; exact .inr (pTerm_no (by rw [← hik0]; exact pT_full hleft (of_decide_eq_false hq))); exact .inl (by rw [hik1]; exact hq)), rfl, sk, B2, hik2, hik3, rfl⟩
  · have hleft : ¬ 0 < left := h6
    have hk0 : 102 - k = (101 - k) + 1 := by omega
    rw [hk0, pT_done hleft] at hik0
    refine k_fact (fun w hf => rows_room (hf 10026 _ rfl)) (fun hroom => ?_)
    refine v_code [] (hk := ?_)
    refine v_draw (.q 0 (.q 1 (.s 2 (.s 3 (.s 4 .nil))))) [10001, 10002, 10012, 10014, 20750, 20751, 20752, 20753, 20850, 20851, 20852, 20853, 10004, 10025, 10026, 21500, 21501, 21502, 21503, 10031, 21600, 21601, 21602, 21603] (hm := by kernel_rfl) (hs := by kernel_rfl) (hk := by kernel_rfl) (h := ?_)
    refine v_sch [] (hk := ?_)
    refine v_callS rfl 21500 [(940, 10026), (900, 900), (901, 901), (910, 910), (911, 911), (920, 920), (921, 921), (930, 930), (931, 931)] (rightT_spec A4 c4 acc hroom (by omega) hik6) Tryz.func65 (h := ?_)
    rintro _ _ (⟨rfl, rfl⟩)
    refine ⟨cov_of (by repeat (first | exact trivial | refine ⟨rfl, ?_⟩)), ?_⟩
    refine s_do rfl (d_bslice [rightT acc]) (fun X31 => ?_)
    refine v_callS rfl 21600 [(7, 10031), (900, 900), (901, 901), (910, 910), (911, 911), (920, 920), (921, 921), (930, 930), (931, 931)] (met1_spec g B2 X31 c all.length 1 sk (rightT acc)) Tryz.func146 (h := ?_)
    rintro _ _ (⟨hr, hb, rfl, rfl⟩ | ⟨hr, rfl, rfl⟩)
    · refine ⟨cov_of (by repeat (first | exact trivial | refine ⟨rfl, ?_⟩)), ?_⟩
      refine v_sch [] (hk := ?_)
      refine k_ret [910, 10026] (.s (TermM.enc ⟨A4, c4, acc⟩)) (.cons (.cell inferInstance rfl rfl rfl rfl) .nil) (h := ?_)
      have e1 : all.length - (all.drop sk.o).length = sk.o := by rw [List.length_drop]; omega
      have esk : sk = ⟨sk.o, false⟩ := by rw [← hb]
      exact .inl ⟨⟨A4, c4, acc⟩, all.drop sk.o, B2, by rw [hik1]; exact hb, by unfold pTerm; rw [← hik0]; simp [hr], by rw [e1]; exact hik2, rfl, by rw [e1, ← esk]; rfl⟩
    · refine v_ex [] (hk := ?_)
      refine k_pan [910] (h := ?_)
      exact .inr ⟨(by rcases hr with hr | hr; exact .inr (by unfold pTerm; rw [← hik0]; simp [hr]); exact .inl (by rw [hik1]; exact hr)), rfl, sk, B2, hik2, hik3, rfl⟩
end Go.Proofs.YtfopgaijfeeioaaGreat
/- READING: GetTerm. -/

set_option linter.unusedVariables false
set_option linter.unusedSimpArgs false
set_option maxRecDepth 100000
namespace Go.Proofs.YtfopgaijfeeioaaGreat
open Go Go.RowKit HL
abbrev rcellI (g2 g : Nat) : Res := Res.va g2 229 [.one (.ifp 60 910 ⟨g, 0, none⟩)]
def GetP {α μ : Type} (enc : μ → SV) (own : μ → List Res) (con : μ → α) (z : SV) (p : Pr α) (g : Nat) (A : Option Addr) (c : Nat) (all : List UInt8) (s : Rd) (o : Out) (L : List Res) : Prop := (∃ x t B', s.bad = false ∧ p (all.drop s.o) = some (con x, t) ∧ TailOk A c (all.length - t.length) B' ∧ o = .ret (.s (enc x)) ∧ L = rdr g B' c all.length ⟨all.length - t.length, false⟩ :: own x) ∨ ((s.bad = true ∨ p (all.drop s.o) = none) ∧ o = .ret (.s z) ∧ ∃ q B', TailOk A c q B' ∧ q ≤ all.length ∧ L = [rdr g B' c all.length ⟨q, true⟩])
theorem doneT1_ret (g2 g4 g : Nat) (at_ : List At) : CSpecD Tryz.prog 197 [.one (.ptr 0 ⟨g2, 0, none⟩), .one (.ptr 1 ⟨g4, 0, none⟩)] [] [(0, rcellI g2 g), (1, Res.va g4 39 at_)] .returning fun r u L => r = .ret (.tup []) ∧ u = .returning ∧ L = [rcellI g2 g, Res.va g4 39 at_] := by
  refine d_enter Tryz.func197 (h := fun w0 c₀ cs0 hu => ?_)
  refine d_seq ?_
  refine d_region ?_
  refine d_norecover hu (h := ?_)
  refine v_ops [] (hk := ?_)
  refine d_ret rfl [0, 1] (.tup []) .nil (h := ?_)
  exact ⟨rfl, rfl, rfl⟩
theorem doneT1_pan (g2 g4 g : Nat) (B : Option Addr) (n c : Nat) (s : Rd) : CSpecD Tryz.prog 197 [.one (.ptr 0 ⟨g2, 0, none⟩), .one (.ptr 1 ⟨g4, 0, none⟩)] [] [(0, rcellI g2 g), (1, Res.va g4 39 [.one (.sl 0 none 0 0)]), (910, rdr g B c n s)] (.panicking wrong) fun r u L => r = .ret (.tup []) ∧ settle u = .returning ∧ L = [rcellI g2 g, Res.va g4 39 [.one (.sl 0 none 0 0)], rdr g B c n ⟨s.o, true⟩] := by
  refine d_enter Tryz.func197 (h := fun w0 c₀ cs0 hu => ?_)
  refine d_seq ?_
  refine d_region ?_
  refine d_recover (.s (.one (.ifv 231 (SV.agg []).den))) rfl hu (h := ?_)
  refine v_ops [] (hk := ?_)
  refine l_rd r_assertY ?_
  refine v_ops [] (hk := ?_)
  refine l_do d_alloc (fun g3 => ?_)
  refine v_ops [] (hk := ?_)
  refine v_know 15 false rfl rfl ?_
  refine v_code [] (hk := ?_)
  refine v_callI 20900 [(910, 910)] (rSpoil_spec g B c n s) Tryz.func332 (fun _ => by kernel_rfl) (h := ?_)
  rintro _ _ ⟨rfl, rfl⟩
  refine k_ren 20900 910 rfl ?_
  refine v_ops [] (hk := ?_)
  refine l_do d_alloc (fun g5 => ?_)
  refine v_ops [] (hk := ?_)
  refine d_ret rfl [0, 1, 910] (.tup []) .nil (h := ?_)
  exact ⟨rfl, rfl, rfl⟩
theorem doneT_spec (g : Nat) (A B : Option Addr) (c : Nat) (all : List UInt8) (s : Rd) (hB : TailOk A c s.o B) (ho : s.o ≤ all.length) (hl : all.length ≤ 70368744177664) : CSpec Tryz.prog 118 [.one (.ifp 60 910 ⟨g, 0, none⟩), .one (.fnb 119 [(SV.agg [.one (.ptr 910 ⟨g, 0, none⟩)]).den])] [(911, wrow A c all)] [(910, rdr g B c all.length s)] (GetP TermM.enc TermM.own TermM.l (.agg [.one (.sl 0 none 0 0)]) pTerm g A c all s) := by
  refine v_enterD Tryz.func118 (h := fun w0 => ?_)
  refine v_code [] (hk := ?_)
  refine l_do d_box (fun g2 => ?_)
  refine l_do d_alloc (fun g4 => ?_)
  refine v_ops [] (hk := ?_)
  refine l_defer (h := ?_)
  refine v_ops [] (hk := ?_)
  refine v_callB 20350 [(900, 900), (901, 901), (910, 910), (911, 911), (920, 920), (921, 921), (930, 930), (931, 931)] (gterm_spec g A B c all s hB ho hl) Tryz.func119 (h := ?_)
  rintro _ _ (⟨⟨A4, c4, l4⟩, t, B2, hb, hp, hB2, rfl, rfl⟩ | ⟨hn, rfl, s2, B2, hB2, ho2, rfl⟩)
  · refine k_ren 20350 910 rfl ?_
    refine k_ren 20351 10940 rfl ?_
    refine k_keep [(910, _), (10940, _), (10002, _), (10004, _)] ⟨rfl, rfl, rfl, rfl, trivial⟩ ?_
    refine v_ops [] (hk := ?_)
    refine v_leave _ rfl ?_
    refine v_defers (args := []) 30000 (fun x => if x = 0 then 10002 else if x = 1 then 10004 else x) (doneT1_ret g2 g4 g [.one (.sl 7 A4 l4.length c4)]) Tryz.func197 (h := ?_)
    rintro _ _ _ ⟨rfl, rfl, rfl⟩
    refine k_ren 30001 10004 rfl ?_
    refine v_left [910, 10940] (.s (TermM.enc ⟨A4, c4, l4⟩)) (.cons (.cell inferInstance rfl rfl rfl rfl) .nil) (h := ?_)
    exact .inl ⟨⟨A4, c4, l4⟩, t, B2, hb, hp, hB2, rfl, rfl⟩
  · refine k_ren 20350 910 rfl ?_
    refine v_ex [] (hk := ?_)
    refine v_leave _ rfl ?_
    refine v_defers (args := []) 30000 (fun x => if x = 0 then 10002 else if x = 1 then 10004 else x) (doneT1_pan g2 g4 g B2 all.length c s2) Tryz.func197 (h := ?_)
    rintro _ _ _ ⟨rfl, hu, rfl⟩
    rw [hu]
    refine k_ren 30001 10004 rfl ?_
    refine v_left [30002] (.s (.agg [.one (.sl 0 none 0 0)])) (.cons (.cell inferInstance rfl rfl rfl rfl) .nil) (h := ?_)
    exact .inr ⟨hn, rfl, s2.o, B2, hB2, ho2, rfl⟩
theorem getTerm_spec (g : Nat) (A B : Option Addr) (c : Nat) (all : List UInt8) (s : Rd) (hB : TailOk A c s.o B) (ho : s.o ≤ all.length) (hl : all.length ≤ 70368744177664) : CSpec Tryz.prog 43 [.one (.ptr 910 ⟨g, 0, none⟩)] [(911, wrow A c all)] [(910, rdr g B c all.length s)] (GetP TermM.enc TermM.own TermM.l (.agg [.one (.sl 0 none 0 0)]) pTerm g A c all s) := by
  refine v_enter Tryz.func43 (h := fun w0 => ?_)
  refine v_code [] (hk := ?_)
  refine l_do d_alloc (fun g2 => ?_)
  refine v_ops [] (hk := ?_)
  refine l_rd r_ifaceP ?_
  refine v_ops [] (hk := ?_)
  refine l_rd r_makeBound ?_
  refine v_call 20400 [(900, 900), (901, 901), (910, 910), (911, 911), (920, 920), (921, 921), (930, 930), (931, 931)] (doneT_spec g A B c all s hB ho hl) Tryz.func118 (h := ?_)
  rintro _ _ (⟨⟨A4, c4, l4⟩, t, B2, hb, hp, hB2, rfl, rfl⟩ | ⟨hn, rfl, q, B2, hB2, ho2, rfl⟩)
  · refine k_ren 20400 910 rfl ?_
    refine k_ren 20401 10940 rfl ?_
    refine k_keep [(910, _), (10940, _), (10002, _)] ⟨rfl, rfl, rfl, trivial⟩ ?_
    refine v_ops [] (hk := ?_)
    refine k_ret [910, 10940] ((.s (TermM.enc ⟨A4, c4, l4⟩))) (.cons (.cell inferInstance rfl rfl rfl rfl) .nil) (h := ?_)
    exact .inl ⟨⟨A4, c4, l4⟩, t, B2, hb, hp, hB2, rfl, rfl⟩
  · refine k_ren 20400 910 rfl ?_
    refine v_ops [] (hk := ?_)
    refine k_ret [910] ((.s (.agg [.one (.sl 0 none 0 0)]))) (.cons (.cell inferInstance rfl rfl rfl rfl) .nil) (h := ?_)
    exact .inr ⟨hn, rfl, q, B2, hB2, ho2, rfl⟩
end Go.Proofs.YtfopgaijfeeioaaGreat
/- THE LAW'S EXAMPLE, the same terms. -/

set_option linter.unusedVariables false
set_option linter.unusedSimpArgs false
set_option maxRecDepth 100000
namespace Go.Proofs.YtfopgaijfeeioaaGreat
open Go Go.RowKit HL
instance eqE_node : EqE Tryz.prog 76 nodeEn := ⟨⟨3, by omega, eqV_struct
    [⟨Int, inferInstance, Value.int .i64, 1, NodeP.kind, 71, 1, (eqTy_int (UD.is (P := Tryz.prog) (T := 71))).v, fits_i64 _, fun _ => rfl⟩, ⟨Int, inferInstance, Value.int .i64, 1, NodeP.int, 2, 1, (eqTy_int (UD.is (P := Tryz.prog) (T := 2))).v, fits_i64 _, fun _ => rfl⟩, ⟨Int, inferInstance, Value.int .u64, 1, NodeP.bits, 73, 1, (eqTy_int (UD.is (P := Tryz.prog) (T := 73))).v, fits_u64 _, fun _ => rfl⟩, ⟨ByteArray, inferInstance, Value.string, 1, NodeP.bytes, 9, 1, (eqTy_str (UD.is (P := Tryz.prog) (T := 9))).v, fits_str _, fun _ => rfl⟩, ⟨Int, inferInstance, Value.int .i64, 1, NodeP.kids, 3, 1, (eqTy_int (UD.is (P := Tryz.prog) (T := 3))).v, fits_i64 _, fun _ => rfl⟩]
    Tryz.underlying76 (by kernel_rfl) (by kernel_rfl) (by kernel_rfl) (by intro F hF; simp at hF; rcases hF with rfl | rfl | rfl | rfl | rfl <;> simp) (fun x => SV.den_agg _) (fun x y => by cases x; cases y; simp [FE.same, Bool.decide_and])⟩, by kernel_rfl, rfl⟩
theorem sameNodes_spec (A B : Option Addr) (l l2 : List NodeP) (c d : Nat) (hl : l.length ≤ 1048576) : CSpec Tryz.prog 120 [.one (.sl 0 A l.length c), .one (.sl 1 B l2.length d)] [(0, Res.rd A nodeEn l), (1, Res.rd B nodeEn l2)] [] fun o L => o = .ret (vb (decide (l = l2))) ∧ L = [] := by
  refine v_enter Tryz.func120 (h := fun w0 => ?_)
  refine v_code [] (hk := ?_)
  first | refine c_ifd rfl (fun h10 => ?_) (fun h10 => ?_) | refine c_ifn rfl (fun h10 => ?_) (fun h10 => ?_) | refine c_if rfl (fun h10 => ?_) (fun h10 => ?_)
  · refine v_code [] (hk := ?_)
    refine v_ret rfl [] (.cons (.tmp rfl) .nil) (h := ?_)
    exact ⟨outB (decide_eq_false fun e => h10 (by rw [e])).symm, rfl⟩
  · refine v_code [] (hk := ?_)
    refine v_loop (fun m E H => ∃ (k : Nat), E = [(5, vn k)] ∧ H = [] ∧ m = l.length - k ∧ k ≤ l.length ∧ (l.take k = l2.take k)) [0, 1] (l.length) ([(5, vn 0)]) ([]) (h0 := ⟨0, rfl, rfl, by omega, by omega, rfl⟩) (hr := ?_)
    rintro _ _ _ ⟨k, rfl, rfl, hmk, hk, hik0⟩
    refine v_code [] (hk := ?_)
    first | refine c_ifd rfl (fun h14 => ?_) (fun h14 => ?_) | refine c_ifn rfl (fun h14 => ?_) (fun h14 => ?_) | refine c_if rfl (fun h14 => ?_) (fun h14 => ?_)
    · refine v_code [] (hk := ?_)
      refine v_draw (.q 0 (.q 1 (.q 2 (.q 3 (.q 4 (.q 5 (.q 6 (.q 7 (.q 8 .nil))))))))) [10007, 10009, 10013] (hm := by kernel_rfl) (hs := by kernel_rfl) (hk := by kernel_rfl) (h := ?_)
      refine v_sch [] (hk := ?_)
      refine q_rd rfl (r_neSt (u := l.getD k node0) (v := l2.getD k node0)) ?_
      refine v_sch [] (hk := ?_)
      first | refine c_ifd rfl (fun h25 => ?_) (fun h25 => ?_) | refine c_ifn rfl (fun h25 => ?_) (fun h25 => ?_) | refine c_if rfl (fun h25 => ?_) (fun h25 => ?_)
      · refine v_code [] (hk := ?_)
        refine v_ret rfl [] (.cons (.tmp rfl) .nil) (h := ?_)
        exact ⟨outB (decide_eq_false fun e => h25 (by rw [e])).symm, rfl⟩
      · refine v_code [] (hk := ?_)
        refine v_again (l.length - (k + 1)) ⟨k + 1, rfl, rfl, by omega, by omega, by rw [take_getD (d := node0) h14, take_getD (d := node0) (by omega), hik0, h25]⟩
    · refine v_code [] (hk := ?_)
      refine v_ret rfl [] (.cons (.tmp rfl) .nil) (h := ?_)
      rw [take_all' h14] at hik0
      have e2 : l2.take k = l2 := List.take_of_length_le (by omega)
      exact ⟨outB (decide_eq_true (by rw [hik0, e2])).symm, rfl⟩
theorem sameTerm_spec (A B : Option Addr) (l l2 : List NodeP) (c d : Nat) (hl : l.length ≤ 1048576) : CSpec Tryz.prog 44 [.agg [.one (.sl 0 A l.length c)], .agg [.one (.sl 1 B l2.length d)]] [(0, Res.rd A nodeEn l), (1, Res.rd B nodeEn l2)] [] fun o L => o = .ret (vb (decide (l = l2))) ∧ L = [] := by
  refine v_enter Tryz.func44 (h := fun w0 => ?_)
  refine v_code [] (hk := ?_)
  refine l_do d_box (fun g2 => ?_)
  refine l_do d_box (fun g3 => ?_)
  refine v_ops [] (hk := ?_)
  refine v_call 20450 [(0, 0), (1, 1), (900, 900), (901, 901), (910, 910), (911, 911), (920, 920), (921, 921), (930, 930), (931, 931)] (sameNodes_spec A B l l2 c d hl) Tryz.func120 (h := ?_)
  rintro _ _ (⟨rfl, rfl⟩)
  refine v_ops [] (hk := ?_)
  refine v_ret rfl [] (.cons (.tmp rfl) .nil) (h := ?_)
  exact ⟨rfl, rfl⟩
def exT : List NodeP := [⟨4, 0, 0, noB, 2⟩, ⟨1, 1, 0, noB, 0⟩, ⟨2, 0, 0, ⟨#[97, 98]⟩, 0⟩]
theorem exT_right : rightT exT = true := by decide
def exB : List UInt8 := [4, 0, 2, 1, 0, 0, 0, 0, 0, 0, 0, 1, 2, 0, 2, 97, 98]
theorem exT_enc : encT exT = exB := by decide
theorem exT_fit : ∀ n ∈ exT, FitN n := by intro n hn; simp [exT] at hn; rcases hn with rfl | rfl | rfl <;> (refine ⟨⟨?_, ?_⟩, ?_, ?_⟩ <;> simp)
theorem exT_get : pTerm exB = some (exT, []) := by
  have := pTerm_put exT_right exT_fit []
  rw [List.append_nil, exT_enc] at this
  exact this
theorem list_spec : CSpec Tryz.prog 42 [] [] [] fun o L => ∃ B, o = .ret (.s (.agg [.one (.sl 0 B 3 3)])) ∧ L = [Res.rows B 3 76 nodeEn exT] := by
  refine v_enter Tryz.func42 (h := fun w0 => ?_)
  refine v_code [] (hk := ?_)
  refine l_do d_alloc (fun g0 => ?_)
  refine v_ops [] (hk := ?_)
  refine l_do (d_bslice exT) (fun B4 => ?_)
  refine v_ops [] (hk := ?_)
  refine k_ret [10004] (.s (.agg [.one (.sl 0 B4 3 3)])) (.cons (.cell inferInstance rfl rfl rfl rfl) .nil) (h := ?_)
  exact ⟨B4, rfl, rfl⟩
end Go.Proofs.YtfopgaijfeeioaaGreat
/- THE LAW is awake. -/

set_option linter.unusedVariables false
set_option linter.unusedSimpArgs false
set_option maxRecDepth 100000
set_option maxHeartbeats 4000000
namespace Go.Proofs.YtfopgaijfeeioaaGreat
open Go Go.RowKit HL
theorem tailOk0 (A : Option Addr) (c : Nat) : TailOk A c 0 A := fun h => by
  unfold tailA
  rw [if_neg (by omega)]
  cases A with
  | none => rfl
  | some a => cases a; simp [Addr.add]
theorem putEx_spec (g : Nat) (B : Option Addr) : CSpec Tryz.prog 41 [.one (.ptr 900 ⟨g, 0, none⟩), .agg (tval B exT 3)] [(940, Res.rd B nodeEn exT)] [(900, wr g none 0 0 false), (901, wrow none 0 [])] fun o L => o = .ret (.tup []) ∧ ∃ A c, L = [wr g A exB.length c false, wrow A c exB] :=
  (putTerm_spec g none B 0 3 false [] exT (by decide) (by decide) exT_fit (by simp)).mono fun o L ⟨h, A, c, hL⟩ => ⟨h, A, c, by
    rw [hL, exT_right, exT_enc]
    rfl⟩
theorem getEx_spec (g : Nat) (A B : Option Addr) (c : Nat) (hB : TailOk A c 0 B) : CSpec Tryz.prog 43 [.one (.ptr 910 ⟨g, 0, none⟩)] [(911, wrow A c exB)] [(910, rdr g B c exB.length ⟨0, false⟩)] fun o L => ∃ A4 c4 B2, o = .ret (.s (.agg [.one (.sl 1 A4 exT.length c4)])) ∧ L = [rdr g B2 c exB.length ⟨17, false⟩, Res.rows A4 c4 76 nodeEn exT] :=
  (getTerm_spec g A B c exB ⟨0, false⟩ hB (Nat.zero_le _) (by decide)).mono fun o L h => by
    rcases h with ⟨⟨A4, c4, l⟩, t, B2, _, hp, _, rfl, rfl⟩ | ⟨h, _⟩
    · have hp : pTerm exB = some (l, t) := hp
      rw [exT_get] at hp
      injection hp with hp
      injection hp with h1 h2
      subst h1
      subst h2
      exact ⟨A4, c4, B2, rfl, rfl⟩
    · exfalso
      rcases h with h | h
      · cases h
      · have h : pTerm exB = none := h
        rw [exT_get] at h
        cases h
def exO : OutM := ⟨⟨false, hz, ⟨5, []⟩, 0, hz, []⟩, none, 0, none, 0⟩
theorem exO_long : longO exO.c = 44 := by decide
theorem exO_ok : OkO exO := ⟨by decide, by decide, by decide, by intro n hn; cases hn⟩
theorem awake_spec : CSpec Tryz.prog 9 [] [] [] fun o L => o = .ret (vb true) ∧ L = [] := by
  refine v_enter Tryz.func9 (h := fun w0 => ?_)
  refine v_code [] (hk := ?_)
  refine v_call 20250 [(900, 900), (901, 901), (910, 910), (911, 911), (920, 920), (921, 921), (930, 930), (931, 931)] (newWriter_spec) Tryz.func37 (h := ?_)
  rintro _ _ (⟨g, rfl, rfl⟩)
  refine k_val 5 (vp 900 ⟨g, 0, none⟩) rfl rfl ?_
  refine k_ren 20250 900 rfl ?_
  refine k_ren 20251 901 rfl ?_
  refine v_ops [] (hk := ?_)
  refine v_call 20350 [(900, 900), (901, 901), (910, 910), (911, 911), (920, 920), (921, 921), (930, 930), (931, 931)] (list_spec) Tryz.func42 (h := ?_)
  rintro _ _ (⟨B7, rfl, rfl⟩)
  refine v_call 20400 [(940, 20350), (900, 900), (901, 901), (910, 910), (911, 911), (920, 920), (921, 921), (930, 930), (931, 931)] (putEx_spec g B7) Tryz.func41 (h := ?_)
  rintro _ _ (⟨rfl, A8, c8, rfl⟩)
  refine k_ren 20400 900 rfl ?_
  refine k_ren 20401 901 rfl ?_
  refine k_keep [(900, _), (901, _)] ⟨rfl, rfl, trivial⟩ ?_
  refine v_ops [] (hk := ?_)
  refine v_call 20550 [(900, 900), (901, 901), (910, 910), (911, 911), (920, 920), (921, 921), (930, 930), (931, 931)] (bytes_spec g A8 c8 false exB (by decide)) Tryz.func39 (h := ?_)
  rintro _ _ (⟨B11, d11, rfl, rfl⟩)
  refine k_val 11 (.tup [.one (.sl 20550 B11 exB.length d11), .one (.i .i64 0)]) rfl rfl ?_
  refine k_keep [(20550, _)] ⟨rfl, trivial⟩ ?_
  refine v_ops [] (hk := ?_)
  refine v_call 20750 [(0, 20550), (900, 900), (901, 901), (910, 910), (911, 911), (920, 920), (921, 921), (930, 930), (931, 931)] (newReader_spec B11 d11 exB.length exB rfl (by decide)) Tryz.func26 (h := ?_)
  rintro _ _ (⟨g15, B15, d15, rfl, rfl⟩)
  refine k_val 15 (vp 910 ⟨g15, 0, none⟩) rfl rfl ?_
  refine k_ren 20750 910 rfl ?_
  refine k_ren 20751 911 rfl ?_
  refine k_keep [(20550, _), (910, _), (911, _)] ⟨rfl, rfl, rfl, trivial⟩ ?_
  refine v_call 20800 [(900, 900), (901, 901), (910, 910), (911, 911), (920, 920), (921, 921), (930, 930), (931, 931)] (getEx_spec g15 B15 B15 d15 (tailOk0 _ _)) Tryz.func43 (h := ?_)
  rintro _ _ (⟨A16, c16, B16, rfl, rfl⟩)
  refine k_ren 20800 910 rfl ?_
  refine k_keep [(20550, _), (20801, _)] ⟨rfl, rfl, trivial⟩ ?_
  refine l_do d_alloc (fun g4 => ?_)
  refine v_ops [] (hk := ?_)
  refine v_draw (.q 0 (.q 1 (.q 2 (.q 3 (.q 4 (.q 5 (.q 6 (.q 7 (.q 8 (.s 9 (.s 10 (.q 11 (.q 12 (.q 13 (.q 14 (.s 15 (.q 16 (.q 17 (.q 18 .nil))))))))))))))))))) [20250, 20251, 20252, 20253, 20350, 20351, 20352, 20353, 20400, 20401, 20402, 20403, 20550, 20551, 20552, 20553, 20750, 20751, 20752, 20753, 20800, 20801, 20802, 20803, 10004, 21300, 21301, 21302, 21303, 21350, 21351, 21352, 21353, 21600, 21601, 21602, 21603] (hm := by kernel_rfl) (hs := by kernel_rfl) (hk := by kernel_rfl) (h := ?_)
  refine v_sch [] (hk := ?_)
  refine k_valC 19 (vb true) rfl rfl ?_
  refine k_valC 20 (.s (.one (.sl 20550 B11 exB.length d11))) rfl rfl ?_
  refine q_rd rfl r_convStr ?_
  refine v_knowC 19 true rfl rfl ?_
  refine v_sch [] (hk := ?_)
  refine k_valC 24 (vb true) rfl rfl ?_
  refine k_valC 25 (.s (.agg [.one (.sl 20801 A16 exT.length c16)])) rfl rfl ?_
  refine v_callDS rfl 21300 [(900, 900), (901, 901), (910, 910), (911, 911), (920, 920), (921, 921), (930, 930), (931, 931)] (list_spec) Tryz.func42 (hB := trivial) (h := ?_)
  rintro _ _ (⟨B26, rfl, rfl⟩)
  refine ⟨cov_of (by repeat (first | exact trivial | refine ⟨rfl, ?_⟩)), ?_⟩
  refine v_knowC 24 true rfl rfl ?_
  refine k_valC 24 (vb true) rfl rfl ?_
  refine v_callDS rfl 21350 [(900, 900), (901, 901), (910, 910), (911, 911), (920, 920), (921, 921), (930, 930), (931, 931)] (sameTerm_spec A16 B26 exT exT c16 3 (by decide)) Tryz.func44 (hB := ⟨⟨_, (Der.vw 20801), rfl⟩, ⟨⟨_, (Der.vw 21300), rfl⟩, trivial⟩⟩) (h := ?_)
  rintro _ _ (⟨rfl, rfl⟩)
  refine ⟨cov_of (by repeat (first | exact trivial | refine ⟨rfl, ?_⟩)), ?_⟩
  refine v_knowC 24 true rfl rfl ?_
  refine v_knowC 27 true rfl (by decide) ?_
  refine v_sch [] (hk := ?_)
  refine k_valC 29 (vb true) rfl rfl ?_
  refine k_valC 31 (.s (oval exO 0 0)) rfl rfl ?_
  refine v_callDS rfl 21600 [(900, 900), (901, 901), (910, 910), (911, 911), (920, 920), (921, 921), (930, 930), (931, 931)] (long_spec exO exO_ok) Tryz.func21 (hB := ⟨⟨_, Der.nl, rfl⟩, ⟨⟨_, Der.nl, rfl⟩, trivial⟩⟩) (h := ?_)
  rintro _ _ (⟨rfl, rfl⟩)
  refine ⟨cov_of (by repeat (first | exact trivial | refine ⟨rfl, ?_⟩)), ?_⟩
  refine v_knowC 29 true rfl rfl ?_
  rw [exO_long]
  refine v_sch [] (hk := ?_)
  refine v_ret rfl [] (.cons (.tmp rfl) .nil) (h := ?_)
  exact ⟨rfl, rfl⟩
end Go.Proofs.YtfopgaijfeeioaaGreat
/- Bundles: copies; how great. -/

set_option linter.unusedVariables false
set_option linter.unusedSimpArgs false
set_option maxRecDepth 100000
namespace Go.Proofs.YtfopgaijfeeioaaGreat
open Go Go.RowKit HL
def Short (l : List AssetP) : Prop := ∀ x ∈ l, x.name.size ≤ 1048576
theorem assetsOf_spec (A : Option Addr) (l : List AssetP) (c most : Nat) (hl : l.length ≤ 1048576) (hs : Short l) (hm : most ≤ 1048576) : CSpec Tryz.prog 49 [.one (.sl 0 A l.length c), .one (.i .i64 most)] [(0, Res.rd A assetEn l)] [] fun o L => ∃ n : Nat, o = .ret (vint n) ∧ n ≤ 2097152 ∧ (n ≤ most → l.length ≤ n) ∧ L = [] := by
  refine v_enter Tryz.func49 (h := fun w0 => ?_)
  refine v_code [] (hk := ?_)
  refine v_loop (fun m E H => ∃ (k : Nat) (n : Nat), E = [(6, vn k), (5, vn n)] ∧ H = [] ∧ m = l.length - k ∧ k ≤ l.length ∧ (n ≤ 2097152) ∧ (k ≤ n)) [0, 1, 4, 28] (l.length) ([(6, vn 0), (5, vn (0))]) ([]) (h0 := ⟨0, 0, rfl, rfl, by omega, by omega, by omega, by omega⟩) (hr := ?_)
  rintro _ _ _ ⟨k, n, rfl, rfl, hmk, hk, hik0, hik1⟩
  refine v_code [] (hk := ?_)
  first | refine c_ifd rfl (fun h15 => ?_) (fun h15 => ?_) | refine c_ifn rfl (fun h15 => ?_) (fun h15 => ?_) | refine c_if rfl (fun h15 => ?_) (fun h15 => ?_)
  · simp only [Bool.and_eq_true, decide_eq_true_eq] at h15
    have hsz := hs _ (getD_mem (d := asset0) h15.1)
    refine v_code [] (hk := ?_)
    refine v_again (l.length - (k + 1)) ⟨k + 1, n + 1 + (l.getD k asset0).name.size / 16, rfl, rfl, by omega, by omega, by omega, by omega⟩
  · simp only [Bool.and_eq_false_imp, decide_eq_true_eq, decide_eq_false_iff_not] at h15
    refine v_code [] (hk := ?_)
    refine v_ret rfl [] (.cons (.tmp rfl) .nil) (h := ?_)
    refine ⟨n, rfl, hik0, fun h => ?_, rfl⟩
    by_cases hkk : k < l.length
    · have := h15 hkk; omega
    · omega
theorem valueOf_spec (v : ValueM) (most : Nat) (hl : v.assets.length ≤ 1048576) (hs : Short v.assets) (hm : most ≤ 1048576) : CSpec Tryz.prog 50 [.agg [.one (.i .i64 v.coin), .one (.sl 101 v.A v.assets.length v.c)], .one (.i .i64 most)] [(101, Res.rd v.A assetEn v.assets)] [] fun o L => ∃ n : Nat, o = .ret (vint n) ∧ n ≤ 2097153 ∧ (n ≤ most → v.assets.length + 1 ≤ n) ∧ 1 ≤ n ∧ L = [] := by
  refine v_enter Tryz.func50 (h := fun w0 => ?_)
  refine v_code [] (hk := ?_)
  refine l_do d_box (fun g2 => ?_)
  refine v_ops [] (hk := ?_)
  refine v_call 20400 [] (assetsOf_spec v.A v.assets v.c most hl hs hm) Tryz.func49 (h := ?_)
  rintro _ _ (⟨n, rfl, hn, hn2, rfl⟩)
  refine v_ops [] (hk := ?_)
  refine v_ret rfl [] (.cons (.tmp rfl) .nil) (h := ?_)
  exact ⟨1 + n, rfl, by omega, fun h => by have := hn2 (by omega); omega, by omega, rfl⟩
end Go.Proofs.YtfopgaijfeeioaaGreat
/- THE LAW: how much there is of entries. -/


set_option linter.unusedVariables false
set_option linter.unusedSimpArgs false
set_option maxRecDepth 100000
namespace Go.Proofs.YtfopgaijfeeioaaGreat
open Go Go.RowKit HL
theorem termOf_spec (A : Option Addr) (l : List NodeP) (c most : Nat) (hl : l.length ≤ 1048576) (hs : ∀ n ∈ l, n.bytes.size ≤ 1048576) (hm : most ≤ 1048576) : CSpec Tryz.prog 48 [.agg [.one (.sl 0 A l.length c)], .one (.i .i64 most)] [(0, Res.rd A nodeEn l)] [] fun o L => ∃ n : Nat, o = .ret (vint n) ∧ n ≤ 2097152 ∧ (n ≤ most → l.length ≤ n) ∧ L = [] := by
  refine v_enter Tryz.func48 (h := fun w0 => ?_)
  refine v_code [] (hk := ?_)
  refine l_do d_box (fun g2 => ?_)
  refine v_ops [] (hk := ?_)
  refine v_loop (fun m E H => ∃ (k : Nat) (n : Nat), E = [(6, vn k), (5, vn n)] ∧ H = [] ∧ m = l.length - k ∧ k ≤ l.length ∧ (n ≤ 2097152) ∧ (k ≤ n)) [1, 2, 4, 30] (l.length) ([(6, vn 0), (5, vn (0))]) ([]) (h0 := ⟨0, 0, rfl, rfl, by omega, by omega, by omega, by omega⟩) (hr := ?_)
  rintro _ _ _ ⟨k, n, rfl, rfl, hmk, hk, hik0, hik1⟩
  refine v_code [] (hk := ?_)
  first | refine c_ifd rfl (fun h16 => ?_) (fun h16 => ?_) | refine c_ifn rfl (fun h16 => ?_) (fun h16 => ?_) | refine c_if rfl (fun h16 => ?_) (fun h16 => ?_)
  · simp only [Bool.and_eq_true, decide_eq_true_eq] at h16
    have hsz := hs _ (getD_mem (d := node0) h16.1)
    refine v_code [] (hk := ?_)
    refine v_again (l.length - (k + 1)) ⟨k + 1, n + 1 + (l.getD k node0).bytes.size / 16, rfl, rfl, by omega, by omega, by omega, by omega⟩
  · simp only [Bool.and_eq_false_imp, decide_eq_true_eq, decide_eq_false_iff_not] at h16
    refine v_code [] (hk := ?_)
    refine v_ret rfl [] (.cons (.tmp rfl) .nil) (h := ?_)
    refine ⟨n, rfl, hik0, fun h => ?_, rfl⟩
    by_cases hkk : k < l.length
    · have := h16 hkk; omega
    · omega
structure SmO (o : OutM) : Prop where
  a : Short o.c.val.assets
  n : ∀ x ∈ o.c.nodes, x.bytes.size ≤ 1048576
theorem outOf_spec (x : OutM) (most : Nat) (hx : OkO x) (hs : SmO x) (hm : most ≤ 1048576) : CSpec Tryz.prog 45 [oval x 941 940, .one (.i .i64 most)] [(941, Res.rd x.A assetEn x.c.val.assets), (940, Res.rd x.B nodeEn x.c.nodes)] [] fun o L => ∃ n : Nat, o = .ret (vint n) ∧ n ≤ 4194305 ∧ 1 ≤ n ∧ L = [] := by
  refine v_enter Tryz.func45 (h := fun w0 => ?_)
  refine v_code [] (hk := ?_)
  refine l_do d_box (fun g2 => ?_)
  refine v_ops [] (hk := ?_)
  refine v_draw (.q 0 (.q 1 (.q 2 (.q 4 (.q 5 (.q 6 (.s 3 (.s 7 (.q 8 (.q 9 .nil)))))))))) [10002, 20400, 20401, 20402, 20403, 20600, 20601, 20602, 20603] (hm := by kernel_rfl) (hs := by kernel_rfl) (hk := by kernel_rfl) (h := ?_)
  refine v_sch [] (hk := ?_)
  refine v_callS rfl 20400 [(101, 941), (900, 900), (901, 901), (910, 910), (911, 911), (920, 920), (921, 921), (930, 930), (931, 931)] (valueOf_spec ⟨x.c.val.coin, x.A, x.cA, x.c.val.assets⟩ most hx.a hs.a hm) Tryz.func50 (h := ?_)
  rintro _ _ (⟨n, rfl, hn, _, hn3, rfl⟩)
  refine ⟨cov_of (by repeat (first | exact trivial | refine ⟨rfl, ?_⟩)), ?_⟩
  refine v_callS rfl 20600 [(0, 940), (900, 900), (901, 901), (910, 910), (911, 911), (920, 920), (921, 921), (930, 930), (931, 931)] (termOf_spec x.B x.c.nodes x.cB most hx.n hs.n hm) Tryz.func48 (h := ?_)
  rintro _ _ (⟨n2, rfl, hn2, _, rfl⟩)
  refine ⟨cov_of (by repeat (first | exact trivial | refine ⟨rfl, ?_⟩)), ?_⟩
  refine v_sch [] (hk := ?_)
  refine v_ret rfl [] (.cons (.tmp rfl) .nil) (h := ?_)
  exact ⟨n + n2, rfl, by omega, by omega, rfl⟩
theorem entsOf_spec (A : Option Addr) (l : List EntM) (c most : Nat) (hl : l.length ≤ 1048576) (ho : ∀ x ∈ l, OkO x.o) (hs : ∀ x ∈ l, SmO x.o) (hm : most ≤ 1048576) : CSpec Tryz.prog 10 [.one (.sl 942 A l.length c), .one (.i .i64 most)] [(942, Res.rd A entEn l), (943, Res.alr (subEs l))] [] fun o L => ∃ n : Nat, o = .ret (vint n) ∧ L = [] := by
  refine v_enter Tryz.func10 (h := fun w0 => ?_)
  refine v_code [] (hk := ?_)
  refine v_loop (fun m E H => ∃ (k : Nat) (n : Nat), E = [(6, vn k), (5, vn n)] ∧ H = [] ∧ m = l.length - k ∧ k ≤ l.length ∧ (n ≤ 5242890)) [0, 1, 4, 28] (l.length) ([(6, vn 0), (5, vn (0))]) ([]) (h0 := ⟨0, 0, rfl, rfl, by omega, by omega, by omega⟩) (hr := ?_)
  rintro _ _ _ ⟨k, n, rfl, rfl, hmk, hk, hik0⟩
  refine v_code [] (hk := ?_)
  first | refine c_ifd rfl (fun h15 => ?_) (fun h15 => ?_) | refine c_ifn rfl (fun h15 => ?_) (fun h15 => ?_) | refine c_if rfl (fun h15 => ?_) (fun h15 => ?_)
  · simp only [Bool.and_eq_true, decide_eq_true_eq] at h15
    have hm1 := getD_mem (d := entM0) h15.1
    refine v_code [] (hk := ?_)
    refine v_callD 21300 [(900, 900), (901, 901), (910, 910), (911, 911), (920, 920), (921, 921), (930, 930), (931, 931)] (outOf_spec (l.getD k entM0).o most (ho _ hm1) (hs _ hm1) hm) Tryz.func45 (hB := ⟨⟨_, (der_entA 943 hm1), rfl⟩, ⟨⟨_, (der_entN 943 hm1), rfl⟩, trivial⟩⟩) (h := ?_)
    rintro _ _ (⟨q, rfl, hq, hq1, rfl⟩)
    refine v_ops [] (hk := ?_)
    refine v_again (l.length - (k + 1)) ⟨k + 1, n + 1 + q, rfl, rfl, by omega, by omega, by omega⟩
  · refine v_code [] (hk := ?_)
    refine v_ret rfl [] (.cons (.tmp rfl) .nil) (h := ?_)
    exact ⟨n, rfl, rfl⟩
end Go.Proofs.YtfopgaijfeeioaaGreat
/- PackOrder, walked. -/

set_option linter.unusedVariables false
set_option linter.unusedSimpArgs false
set_option maxRecDepth 100000
set_option maxHeartbeats 4000000
namespace Go.Proofs.YtfopgaijfeeioaaGreat
open Go Go.RowKit HL
def refEn : En RefP := ⟨fun x => .agg [.hash x.tx, .one (.i .i64 x.place)], true, 33, fun _ => ⟨rfl, rfl⟩, by decide⟩
instance eqE_ref : EqE Tryz.prog 25 refEn := ⟨⟨3, by omega, eqV_struct
    [⟨Hash, inferInstance, hval, 2, RefP.tx, 23, 32, (HashT.key (P := Tryz.prog) (T := 23)).eq.v, fits_hash, size_hval⟩, ⟨Int, inferInstance, Value.int .i64, 1, RefP.place, 3, 1, (eqTy_int (UD.is (P := Tryz.prog) (T := 3))).v, fits_i64 _, fun _ => rfl⟩]
    Tryz.underlying25 (by kernel_rfl) (by kernel_rfl) (by kernel_rfl) (by intro F hF; simp at hF; rcases hF with rfl | rfl <;> simp) (fun x => SV.den_agg _) (fun x y => by cases x; cases y; simp [FE.same, Bool.decide_and])⟩, by kernel_rfl, rfl⟩
theorem order_law (a b c : RefP) : (decide (refOrd a b < 0) && decide (refOrd b a < 0)) = false ∧ decide (a = b) = (!decide (refOrd a b < 0) && !decide (refOrd b a < 0)) ∧ (refOrd a b < 0 → refOrd b c < 0 → refOrd a c < 0) := by
  have h := refOrd_swap a b
  refine ⟨?_, ?_, refOrd_trans⟩
  · rw [Bool.and_eq_false_iff, decide_eq_false_iff_not, decide_eq_false_iff_not]
    omega
  · rw [Bool.eq_iff_iff, decide_eq_true_eq, Bool.and_eq_true, Bool.not_eq_true', Bool.not_eq_true', decide_eq_false_iff_not, decide_eq_false_iff_not, ← refOrd_eq]
    omega
theorem order_no (a b x : RefP) : (decide (refOrd a b < 0) && decide (refOrd b a < 0) || !(decide (a = b) == (!decide (refOrd a b < 0) && !decide (refOrd b a < 0))) || decide (refOrd a b < 0) && decide (refOrd b x < 0) && !decide (refOrd a x < 0)) = false := by
  obtain ⟨h1, h2, h3⟩ := order_law a b x
  rw [h1, ← h2]
  simp
  exact h3
theorem ents_rise {l : List EntM} {k : Nat} (h : rightEs (cs l) = true) (hk : k + 1 < l.length) : refOrd (l.getD k entM0).r (l.getD (k + 1) entM0).r < 0 := by
  by_cases h2 : refOrd (l.getD k entM0).r (l.getD (k + 1) entM0).r < 0
  · exact h2
  · have := rightEs_no2 (k := k + 1) hk (by omega) h2
    rw [h] at this
    cases this
theorem packOrder_spec (a b x : RefP) (A : Option Addr) (l : List EntM) (c : Nat) (hl : l.length ≤ 1048576) (hO : ∀ x ∈ l, OkO x.o) (hs : ∀ x ∈ l, SmO x.o) : CSpec Tryz.prog 3 [refEn.f a, refEn.f b, refEn.f x, .one (.sl 942 A l.length c)] [(942, Res.rd A entEn l), (943, Res.alr (subEs l))] [] fun o L => o = .ret (vb true) ∧ L = [] := by
  have hlaw := order_law a b x
  refine v_enter Tryz.func3 (h := fun w0 => ?_)
  refine v_code [] (hk := ?_)
  refine l_do d_box (fun g4 => ?_)
  refine l_do d_box (fun g5 => ?_)
  refine l_do d_box (fun g6 => ?_)
  refine v_ops [] (hk := ?_)
  refine v_call 20600 [(900, 900), (901, 901), (910, 910), (911, 911), (920, 920), (921, 921), (930, 930), (931, 931)] (awake_spec) Tryz.func9 (h := ?_)
  rintro _ _ (⟨rfl, rfl⟩)
  refine v_know 12 true rfl rfl ?_
  refine v_ops [] (hk := ?_)
  refine v_call 20750 [(942, 942), (943, 943), (900, 900), (901, 901), (910, 910), (911, 911), (920, 920), (921, 921), (930, 930), (931, 931)] (entsOf_spec A l c 2000 hl hO hs (by omega)) Tryz.func10 (h := ?_)
  rintro _ _ (⟨q, rfl, rfl⟩)
  refine v_ops [] (hk := ?_)
  first | refine c_ifd rfl (fun h16 => ?_) (fun h16 => ?_) | refine c_ifn rfl (fun h16 => ?_) (fun h16 => ?_) | refine c_if rfl (fun h16 => ?_) (fun h16 => ?_)
  · refine v_code [] (hk := ?_)
    refine v_ret rfl [] (.cons (.tmp rfl) .nil) (h := ?_)
    exact ⟨rfl, rfl⟩
  · refine v_code [] (hk := ?_)
    refine v_draw (.q 0 (.q 1 (.q 3 (.q 4 (.s 2 (.s 5 (.q 6 (.q 7 .nil)))))))) [10004, 10005, 10006, 20600, 20601, 20602, 20603, 20750, 20751, 20752, 20753, 20950, 20951, 20952, 20953, 21100, 21101, 21102, 21103, 22200, 22201, 22202, 22203, 22450, 22451, 22452, 22453, 10055, 22950, 22951, 22952, 22953, 23700, 23701, 23702, 23703] (hm := by kernel_rfl) (hs := by kernel_rfl) (hk := by kernel_rfl) (h := ?_)
    refine v_sch [] (hk := ?_)
    refine v_callS rfl 20950 [(900, 900), (901, 901), (910, 910), (911, 911), (920, 920), (921, 921), (930, 930), (931, 931)] (less_spec a b) Tryz.func11 (h := ?_)
    rintro _ _ (⟨rfl, rfl⟩)
    refine ⟨cov_of (by repeat (first | exact trivial | refine ⟨rfl, ?_⟩)), ?_⟩
    refine v_callS rfl 21100 [(900, 900), (901, 901), (910, 910), (911, 911), (920, 920), (921, 921), (930, 930), (931, 931)] (less_spec b a) Tryz.func11 (h := ?_)
    rintro _ _ (⟨rfl, rfl⟩)
    refine ⟨cov_of (by repeat (first | exact trivial | refine ⟨rfl, ?_⟩)), ?_⟩
    refine v_sch [] (hk := ?_)
    refine l_rdG [28, 29] ⟨_, _, ⟨_, .inl ⟨rfl, rfl⟩⟩, ⟨_, _, ⟨_, .inl ⟨rfl, rfl⟩⟩, rfl, rfl⟩, rfl⟩ (fun hg => (r_eqSt (u := a) (v := b))) ?_
    refine v_ops [] (hk := ?_)
    refine l_callG [(900, 900), (901, 901), (910, 910), (911, 911), (920, 920), (921, 921), (930, 930), (931, 931)] [42, 43] ⟨_, _, ⟨_, .inl ⟨rfl, rfl⟩⟩, ⟨_, _, ⟨_, .inl ⟨rfl, rfl⟩⟩, rfl, rfl⟩, rfl⟩ (fun hg => less_spec b x) Tryz.func11 (h := ?_)
    refine v_ops [] (hk := ?_)
    refine l_callG [(900, 900), (901, 901), (910, 910), (911, 911), (920, 920), (921, 921), (930, 930), (931, 931)] [47, 48] ⟨_, _, ⟨_, .inl ⟨rfl, rfl⟩⟩, ⟨_, _, ⟨_, .inl ⟨rfl, rfl⟩⟩, rfl, rfl⟩, rfl⟩ (fun hg => less_spec a x) Tryz.func11 (h := ?_)
    refine v_ops [] (hk := ?_)
    first | refine c_ifd rfl (fun h52 => ?_) (fun h52 => ?_) | refine c_ifn rfl (fun h52 => ?_) (fun h52 => ?_) | refine c_if rfl (fun h52 => ?_) (fun h52 => ?_)
    · exact absurd ((order_no a b x).symm.trans h52) (by decide)
    · refine v_code [] (hk := ?_)
      refine v_loop (fun m E H => ∃ (k : Nat), E = [(11, vn (k + 1))] ∧ H = [] ∧ m = l.length - k ∧ k ≤ l.length) [3] (l.length) ([(11, vn (0 + 1))]) ([]) (h0 := ⟨0, rfl, rfl, by omega, by omega⟩) (hr := ?_)
      rintro _ _ _ ⟨k, rfl, rfl, hmk, hk⟩
      refine v_code [] (hk := ?_)
      refine l_callG [(942, 942), (943, 943), (900, 900), (901, 901), (910, 910), (911, 911), (920, 920), (921, 921), (930, 930), (931, 931)] [58] ⟨_, _, ⟨_, .inl ⟨rfl, rfl⟩⟩, rfl, rfl⟩ (fun hg => rents_spec A l c hl hO) Tryz.func12 (h := ?_)
      refine v_ops [] (hk := ?_)
      first | refine c_ifd rfl (fun h60 => ?_) (fun h60 => ?_) | refine c_ifn rfl (fun h60 => ?_) (fun h60 => ?_) | refine c_if rfl (fun h60 => ?_) (fun h60 => ?_)
      · simp only [Bool.and_eq_true, decide_eq_true_eq] at h60
        have e1 : (((k + 1 : Nat) : Int) - ((1 : Nat) : Int)).toNat = k := by omega
        refine v_code [] (hk := ?_)
        refine v_draw (.q 0 (.q 1 (.q 2 (.q 3 (.q 4 (.q 5 (.q 6 (.q 7 (.q 8 (.q 9 (.q 10 (.s 11 (.q 12 .nil))))))))))))) [10004, 10005, 10006, 20600, 20601, 20602, 20603, 20750, 20751, 20752, 20753, 20950, 20951, 20952, 20953, 21100, 21101, 21102, 21103, 22200, 22201, 22202, 22203, 22450, 22451, 22452, 22453, 10055, 22950, 22951, 22952, 22953, 23700, 23701, 23702, 23703] (hm := by kernel_rfl) (hs := by kernel_rfl) (hk := by kernel_rfl) (h := ?_)
        refine v_sch [] (hk := ?_)
        refine v_callS rfl 23700 [(900, 900), (901, 901), (910, 910), (911, 911), (920, 920), (921, 921), (930, 930), (931, 931)] (less_spec (l.getD (((k + 1 : Nat) : Int) - ((1 : Nat) : Int)).toNat entM0).r (l.getD (k + 1) entM0).r) Tryz.func11 (h := ?_)
        rintro _ _ (⟨rfl, rfl⟩)
        refine ⟨cov_of (by repeat (first | exact trivial | refine ⟨rfl, ?_⟩)), ?_⟩
        refine v_sch [] (hk := ?_)
        first | refine c_ifd rfl (fun h75 => ?_) (fun h75 => ?_) | refine c_ifn rfl (fun h75 => ?_) (fun h75 => ?_) | refine c_if rfl (fun h75 => ?_) (fun h75 => ?_)
        · exact absurd (ents_rise h60.2 h60.1) (by rw [e1] at h75; simpa using h75)
        · refine v_code [] (hk := ?_)
          refine v_again (l.length - (k + 1)) ⟨k + 1, rfl, rfl, by omega, by omega⟩
      · refine v_code [] (hk := ?_)
        refine v_ret rfl [] (.cons (.tmp rfl) .nil) (h := ?_)
        exact ⟨rfl, rfl⟩
end Go.Proofs.YtfopgaijfeeioaaGreat
