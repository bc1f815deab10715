/- Lemmas and walks: Ty, Ta, Tb, Tc, Td, Te, Tf, Tg, Th, Ti, Tj, Tk, Tl, Tm, Tn, To, Tp. -/
import Derived.Test.YtehhnfpfefccaaaGreatMS1
import Derived.Test.YtehhnfpfefccaaaGreatProg
import Derived.KernelRfl
import Derived.Deep.DeepMust
import Derived.Deep.LoopGhost
import Derived.Defers
import Derived.Recover
/- What is known of this seat's types: closed facts, printed by my own facts.py. -/



namespace Go.Proofs.YtehhnfpfefccaaaGreat
open Go HL
set_option maxRecDepth 100000
theorem ty3 : TyIs Tryz.prog 3 false 1 (.int .i64 0) 8 := ⟨by kernel_rfl, by kernel_rfl⟩
theorem ty4 : TyIs Tryz.prog 4 false 1 (.bool false) 1 := ⟨by kernel_rfl, by kernel_rfl⟩
theorem ty5 : TyIs Tryz.prog 5 false 1 (.int .u8 0) 1 := ⟨by kernel_rfl, by kernel_rfl⟩
theorem ty24 : TyIs Tryz.prog 24 true 32 (hval hz) 32 := ⟨by kernel_rfl, by kernel_rfl⟩
theorem ek24 : KeyTy Tryz.prog 24 hval 2 := keyTy_hash Tryz.underlying24 Tryz.underlying5 ty5
theorem eg24 : Tryz.prog.eqGuardType Tryz.prog.depth 24 = false := by kernel_rfl
theorem ty25 : TyIs Tryz.prog 25 false 1 (.int .i64 0) 8 := ⟨by kernel_rfl, by kernel_rfl⟩
theorem ty27 : TyIs Tryz.prog 27 true 66 (mkS [hval hz, hval hz, .int .i64 0, .int .i64 0]) 80 := ⟨by kernel_rfl, by kernel_rfl⟩
theorem pl27 : structPlaces Tryz.prog 27 = some (placesOf [hval hz, hval hz, .int .i64 0, .int .i64 0] 0) := by kernel_rfl
theorem fa27_0 : fieldFact Tryz.prog 27 0 = some 0 := by kernel_rfl
theorem fa27_1 : fieldFact Tryz.prog 27 1 = some 32 := by kernel_rfl
theorem fa27_2 : fieldFact Tryz.prog 27 2 = some 64 := by kernel_rfl
theorem fa27_3 : fieldFact Tryz.prog 27 3 = some 65 := by kernel_rfl
theorem ty34 : TyIs Tryz.prog 34 false 1 (.pointer none) 8 := ⟨by kernel_rfl, by kernel_rfl⟩
theorem ty45 : TyIs Tryz.prog 45 false 1 (.map none) 8 := ⟨by kernel_rfl, by kernel_rfl⟩
theorem ty46 : TyIs Tryz.prog 46 false 1 (.map none) 8 := ⟨by kernel_rfl, by kernel_rfl⟩
theorem ty48 : TyIs Tryz.prog 48 true 2 (mkS [.map none, .map none]) 16 := ⟨by kernel_rfl, by kernel_rfl⟩
theorem pl48 : structPlaces Tryz.prog 48 = some (placesOf [.map none, .map none] 0) := by kernel_rfl
theorem fa48_0 : fieldFact Tryz.prog 48 0 = some 0 := by kernel_rfl
theorem fa48_1 : fieldFact Tryz.prog 48 1 = some 1 := by kernel_rfl
theorem ty50 : TyIs Tryz.prog 50 true 35 (mkS [mkS [.map none, .map none], hval hz, .int .i64 0]) 56 := ⟨by kernel_rfl, by kernel_rfl⟩
theorem pl50 : structPlaces Tryz.prog 50 = some (placesOf [mkS [.map none, .map none], hval hz, .int .i64 0] 0) := by kernel_rfl
theorem fa50_0 : fieldFact Tryz.prog 50 0 = some 0 := by kernel_rfl
theorem fa50_1 : fieldFact Tryz.prog 50 1 = some 2 := by kernel_rfl
theorem fa50_2 : fieldFact Tryz.prog 50 2 = some 34 := by kernel_rfl
theorem ty55 : TyIs Tryz.prog 55 false 1 (.slice none 0 0) 24 := ⟨by kernel_rfl, by kernel_rfl⟩
theorem ty113 : TyIs Tryz.prog 113 true 0 (mkS []) 0 := ⟨by kernel_rfl, by kernel_rfl⟩
end Go.Proofs.YtehhnfpfefccaaaGreat
set_option linter.unusedVariables false
set_option linter.unusedSimpArgs false
namespace Go.Proofs.YtehhnfpfefccaaaGreat
open Go Go.RowKit HL
theorem post_cell {fn : Func} {R : Ending → World → Prop} {a : Act} {w w0 : World} {M : Nat → Prop} {L : List Res} {i g : Nat} {t : Tmp} {T : TypeId} {vs : List Value} {v : Value} (hr : fn.results = #[.cell t T]) (ht : opv a (.tmp t) = some (.pointer (some ⟨g, 0, none⟩))) (hd : a.defers = [])
    (hst : St w0 w M L) (hi : L[i]? = some (Res.var g T vs)) (hf : Fits Tryz.prog T v) (hv : flat vs = v.cells.toList) (hR : R (.returned v) w) : bodyPost Tryz.prog fn R .ret a w := by
  refine bodyPost_ret (v := v) ?_ hd hR
  have hc := hst.var_cells hi
  rw [hv] at hc
  have hp' : a.tmps[t]?.getD undef = .pointer (some ⟨g, 0, none⟩) := by simpa [Act.eval] using opv_eval ht
  simp [results, hr, hp', asAddr, run_loadVar hf hc]
theorem fits_hash (h : Hash) : Fits Tryz.prog 24 (hval h) := fits_of ty24 (isAgg_hval h) (size_hval h)
def byteOf (n : Int) : UInt8 := UInt8.ofNat (n % 256).toNat
theorem byteOf_toNat (n : Int) : ((byteOf n).toNat : Int) = n % 256 := by
  unfold byteOf
  have h1 : (n % 256).toNat < 256 := by omega
  rw [UInt8.toNat_ofNat_of_lt' (by simpa using h1)]
  omega
def idH (n : Int) : Hash := hset hz [(0, byteOf n)]
theorem id_calls (n : Int) (w : World) : Calls Tryz.prog 6 #[.int .i64 n] w fun e w' => e = .returned (hval (idH n)) ∧ St w w' No [] := by
  have hst := St.start w No
  have hb := byteOf_toNat n
  have HB := Lib.hid hb
  clear hb
  go_enter Tryz.func6, Tryz.ntmps6
  go_wp2_with (first
    | (refine o_alloc ty24 rfl (.list rfl) hst ?_; intro w1 g1 hst)
    | (refine o_buildH [(0, byteOf n)] Tryz.underlying24 ty24 ty5 rfl (.list rfl) (by simp [opv, HB.out]) (by simp) ?_)
    | (refine o_store (i := 0) (k := 0) rfl rfl rfl rfl rfl (.list rfl) hst (fits_hash _) (ok1_hval _) rfl (by simp) ?_; intro w2 hst; dsimp only [List.set] at hst))
  exact post_cell (i := 0) rfl rfl rfl hst rfl (fits_hash _) (flat_single _) ⟨rfl, hst.drop 0⟩
def leafV (i p : Hash) (h m : Int) : Value := mkS [hval i, hval p, .int .i64 h, .int .i64 m]
theorem var_leafV (g e : Nat) (i p : Hash) (h m : Int) : Res.var g e [leafV i p h m] = Res.var g e [hval i, hval p, .int .i64 h, .int .i64 m] := Res.var_mkS g e _
theorem loose_calls (i p : Hash) (h m : Int) (w : World) : Calls Tryz.prog 31 #[leafV i p h m] w fun e w' => e = .returned (.bool (m == 1 || m == 4)) ∧ St w w' No [] := by
  have hst := St.start w No
  by_cases h1 : (m == 1) = true
  all_goals
    go_enter Tryz.func31, Tryz.ntmps31
    go_wp2_with (first
      | (refine o_box (v := leafV i p h m) rfl rfl (.list rfl) hst ?_; intro w1 g1 hst; rw [var_leafV] at hst)
      | (refine o_field rfl rfl (.list rfl) fa27_3 ?_)
      | (refine o_load (v := .int .i64 m) rfl rfl (.list rfl) (fits_of ty25 rfl rfl) (hst.field_cells (i := 0) (k := 3) rfl rfl (by simp [szs])) ?_))
    go_ret
    exact ⟨by simp_all, hst.drop 0⟩
end Go.Proofs.YtehhnfpfefccaaaGreat
set_option linter.unusedVariables false
set_option linter.unusedSimpArgs false
namespace Go.Proofs.YtehhnfpfefccaaaGreat
open Go Go.RowKit HL BigFrame
theorem hashes_get (l : List Hash) (k : Nat) (h : k < l.length) : (l.map hval)[k]? = some (hval l[k]) := by simp [h]
theorem hashes_sz (l : List Hash) : ∀ v ∈ l.map hval, v.cells.size = 32 := by
  intro v hv
  obtain ⟨h, _, rfl⟩ := List.mem_map.1 hv
  exact size_hval h
theorem sameHashes_calls (A B : Option Addr) (l m : List Hash) (ca cb : Nat) (w : World) (hA : RdS w A (flat (l.map hval))) (hB : RdS w B (flat (m.map hval))) (hl : l.length ≤ 1048576) (hm : m.length ≤ 1048576) :
    Calls Tryz.prog 16 #[.slice A l.length ca, .slice B m.length cb] w fun e w' => e = .returned (.bool (decide (l = m))) ∧ St w w' No [] := by
  have hst := St.start w No
  by_cases hne : ((l.length : Int) != (m.length : Int)) = true
  · have hd : decide (l = m) = false := by
      simp only [bne_iff_ne, ne_eq] at hne
      exact decide_eq_false (fun h => hne (by rw [h]))
    have HD := Lib.hid hd
    clear hd
    go_enter Tryz.func16, Tryz.ntmps16
    go_wp2
    go_ret
    exact ⟨by simp [HD.out], hst⟩
  · have hlm : l.length = m.length := by
      simp only [bne_iff_ne, ne_eq, Decidable.not_not] at hne
      omega
    have hne' : ((l.length : Int) != (m.length : Int)) = false := by simpa using hne
    clear hne
    have HLM := Lib.hid hlm
    clear hlm
    go_enter Tryz.func16, Tryz.ntmps16
    go_wp2
    go_loopw [5] (fun i wr => ∃ k : Nat, k ≤ l.length ∧ i = .int .i64 k ∧ l.take k = m.take k ∧ St w wr No []) (fun i _ => l.length - (intOf i).toNat)
    case atStart => exact ⟨0, Nat.zero_le _, rfl, rfl, hst⟩
    case round =>
      obtain ⟨k, hk, rfl, heq, hst⟩ := hrel
      have HEQ := Lib.hid heq
      clear heq
      by_cases hlt : k < l.length
      · have hlt2 : k < m.length := by have := HLM.out; omega
        have g1 := hashes_get l k hlt
        have g2 := hashes_get m k hlt2
        have G1 := Lib.hid g1
        have G2 := Lib.hid g2
        clear g1 g2
        go_wp2
        refine wp_region_sched (.q 0 (.q 1 (.q 2 (.q 3 (.q 4 (.q 5 (.q 6 (.q 7 (.q 8 .nil))))))))) (fun w1 => St w w1 No []) (by kernel_rfl) (by kernel_rfl) (by kernel_rfl) (by decide) (fun d v c a w h => by cases d <;> exact h) ?_
        have hst := hst.drew
        iterate 2 (refine sched_q rfl rfl rfl hst (fun K hK => ?_); go_big_quiet_op; first | refine hK _ ?_ | refine ⟨_, fun _ _ => rfl, hK _ ?_⟩; clear hK K)
        refine q_elem Tryz.underlying55 ty24 rfl rfl rfl rfl rfl hst (by omega) (by omega) (fun w' h => h.old_rd hA (fun _ _ => id)) (hashes_sz l) (by omega) (by simpa using G1.out) (fun p hp => ?_)
        refine q_load rfl rfl rfl rfl hst (fits_hash _) hp ?_
        try simp only [Act.put, List.setIfInBounds_toArray, List.set_cons_succ, List.set_cons_zero]
        iterate 2 (refine sched_q rfl rfl rfl hst (fun K hK => ?_); go_big_quiet_op; first | refine hK _ ?_ | refine ⟨_, fun _ _ => rfl, hK _ ?_⟩; clear hK K)
        refine q_elem Tryz.underlying55 ty24 rfl rfl rfl rfl rfl hst (by omega) (by omega) (fun w' h => h.old_rd hB (fun _ _ => id)) (hashes_sz m) (by omega) (by simpa using G2.out) (fun p hp => ?_)
        refine q_load rfl rfl rfl rfl hst (fits_hash _) hp ?_
        refine q_ne ek24.eq (by omega) isAgg_hval eg24 rfl rfl rfl rfl rfl hst ?_
        refine sched_nil ?_
        try simp only [Act.put, List.setIfInBounds_toArray, List.set_cons_succ, List.set_cons_zero]
        by_cases heq : (!decide (l[k] = m[k])) = true
        · have hd : decide (l = m) = false := by
            simp only [Bool.not_eq_true', decide_eq_false_iff_not] at heq
            refine decide_eq_false (fun h => heq ?_)
            subst h
            rfl
          have HD := Lib.hid hd
          clear hd
          simp only [heq]
          clear heq
          go_wp2
          go_ret
          exact ⟨by simp [HD.out], hst⟩
        · have heq' : (!decide (l[k] = m[k])) = false := by simpa using heq
          simp only [heq']
          have HE := Lib.hid heq'
          clear heq heq'
          go_wp2
          refine ⟨⟨k + 1, by omega, by go_num, ?_, hst⟩, by simp [intOf]; omega⟩
          rw [List.take_succ_eq_append_getElem hlt, List.take_succ_eq_append_getElem hlt2, HEQ.out]
          have h3 := HE.out
          simp at h3
          rw [h3]
      · have hkl : k = l.length := by omega
        have hd : decide (l = m) = true := by
          have h1 := HEQ.out
          have h2 := HLM.out
          rw [hkl, List.take_length, h2, List.take_length] at h1
          exact decide_eq_true h1
        have HD := Lib.hid hd
        clear hd hkl
        go_wp2
        go_ret
        exact ⟨by simp [HD.out], hst⟩
end Go.Proofs.YtehhnfpfefccaaaGreat
set_option linter.unusedVariables false
set_option linter.unusedSimpArgs false
namespace Go.Proofs.YtehhnfpfefccaaaGreat
open Go Go.RowKit HL BigFrame
structure LeafP where
  id : Hash
  parent : Hash
  height : Int
  mark : Int
deriving DecidableEq
def leafE (x : LeafP) : Value := leafV x.id x.parent x.height x.mark
def leaf0 : LeafP := ⟨hz, hz, 0, 0⟩
@[simp] theorem size_leafE (x : LeafP) : (leafE x).cells.size = 66 := by simp [leafE, leafV, szs]
theorem ok1_leafE (x : LeafP) : Ok1 (leafE x) := Ok1.mkS (by
  intro v hv
  simp at hv
  rcases hv with rfl | rfl | rfl | rfl
  · exact ok1_hval _
  · exact ok1_hval _
  · exact ok1_int _ _
  · exact ok1_int _ _)
theorem fits_leaf (x : LeafP) : Fits Tryz.prog 27 (leafE x) := fits_of ty27 (isAgg_mkS _) (size_leafE x)
theorem leaves_sz (l : List LeafP) : ∀ v ∈ l.map leafE, v.cells.size = 66 := by
  intro v hv
  obtain ⟨h, _, rfl⟩ := List.mem_map.1 hv
  exact size_leafE h
theorem leaves_get (l : List LeafP) (k : Nat) (h : k < l.length) : (l.map leafE)[k]? = some (leafE l[k]) := by simp [h]
def lents (l : List LeafP) : List (Hash × LeafP × Nat) := l.zipIdx.map fun x => (x.1.id, x.1, x.2)
abbrev KV := Option Addr × Nat × List Hash
def kvE (v : KV) : Value := .slice v.1 v.2.2.length v.2.1
def kv0 : KV := (none, 0, [])
def krows (xs : List (Hash × KV × Nat)) : List Res := xs.map fun x => Res.row x.2.1.1 x.2.1.2.2.length x.2.1.2.1 24 32 (flat (x.2.1.2.2.map hval))
structure KidsOf (xs : List (Hash × KV × Nat)) (l : List LeafP) : Prop where
  born : xs.map (·.2.2) = List.range xs.length
  keys : (xs.map (·.1)).Nodup
  look : ∀ p, ((mlook xs p).getD kv0).2.2 = (l.filter fun x => x.parent = p).map (·.id)
  few : xs.length ≤ l.length
theorem mlook_lents (l : List LeafP) (h : Hash) : mlook (lents l) h = l.find? fun x => x.id = h := by
  unfold mlook lents
  have gen : ∀ (l : List LeafP) (n : Nat), (((l.zipIdx n).map fun x => (x.1.id, x.1, x.2)).find? fun x => x.1 = h).map (·.2.1) = l.find? fun x => x.id = h := by
    intro l
    induction l with
    | nil => intro n; rfl
    | cons x l ih =>
      intro n
      by_cases e : x.id = h
      · simp [e]
      · simp only [List.zipIdx_cons, List.map_cons, List.find?_cons, e, decide_false]
        exact ih (n + 1)
  exact gen l 0
theorem lents_snoc (l : List LeafP) (x : LeafP) : lents (l ++ [x]) = lents l ++ [(x.id, x, l.length)] := by simp [lents, List.zipIdx_append]
theorem mput_lents (l : List LeafP) (x : LeafP) (h : ∀ y ∈ l, y.id ≠ x.id) : mput (lents l) l.length x.id x = lents (l ++ [x]) ∧ mclk (lents l) l.length x.id = (l ++ [x]).length := by
  have h1 : mhas (lents l) x.id = false := by
    unfold mhas
    rw [mlook_lents]
    simp only [Option.isSome_eq_false_iff, Option.isNone_iff_eq_none, List.find?_eq_none, decide_eq_true_eq]
    exact h
  constructor
  · rw [mput, h1, lents_snoc]; rfl
  · rw [mclk, h1]; simp
theorem mhas_lents (l : List LeafP) (h : Hash) : mhas (lents l) h = l.any fun x => x.id = h := by
  unfold mhas
  rw [mlook_lents, Bool.eq_iff_iff]
  simp [List.any_eq_true]
def kpre (xs : List (Hash × KV × Nat)) (p : Hash) : List (Hash × KV × Nat) := if mhas xs p then xs else xs ++ [(p, kv0, xs.length)]
theorem krows_append (xs ys : List (Hash × KV × Nat)) : krows (xs ++ ys) = krows xs ++ krows ys := by simp [krows]
theorem krows_get (xs : List (Hash × KV × Nat)) {j : Nat} {p : Hash} {v : KV} {b : Nat} (h : xs[j]? = some (p, v, b)) : (krows xs)[j]? = some (Res.row v.1 v.2.2.length v.2.1 24 32 (flat (v.2.2.map hval))) := by simp [krows, h]
theorem krows_set (xs : List (Hash × KV × Nat)) (j : Nat) (p : Hash) (v : KV) (b : Nat) : krows (xs.set j (p, v, b)) = (krows xs).set j (Res.row v.1 v.2.2.length v.2.1 24 32 (flat (v.2.2.map hval))) := by simp [krows, List.map_set]
theorem kpre_born {xs : List (Hash × KV × Nat)} {l : List LeafP} (h : KidsOf xs l) (p : Hash) : (kpre xs p).map (·.2.2) = List.range (kpre xs p).length := by
  unfold kpre
  split
  · exact h.born
  · simp [h.born, List.range_succ]
theorem kpre_nodup {xs : List (Hash × KV × Nat)} {l : List LeafP} (h : KidsOf xs l) (p : Hash) : ((kpre xs p).map (·.2.2)).Nodup := by rw [kpre_born h p]; exact List.nodup_range
theorem mlook_append (xs ys : List (Hash × KV × Nat)) (q : Hash) : mlook (xs ++ ys) q = (mlook xs q).or (mlook ys q) := by
  unfold mlook
  rw [List.find?_append]
  cases xs.find? (fun x => decide (x.1 = q)) <;> simp
theorem kpre_keys {xs : List (Hash × KV × Nat)} {l : List LeafP} (h : KidsOf xs l) (p : Hash) : ((kpre xs p).map (·.1)).Nodup := by
  unfold kpre
  split
  · exact h.keys
  · rename_i hn
    rw [List.map_append, List.nodup_append]
    refine ⟨h.keys, by simp, ?_⟩
    intro a ha b hb e
    subst e
    simp at hb
    subst hb
    obtain ⟨x, hx, rfl⟩ := List.mem_map.1 ha
    refine hn ?_
    unfold mhas mlook
    simp only [Option.isSome_map, List.find?_isSome]
    exact ⟨x, hx, by simp⟩
theorem mlook_set {xs : List (Hash × KV × Nat)} (hk : (xs.map (·.1)).Nodup) {j : Nat} {p : Hash} {u v : KV} {b : Nat} (hj : xs[j]? = some (p, u, b)) (q : Hash) : mlook (xs.set j (p, v, b)) q = if q = p then some v else mlook xs q := by
  induction xs generalizing j with
  | nil => simp at hj
  | cons x xs ih =>
    cases j with
    | zero =>
      simp at hj
      subst hj
      by_cases e : q = p
      · subst e; simp [mlook]
      · have e' : ¬ p = q := fun h => e h.symm
        simp [mlook, e, e']
    | succ j =>
      simp at hj
      have hk' : (xs.map (·.1)).Nodup := by simp at hk; exact hk.2
      have hne : x.1 ≠ p := by
        intro e
        rw [List.map_cons, List.nodup_cons] at hk
        exact hk.1 (List.mem_map.2 ⟨(p, u, b), List.mem_of_getElem? hj, e.symm⟩)
      have := ih hk' hj
      by_cases e : x.1 = q
      · have e2 : ¬ q = p := by rw [← e]; exact hne
        simp [mlook, e, e2]
      · simp only [mlook, List.set_cons_succ, List.find?_cons, e, decide_false] at this ⊢
        exact this
theorem kpre_look (xs : List (Hash × KV × Nat)) (p q : Hash) : (mlook (kpre xs p) q).getD kv0 = (mlook xs q).getD kv0 := by
  unfold kpre
  split
  · rfl
  · rename_i hn
    rw [mlook_append]
    cases h : mlook xs q with
    | some v => simp
    | none =>
      by_cases e : p = q
      · simp [mlook, e]
      · simp [mlook, e]
theorem kids_step {xs : List (Hash × KV × Nat)} {l : List LeafP} (h : KidsOf xs l) (x : LeafP) {j b : Nat} {v : KV} (hj : (kpre xs x.parent)[j]? = some (x.parent, (mlook xs x.parent).getD kv0, b)) (hv : v.2.2 = ((mlook xs x.parent).getD kv0).2.2 ++ [x.id]) :
    KidsOf ((kpre xs x.parent).set j (x.parent, v, b)) (l ++ [x]) ∧ ((kpre xs x.parent).set j (x.parent, v, b)).length = mclk xs xs.length x.parent := by
  have hl : ((kpre xs x.parent).set j (x.parent, v, b)).length = mclk xs xs.length x.parent := by
    rw [List.length_set, kpre, mclk]
    split <;> simp
  refine ⟨⟨?_, ?_, ?_, ?_⟩, hl⟩
  · rw [List.length_set, ← kpre_born h x.parent, List.map_set]
    apply List.ext_getElem?
    intro q
    by_cases e : j = q
    · subst e
      have hlt := (List.getElem?_eq_some_iff.1 hj).1
      rw [List.getElem?_set_self (by simpa using hlt), List.getElem?_map, hj]
      rfl
    · rw [List.getElem?_set_ne e]
  · rw [List.map_set]
    have : ((kpre xs x.parent).map (·.1)).set j x.parent = (kpre xs x.parent).map (·.1) := by
      apply List.ext_getElem?
      intro q
      by_cases e : j = q
      · subst e
        have hlt := (List.getElem?_eq_some_iff.1 hj).1
        rw [List.getElem?_set_self (by simpa using hlt), List.getElem?_map, hj]
        rfl
      · rw [List.getElem?_set_ne e]
    rw [this]
    exact kpre_keys h x.parent
  · intro q
    rw [mlook_set (kpre_keys h x.parent) hj q]
    by_cases e : q = x.parent
    · subst e
      simp only [if_true, Option.getD_some, hv, h.look, List.filter_append, List.map_append]
      simp
    · have e' : ¬ x.parent = q := fun hh => e hh.symm
      simp only [e, if_false, kpre_look, h.look, List.filter_append, List.map_append]
      simp [e']
  · rw [hl, mclk]
    have := h.few
    split <;> simp <;> omega
def Apart (l : List LeafP) : Prop := (l.map (·.id)).Nodup
theorem apart_take {l : List LeafP} {k : Nat} (hk : k < l.length) (h : Apart (l.take k)) : Apart (l.take (k + 1)) ↔ mhas (lents (l.take k)) l[k].id = false := by
  unfold Apart at *
  rw [List.take_succ_eq_append_getElem hk, List.map_append, List.nodup_append, mhas_lents]
  constructor
  · intro h1
    rw [Bool.eq_false_iff]
    intro h2
    obtain ⟨x, hx, he⟩ := List.any_eq_true.1 h2
    exact h1.2.2 x.id (List.mem_map.2 ⟨x, hx, rfl⟩) l[k].id (by simp) (by simpa using he)
  · intro h1
    refine ⟨h, by simp, ?_⟩
    intro a ha b hb e
    obtain ⟨x, hx, rfl⟩ := List.mem_map.1 ha
    simp at hb
    subst hb
    have : (l.take k).any (fun y => y.id = l[k].id) = true := List.any_eq_true.2 ⟨x, hx, by simpa using e⟩
    rw [this] at h1
    cases h1
theorem kids_nil : KidsOf [] [] := ⟨rfl, by simp, fun p => by simp [mlook, kv0], Nat.le_refl _⟩
theorem getD_leafE (o : Option LeafP) : (o.map leafE).getD (mkS [hval hz, hval hz, .int .i64 0, .int .i64 0]) = leafE (o.getD leaf0) := by cases o <;> rfl
theorem var_leafE (g e : Nat) (x : LeafP) : Res.var g e [leafE x] = Res.var g e [hval x.id, hval x.parent, .int .i64 x.height, .int .i64 x.mark] := Res.var_mkS g e _
theorem cells_leafE (x : LeafP) : (leafE x).cells.toList = flat [hval x.id, hval x.parent, .int .i64 x.height, .int .i64 x.mark] := cells_mkS _
attribute [irreducible] leafE
theorem kids_pre {w0 w : World} {M : Nat → Prop} {R : List Res} {xs : List (Hash × KV × Nat)} {p : Hash} {gk : Nat} (hst : St w0 w M (R ++ Res.map gk hval kvE (if mhas xs p then xs else xs ++ [(p, kv0, xs.length)]) (mclk xs xs.length p) :: krows xs)) :
    St w0 w M (R ++ Res.map gk hval kvE (kpre xs p) (mclk xs xs.length p) :: krows (kpre xs p)) := by
  unfold kpre
  by_cases h : mhas xs p = true
  · simpa only [h, if_true] using hst
  · simp only [h, if_false, Bool.false_eq_true] at hst ⊢
    rw [krows_append]
    have h2 := hst.nilrow 24 32
    refine h2.perm ?_
    have : krows [(p, kv0, xs.length)] = [Res.row none 0 0 24 32 []] := by
      unfold krows
      simp only [List.map_cons, List.map_nil, kv0, List.length_nil]
      unfold flat
      rfl
    rw [this]
    have h3 := (List.perm_append_singleton (Res.row none 0 0 24 32 []) (R ++ Res.map gk hval kvE (xs ++ [(p, kv0, xs.length)]) (mclk xs xs.length p) :: krows xs)).symm
    simpa only [List.append_assoc, List.cons_append] using h3
theorem kids_len {xs : List (Hash × KV × Nat)} {l : List LeafP} {k : Nat} {p : Hash} {v : KV} (h : KidsOf xs (l.take k)) (hv : (mlook xs p).getD kv0 = v) : v.2.2.length ≤ l.length := by
  have h1 := h.look p
  rw [hv] at h1
  rw [h1, List.length_map]
  exact Nat.le_trans (List.length_filter_le _ _) (by rw [List.length_take]; omega)
theorem at_entry {P : Program} {ops rest o} {Q : Exit → Act → World → Prop} {a : Act} {w : World} {T x y u} (h : wpList P ops Q (o :: rest) a w) (ho : o.op = .entryStore T x y u) : wpList P ops Q (o :: rest) a w := h
def putL (g gl gk : Nat) (xs : List (Hash × KV × Nat)) (l : List LeafP) : List Res :=
  Res.map gl hval leafE (lents l) l.length :: Res.map gk hval kvE xs xs.length :: krows xs
set_option maxHeartbeats 4000000 in
set_option maxRecDepth 100000 in
theorem put_calls (A : Option Addr) (l : List LeafP) (c gl gk : Nat) (w : World) (hA : RdS w A (flat (l.map leafE))) (hne : gl ≠ gk) (h1 : w.heap[gl]? = some (mobj hval leafE [] 0)) (h2 : w.heap[gk]? = some (mobj hval kvE [] 0))
    (hAl : 0 < l.length → ∀ ad, A = some ad → ad.block ≠ gl ∧ ad.block ≠ gk) (hl : l.length ≤ 1048576) :
    Calls Tryz.prog 13 #[mkS [.map (some gl), .map (some gk)], .slice A l.length c] w fun e w' =>
      (e = .returned (.bool false) ∧ ¬ Apart l ∧ ∃ L, St w w' (fun b => b = gl ∨ b = gk) L) ∨
      (e = .returned (.bool true) ∧ Apart l ∧ ∃ xs, KidsOf xs l ∧ St w w' (fun b => b = gl ∨ b = gk) (putL 0 gl gk xs l)) := by
  have hst : St w w (fun b => b = gl ∨ b = gk) (putL 0 gl gk [] []) :=
    (St.startL (L := putL 0 gl gk [] []) (by
      intro r hr
      simp [putL, krows] at hr
      rcases hr with rfl | rfl
      · exact holds_map h1
      · exact holds_map h2) (by
      simp only [putL, krows, List.map_nil, List.pairwise_cons]
      refine ⟨?_, by simp, by simp⟩
      intro r hr b hb hb'
      simp at hr
      subst hr
      exact hne ((fp_map.1 hb).symm.trans (fp_map.1 hb')))).more (by
      intro b hb
      obtain ⟨r, hr, hb⟩ := hb
      simp [putL, krows] at hr
      rcases hr with rfl | rfl
      · exact .inl (fp_map.1 hb)
      · exact .inr (fp_map.1 hb))
  unfold putL at hst
  clear h1 h2
  go_enter Tryz.func13, Tryz.ntmps13
  go_wp2_with (first
    | (refine o_box (v := mkS [.map (some gl), .map (some gk)]) rfl rfl (.list rfl) hst ?_; intro w1 gb hst; rw [Res.var_mkS] at hst))
  simp only [krows, List.map_nil, List.length_nil] at hst
  go_loopw [11] (fun i wr => ∃ (k : Nat) (xs : List (Hash × KV × Nat)), k ≤ l.length ∧ i = .int .i64 k ∧ Apart (l.take k) ∧ KidsOf xs (l.take k) ∧
    St w wr (fun b => b = gl ∨ b = gk) (Res.var gb 48 [.map (some gl), .map (some gk)] :: Res.map gl hval leafE (lents (l.take k)) k :: Res.map gk hval kvE xs xs.length :: krows xs)) (fun i _ => l.length - (intOf i).toNat)
  case atStart => exact ⟨0, [], Nat.zero_le _, rfl, by simp [Apart], kids_nil, hst⟩
  case round =>
    obtain ⟨k, xs, hk, rfl, hap, hks, hst⟩ := hrel
    by_cases hlt : k < l.length
    · have g1 := leaves_get l k hlt
      have G1 := Lib.hid g1
      clear g1
      have hap2 := apart_take hlt hap
      have HAP := Lib.hid hap2
      clear hap2
      by_cases hm : mhas (lents (l.take k)) l[k].id = true
      · go_wp2_with (first
          | (refine o_elem Tryz.underlying22 ty27 rfl rfl rfl (.list rfl) (by omega) (by omega) (hst.old_rd' hA (fun ad h1 h2 => h2.elim (hAl (by omega) ad h1).1 (hAl (by omega) ad h1).2)) (leaves_sz l) (by omega) (by simpa using G1.out) ?_; intro p hp; simp only [Act.put, List.setIfInBounds_toArray, List.set_cons_succ, List.set_cons_zero])
          | (refine o_load (v := leafE l[k]) rfl rfl (.list rfl) (fits_leaf _) hp ?_; simp only [Act.put, List.setIfInBounds_toArray, List.set_cons_succ, List.set_cons_zero])
          | (refine o_alloc ty27 rfl (.list rfl) hst ?_; clear hst; intro w1 gx hst; simp only [Act.put, List.setIfInBounds_toArray, List.set_cons_succ, List.set_cons_zero])
          | (refine o_store (i := 0) (k := 0) rfl rfl rfl rfl rfl (.list rfl) hst (fits_leaf _) (ok1_leafE _) ?_ ?_ ?_; (focus (simp [szs]; done)); (focus (simp [szs]; done)); clear hst; intro w1 hst; simp only [List.set_cons_succ, List.set_cons_zero] at hst; rw [var_leafE] at hst; simp only [Act.put, List.setIfInBounds_toArray, List.set_cons_succ, List.set_cons_zero])
          | (refine o_field rfl rfl (.list rfl) fa48_0 ?_; simp only [Act.put, List.setIfInBounds_toArray, List.set_cons_succ, List.set_cons_zero])
          | (refine o_field rfl rfl (.list rfl) fa27_0 ?_; simp only [Act.put, List.setIfInBounds_toArray, List.set_cons_succ, List.set_cons_zero])
          | (refine o_load (v := .map (some gl)) rfl rfl (.list rfl) (fits_of ty45 rfl rfl) (hst.field_cells (i := 1) (k := 0) rfl rfl ?_) ?_; (focus (simp [szs]; done)); simp only [Act.put, List.setIfInBounds_toArray, List.set_cons_succ, List.set_cons_zero])
          | (refine o_load (v := hval l[k].id) rfl rfl (.list rfl) (fits_hash _) (hst.field_cells (i := 0) (k := 0) rfl rfl ?_) ?_; (focus (simp [szs]; done)); simp only [Act.put, List.setIfInBounds_toArray, List.set_cons_succ, List.set_cons_zero])
          | (refine o_lookup (i := 2) ek24 Tryz.underlying45 ty27 rfl rfl rfl (.list rfl) hst rfl ?_; simp only [if_true]; rw [getD_leafE]; simp only [Act.put, List.setIfInBounds_toArray, List.set_cons_succ, List.set_cons_zero]))
        go_ret
        refine .inl ⟨rfl, fun hA2 => ?_, _, hst⟩
        have h1 : Apart (l.take (k + 1)) := by
          unfold Apart at hA2 ⊢
          rw [List.map_take]
          exact (List.take_sublist _ _).nodup hA2
        rw [HAP.out] at h1
        rw [h1] at hm
        cases hm
      · have hm' : mhas (lents (l.take k)) l[k].id = false := by simpa using hm
        have hap3 := HAP.out.2 hm'
        clear hm
        go_wp2_with (first
          | (refine o_elem Tryz.underlying22 ty27 rfl rfl rfl (.list rfl) (by omega) (by omega) (hst.old_rd' hA (fun ad h1 h2 => h2.elim (hAl (by omega) ad h1).1 (hAl (by omega) ad h1).2)) (leaves_sz l) (by omega) (by simpa using G1.out) ?_; intro p hp; simp only [Act.put, List.setIfInBounds_toArray, List.set_cons_succ, List.set_cons_zero])
          | (refine o_load (v := leafE l[k]) rfl rfl (.list rfl) (fits_leaf _) hp ?_; simp only [Act.put, List.setIfInBounds_toArray, List.set_cons_succ, List.set_cons_zero])
          | (refine o_alloc ty27 rfl (.list rfl) hst ?_; clear hst; intro w1 gx hst; simp only [Act.put, List.setIfInBounds_toArray, List.set_cons_succ, List.set_cons_zero])
          | (refine o_store (i := 0) (k := 0) rfl rfl rfl rfl rfl (.list rfl) hst (fits_leaf _) (ok1_leafE _) ?_ ?_ ?_; (focus (simp [szs]; done)); (focus (simp [szs]; done)); clear hst; intro w1 hst; simp only [List.set_cons_succ, List.set_cons_zero] at hst; rw [var_leafE] at hst; simp only [Act.put, List.setIfInBounds_toArray, List.set_cons_succ, List.set_cons_zero])
          | (refine o_field rfl rfl (.list rfl) fa48_0 ?_; simp only [Act.put, List.setIfInBounds_toArray, List.set_cons_succ, List.set_cons_zero])
          | (refine o_field rfl rfl (.list rfl) fa27_0 ?_; simp only [Act.put, List.setIfInBounds_toArray, List.set_cons_succ, List.set_cons_zero])
          | (refine o_load (v := .map (some gl)) rfl rfl (.list rfl) (fits_of ty45 rfl rfl) (hst.field_cells (i := 1) (k := 0) rfl rfl ?_) ?_; (focus (simp [szs]; done)); simp only [Act.put, List.setIfInBounds_toArray, List.set_cons_succ, List.set_cons_zero])
          | (refine o_load (v := hval l[k].id) rfl rfl (.list rfl) (fits_hash _) (hst.field_cells (i := 0) (k := 0) rfl rfl ?_) ?_; (focus (simp [szs]; done)); simp only [Act.put, List.setIfInBounds_toArray, List.set_cons_succ, List.set_cons_zero])
          | (refine o_lookup (i := 2) ek24 Tryz.underlying45 ty27 rfl rfl rfl (.list rfl) hst rfl ?_; simp only [if_true]; rw [getD_leafE]; simp only [Act.put, List.setIfInBounds_toArray, List.set_cons_succ, List.set_cons_zero])
          | (refine o_load (v := leafE l[k]) rfl rfl (.list rfl) (fits_leaf _) (by rw [cells_leafE]; exact hst.var_cells (i := 1) rfl) ?_; simp only [Act.put, List.setIfInBounds_toArray, List.set_cons_succ, List.set_cons_zero])
          | (refine o_load (v := .map (some gl)) rfl rfl (.list rfl) (fits_of ty45 rfl rfl) (hst.field_cells (i := 2) (k := 0) rfl rfl ?_) ?_; (focus (simp [szs]; done)); simp only [Act.put, List.setIfInBounds_toArray, List.set_cons_succ, List.set_cons_zero])
          | (refine o_load (v := hval l[k].id) rfl rfl (.list rfl) (fits_hash _) (hst.field_cells (i := 1) (k := 0) rfl rfl ?_) ?_; (focus (simp [szs]; done)); simp only [Act.put, List.setIfInBounds_toArray, List.set_cons_succ, List.set_cons_zero])
          | (refine o_mapUpdate (i := 3) (v := l[k]) ek24 Tryz.underlying45 rfl rfl rfl rfl (.list rfl) hst rfl ?_; clear hst; intro w1 hst; simp only [List.set_cons_succ, List.set_cons_zero] at hst; simp only [Act.put, List.setIfInBounds_toArray, List.set_cons_succ, List.set_cons_zero])
          | (refine o_field rfl rfl (.list rfl) fa48_1 ?_; simp only [Act.put, List.setIfInBounds_toArray, List.set_cons_succ, List.set_cons_zero])
          | (refine o_field rfl rfl (.list rfl) fa27_1 ?_; simp only [Act.put, List.setIfInBounds_toArray, List.set_cons_succ, List.set_cons_zero])
          | (refine o_load (v := .map (some gk)) rfl rfl (.list rfl) (fits_of ty46 rfl rfl) (hst.field_cells (i := 2) (k := 1) rfl rfl ?_) ?_; (focus (simp [szs]; done)); simp only [Act.put, List.setIfInBounds_toArray, List.set_cons_succ, List.set_cons_zero])
          | (refine o_load (v := hval l[k].parent) rfl rfl (.list rfl) (fits_hash _) (hst.field_cells (i := 1) (k := 1) rfl rfl ?_) ?_; (focus (simp [szs]; done)); simp only [Act.put, List.setIfInBounds_toArray, List.set_cons_succ, List.set_cons_zero])
          | (refine o_buildSlice (vs := [hval l[k].id]) Tryz.underlying55 ty24 (size_hval hz) rfl (.list rfl) hst rfl rfl (by simp) (by simp) (by omega) ?_; clear hst; intro B w1 hst; simp only [Act.put, List.setIfInBounds_toArray, List.set_cons_succ, List.set_cons_zero])
          | (refine o_mapEntry (i := 5) (zv := kv0) ek24 Tryz.underlying46 (show TyIs Tryz.prog 55 false 1 (kvE kv0) 24 from ty55) rfl rfl rfl (.list rfl) hst rfl ?_; clear hst; intro bn j w1 hj1 hj2 hst; simp only [List.set_cons_succ, List.set_cons_zero] at hst; replace hst := kids_pre (R := [_, _, _, _, _]) hst; simp only [List.cons_append, List.nil_append] at hst; obtain ⟨⟨A1, c1, ids⟩, hv⟩ : ∃ v, (mlook xs l[k].parent).getD kv0 = v := ⟨_, rfl⟩; rw [hv] at hj1 ⊢; have HV := Lib.hid hv; clear hv; have HJ := Lib.hid hj1; clear hj1 hj2; simp only [kvE]; have hrow := krows_get _ HJ.out; simp only [Act.put, List.setIfInBounds_toArray, List.set_cons_succ, List.set_cons_zero])
          | (at_builtin; go_must (refine o_append (i := j + 6) Tryz.underlying55 ty24 (by omega) (size_hval hz) rfl rfl rfl (.list rfl) hst hrow (hst.src_row (i := 0) rfl (ok1_flat (by simp [ok1_hval]))) ?_ ?_ ?_; (focus (have h9 : ids.length ≤ l.length := kids_len hks HV.out; show (ids.length + 1) * 32 ≤ 140737488355328; omega)); (focus (have h9 : ids.length ≤ l.length := kids_len hks HV.out; show ids.length + 1 ≤ 140737488355328; omega)); clear hst hrow; intro B2 c2 w1 hst; simp only [List.set_cons_succ] at hst; simp only [Act.put, List.setIfInBounds_toArray, List.set_cons_succ, List.set_cons_zero]))
          | (refine at_entry ?_ rfl; go_must (refine o_entryStore (i := 5) (v := (B2, c2, ids ++ [l[k].id])) rfl rfl rfl ?_ (.list rfl) hst rfl (kpre_nodup hks _) HJ.out ?_; (focus (simp [opv, kvE]; done)); clear hst; intro w1 hst; simp only [List.set_cons_succ, List.set_cons_zero] at hst; simp only [Act.put, List.setIfInBounds_toArray, List.set_cons_succ, List.set_cons_zero])))
        have hks2 := kids_step hks l[k] (v := (B2, c2, ids ++ [l[k].id])) (by rw [HV.out]; exact HJ.out) (by rw [HV.out])
        have hlen : (l.take k).length = k := by rw [List.length_take]; omega
        have hno : ∀ y ∈ l.take k, y.id ≠ l[k].id := fun y hy he => by
          have h1 := hm'
          rw [mhas_lents, List.any_eq_false] at h1
          exact h1 y hy (by simpa using he)
        have hmp := mput_lents (l.take k) l[k] hno
        rw [hlen, ← List.take_succ_eq_append_getElem hlt] at hmp
        rw [← List.take_succ_eq_append_getElem hlt] at hks2
        refine ⟨⟨k + 1, (kpre xs l[k].parent).set j (l[k].parent, (B2, c2, ids ++ [l[k].id]), bn), by omega, by go_num, hap3, hks2.1, ?_⟩, by simp [intOf]; omega⟩
        have hst2 := ((hst.drop 0).drop 0).drop 0
        simp only [List.eraseIdx_zero, List.tail_cons] at hst2
        rw [hks2.2, krows_set, ← hmp.1]
        have e1 : mclk (lents (l.take k)) k l[k].id = k + 1 := by rw [hmp.2, List.length_take]; omega
        rw [e1] at hst2
        simpa [flat_append] using hst2
    · have hkl : k = l.length := by omega
      go_wp2
      go_ret
      rw [hkl, List.take_length] at hap hks hst
      refine .inr ⟨rfl, hap, xs, hks, ?_⟩
      have hst2 := hst.drop 0
      simp only [List.eraseIdx_zero, List.tail_cons] at hst2
      exact hst2
end Go.Proofs.YtehhnfpfefccaaaGreat
set_option linter.unusedVariables false
set_option linter.unusedSimpArgs false
namespace Go.Proofs.YtehhnfpfefccaaaGreat
open Go Go.RowKit HL BigFrame
theorem at_map49 {P : Program} {ops rest o} {Q : Exit → Act → World → Prop} {a : Act} {w : World} (h : wpList P ops Q (o :: rest) a w) (ho : o.op = .makeMap 45 none) : wpList P ops Q (o :: rest) a w := h
theorem at_box54 {P : Program} {ops rest o x} {Q : Exit → Act → World → Prop} {a : Act} {w : World} (h : wpList P ops Q (o :: rest) a w) (ho : o.op = .box 50 x) : wpList P ops Q (o :: rest) a w := h
def NewOk (root : Hash) (h : Int) (l : List LeafP) : Prop := 0 ≤ h ∧ h ≤ 2147483647 ∧ l.length ≤ 3000 ∧ Apart l ∧ ∀ x ∈ l, x.id ≠ root
def treeL (g gl gk : Nat) (xs : List (Hash × KV × Nat)) (root : Hash) (h : Int) (l : List LeafP) : List Res :=
  Res.var g 50 [.map (some gl), .map (some gk), hval root, .int .i64 h] :: Res.map gl hval leafE (lents l) l.length :: Res.map gk hval kvE xs xs.length :: krows xs
set_option maxRecDepth 100000 in
set_option maxHeartbeats 4000000 in
theorem new_calls (root : Hash) (h : Int) (A : Option Addr) (l : List LeafP) (c : Nat) (w : World) (hA : RdS w A (flat (l.map leafE))) (hl : l.length ≤ 1048576) :
    Calls Tryz.prog 8 #[hval root, .int .i64 h, .slice A l.length c] w fun e w' =>
      (¬ NewOk root h l ∧ e = .returned (.tuple #[.pointer none, .int .i64 2]) ∧ St w w' No []) ∨
      (NewOk root h l ∧ ∃ g gl gk xs, KidsOf xs l ∧ e = .returned (.tuple #[.pointer (some ⟨g, 0, none⟩), .int .i64 0]) ∧ St w w' No (treeL g gl gk xs root h l)) := by
  have hst := St.start w No
  by_cases h1 : (decide (h < 0)) = true
  · go_enter Tryz.func8, Tryz.ntmps8
    go_wp2_with (first
      | (refine at_box54 ?_ rfl; refine o_box rfl rfl (.list rfl) hst ?_; clear hst; intro w1 g hst; rw [Res.var_mkS, Res.var_nest] at hst; simp only [List.cons_append, List.nil_append] at hst; simp only [Act.put, List.setIfInBounds_toArray, List.set_cons_succ, List.set_cons_zero])
      | (refine o_box rfl rfl (.list rfl) hst ?_; clear hst; intro w1 gr hst; simp only [Act.put, List.setIfInBounds_toArray, List.set_cons_succ, List.set_cons_zero])
      | (refine o_makeMap hval leafE rfl (.list rfl) hst ?_; clear hst; intro w1 gl hst; simp only [Act.put, List.setIfInBounds_toArray, List.set_cons_succ, List.set_cons_zero])
      | (refine o_buildS [(0, .map (some _)), (1, .map (some _))] ty48 pl48 rfl (.list rfl) rfl (by simp [partsFit, szs]) rfl ?_; simp only [applyParts, List.set_cons_succ, List.set_cons_zero]; simp only [Act.put, List.setIfInBounds_toArray, List.set_cons_succ, List.set_cons_zero])
      | (refine o_load (v := hval root) rfl rfl (.list rfl) (fits_hash _) (hst.field_cells (i := 2) (k := 0) rfl rfl ?_) ?_; (focus (simp [szs]; done)); simp only [Act.put, List.setIfInBounds_toArray, List.set_cons_succ, List.set_cons_zero])
      | (refine o_buildS [(0, mkS [.map (some _), .map (some _)]), (1, hval root), (2, .int .i64 h)] ty50 pl50 rfl (.list rfl) rfl (by simp [partsFit, szs]) rfl ?_; simp only [applyParts, List.set_cons_succ, List.set_cons_zero]; simp only [Act.put, List.setIfInBounds_toArray, List.set_cons_succ, List.set_cons_zero]))
    go_ret2
    refine .inl ⟨fun hk => ?_, rfl, hst.sub (by simp)⟩
    have := hk.1
    simp at h1
    omega
  have h1' : decide (h < 0) = false := by simpa using h1
  clear h1
  by_cases h2 : (decide (2147483647 < h)) = true
  · go_enter Tryz.func8, Tryz.ntmps8
    go_wp2_with (first
      | (refine at_box54 ?_ rfl; refine o_box rfl rfl (.list rfl) hst ?_; clear hst; intro w1 g hst; rw [Res.var_mkS, Res.var_nest] at hst; simp only [List.cons_append, List.nil_append] at hst; simp only [Act.put, List.setIfInBounds_toArray, List.set_cons_succ, List.set_cons_zero])
      | (refine o_box rfl rfl (.list rfl) hst ?_; clear hst; intro w1 gr hst; simp only [Act.put, List.setIfInBounds_toArray, List.set_cons_succ, List.set_cons_zero])
      | (refine o_makeMap hval leafE rfl (.list rfl) hst ?_; clear hst; intro w1 gl hst; simp only [Act.put, List.setIfInBounds_toArray, List.set_cons_succ, List.set_cons_zero])
      | (refine o_buildS [(0, .map (some _)), (1, .map (some _))] ty48 pl48 rfl (.list rfl) rfl (by simp [partsFit, szs]) rfl ?_; simp only [applyParts, List.set_cons_succ, List.set_cons_zero]; simp only [Act.put, List.setIfInBounds_toArray, List.set_cons_succ, List.set_cons_zero])
      | (refine o_load (v := hval root) rfl rfl (.list rfl) (fits_hash _) (hst.field_cells (i := 2) (k := 0) rfl rfl ?_) ?_; (focus (simp [szs]; done)); simp only [Act.put, List.setIfInBounds_toArray, List.set_cons_succ, List.set_cons_zero])
      | (refine o_buildS [(0, mkS [.map (some _), .map (some _)]), (1, hval root), (2, .int .i64 h)] ty50 pl50 rfl (.list rfl) rfl (by simp [partsFit, szs]) rfl ?_; simp only [applyParts, List.set_cons_succ, List.set_cons_zero]; simp only [Act.put, List.setIfInBounds_toArray, List.set_cons_succ, List.set_cons_zero]))
    go_ret2
    refine .inl ⟨fun hk => ?_, rfl, hst.sub (by simp)⟩
    have := hk.2.1
    simp at h2
    omega
  have h2' : decide (2147483647 < h) = false := by simpa using h2
  clear h2
  by_cases h3 : (decide ((3000 : Int) < (l.length : Int))) = true
  · go_enter Tryz.func8, Tryz.ntmps8
    go_wp2_with (first
      | (refine at_box54 ?_ rfl; refine o_box rfl rfl (.list rfl) hst ?_; clear hst; intro w1 g hst; rw [Res.var_mkS, Res.var_nest] at hst; simp only [List.cons_append, List.nil_append] at hst; simp only [Act.put, List.setIfInBounds_toArray, List.set_cons_succ, List.set_cons_zero])
      | (refine o_box rfl rfl (.list rfl) hst ?_; clear hst; intro w1 gr hst; simp only [Act.put, List.setIfInBounds_toArray, List.set_cons_succ, List.set_cons_zero])
      | (refine o_makeMap hval leafE rfl (.list rfl) hst ?_; clear hst; intro w1 gl hst; simp only [Act.put, List.setIfInBounds_toArray, List.set_cons_succ, List.set_cons_zero])
      | (refine o_buildS [(0, .map (some _)), (1, .map (some _))] ty48 pl48 rfl (.list rfl) rfl (by simp [partsFit, szs]) rfl ?_; simp only [applyParts, List.set_cons_succ, List.set_cons_zero]; simp only [Act.put, List.setIfInBounds_toArray, List.set_cons_succ, List.set_cons_zero])
      | (refine o_load (v := hval root) rfl rfl (.list rfl) (fits_hash _) (hst.field_cells (i := 2) (k := 0) rfl rfl ?_) ?_; (focus (simp [szs]; done)); simp only [Act.put, List.setIfInBounds_toArray, List.set_cons_succ, List.set_cons_zero])
      | (refine o_buildS [(0, mkS [.map (some _), .map (some _)]), (1, hval root), (2, .int .i64 h)] ty50 pl50 rfl (.list rfl) rfl (by simp [partsFit, szs]) rfl ?_; simp only [applyParts, List.set_cons_succ, List.set_cons_zero]; simp only [Act.put, List.setIfInBounds_toArray, List.set_cons_succ, List.set_cons_zero]))
    go_ret2
    refine .inl ⟨fun hk => ?_, rfl, hst.sub (by simp)⟩
    have := hk.2.2.1
    simp at h3
    omega
  have h3' : decide ((3000 : Int) < (l.length : Int)) = false := by simpa using h3
  clear h3
  go_enter Tryz.func8, Tryz.ntmps8
  go_wp2_with (first
      | (refine at_box54 ?_ rfl; refine o_box rfl rfl (.list rfl) hst ?_; clear hst; intro w1 g hst; rw [Res.var_mkS, Res.var_nest] at hst; simp only [List.cons_append, List.nil_append] at hst; simp only [Act.put, List.setIfInBounds_toArray, List.set_cons_succ, List.set_cons_zero])
      | (refine o_box rfl rfl (.list rfl) hst ?_; clear hst; intro w1 gr hst; simp only [Act.put, List.setIfInBounds_toArray, List.set_cons_succ, List.set_cons_zero])
      | (refine at_map49 ?_ rfl; refine o_makeMap hval leafE rfl (.list rfl) hst ?_; clear hst; intro w1 gl hst; simp only [Act.put, List.setIfInBounds_toArray, List.set_cons_succ, List.set_cons_zero])
      | (refine o_makeMap hval kvE rfl (.list rfl) hst ?_; clear hst; intro w1 gk hst; simp only [Act.put, List.setIfInBounds_toArray, List.set_cons_succ, List.set_cons_zero])
      | (refine o_buildS [(0, .map (some _)), (1, .map (some _))] ty48 pl48 rfl (.list rfl) rfl (by simp [partsFit, szs]) rfl ?_; simp only [applyParts, List.set_cons_succ, List.set_cons_zero]; simp only [Act.put, List.setIfInBounds_toArray, List.set_cons_succ, List.set_cons_zero])
      | (refine o_load (v := hval root) rfl rfl (.list rfl) (fits_hash _) (hst.field_cells (i := 2) (k := 0) rfl rfl ?_) ?_; (focus (simp [szs]; done)); simp only [Act.put, List.setIfInBounds_toArray, List.set_cons_succ, List.set_cons_zero])
      | (refine o_buildS [(0, mkS [.map (some _), .map (some _)]), (1, hval root), (2, .int .i64 h)] ty50 pl50 rfl (.list rfl) rfl (by simp [partsFit, szs]) rfl ?_; simp only [applyParts, List.set_cons_succ, List.set_cons_zero]; simp only [Act.put, List.setIfInBounds_toArray, List.set_cons_succ, List.set_cons_zero])
      | (refine at_nil ?_ rfl; go_must (refine o_nilCheck rfl rfl (.list rfl) ?_; simp only [Act.put, List.setIfInBounds_toArray, List.set_cons_succ, List.set_cons_zero]))
      | (refine o_field rfl rfl (.list rfl) fa50_0 ?_; simp only [Act.put, List.setIfInBounds_toArray, List.set_cons_succ, List.set_cons_zero])
      | (refine o_load (v := mkS [.map (some gl), .map (some gk)]) rfl rfl (.list rfl) (fits_of ty48 (isAgg_mkS _) (by simp [szs])) (CellsAt.pre (us := [.map (some gl), .map (some gk)]) (vs := [hval root, .int .i64 h]) (hst.var_cells (i := 0) rfl)) ?_; simp only [Act.put, List.setIfInBounds_toArray, List.set_cons_succ, List.set_cons_zero])
      | (go_at_call 13; refine (put_calls A l c gl gk _ (hst.old_rd hA (fun _ _ => id)) ?_ (hst.map_get (i := 2) rfl) (hst.map_get (i := 1) rfl) ?_ hl).mono ?_))
  · exact fun e => hst.ne_ (i := 2) (j := 1) rfl rfl (by decide) (b := gl) (fp_map.2 rfl) (fp_map.2 e)
  · intro hpos ad had
    have hb : ad.block < w.heap.size := by
      rcases hA with h | ⟨ad', h, hc⟩
      · have := leaves_sz l
        exfalso
        have h9 := congrArg List.length h
        rw [length_flat, szs_const (leaves_sz l)] at h9
        simp at h9
        omega
      · rw [had] at h
        cases h
        refine hc.lt fun h => ?_
        have h9 := congrArg List.length h
        rw [length_flat, szs_const (leaves_sz l)] at h9
        simp at h9
        omega
    have e1 := (hst.own _ (List.mem_of_getElem? (i := 2) rfl) gl (fp_map.2 rfl)).resolve_left id
    have e2 := (hst.own _ (List.mem_of_getElem? (i := 1) rfl) gk (fp_map.2 rfl)).resolve_left id
    omega
  · rintro e w2 hput
    have hst1 : St w w1 No (putL 0 gl gk [] [] ++ [Res.var g 50 [.map (some gl), .map (some gk), hval root, .int .i64 h], Res.var gr 24 [hval root]]) := hst.pick [2, 1, 0, 3] (by decide)
    clear hst
    have mem : ∀ b, (b = gl ∨ b = gk) → ∃ r ∈ putL 0 gl gk [] [], r.fp b := by
      intro b hb
      rcases hb with rfl | rfl
      · exact ⟨_, List.mem_of_getElem? (i := 0) rfl, fp_map.2 rfl⟩
      · exact ⟨_, List.mem_of_getElem? (i := 1) rfl, fp_map.2 rfl⟩
    rcases hput with ⟨rfl, hna, L, h2⟩ | ⟨rfl, hap, xs, hks, h2⟩
    · have hst := hst1.callN h2 mem
      clear hst1 h2
      go_wp2
      go_ret2
      exact .inl ⟨fun hk => hna hk.2.2.2.1, rfl, hst.sub (by simp)⟩
    · have hst := hst1.callN h2 mem
      clear hst1 h2
      replace hst : St w w2 No ([Res.var g 50 [.map (some gl), .map (some gk), hval root, .int .i64 h], Res.var gr 24 [hval root], Res.map gl hval leafE (lents l) l.length, Res.map gk hval kvE xs xs.length] ++ krows xs) := by
        have h9 := hst.perm (List.perm_append_comm (l₁ := putL 0 gl gk xs l) (l₂ := [Res.var g 50 [.map (some gl), .map (some gk), hval root, .int .i64 h], Res.var gr 24 [hval root]]))
        exact h9
      by_cases hm : mhas (lents l) root = true
      all_goals
        go_wp2
        refine wp_region_sched (.q 0 (.q 1 (.q 2 (.q 3 (.q 4 (.q 5 (.q 6 (.q 7 (.q 8 (.q 9 (.s 10 (.s 11 (.q 12 .nil))))))))))))) (fun w1 => St w w1 No ([Res.var g 50 [.map (some gl), .map (some gk), hval root, .int .i64 h], Res.var gr 24 [hval root], Res.map gl hval leafE (lents l) l.length, Res.map gk hval kvE xs xs.length] ++ krows xs)) (by kernel_rfl) (by kernel_rfl) (by kernel_rfl) (by decide) (fun d v c a w h => by cases d <;> exact h) ?_
        have hst := hst.drew
        refine q_move rfl rfl rfl rfl hst ?_; simp only [Act.put, List.setIfInBounds_toArray, List.set_cons_succ, List.set_cons_zero]
        refine q_nilCheck rfl rfl rfl rfl hst ?_; simp only [Act.put, List.setIfInBounds_toArray, List.set_cons_succ, List.set_cons_zero]
        refine q_field rfl rfl rfl rfl hst fa50_0 ?_; simp only [Act.put, List.setIfInBounds_toArray, List.set_cons_succ, List.set_cons_zero]
        refine q_field rfl rfl rfl rfl hst fa48_0 ?_; simp only [Act.put, List.setIfInBounds_toArray, List.set_cons_succ, List.set_cons_zero]
        refine q_load (v := .map (some gl)) rfl rfl rfl rfl hst (fits_of ty45 rfl rfl) (fun w1 h => h.field_cells (i := 0) (k := 0) rfl rfl (by simp [szs])) ?_; simp only [Act.put, List.setIfInBounds_toArray, List.set_cons_succ, List.set_cons_zero]
        refine q_load (v := hval root) rfl rfl rfl rfl hst (fits_hash _) (fun w1 h => h.field_cells (i := 1) (k := 0) rfl rfl (by simp [szs])) ?_; simp only [Act.put, List.setIfInBounds_toArray, List.set_cons_succ, List.set_cons_zero]
        refine q_lookup ek24 Tryz.underlying45 ty27 rfl rfl rfl rfl rfl hst (fun w1 h => h.map_get (i := 2) rfl) ?_; simp only [Act.put, List.setIfInBounds_toArray, List.set_cons_succ, List.set_cons_zero]
        simp only [if_true]; rw [getD_leafE]
        refine q_move rfl rfl rfl rfl hst ?_; simp only [Act.put, List.setIfInBounds_toArray, List.set_cons_succ, List.set_cons_zero]
        refine q_extract rfl rfl rfl rfl rfl hst ?_; simp only [Act.put, List.setIfInBounds_toArray, List.set_cons_succ, List.set_cons_zero]
        refine q_extract rfl rfl rfl rfl rfl hst ?_; simp only [Act.put, List.setIfInBounds_toArray, List.set_cons_succ, List.set_cons_zero]
        refine o_alloc ty27 rfl (.sched rfl rfl) hst ?_
        intro w3 gx hst3
        refine ⟨hst3.drop 0, ?_⟩
        try simp only [Act.put, List.setIfInBounds_toArray, List.set_cons_succ, List.set_cons_zero]
        refine o_store (i := 0) (k := 0) rfl rfl rfl rfl rfl (.sched rfl rfl) hst3 (fits_leaf ((mlook (lents l) root).getD leaf0)) (ok1_leafE _) ?_ ?_ ?_
        (focus (simp [szs]; done))
        (focus (simp [szs]; done))
        intro w4 hst4
        simp only [List.set_cons_succ, List.set_cons_zero] at hst4
        refine ⟨hst4.drop 0, ?_⟩
        try simp only [Act.put, List.setIfInBounds_toArray, List.set_cons_succ, List.set_cons_zero]
        have hst := hst4
        clear hst3 hst4
        refine q_assign rfl rfl rfl rfl (hst.drop 0) ?_
        refine sched_nil ?_
        try simp only [Act.put, List.setIfInBounds_toArray, List.set_cons_succ, List.set_cons_zero]
        simp only [hm]
        go_wp2
        go_ret2
      · refine .inl ⟨fun hk => ?_, rfl, hst.sub (by simp)⟩
        rw [mhas_lents, List.any_eq_true] at hm
        obtain ⟨x, hx, he⟩ := hm
        exact hk.2.2.2.2 x hx (by simpa using he)
      · refine .inr ⟨⟨?_, ?_, ?_, hap, ?_⟩, g, gl, gk, xs, hks, rfl, St.pickT [Res.var gx 27 [leafE ((mlook (lents l) root).getD leaf0)], Res.var g 50 [.map (some gl), .map (some gk), hval root, .int .i64 h], Res.var gr 24 [hval root], Res.map gl hval leafE (lents l) l.length, Res.map gk hval kvE xs xs.length] (krows xs) hst [1, 3, 4] (by decide)⟩
        · simpa using h1'
        · simpa using h2'
        · have := of_decide_eq_false h3'; omega
        · intro x hx he
          refine hm ?_
          rw [mhas_lents, List.any_eq_true]
          exact ⟨x, hx, by simpa using he⟩
end Go.Proofs.YtehhnfpfefccaaaGreat
set_option linter.unusedVariables false
set_option linter.unusedSimpArgs false
namespace Go.Proofs.YtehhnfpfefccaaaGreat
open Go Go.RowKit HL BigFrame
def fallenV : Value := .iface 113 (.agg #[])
def fell : List PanicEntry := [{ v := fallenV, recovered := false }]
theorem must_calls (b : Bool) (w : World) : Calls Tryz.prog 47 #[.bool b] w fun e w' => (b = true ∧ e = .returned (.tuple #[]) ∨ b = false ∧ e = .panicked fell) ∧ St w w' No [] := by
  have hst := St.start w No
  cases b
  · go_enter Tryz.func47, Tryz.ntmps47
    go_wp2
    simp [bodyPost, fell, fallenV, hst]
  · go_enter Tryz.func47, Tryz.ntmps47
    go_wp2
    simp [bodyPost, results, Tryz.results47, hst, Sem.run_pure]
set_option maxRecDepth 100000
theorem made_calls (g gl gk : Nat) (root : Hash) (h : Int) (w : World) (ht : (Res.var g 50 [.map (some gl), .map (some gk), hval root, .int .i64 h]).holds w) : Calls Tryz.prog 28 #[.pointer (some ⟨g, 0, none⟩)] w fun e w' => e = .returned (.bool true) ∧ St w w' No [] := by
  have hst := St.start w No
  have hm := fun w => run_neMap (P := Tryz.prog) Tryz.underlying45 (some gl) w
  simp only [Option.isSome_some] at hm
  go_enter Tryz.func28, Tryz.ntmps28
  go_wp2_with (first
    | (refine at_nil ?_ rfl; go_must (refine o_nilCheck rfl rfl (.list rfl) ?_; simp only [Act.put, List.setIfInBounds_toArray, List.set_cons_succ, List.set_cons_zero]))
    | (refine o_field rfl rfl (.list rfl) fa50_0 ?_; simp only [Act.put, List.setIfInBounds_toArray, List.set_cons_succ, List.set_cons_zero])
    | (refine o_field rfl rfl (.list rfl) fa48_0 ?_; simp only [Act.put, List.setIfInBounds_toArray, List.set_cons_succ, List.set_cons_zero])
    | (refine o_load (v := .map (some gl)) rfl rfl (.list rfl) (fits_of ty45 rfl rfl) (var_field ht (k := 0) rfl rfl) ?_; simp only [Act.put, List.setIfInBounds_toArray, List.set_cons_succ, List.set_cons_zero]))
  go_ret
  exact ⟨rfl, hst⟩
theorem byteCompare_calls (A B : Option Addr) (xs ys : List UInt8) (c d : Nat) (w : World) (hA : RdS w A (bcells xs)) (hB : RdS w B (bcells ys)) : Calls Tryz.prog 45 #[.slice A xs.length c, .slice B ys.length d] w fun e w' => e = .returned (.int .i64 (bcmp xs ys)) ∧ St w w' No [] := by
  have hst := St.start w No
  have hd : (callFunc 79 #[.slice A xs.length c, .slice B ys.length d]).run Tryz.prog w = .ok (.value (.int .i64 (bcmp xs ys))) w := by
    refine run_stand Tryz.func79 (by kernel_rfl) rfl (by kernel_rfl) (e := Extern.BytealgCompare.compare) (by kernel_rfl) ?_
    rw [show Extern.BytealgCompare.compare #[.slice A xs.length c, .slice B ys.length d] = (do pure (goInt (Extern.BytealgCompare.cmp (← Extern.Bytes.bytesOf (.slice A xs.length c)) (← Extern.Bytes.bytesOf (.slice B ys.length d))))) from rfl]
    simp [run_bytesOf hA, run_bytesOf hB, cmp_ba]
    rfl
  go_enter Tryz.func45, Tryz.ntmps45
  go_wp2
  go_ret
  exact ⟨rfl, hst⟩
theorem order_calls (a b : Hash) (w : World) : Calls Tryz.prog 30 #[hval a, hval b] w fun e w' => e = .returned (.int .i64 (bcmp a.toList b.toList)) ∧ St w w' No [] := by
  have hst := St.start w No
  go_enter Tryz.func30, Tryz.ntmps30
  go_wp2_with (first | (refine o_box (v := hval a) rfl rfl (.list rfl) hst ?_; clear hst; intro w1 g1 hst; simp only [Act.put, List.setIfInBounds_toArray, List.set_cons_succ, List.set_cons_zero]) | (refine o_box (v := hval b) rfl rfl (.list rfl) hst ?_; clear hst; intro w1 g2 hst; simp only [Act.put, List.setIfInBounds_toArray, List.set_cons_succ, List.set_cons_zero]))
  refine wp_region_sched (.q 0 (.q 1 (.s 2 (.q 3 .nil)))) (fun w1 => St w w1 No [Res.var g2 24 [hval b], Res.var g1 24 [hval a]]) (by kernel_rfl) (by kernel_rfl) (by kernel_rfl) (by decide) (fun d v c a w h => by cases d <;> exact h) ?_
  have hst := hst.drew
  refine q_sliceArr Tryz.underlying24 ty5 rfl rfl rfl rfl hst ?_; simp only [Act.put, List.setIfInBounds_toArray, List.set_cons_succ, List.set_cons_zero]
  refine q_sliceArr Tryz.underlying24 ty5 rfl rfl rfl rfl hst ?_; simp only [Act.put, List.setIfInBounds_toArray, List.set_cons_succ, List.set_cons_zero]
  refine o_call (vs := [.slice (some ⟨g1, 0, none⟩) 32 32, .slice (some ⟨g2, 0, none⟩) 32 32]) Tryz.func45 rfl rfl rfl rfl rfl (.sched rfl rfl) (byteCompare_calls (some ⟨g1, 0, none⟩) (some ⟨g2, 0, none⟩) a.toList b.toList 32 32 _ ?_ ?_) (by simp) ?_
  · have := hst.var_cells (i := 1) rfl
    rw [flat_single, cells_hval, hcells_eq] at this
    exact .inr ⟨_, rfl, this⟩
  · have := hst.var_cells (i := 0) rfl
    rw [flat_single, cells_hval, hcells_eq] at this
    exact .inr ⟨_, rfl, this⟩
  rintro e w3 ⟨rfl, h3⟩
  refine ⟨hst.call h3, ?_⟩
  replace hst := hst.call h3
  refine q_assign rfl rfl rfl rfl hst ?_; simp only [Act.put, List.setIfInBounds_toArray, List.set_cons_succ, List.set_cons_zero]
  refine sched_nil ?_
  go_wp2
  go_ret
  exact ⟨rfl, hst.sub (by simp)⟩
end Go.Proofs.YtehhnfpfefccaaaGreat
set_option linter.unusedVariables false
set_option linter.unusedSimpArgs false
namespace Go.Proofs.YtehhnfpfefccaaaGreat
open Go Go.RowKit HL BigFrame
def hmins (m : Hash) (l : List Hash) : Hash := l.foldl (fun m x => if hlt x m then x else m) m
theorem hmins_mem : ∀ (l : List Hash) (m : Hash), hmins m l = m ∨ hmins m l ∈ l
  | [], m => .inl rfl
  | x :: l, m => by
    unfold hmins
    rw [List.foldl_cons]
    by_cases h : hlt x m
    · rw [if_pos h]
      rcases hmins_mem l x with h1 | h1
      · exact .inr (by rw [show l.foldl (fun m x => if hlt x m then x else m) x = x from h1]; simp)
      · exact .inr (List.mem_cons_of_mem _ h1)
    · rw [if_neg h]
      rcases hmins_mem l m with h1 | h1
      · exact .inl h1
      · exact .inr (List.mem_cons_of_mem _ h1)
theorem hmins_le : ∀ (l : List Hash) (m : Hash), ¬ hlt m (hmins m l) ∧ ∀ x ∈ l, ¬ hlt x (hmins m l)
  | [], m => ⟨hlt_irrefl m, by simp⟩
  | y :: l, m => by
    have key : ∀ k, ¬ hlt k (hmins k l) ∧ ∀ x ∈ l, ¬ hlt x (hmins k l) := hmins_le l
    have le_trans : ∀ a b c : Hash, ¬ hlt b a → ¬ hlt c b → ¬ hlt c a := fun a b c h1 h2 h3 => by
      rcases hlt_tri a b with h | h | h
      · exact h2 (hlt_trans h3 h)
      · subst h; exact h2 h3
      · exact h1 h
    have e : hmins m (y :: l) = hmins (if hlt y m then y else m) l := rfl
    rw [e]
    by_cases h : hlt y m
    · rw [if_pos h]
      have k := key y
      refine ⟨le_trans _ _ _ k.1 (hlt_asymm h), ?_⟩
      intro x hx
      rcases List.mem_cons.1 hx with rfl | hx
      · exact k.1
      · exact k.2 x hx
    · rw [if_neg h]
      have k := key m
      refine ⟨k.1, ?_⟩
      intro x hx
      rcases List.mem_cons.1 hx with rfl | hx
      · exact le_trans _ _ _ k.1 h
      · exact k.2 x hx
theorem hashes_at (l : List Hash) (k : Nat) (h : k < l.length) : (l.map hval)[k]? = some (hval l[k]) := by simp [h]
set_option maxHeartbeats 4000000 in
theorem minFunc_calls (A : Option Addr) (m : Hash) (l : List Hash) (c : Nat) (w : World) (hA : RdS w A (flat ((m :: l).map hval))) (hl : l.length ≤ 1048576) :
    Calls Tryz.prog 29 #[.slice A (l.length + 1) c, .func (.func 30) #[] #[]] w fun e w' => e = .returned (hval (hmins m l)) ∧ St w w' No [] := by
  have hst := St.start w No
  have hln : ¬ ((l.length + 1 : Nat) : Int) < 1 := by omega
  go_enter Tryz.func29, Tryz.ntmps29
  have hr := hA
  go_wp2_with (first
    | (refine o_alloc (L := []) ty24 rfl (.list rfl) hst ?_; clear hst; intro w1 g4 hst; simp only [Act.put, List.setIfInBounds_toArray, List.set_cons_succ, List.set_cons_zero])
    | (refine o_alloc (L := [_]) ty24 rfl (.list rfl) hst ?_; clear hst; intro w1 g5 hst; simp only [Act.put, List.setIfInBounds_toArray, List.set_cons_succ, List.set_cons_zero])
    | (refine o_elem Tryz.underlying55 ty24 rfl rfl rfl (.list rfl) (by omega) (by omega) (hst.old_rd hA (fun _ _ => id)) (hashes_sz (m :: l)) (by omega) (v := hval m) rfl ?_; intro p hp; simp only [Act.put, List.setIfInBounds_toArray, List.set_cons_succ, List.set_cons_zero])
    | (refine o_load (v := hval m) rfl rfl (.list rfl) (fits_hash _) hp ?_; simp only [Act.put, List.setIfInBounds_toArray, List.set_cons_succ, List.set_cons_zero])
    | (refine o_store (i := 0) (k := 0) rfl rfl rfl rfl rfl (.list rfl) hst (fits_hash _) (ok1_hval _) ?_ ?_ ?_; (focus (simp [szs]; done)); (focus (simp [szs]; done)); clear hst; intro w1 hst; simp only [List.set_cons_succ, List.set_cons_zero] at hst; simp only [Act.put, List.setIfInBounds_toArray, List.set_cons_succ, List.set_cons_zero]))
  go_loopw [6] (fun i wr => ∃ k : Nat, k ≤ l.length ∧ i = .int .i64 ((k : Int) + 1) ∧ St w wr No [Res.var g5 24 [hval (hmins m (l.take k))], Res.var g4 24 [hval hz]]) (fun i _ => l.length + 1 - (intOf i).toNat)
  case atStart => exact ⟨0, Nat.zero_le _, rfl, by simpa [hmins] using hst⟩
  case round =>
    clear hst
    obtain ⟨k, hk, rfl, hst⟩ := hrel
    by_cases hkl : k < l.length
    · have hlt2 : (k : Int) + 1 < (l.length + 1 : Nat) := by omega
      go_wp2
      refine wp_region_sched (.q 0 (.q 1 (.q 2 (.q 3 (.q 4 (.q 5 (.s 6 (.q 7 .nil)))))))) (fun w1 => St w w1 No [Res.var g5 24 [hval (hmins m (l.take k))], Res.var g4 24 [hval hz]]) (by kernel_rfl) (by kernel_rfl) (by kernel_rfl) (by decide) (fun d v c a w h => by cases d <;> exact h) ?_
      have hst := hst.drew
      refine q_move rfl rfl rfl rfl hst ?_; simp only [Act.put, List.setIfInBounds_toArray, List.set_cons_succ, List.set_cons_zero]
      refine q_move rfl rfl rfl rfl hst ?_; simp only [Act.put, List.setIfInBounds_toArray, List.set_cons_succ, List.set_cons_zero]
      refine q_move rfl rfl rfl rfl hst ?_; simp only [Act.put, List.setIfInBounds_toArray, List.set_cons_succ, List.set_cons_zero]
      refine q_elem Tryz.underlying55 ty24 rfl rfl rfl rfl rfl hst (by omega) (by omega) (fun w' h => h.old_rd hA (fun _ _ => id)) (hashes_sz (m :: l)) (by omega) (v := hval l[k]) (by simp [show ((k : Int) + 1).toNat = k + 1 by omega, hkl]) (fun p hp => ?_)
      refine q_load (v := hval l[k]) rfl rfl rfl rfl hst (fits_hash _) hp ?_; simp only [Act.put, List.setIfInBounds_toArray, List.set_cons_succ, List.set_cons_zero]
      refine q_load (v := hval (hmins m (l.take k))) rfl rfl rfl rfl hst (fits_hash _) (fun w1 h => h.field_cells (i := 0) (k := 0) rfl rfl (by simp [szs])) ?_; simp only [Act.put, List.setIfInBounds_toArray, List.set_cons_succ, List.set_cons_zero]
      refine o_call (vs := [hval l[k], hval (hmins m (l.take k))]) Tryz.func30 rfl rfl rfl rfl rfl (.sched rfl rfl) (order_calls l[k] (hmins m (l.take k)) _) (by simp) ?_
      rintro e w3 ⟨rfl, h3⟩
      refine ⟨hst.call h3, ?_⟩
      replace hst := hst.call h3
      clear h3
      try simp only [Act.put, List.setIfInBounds_toArray, List.set_cons_succ, List.set_cons_zero]
      have hstep : hmins m (l.take (k + 1)) = if hlt l[k] (hmins m (l.take k)) then l[k] else hmins m (l.take k) := by
        rw [List.take_succ_eq_append_getElem hkl, hmins, List.foldl_append]
        rfl
      have HS := Lib.hid hstep
      clear hstep
      (refine sched_q rfl rfl rfl hst (fun K hK => ?_); go_big_quiet_op; first | refine hK _ ?_ | refine ⟨_, fun _ _ => rfl, hK _ ?_⟩; clear hK K)
      refine sched_nil ?_
      try simp only [Act.put, List.setIfInBounds_toArray, List.set_cons_succ, List.set_cons_zero]
      by_cases hcmp : hlt l[k] (hmins m (l.take k))
      · have hd : decide (bcmp (l[k]).toList (hmins m (l.take k)).toList < 0) = true := decide_eq_true hcmp
        simp only [hd]
        clear hd
        rw [if_pos hcmp] at HS
        go_wp2_with (first
          | (refine o_elem Tryz.underlying55 ty24 rfl rfl rfl (.list rfl) (by omega) (by omega) (hst.old_rd hA (fun _ _ => id)) (hashes_sz (m :: l)) (by omega) (v := hval l[k]) (by simp [show ((k : Int) + 1).toNat = k + 1 by omega, hkl]) ?_; intro p hp; simp only [Act.put, List.setIfInBounds_toArray, List.set_cons_succ, List.set_cons_zero])
          | (refine o_load (v := hval l[k]) rfl rfl (.list rfl) (fits_hash _) hp ?_; simp only [Act.put, List.setIfInBounds_toArray, List.set_cons_succ, List.set_cons_zero])
          | (refine o_store (i := 0) (k := 0) rfl rfl rfl rfl rfl (.list rfl) hst (fits_hash _) (ok1_hval _) ?_ ?_ ?_; (focus (simp [szs]; done)); (focus (simp [szs]; done)); clear hst; intro w1 hst; simp only [List.set_cons_succ, List.set_cons_zero] at hst; simp only [Act.put, List.setIfInBounds_toArray, List.set_cons_succ, List.set_cons_zero]))
        refine ⟨⟨k + 1, by omega, by go_num, by rw [HS.out]; exact hst⟩, by simp [intOf]; omega⟩
      · have hd : decide (bcmp (l[k]).toList (hmins m (l.take k)).toList < 0) = false := decide_eq_false hcmp
        simp only [hd]
        clear hd
        rw [if_neg hcmp] at HS
        go_wp2
        refine ⟨⟨k + 1, by omega, by go_num, by rw [HS.out]; exact hst⟩, by simp [intOf]; omega⟩
    · have hke : k = l.length := by omega
      rw [hke, List.take_length] at hst
      have hlt2 : ¬ (k : Int) + 1 < (l.length + 1 : Nat) := by omega
      go_wp2_with (first
          | (refine o_load (v := hval (hmins m l)) rfl rfl (.list rfl) (fits_hash _) (hst.field_cells (i := 0) (k := 0) rfl rfl ?_) ?_; (focus (simp [szs]; done)); simp only [Act.put, List.setIfInBounds_toArray, List.set_cons_succ, List.set_cons_zero])
          | (refine o_store (i := 1) (k := 0) rfl rfl rfl rfl rfl (.list rfl) hst (fits_hash _) (ok1_hval _) ?_ ?_ ?_; (focus (simp [szs]; done)); (focus (simp [szs]; done)); clear hst; intro w1 hst; simp only [List.set_cons_succ, List.set_cons_zero] at hst; simp only [Act.put, List.setIfInBounds_toArray, List.set_cons_succ, List.set_cons_zero]))
      exact post_cell (i := 1) rfl rfl rfl hst rfl (fits_hash _) (flat_single _) ⟨rfl, hst.sub (by simp)⟩
end Go.Proofs.YtehhnfpfefccaaaGreat
set_option linter.unusedVariables false
set_option linter.unusedSimpArgs false
namespace Go.Proofs.YtehhnfpfefccaaaGreat
open Go Go.RowKit HL BigFrame
def kidsIds (l : List LeafP) (id : Hash) : List Hash := (l.filter fun x => x.parent = id).map (·.id)
def isLoose (x : LeafP) : Bool := x.mark == 1 || x.mark == 4
def leafOf (l : List LeafP) (k : Hash) : LeafP := (l.find? fun x => x.id = k).getD leaf0
def good (l : List LeafP) (h : Int) (k : Hash) : Bool := !isLoose (leafOf l k) && ((leafOf l k).height == h + 1)
def next1 (l : List LeafP) (h : Int) (id : Hash) : List Hash := (kidsIds l id).filter (good l h)
def lev (l : List LeafP) (root : Hash) (h : Int) : Nat → List Hash
  | 0 => [root]
  | n + 1 => (lev l root h n).flatMap (next1 l (h + n))
theorem leafOf_mem {l : List LeafP} {k : Hash} (h : ∃ x ∈ l, x.id = k) : leafOf l k ∈ l ∧ (leafOf l k).id = k := by
  unfold leafOf
  cases hf : l.find? fun x => x.id = k with
  | none =>
    obtain ⟨x, hx, he⟩ := h
    have := List.find?_eq_none.1 hf x hx
    simp [he] at this
  | some x =>
    have h1 := List.mem_of_find?_eq_some hf
    have h2 := List.find?_some hf
    exact ⟨h1, by simpa using h2⟩
theorem apart_inj {l : List LeafP} (h : Apart l) {x y : LeafP} (hx : x ∈ l) (hy : y ∈ l) (e : x.id = y.id) : x = y := by
  obtain ⟨i, hi, rfl⟩ := List.mem_iff_getElem.1 hx
  obtain ⟨j, hj, rfl⟩ := List.mem_iff_getElem.1 hy
  have hn := List.pairwise_iff_getElem.1 h
  by_cases hij : i = j
  · subst hij; rfl
  · exfalso
    rcases Nat.lt_or_gt_of_ne hij with hlt | hgt
    · exact hn i j (by simpa using hi) (by simpa using hj) hlt (by simp [e])
    · exact hn j i (by simpa using hj) (by simpa using hi) hgt (by simp [e])
theorem leafOf_id {l : List LeafP} (h : Apart l) {x : LeafP} (hx : x ∈ l) : leafOf l x.id = x := by
  have := leafOf_mem (l := l) (k := x.id) ⟨x, hx, rfl⟩
  exact apart_inj h this.1 hx this.2
theorem mem_next1 {l : List LeafP} {h : Int} {id k : Hash} : k ∈ next1 l h id ↔ (∃ x ∈ l, x.parent = id ∧ x.id = k) ∧ good l h k = true := by
  unfold next1 kidsIds
  rw [List.mem_filter, List.mem_map]
  constructor
  · rintro ⟨⟨x, hx, he⟩, hg⟩
    rw [List.mem_filter] at hx
    exact ⟨⟨x, hx.1, by simpa using hx.2, he⟩, hg⟩
  · rintro ⟨⟨x, hx, hp, he⟩, hg⟩
    exact ⟨⟨x, List.mem_filter.2 ⟨hx, by simpa using hp⟩, he⟩, hg⟩
theorem lev_leaf {l : List LeafP} {root : Hash} {h : Int} {n : Nat} {k : Hash} (hk : k ∈ lev l root h (n + 1)) : leafOf l k ∈ l ∧ (leafOf l k).id = k ∧ (leafOf l k).height = h + n + 1 := by
  rw [lev, List.mem_flatMap] at hk
  obtain ⟨id, _, hk⟩ := hk
  obtain ⟨⟨x, hx, _, he⟩, hg⟩ := mem_next1.1 hk
  have h1 := leafOf_mem (l := l) (k := k) ⟨x, hx, he⟩
  refine ⟨h1.1, h1.2, ?_⟩
  simp only [good, Bool.and_eq_true, beq_iff_eq] at hg
  exact hg.2
theorem nodup_filter_map {l : List LeafP} (h : Apart l) (id : Hash) : (kidsIds l id).Nodup := by
  unfold kidsIds
  have : ((l.filter fun x => x.parent = id).map (·.id)).Sublist (l.map (·.id)) := (List.filter_sublist).map _
  exact this.nodup h
theorem lev_nodup {l : List LeafP} (hap : Apart l) (root : Hash) (h : Int) : ∀ n, (lev l root h n).Nodup
  | 0 => by simp [lev]
  | n + 1 => by
    have ih := lev_nodup hap root h n
    rw [lev]
    have gen : ∀ (ids : List Hash), ids.Nodup → (ids.flatMap (next1 l (h + n))).Nodup := by
      intro ids
      induction ids with
      | nil => intro _; simp
      | cons id ids ih2 =>
        intro hn
        rw [List.nodup_cons] at hn
        rw [List.flatMap_cons, List.nodup_append]
        refine ⟨(nodup_filter_map hap id).filter _, ih2 hn.2, ?_⟩
        intro a ha b hb e
        subst e
        obtain ⟨⟨x, hx, hp, he⟩, _⟩ := mem_next1.1 ha
        obtain ⟨id2, hid2, hb⟩ := List.mem_flatMap.1 hb
        obtain ⟨⟨y, hy, hq, he2⟩, _⟩ := mem_next1.1 hb
        have := apart_inj hap hx hy (he.trans he2.symm)
        subst this
        rw [hp] at hq
        subst hq
        exact hn.1 hid2
    exact gen _ ih
theorem nodup_le : ∀ (a b : List Hash), a.Nodup → (∀ x ∈ a, x ∈ b) → a.length ≤ b.length
  | [], b, _, _ => Nat.zero_le _
  | x :: a, b, hn, hs => by
    rw [List.nodup_cons] at hn
    have hx := hs x (by simp)
    have h1 := nodup_le a (b.erase x) hn.2 (fun y hy => by
      refine (List.mem_erase_of_ne ?_).2 (hs y (by simp [hy]))
      rintro rfl
      exact hn.1 hy)
    rw [List.length_erase_of_mem hx] at h1
    have := List.length_pos_of_mem hx
    simp
    omega
theorem lev_len {l : List LeafP} (hap : Apart l) (root : Hash) (h : Int) (n : Nat) : (lev l root h n).length ≤ l.length + 1 := by
  cases n with
  | zero => simp [lev]
  | succ n =>
    have := nodup_le _ (l.map (·.id)) (lev_nodup hap root h (n + 1)) (fun k hk => by
      have := lev_leaf hk
      exact List.mem_map.2 ⟨_, this.1, this.2.1⟩)
    rw [List.length_map] at this
    omega
theorem lev_nil {l : List LeafP} {root : Hash} {h : Int} {n : Nat} (hn : lev l root h n = []) : lev l root h (n + 1) = [] := by rw [lev, hn]; rfl
theorem lev_few {l : List LeafP} (root : Hash) (h : Int) {n : Nat} (hn : lev l root h n ≠ []) : n ≤ l.length := by
  have gen : ∀ n, lev l root h n ≠ [] → ∃ ks : List Hash, ks.length = n ∧ ks.Nodup ∧ (∀ k ∈ ks, leafOf l k ∈ l ∧ (leafOf l k).id = k ∧ (leafOf l k).height ≤ h + n) := by
    intro n
    induction n with
    | zero => intro _; exact ⟨[], rfl, by simp, by simp⟩
    | succ n ih =>
      intro hne
      obtain ⟨ks, h1, h2, h3⟩ := ih (fun e => hne (lev_nil e))
      obtain ⟨k, hk⟩ := List.exists_mem_of_ne_nil _ hne
      have hl := lev_leaf hk
      refine ⟨k :: ks, by simp [h1], List.nodup_cons.2 ⟨fun hm => ?_, h2⟩, ?_⟩
      · have := (h3 k hm).2.2
        omega
      · intro q hq
        rcases List.mem_cons.1 hq with rfl | hq
        · exact ⟨hl.1, hl.2.1, by omega⟩
        · have := h3 q hq
          exact ⟨this.1, this.2.1, by omega⟩
  obtain ⟨ks, h1, h2, h3⟩ := gen n hn
  have := nodup_le ks (l.map (·.id)) h2 (fun k hk => List.mem_map.2 ⟨_, (h3 k hk).1, (h3 k hk).2.1⟩)
  rw [List.length_map] at this
  omega
theorem getD_kvE (o : Option KV) : (o.map kvE).getD (.slice none 0 0) = kvE (o.getD kv0) := by cases o <;> rfl
theorem tree_kids {w : World} {g gl gk : Nat} {xs : List (Hash × KV × Nat)} {root : Hash} {h : Int} {l : List LeafP} (ht : ∀ r ∈ treeL g gl gk xs root h l, r.holds w) (hk : KidsOf xs l) (id : Hash) :
    ∃ A c, (mlook xs id).getD kv0 = (A, c, kidsIds l id) ∧ RdS w A (flat ((kidsIds l id).map hval)) := by
  have hlook := hk.look id
  cases hm : mlook xs id with
  | none =>
    rw [hm] at hlook
    simp only [Option.getD_none, kv0] at hlook
    refine ⟨none, 0, ?_, ?_⟩
    · rw [Option.getD_none, kidsIds, ← hlook]; rfl
    · left
      rw [kidsIds, ← hlook]
      unfold flat
      rfl
  | some v =>
    rw [hm] at hlook
    obtain ⟨A, c, ids⟩ := v
    simp only [Option.getD_some] at hlook
    refine ⟨A, c, by rw [Option.getD_some, kidsIds, ← hlook], ?_⟩
    obtain ⟨j, b, _, hj⟩ := idx_some hm
    have hr := ht _ (List.mem_cons_of_mem _ (List.mem_cons_of_mem _ (List.mem_cons_of_mem _ (List.mem_of_getElem? (krows_get xs hj)))))
    have := row_reads hr
    rw [kidsIds, ← hlook]
    exact this
end Go.Proofs.YtehhnfpfefccaaaGreat
set_option linter.unusedVariables false
set_option linter.unusedSimpArgs false
namespace Go.Proofs.YtehhnfpfefccaaaGreat
open Go Go.RowKit HL BigFrame
theorem post_cell2 {fn : Func} {R : Ending → World → Prop} {a : Act} {w w0 : World} {M : Nat → Prop} {L : List Res} {i g : Nat} {t u : Tmp} {T : TypeId} {vs : List Value} {v v2 : Value} (hr : fn.results = #[.cell t T, .tmp u]) (ht : opv a (.tmp t) = some (.pointer (some ⟨g, 0, none⟩))) (hu : opv a (.tmp u) = some v2) (hd : a.defers = [])
    (hst : St w0 w M L) (hi : L[i]? = some (Res.var g T vs)) (hf : Fits Tryz.prog T v) (hv : flat vs = v.cells.toList) (hR : R (.returned (.tuple #[v, v2])) w) : bodyPost Tryz.prog fn R .ret a w := by
  refine bodyPost_ret (v := .tuple #[v, v2]) ?_ hd hR
  have hc := hst.var_cells hi
  rw [hv] at hc
  have hp' : a.tmps[t]?.getD undef = .pointer (some ⟨g, 0, none⟩) := by simpa [Act.eval] using opv_eval ht
  have hq' : a.tmps[u]?.getD undef = v2 := by simpa [Act.eval] using opv_eval hu
  simp [results, hr, hp', hq', asAddr, run_loadVar hf hc]
theorem looseE_calls (x : LeafP) (w : World) : Calls Tryz.prog 31 #[leafE x] w fun e w' => e = .returned (.bool (isLoose x)) ∧ St w w' No [] := by
  have := loose_calls x.id x.parent x.height x.mark w
  unfold leafE isLoose
  exact this
theorem part_le {l : List LeafP} (hap : Apart l) (root : Hash) (h : Int) (n i j : Nat) (hi : i < (lev l root h n).length) : ((((lev l root h n).take i).flatMap (next1 l (h + n))) ++ ((kidsIds l (lev l root h n)[i]).take j).filter (good l (h + n))).length ≤ l.length + 1 := by
  refine Nat.le_trans (List.Sublist.length_le ?_) (lev_len hap root h (n + 1))
  rw [lev]
  conv => rhs; rw [← List.take_append_drop i (lev l root h n), List.drop_eq_getElem_cons hi, List.flatMap_append, List.flatMap_cons]
  refine List.Sublist.append (List.Sublist.refl _) ?_
  refine List.Sublist.trans ?_ (List.sublist_append_left _ _)
  exact (List.take_sublist _ _).filter _
set_option maxHeartbeats 8000000 in
set_option maxRecDepth 100000 in
theorem best_calls (g gl gK : Nat) (xs : List (Hash × KV × Nat)) (root : Hash) (h : Int) (l : List LeafP) (w : World) (ht : ∀ r ∈ treeL g gl gK xs root h l, r.holds w) (hk : KidsOf xs l) (hap : Apart l) (h0 : 0 ≤ h) (h1 : h ≤ 2147483647) (hl : l.length ≤ 3000) :
    Calls Tryz.prog 14 #[.pointer (some ⟨g, 0, none⟩)] w fun e w' => St w w' No [] ∧ ∃ n m rest, lev l root h n = m :: rest ∧ lev l root h (n + 1) = [] ∧ e = .returned (.tuple #[hval (hmins m rest), .int .i64 (h + n)]) := by
  have hst := St.start w No
  have hV : (Res.var g 50 [.map (some gl), .map (some gK), hval root, .int .i64 h]).holds w := ht _ (List.mem_of_getElem? (i := 0) rfl)
  have hL : (Res.map gl hval leafE (lents l) l.length).holds w := ht _ (List.mem_of_getElem? (i := 1) rfl)
  have hK : (Res.map gK hval kvE xs xs.length).holds w := ht _ (List.mem_of_getElem? (i := 2) rfl)
  go_enter Tryz.func14, Tryz.ntmps14
  go_wp2_with (first
    | (refine o_alloc (L := []) ty24 rfl (.list rfl) hst ?_; clear hst; intro w1 g2 hst; simp only [Act.put, List.setIfInBounds_toArray, List.set_cons_succ, List.set_cons_zero])
    | (refine o_call (vs := [.pointer (some ⟨g, 0, none⟩)]) Tryz.func28 rfl rfl rfl rfl rfl (.list rfl) (made_calls g gl gK root h _ (hst.old_holds hV)) (by simp) ?_; rintro e w2 ⟨rfl, h3⟩; replace hst := hst.call h3; clear h3; simp only [List.nil_append] at hst; simp only [Act.put, List.setIfInBounds_toArray, List.set_cons_succ, List.set_cons_zero]))
  refine wp_region_sched (.q 0 (.q 1 (.q 2 (.q 3 (.q 4 (.q 5 (.q 6 (.q 7 (.s 8 (.q 9 .nil)))))))))) (fun w1 => St w w1 No []) (by kernel_rfl) (by kernel_rfl) (by kernel_rfl) (by decide) (fun d v c a w h => by cases d <;> exact h) ?_
  have hst := hst.drew
  have hst0 := hst.sub (L' := []) (by simp)
  refine q_move rfl rfl rfl rfl hst0 ?_; simp only [Act.put, List.setIfInBounds_toArray, List.set_cons_succ, List.set_cons_zero]
  refine q_nilCheck rfl rfl rfl rfl hst0 ?_; simp only [Act.put, List.setIfInBounds_toArray, List.set_cons_succ, List.set_cons_zero]
  refine q_field rfl rfl rfl rfl hst0 fa50_1 ?_; simp only [Act.put, List.setIfInBounds_toArray, List.set_cons_succ, List.set_cons_zero]
  refine q_load (v := hval root) rfl rfl rfl rfl hst0 (fits_hash _) (fun w1 h => var_field (h.old_holds hV) (k := 2) rfl rfl) ?_; simp only [Act.put, List.setIfInBounds_toArray, List.set_cons_succ, List.set_cons_zero]
  refine q_move rfl rfl rfl rfl hst0 ?_; simp only [Act.put, List.setIfInBounds_toArray, List.set_cons_succ, List.set_cons_zero]
  refine q_nilCheck rfl rfl rfl rfl hst0 ?_; simp only [Act.put, List.setIfInBounds_toArray, List.set_cons_succ, List.set_cons_zero]
  refine q_field rfl rfl rfl rfl hst0 fa50_2 ?_; simp only [Act.put, List.setIfInBounds_toArray, List.set_cons_succ, List.set_cons_zero]
  refine q_load (v := .int .i64 h) rfl rfl rfl rfl hst0 (fits_of ty3 rfl rfl) (fun w1 h => var_field (h.old_holds hV) (k := 3) rfl (by simp [szs])) ?_; simp only [Act.put, List.setIfInBounds_toArray, List.set_cons_succ, List.set_cons_zero]
  clear hst0
  refine o_store (i := 0) (k := 0) rfl rfl rfl rfl rfl (.sched rfl rfl) hst (fits_hash _) (ok1_hval _) ?_ ?_ ?_; (focus (simp [szs]; done)); (focus (simp [szs]; done)); clear hst; intro w1 hst; simp only [List.set_cons_succ, List.set_cons_zero] at hst; refine ⟨hst.sub (by simp), ?_⟩; simp only [Act.put, List.setIfInBounds_toArray, List.set_cons_succ, List.set_cons_zero]
  refine q_assign rfl rfl rfl rfl (hst.sub (by simp)) ?_; simp only [Act.put, List.setIfInBounds_toArray, List.set_cons_succ, List.set_cons_zero]
  refine sched_nil ?_
  try simp only [Act.put, List.setIfInBounds_toArray, List.set_cons_succ, List.set_cons_zero]
  go_wp2_with (first
    | (refine at_nil ?_ rfl; go_must (refine o_nilCheck rfl rfl (.list rfl) ?_; simp only [Act.put, List.setIfInBounds_toArray, List.set_cons_succ, List.set_cons_zero]))
    | (refine o_field rfl rfl (.list rfl) fa50_1 ?_; simp only [Act.put, List.setIfInBounds_toArray, List.set_cons_succ, List.set_cons_zero])
    | (refine o_load (v := hval root) rfl rfl (.list rfl) (fits_hash _) (var_field (hst.old_holds hV) (k := 2) rfl rfl) ?_; simp only [Act.put, List.setIfInBounds_toArray, List.set_cons_succ, List.set_cons_zero])
    | (refine o_buildSlice (vs := [hval root]) Tryz.underlying55 ty24 (size_hval hz) rfl (.list rfl) hst rfl rfl (by simp) (by simp) (by omega) ?_; clear hst; intro B w1 hst; simp only [Act.put, List.setIfInBounds_toArray, List.set_cons_succ, List.set_cons_zero]))
  go_loopg [3, 4] (l.length + 2) (fun kx s3 s4 wr => ∃ (n : Nat) (A : Option Addr) (c : Nat) (b : Hash) (hh : Int), s3 = .int .i64 hh ∧ s4 = .slice A (lev l root h n).length c ∧ l.length + 2 - n ≤ kx ∧
    (lev l root h n ≠ [] → hh = h + n) ∧ (lev l root h n = [] → ∃ k m rest, n = k + 1 ∧ lev l root h k = m :: rest ∧ hh = h + k ∧ b = hmins m rest) ∧
    St w wr No [Res.row A (lev l root h n).length c 24 32 (flat ((lev l root h n).map hval)), Res.var g2 24 [hval b]])
  case atStart => exact ⟨0, _, _, root, h, rfl, rfl, by omega, fun _ => by simp, fun e => by simp [lev] at e, hst⟩
  case round =>
    clear hst
    obtain ⟨n, A, c, b, hh, rfl, rfl, hkx, hne, hnil, hst⟩ := hrel
    by_cases hlv : lev l root h n = []
    · obtain ⟨k, m, rest, rfl, hk1, rfl, rfl⟩ := hnil hlv
      have hz0 : (lev l root h (k + 1)).length = 0 := by rw [hlv]; rfl
      have HL := Lib.hid hlv
      have HK := Lib.hid hk1
      clear hlv hk1 hne hnil
      rw [hz0] at hst ⊢
      go_wp2_with (first
        | (refine o_load (v := hval (hmins m rest)) rfl rfl (.list rfl) (fits_hash _) (hst.field_cells (i := 1) (k := 0) rfl rfl ?_) ?_; (focus (simp [szs]; done)); simp only [Act.put, List.setIfInBounds_toArray, List.set_cons_succ, List.set_cons_zero])
        | (refine o_store (i := 1) (k := 0) rfl rfl rfl rfl rfl (.list rfl) hst (fits_hash _) (ok1_hval _) ?_ ?_ ?_; (focus (simp [szs]; done)); (focus (simp [szs]; done)); clear hst; intro w1 hst; simp only [List.set_cons_succ, List.set_cons_zero] at hst; simp only [Act.put, List.setIfInBounds_toArray, List.set_cons_succ, List.set_cons_zero]))
      exact post_cell2 (i := 1) rfl rfl rfl rfl hst rfl (fits_hash _) (flat_single _) ⟨hst.sub (by simp), k, m, rest, HK.out, HL.out, rfl⟩
    · have hh1 := hne hlv
      subst hh1
      obtain ⟨m, rest, hmr⟩ : ∃ m rest, lev l root h n = m :: rest := by
        cases hq : lev l root h n with
        | nil => exact absurd hq hlv
        | cons m rest => exact ⟨m, rest, rfl⟩
      have hfew := lev_few root h hlv
      have hlen := lev_len hap root h n
      have hrl : (lev l root h n).length = rest.length + 1 := by rw [hmr]; rfl
      have hrow := hst.row_rd (i := 0) rfl
      rw [hmr] at hrow
      have HMR := Lib.hid hmr
      have HR := Lib.hid hrow
      clear hmr hne hnil hlv hrow
      obtain ⟨ln, hln⟩ : ∃ ln, ln = (lev l root h n).length := ⟨_, rfl⟩
      have hpos : (0 : Int) < ln := by omega
      rw [← hln] at hst ⊢
      have hmin : ∀ w1, RdS w1 A (flat ((m :: rest).map hval)) → Calls Tryz.prog 29 #[.slice A ln c, .func (.func 30) #[] #[]] w1 fun e w' => e = .returned (hval (hmins m rest)) ∧ St w1 w' No [] := by
        intro w1 hr1
        rw [hln, hrl]
        exact minFunc_calls A m rest c _ hr1 (by omega)
      go_wp2_with (first
        | (refine o_call (vs := [.slice A ln c, .func (.func 30) #[] #[]]) Tryz.func29 rfl rfl rfl rfl rfl (.list rfl) (hmin _ HR.out) (by simp) ?_; rintro e w2 ⟨rfl, h3⟩; replace hst := hst.call h3; clear h3; simp only [List.nil_append] at hst; simp only [Act.put, List.setIfInBounds_toArray, List.set_cons_succ, List.set_cons_zero])
        | (refine o_store (i := 1) (k := 0) rfl rfl rfl rfl rfl (.list rfl) hst (fits_hash _) (ok1_hval _) ?_ ?_ ?_; (focus (simp [szs]; done)); (focus (simp [szs]; done)); clear hst; intro w1 hst; simp only [List.set_cons_succ, List.set_cons_zero] at hst; simp only [Act.put, List.setIfInBounds_toArray, List.set_cons_succ, List.set_cons_zero]))
      have hst := hst.nilrow 24 32
      go_loopg [5, 35] ln (fun kx s5 s35 wr => ∃ (i : Nat) (A5 : Option Addr) (c5 : Nat), i ≤ ln ∧ s35 = .int .i64 i ∧ s5 = .slice A5 (((lev l root h n).take i).flatMap (next1 l (h + n))).length c5 ∧ ln - i ≤ kx ∧
        St w wr No [Res.row A5 (((lev l root h n).take i).flatMap (next1 l (h + n))).length c5 24 32 (flat ((((lev l root h n).take i).flatMap (next1 l (h + n))).map hval)), Res.row A ln c 24 32 (flat ((lev l root h n).map hval)), Res.var g2 24 [hval (hmins m rest)]])
      case atStart => exact ⟨0, none, 0, Nat.zero_le _, rfl, rfl, by omega, by simpa [flat_nil] using hst⟩
      case round =>
        clear hst
        obtain ⟨i, A5, c5, hi, rfl, rfl, hkx2, hst⟩ := hrel
        by_cases hil : i < ln
        · have hil2 : i < (lev l root h n).length := by omega
          have g1 := hashes_at (lev l root h n) i hil2
          have G1 := Lib.hid g1
          clear g1
          obtain ⟨id, hid⟩ : ∃ id, id = (lev l root h n)[i] := ⟨_, rfl⟩
          rw [← hid] at G1
          have HID := Lib.hid hid
          clear hid
          obtain ⟨AK, cK, hkid, hKr⟩ := tree_kids ht hk id
          have HKI := Lib.hid hkid
          clear hkid
          have hpre : (((lev l root h n).take i).flatMap (next1 l (h + n))).length ≤ l.length + 1 := by
            have := part_le hap root h n i 0 hil2
            simpa using this
          obtain ⟨pre, hpr⟩ : ∃ pre, pre = ((lev l root h n).take i).flatMap (next1 l (h + n)) := ⟨_, rfl⟩
          rw [← hpr] at hst hpre ⊢
          have HPRE := Lib.hid hpr
          clear hpr
          go_wp2_with (first
            | (refine o_elem Tryz.underlying55 ty24 rfl rfl rfl (.list rfl) (by omega) (by omega) (hst.row_rd (i := 1) rfl) (hashes_sz (lev l root h n)) (by omega) (by simpa using G1.out) ?_; intro p hp; simp only [Act.put, List.setIfInBounds_toArray, List.set_cons_succ, List.set_cons_zero])
            | (refine o_load (v := hval id) rfl rfl (.list rfl) (fits_hash _) hp ?_; simp only [Act.put, List.setIfInBounds_toArray, List.set_cons_succ, List.set_cons_zero])
            | (refine o_alloc (L := [_, _, _]) ty24 rfl (.list rfl) hst ?_; clear hst; intro w1 g7 hst; simp only [Act.put, List.setIfInBounds_toArray, List.set_cons_succ, List.set_cons_zero])
            | (refine o_store (i := 0) (k := 0) rfl rfl rfl rfl rfl (.list rfl) hst (fits_hash _) (ok1_hval _) ?_ ?_ ?_; (focus (simp [szs]; done)); (focus (simp [szs]; done)); clear hst; intro w1 hst; simp only [List.set_cons_succ, List.set_cons_zero] at hst; simp only [Act.put, List.setIfInBounds_toArray, List.set_cons_succ, List.set_cons_zero]))
          refine wp_region_sched (.q 0 (.q 1 (.q 2 (.q 3 (.q 4 (.q 5 (.q 6 (.q 7 (.q 8 .nil))))))))) (fun w1 => St w w1 No [Res.var g7 24 [hval id], Res.row A5 pre.length c5 24 32 (flat (pre.map hval)), Res.row A ln c 24 32 (flat ((lev l root h n).map hval)), Res.var g2 24 [hval (hmins m rest)]]) (by kernel_rfl) (by kernel_rfl) (by kernel_rfl) (by decide) (fun d v c a w h => by cases d <;> exact h) ?_
          have hst := hst.drew
          refine q_move rfl rfl rfl rfl hst ?_; simp only [Act.put, List.setIfInBounds_toArray, List.set_cons_succ, List.set_cons_zero]
          refine q_nilCheck rfl rfl rfl rfl hst ?_; simp only [Act.put, List.setIfInBounds_toArray, List.set_cons_succ, List.set_cons_zero]
          refine q_field rfl rfl rfl rfl hst fa50_0 ?_; simp only [Act.put, List.setIfInBounds_toArray, List.set_cons_succ, List.set_cons_zero]
          refine q_field rfl rfl rfl rfl hst fa48_1 ?_; simp only [Act.put, List.setIfInBounds_toArray, List.set_cons_succ, List.set_cons_zero]
          refine q_load (v := .map (some gK)) rfl rfl rfl rfl hst (fits_of ty46 rfl rfl) (fun w1 h => var_field (h.old_holds hV) (k := 1) rfl (by simp [szs])) ?_; simp only [Act.put, List.setIfInBounds_toArray, List.set_cons_succ, List.set_cons_zero]
          refine q_load (v := hval id) rfl rfl rfl rfl hst (fits_hash _) (fun w1 h => h.field_cells (i := 0) (k := 0) rfl rfl (by simp [szs])) ?_; simp only [Act.put, List.setIfInBounds_toArray, List.set_cons_succ, List.set_cons_zero]
          refine q_lookup (kenc := hval) (venc := kvE) ek24 Tryz.underlying46 ty55 rfl rfl rfl rfl rfl hst (fun w1 h => map_heap (h.old_holds hK)) ?_; simp only [Act.put, List.setIfInBounds_toArray, List.set_cons_succ, List.set_cons_zero]
          simp only [Bool.false_eq_true, if_false]
          rw [getD_kvE, HKI.out]
          simp only [kvE]
          iterate 2 (refine sched_q rfl rfl rfl hst (fun K hK => ?_); go_big_quiet_op; first | refine hK _ ?_ | refine ⟨_, fun _ _ => rfl, hK _ ?_⟩; clear hK K)
          refine sched_nil ?_
          try simp only [Act.put, List.setIfInBounds_toArray, List.set_cons_succ, List.set_cons_zero]
          obtain ⟨ks, hks⟩ : ∃ ks, ks = kidsIds l id := ⟨_, rfl⟩
          rw [← hks] at hKr ⊢
          have HKS := Lib.hid hks
          have hpl : ∀ j, (pre ++ (ks.take j).filter (good l (h + n))).length ≤ l.length + 1 := fun j => by
            have := part_le hap root h n i j hil2
            rw [← HPRE.out, ← HID.out, ← HKS.out] at this
            exact this
          clear hks
          obtain ⟨kn, hkn⟩ : ∃ kn, kn = ks.length := ⟨_, rfl⟩
          rw [← hkn]
          have hkb : kn ≤ 3000 := by
            rw [hkn, HKS.out, kidsIds, List.length_map]
            exact Nat.le_trans (List.length_filter_le _ _) hl
          go_wp2
          go_loopg [5, 47] kn (fun kx s5 s47 wr => ∃ (j : Nat) (A5 : Option Addr) (c5 : Nat), j ≤ kn ∧ s47 = .int .i64 j ∧ s5 = .slice A5 (pre ++ (ks.take j).filter (good l (h + n))).length c5 ∧ kn - j ≤ kx ∧
            St w wr No [Res.row A5 (pre ++ (ks.take j).filter (good l (h + n))).length c5 24 32 (flat ((pre ++ (ks.take j).filter (good l (h + n))).map hval)), Res.var g7 24 [hval id], Res.row A ln c 24 32 (flat ((lev l root h n).map hval)), Res.var g2 24 [hval (hmins m rest)]])
          case atStart => exact ⟨0, A5, c5, Nat.zero_le _, rfl, by simp, by omega, by simpa using hst.pick [1, 0, 2, 3] (by decide)⟩
          case round =>
            clear hst
            obtain ⟨j, A5, c5, hj, rfl, rfl, hkx3, hst⟩ := hrel
            by_cases hjl : j < kn
            · have hjl2 : j < ks.length := by omega
              have g1 := hashes_at ks j hjl2
              have G1 := Lib.hid g1
              clear g1
              have hstep : pre ++ (ks.take (j + 1)).filter (good l (h + n)) = (pre ++ (ks.take j).filter (good l (h + n))) ++ (if good l (h + n) ks[j] then [ks[j]] else []) := by
                rw [List.take_succ_eq_append_getElem hjl2, List.filter_append, List.append_assoc]
                congr 1
                simp only [List.filter_cons, List.filter_nil]
              have hb := hpl j
              obtain ⟨nx, hnx⟩ : ∃ nx, nx = pre ++ (ks.take j).filter (good l (h + n)) := ⟨_, rfl⟩
              rw [← hnx] at hst hb hstep ⊢
              have HNX := Lib.hid hnx
              have HS := Lib.hid hstep
              clear hnx hstep
              obtain ⟨kid, hkid⟩ : ∃ kid, kid = ks[j] := ⟨_, rfl⟩
              rw [← hkid] at G1 HS
              go_wp2_with (first
                | (refine o_elem Tryz.underlying55 ty24 rfl rfl rfl (.list rfl) (by omega) (by omega) (hst.old_rd hKr (fun _ _ hno => hno)) (hashes_sz ks) (by omega) (by simpa using G1.out) ?_; intro p hp; simp only [Act.put, List.setIfInBounds_toArray, List.set_cons_succ, List.set_cons_zero])
                | (refine o_load (v := hval kid) rfl rfl (.list rfl) (fits_hash _) hp ?_; simp only [Act.put, List.setIfInBounds_toArray, List.set_cons_succ, List.set_cons_zero])
                | (refine o_alloc (L := [_, _, _, _]) ty24 rfl (.list rfl) hst ?_; clear hst; intro w1 g9 hst; simp only [Act.put, List.setIfInBounds_toArray, List.set_cons_succ, List.set_cons_zero])
                | (refine o_store (i := 0) (k := 0) rfl rfl rfl rfl rfl (.list rfl) hst (fits_hash _) (ok1_hval _) ?_ ?_ ?_; (focus (simp [szs]; done)); (focus (simp [szs]; done)); clear hst; intro w1 hst; simp only [List.set_cons_succ, List.set_cons_zero] at hst; simp only [Act.put, List.setIfInBounds_toArray, List.set_cons_succ, List.set_cons_zero]))
              refine wp_region_sched (.q 0 (.q 1 (.q 2 (.q 3 (.q 4 (.q 5 (.q 6 (.s 7 (.s 8 .nil))))))))) (fun w1 => St w w1 No [Res.var g9 24 [hval kid], Res.row A5 nx.length c5 24 32 (flat (nx.map hval)), Res.var g7 24 [hval id], Res.row A ln c 24 32 (flat ((lev l root h n).map hval)), Res.var g2 24 [hval (hmins m rest)]]) (by kernel_rfl) (by kernel_rfl) (by kernel_rfl) (by decide) (fun d v c a w h => by cases d <;> exact h) ?_
              have hst := hst.drew
              refine q_move rfl rfl rfl rfl hst ?_; simp only [Act.put, List.setIfInBounds_toArray, List.set_cons_succ, List.set_cons_zero]
              refine q_nilCheck rfl rfl rfl rfl hst ?_; simp only [Act.put, List.setIfInBounds_toArray, List.set_cons_succ, List.set_cons_zero]
              refine q_field rfl rfl rfl rfl hst fa50_0 ?_; simp only [Act.put, List.setIfInBounds_toArray, List.set_cons_succ, List.set_cons_zero]
              refine q_field rfl rfl rfl rfl hst fa48_0 ?_; simp only [Act.put, List.setIfInBounds_toArray, List.set_cons_succ, List.set_cons_zero]
              refine q_load (v := .map (some gl)) rfl rfl rfl rfl hst (fits_of ty45 rfl rfl) (fun w1 h => var_field (h.old_holds hV) (k := 0) rfl (by simp [szs])) ?_; simp only [Act.put, List.setIfInBounds_toArray, List.set_cons_succ, List.set_cons_zero]
              refine q_load (v := hval kid) rfl rfl rfl rfl hst (fits_hash _) (fun w1 h => h.field_cells (i := 0) (k := 0) rfl rfl (by simp [szs])) ?_; simp only [Act.put, List.setIfInBounds_toArray, List.set_cons_succ, List.set_cons_zero]
              refine q_lookup (kenc := hval) (venc := leafE) ek24 Tryz.underlying45 ty27 rfl rfl rfl rfl rfl hst (fun w1 h => map_heap (h.old_holds hL)) ?_; simp only [Act.put, List.setIfInBounds_toArray, List.set_cons_succ, List.set_cons_zero]
              simp only [Bool.false_eq_true, if_false]
              rw [getD_leafE, mlook_lents]
              obtain ⟨x, hx⟩ : ∃ x, x = (l.find? fun x => x.id = kid).getD leaf0 := ⟨_, rfl⟩
              rw [← hx]
              have hgx : good l (h + n) kid = (!isLoose x && (x.height == h + n + 1)) := by
                rw [hx]; rfl
              clear hx
              refine o_alloc ty27 rfl (.sched rfl rfl) hst ?_; clear hst; intro w1 g10 hst; refine ⟨hst.drop 0, ?_⟩; simp only [Act.put, List.setIfInBounds_toArray, List.set_cons_succ, List.set_cons_zero]
              refine o_store (i := 0) (k := 0) rfl rfl rfl rfl rfl (.sched rfl rfl) hst (fits_leaf x) (ok1_leafE _) ?_ ?_ ?_; (focus (simp [szs]; done)); (focus (simp [szs]; done)); clear hst; intro w1 hst; simp only [List.set_cons_succ, List.set_cons_zero] at hst; refine ⟨hst.drop 0, ?_⟩; simp only [Act.put, List.setIfInBounds_toArray, List.set_cons_succ, List.set_cons_zero]
              refine sched_nil ?_
              try simp only [Act.put, List.setIfInBounds_toArray, List.set_cons_succ, List.set_cons_zero]
              rw [var_leafE] at hst
              have hwr : IntKind.i64.wrap (h + n + 1) = h + n + 1 := by rw [IntKind.wrap_i64]; omega
              cases hlo : isLoose x
              · by_cases hhx : x.height = h + n + 1
                · have hg : good l (h + n) kid = true := by rw [hgx, hlo, hhx]; simp
                  have HG := Lib.hid hg
                  clear hgx hg
                  rw [HG.out] at HS
                  simp only [if_true] at HS
                  go_wp2_with (first
                    | (refine o_load (v := leafE x) rfl rfl (.list rfl) (fits_leaf _) (by rw [cells_leafE]; exact hst.var_cells (i := 0) rfl) ?_; simp only [Act.put, List.setIfInBounds_toArray, List.set_cons_succ, List.set_cons_zero])
                    | (refine o_call (vs := [leafE x]) Tryz.func31 rfl rfl rfl rfl rfl (.list rfl) (looseE_calls x _) (by simp) ?_; rintro e w2 ⟨rfl, h3⟩; replace hst := hst.call h3; clear h3; simp only [List.nil_append] at hst; rw [hlo]; simp only [Act.put, List.setIfInBounds_toArray, List.set_cons_succ, List.set_cons_zero])
                    | (refine o_field rfl rfl (.list rfl) fa27_2 ?_; simp only [Act.put, List.setIfInBounds_toArray, List.set_cons_succ, List.set_cons_zero])
                    | (refine o_load (v := .int .i64 x.height) rfl rfl (.list rfl) (fits_of ty3 rfl rfl) (hst.field_cells (i := 0) (k := 2) rfl rfl ?_) ?_; (focus (simp [szs]; done)); simp only [Act.put, List.setIfInBounds_toArray, List.set_cons_succ, List.set_cons_zero])
                    | (refine o_load (v := hval kid) rfl rfl (.list rfl) (fits_hash _) (hst.field_cells (i := 1) (k := 0) rfl rfl ?_) ?_; (focus (simp [szs]; done)); simp only [Act.put, List.setIfInBounds_toArray, List.set_cons_succ, List.set_cons_zero])
                    | (refine o_buildSlice (vs := [hval kid]) Tryz.underlying55 ty24 (size_hval hz) rfl (.list rfl) hst rfl rfl (by simp) (by simp) (by omega) ?_; clear hst; intro B w1 hst; simp only [Act.put, List.setIfInBounds_toArray, List.set_cons_succ, List.set_cons_zero])
                    | (at_builtin; go_must (refine o_append (i := 3) Tryz.underlying55 ty24 (by omega) (size_hval hz) rfl rfl rfl (.list rfl) hst rfl (hst.src_row (i := 0) rfl (ok1_flat (by simp [ok1_hval]))) ?_ ?_ ?_; (focus (show (nx.length + 1) * 32 ≤ 140737488355328; omega)); (focus (show nx.length + 1 ≤ 140737488355328; omega)); clear hst; intro B2 c2 w1 hst; simp only [List.set_cons_succ, List.set_cons_zero] at hst; simp only [Act.put, List.setIfInBounds_toArray, List.set_cons_succ, List.set_cons_zero])))
                  go_roundg (kn - (j + 1))
                  case measure => omega
                  case rel =>
                    refine ⟨j + 1, B2, c2, by omega, by go_num, by rw [HS.out]; simp, Nat.le_refl _, ?_⟩
                    have h9 := hst.pick [3, 4, 5, 6] (by decide)
                    rw [HS.out, List.map_append, flat_append, List.length_append]
                    exact h9
                · have hg : good l (h + n) kid = false := by rw [hgx, hlo]; simpa using hhx
                  have HG := Lib.hid hg
                  clear hgx hg
                  rw [HG.out] at HS
                  simp only [Bool.false_eq_true, if_false, List.append_nil] at HS
                  go_wp2_with (first
                    | (refine o_load (v := leafE x) rfl rfl (.list rfl) (fits_leaf _) (by rw [cells_leafE]; exact hst.var_cells (i := 0) rfl) ?_; simp only [Act.put, List.setIfInBounds_toArray, List.set_cons_succ, List.set_cons_zero])
                    | (refine o_call (vs := [leafE x]) Tryz.func31 rfl rfl rfl rfl rfl (.list rfl) (looseE_calls x _) (by simp) ?_; rintro e w2 ⟨rfl, h3⟩; replace hst := hst.call h3; clear h3; simp only [List.nil_append] at hst; rw [hlo]; simp only [Act.put, List.setIfInBounds_toArray, List.set_cons_succ, List.set_cons_zero])
                    | (refine o_field rfl rfl (.list rfl) fa27_2 ?_; simp only [Act.put, List.setIfInBounds_toArray, List.set_cons_succ, List.set_cons_zero])
                    | (refine o_load (v := .int .i64 x.height) rfl rfl (.list rfl) (fits_of ty3 rfl rfl) (hst.field_cells (i := 0) (k := 2) rfl rfl ?_) ?_; (focus (simp [szs]; done)); simp only [Act.put, List.setIfInBounds_toArray, List.set_cons_succ, List.set_cons_zero]))
                  go_roundg (kn - (j + 1))
                  case measure => omega
                  case rel => exact ⟨j + 1, A5, c5, by omega, by go_num, by rw [HS.out], Nat.le_refl _, by rw [HS.out]; exact hst.pick [2, 3, 4, 5] (by decide)⟩
              · have hg : good l (h + n) kid = false := by rw [hgx, hlo]; rfl
                have HG := Lib.hid hg
                clear hgx hg
                rw [HG.out] at HS
                simp only [Bool.false_eq_true, if_false, List.append_nil] at HS
                go_wp2_with (first
                    | (refine o_load (v := leafE x) rfl rfl (.list rfl) (fits_leaf _) (by rw [cells_leafE]; exact hst.var_cells (i := 0) rfl) ?_; simp only [Act.put, List.setIfInBounds_toArray, List.set_cons_succ, List.set_cons_zero])
                    | (refine o_call (vs := [leafE x]) Tryz.func31 rfl rfl rfl rfl rfl (.list rfl) (looseE_calls x _) (by simp) ?_; rintro e w2 ⟨rfl, h3⟩; replace hst := hst.call h3; clear h3; simp only [List.nil_append] at hst; rw [hlo]; simp only [Act.put, List.setIfInBounds_toArray, List.set_cons_succ, List.set_cons_zero]))
                go_roundg (kn - (j + 1))
                case measure => omega
                case rel => exact ⟨j + 1, A5, c5, by omega, by go_num, by rw [HS.out], Nat.le_refl _, by rw [HS.out]; exact hst.pick [2, 3, 4, 5] (by decide)⟩
            · have hje : j = kn := by omega
              subst hje
              have hfin : ((lev l root h n).take (i + 1)).flatMap (next1 l (h + n)) = pre ++ (ks.take j).filter (good l (h + n)) := by
                rw [List.take_succ_eq_append_getElem hil2, List.flatMap_append, ← HPRE.out, ← HID.out, hkn, List.take_length]
                simp only [List.flatMap_cons, List.flatMap_nil, List.append_nil, next1, ← HKS.out]
              have HF := Lib.hid hfin
              clear hfin
              go_wp2
              go_roundg (ln - (i + 1))
              case measure => omega
              case rel => exact ⟨i + 1, A5, c5, by omega, by go_num, by rw [HF.out], Nat.le_refl _, by rw [HF.out]; exact hst.pick [0, 2, 3] (by decide)⟩
        · have hie : i = ln := by omega
          have hfin : ((lev l root h n).take i).flatMap (next1 l (h + n)) = lev l root h (n + 1) := by
            rw [hie, hln, List.take_length, lev]
          rw [hfin] at hst ⊢
          have HF := Lib.hid hfin
          clear hfin
          by_cases hlz : lev l root h (n + 1) = []
          · have hz0 : (lev l root h (n + 1)).length = 0 := by rw [hlz]; rfl
            rw [hz0] at hst ⊢
            have HLZ := Lib.hid hlz
            clear hlz
            go_wp2
            go_roundg (l.length + 2 - (n + 1))
            case measure => omega
            case rel => exact ⟨n + 1, A5, c5, hmins m rest, h + n, rfl, by rw [hz0], Nat.le_refl _, fun hh => absurd HLZ.out hh, fun _ => ⟨n, m, rest, rfl, HMR.out, rfl, rfl⟩, by rw [hz0]; exact hst.pick [0, 2] (by decide)⟩
          · have hnz : (0 : Int) < (lev l root h (n + 1)).length := by
              have := List.length_pos_iff.2 hlz
              omega
            have hwr : IntKind.i64.wrap (h + n + 1) = h + n + 1 := by rw [IntKind.wrap_i64]; omega
            have HLZ := Lib.hid hlz
            clear hlz
            obtain ⟨q, hq⟩ : ∃ q, q = (lev l root h (n + 1)).length := ⟨_, rfl⟩
            rw [← hq] at hst hnz ⊢
            go_wp2
            go_roundg (l.length + 2 - (n + 1))
            case measure => omega
            case rel => exact ⟨n + 1, A5, c5, hmins m rest, h + n + 1, rfl, by rw [← hq], Nat.le_refl _, fun _ => by omega, fun hh => absurd hh HLZ.out, by rw [← hq]; exact hst.pick [0, 2] (by decide)⟩
end Go.Proofs.YtehhnfpfefccaaaGreat
set_option linter.unusedVariables false
set_option linter.unusedSimpArgs false
namespace Go.Proofs.YtehhnfpfefccaaaGreat
open Go Go.RowKit HL BigFrame
structure RevAt (d dk : List Hash) (i : Nat) : Prop where
  len : dk.length = d.length
  at' : ∀ p, p < d.length → dk[p]? = if p < i ∨ d.length - 1 - p < i then d[d.length - 1 - p]? else d[p]?
theorem RevAt.start (d : List Hash) : RevAt d d 0 := ⟨rfl, fun p hp => by simp⟩
theorem RevAt.done {d dk : List Hash} {i : Nat} (h : RevAt d dk i) (hi : d.length ≤ 2 * i + 1) : dk = d.reverse := by
  apply List.ext_getElem?
  intro p
  by_cases hp : p < d.length
  · rw [h.at' p hp, List.getElem?_reverse hp]
    split
    · rfl
    · rename_i hn
      have : d.length - 1 - p = p := by omega
      rw [this]
  · rw [List.getElem?_eq_none (by have := h.len; omega), List.getElem?_eq_none (by simp; omega)]
theorem RevAt.step {d dk : List Hash} {i : Nat} (h : RevAt d dk i) (hi : 2 * i + 1 < d.length) {x y : Hash} (hx : dk[i]? = some x) (hy : dk[d.length - 1 - i]? = some y) : RevAt d ((dk.set i y).set (d.length - 1 - i) x) (i + 1) := by
  refine ⟨by simp [h.len], fun p hp => ?_⟩
  have hl := h.len
  have e1 := h.at' i (by omega)
  rw [hx, if_neg (by omega)] at e1
  have e2 := h.at' (d.length - 1 - i) (by omega)
  rw [hy, if_neg (by omega)] at e2
  by_cases h1 : p = d.length - 1 - i
  · subst h1
    rw [List.getElem?_set_self (by simp; omega), if_pos (by omega), show d.length - 1 - (d.length - 1 - i) = i by omega]
    exact e1
  · rw [List.getElem?_set_ne (by omega)]
    by_cases h2 : p = i
    · subst h2
      rw [List.getElem?_set_self (by omega), if_pos (by omega)]
      exact e2
    · rw [List.getElem?_set_ne (by omega), h.at' p hp]
      by_cases h3 : p < i ∨ d.length - 1 - p < i
      · rw [if_pos h3, if_pos (by omega)]
      · rw [if_neg h3, if_neg (by omega)]
set_option maxHeartbeats 4000000 in
set_option maxRecDepth 100000 in
theorem reverse_calls (A : Option Addr) (d : List Hash) (c : Nat) (w : World) (hr : (Res.row A d.length c 24 32 (flat (d.map hval))).holds w) (hd : d.length ≤ 1048576) :
    Calls Tryz.prog 35 #[.slice A d.length c] w fun e w' => e = .returned (.tuple #[]) ∧ St w w' (fun b => obl A = some b) [Res.row A d.length c 24 32 (flat (d.reverse.map hval))] := by
  have hst : St w w (fun b => obl A = some b) [Res.row A d.length c 24 32 (flat (d.map hval))] := (St.start1 hr).more fun b hb => fp_row.1 hb
  clear hr
  go_enter Tryz.func35, Tryz.ntmps35
  go_wp2
  go_loopg [2, 3] d.length (fun kx s2 s3 wr => ∃ (i : Nat) (dk : List Hash), s2 = .int .i64 i ∧ s3 = .int .i64 ((d.length : Int) - 1 - i) ∧ 2 * i ≤ d.length + 1 ∧ d.length - i ≤ kx ∧ RevAt d dk i ∧ St w wr (fun b => obl A = some b) [Res.row A d.length c 24 32 (flat (dk.map hval))])
  case atStart => exact ⟨0, d, rfl, by go_num, by omega, by omega, RevAt.start d, hst⟩
  case round =>
    clear hst
    obtain ⟨i, dk, rfl, rfl, hi2, hkx, hrv, hst⟩ := hrel
    by_cases hlt : 2 * i + 1 < d.length
    · have hc : (i : Int) < (d.length : Int) - 1 - i := by omega
      have hl := hrv.len
      obtain ⟨x, hx⟩ : ∃ x, dk[i]? = some x := ⟨_, List.getElem?_eq_getElem (by omega)⟩
      obtain ⟨y, hy⟩ : ∃ y, dk[d.length - 1 - i]? = some y := ⟨_, List.getElem?_eq_getElem (by omega)⟩
      have hrv2 := hrv.step hlt hx hy
      have HX := Lib.hid hx
      have HY := Lib.hid hy
      have HRV := Lib.hid hrv2
      clear hrv hrv2 hx hy
      go_wp2
      refine wp_region_sched (.q 0 (.q 1 (.q 2 (.q 3 (.q 4 (.q 5 (.q 6 (.q 8 (.q 9 (.q 10 (.s2 7 (.s 11 (.q 12 (.s 13 (.q 14 (.s 15 .nil))))) 11 (.s 7 (.q 12 (.s 13 (.q 14 (.s 15 .nil)))))))))))))))) (fun w1 => True) (by kernel_rfl) (by kernel_rfl) (by kernel_rfl) (by decide) (fun d v c a w h => by cases d <;> exact h) ?_
      have hst := hst.drew
      obtain ⟨ad, hAd⟩ := row_some (hst.get (i := 0) rfl) (by omega)
      iterate 6 (refine q_move rfl rfl rfl rfl trivial ?_; simp only [Act.put, List.setIfInBounds_toArray, List.set_cons_succ, List.set_cons_zero])
      refine q_elemP Tryz.underlying55 ty24 rfl rfl rfl rfl rfl trivial (by omega) (by omega) ⟨ad, hAd⟩ (fun p1 hp1 => ?_); simp only [Act.put, List.setIfInBounds_toArray, List.set_cons_succ, List.set_cons_zero]
      iterate 2 (refine q_move rfl rfl rfl rfl trivial ?_; simp only [Act.put, List.setIfInBounds_toArray, List.set_cons_succ, List.set_cons_zero])
      refine q_elemP Tryz.underlying55 ty24 rfl rfl rfl rfl rfl trivial (by omega) (by omega) ⟨ad, hAd⟩ (fun p2 hp2 => ?_); simp only [Act.put, List.setIfInBounds_toArray, List.set_cons_succ, List.set_cons_zero]
      have hrd := hst.row_rd (i := 0) rfl
      have hy := HY.out
      have hx := HX.out
      have hpy := hp1.cells hrd (hashes_sz dk) (by omega) (v := hval y) (by simp [show ((d.length : Int) - 1 - i).toNat = d.length - 1 - i by omega, hy])
      have hpx := hp2.cells hrd (hashes_sz dk) (by omega) (v := hval x) (by simp [hx])
      refine sched_two ?_ ?_
      all_goals first | (refine o_load (v := hval y) rfl rfl (.sched rfl rfl) (fits_hash _) hpy ?_; refine ⟨trivial, ?_⟩; simp only [Act.put, List.setIfInBounds_toArray, List.set_cons_succ, List.set_cons_zero]; refine o_load (v := hval x) rfl rfl (.sched rfl rfl) (fits_hash _) hpx ?_; refine ⟨trivial, ?_⟩; simp only [Act.put, List.setIfInBounds_toArray, List.set_cons_succ, List.set_cons_zero]) | (refine o_load (v := hval x) rfl rfl (.sched rfl rfl) (fits_hash _) hpx ?_; refine ⟨trivial, ?_⟩; simp only [Act.put, List.setIfInBounds_toArray, List.set_cons_succ, List.set_cons_zero]; refine o_load (v := hval y) rfl rfl (.sched rfl rfl) (fits_hash _) hpy ?_; refine ⟨trivial, ?_⟩; simp only [Act.put, List.setIfInBounds_toArray, List.set_cons_succ, List.set_cons_zero])
      all_goals
        refine q_elemP Tryz.underlying55 ty24 rfl rfl rfl rfl rfl trivial (by omega) (by omega) ⟨ad, hAd⟩ (fun p3 hp3 => ?_); simp only [Act.put, List.setIfInBounds_toArray, List.set_cons_succ, List.set_cons_zero]
        refine o_storeE (i := 0) rfl hp3 (u := hval x) (by simp [hx]) rfl rfl rfl (.sched rfl rfl) hst (fits_hash _) (ok1_hval _) (hashes_sz dk) (size_hval _) ?_
        intro w2 hst2
        refine ⟨trivial, ?_⟩
        simp only [List.set_cons_zero, Int.toNat_natCast, ← List.map_set] at hst2
        try simp only [Act.put, List.setIfInBounds_toArray, List.set_cons_succ, List.set_cons_zero]
        refine q_elemP Tryz.underlying55 ty24 rfl rfl rfl rfl rfl trivial (by omega) (by omega) ⟨ad, hAd⟩ (fun p4 hp4 => ?_); simp only [Act.put, List.setIfInBounds_toArray, List.set_cons_succ, List.set_cons_zero]
        have hy2 : (dk.set i y)[d.length - 1 - i]? = some y := by rw [List.getElem?_set_ne (by omega)]; exact hy
        refine o_storeE (i := 0) rfl hp4 (u := hval y) (by rw [show ((d.length : Int) - 1 - i).toNat = d.length - 1 - i by omega, List.getElem?_map, hy2]; rfl) rfl rfl rfl (.sched rfl rfl) hst2 (fits_hash _) (ok1_hval _) (hashes_sz _) (size_hval _) ?_
        intro w3 hst3
        refine ⟨trivial, ?_⟩
        simp only [List.set_cons_zero, show ((d.length : Int) - 1 - i).toNat = d.length - 1 - i by omega, ← List.map_set] at hst3
        try simp only [Act.put, List.setIfInBounds_toArray, List.set_cons_succ, List.set_cons_zero]
        refine sched_nil ?_
        clear hst hst2 hy hx hy2 hrd hpy hpx
        go_wp2
        go_roundg (d.length - (i + 1))
        case measure => omega
        case rel => exact ⟨i + 1, _, by go_num, by go_num, by omega, Nat.le_refl _, HRV.out, hst3⟩
    · have hc : ¬ (i : Int) < (d.length : Int) - 1 - i := by omega
      have he := hrv.done (by omega)
      rw [he] at hst
      go_wp2
      refine ⟨by simp, .tuple #[], by simp [results, Tryz.results35, Sem.run_pure], rfl, by rw [← List.map_reverse]; exact hst⟩
end Go.Proofs.YtehhnfpfefccaaaGreat
set_option linter.unusedVariables false
set_option linter.unusedSimpArgs false
namespace Go.Proofs.YtehhnfpfefccaaaGreat
open Go Go.RowKit HL BigFrame
def okStep (l : List LeafP) (h above : Int) (k : Hash) : Bool :=
  (l.any fun x => x.id = k) && !isLoose (leafOf l k) && decide (h < (leafOf l k).height) && (decide (above < 0) || ((leafOf l k).height == above - 1))
def upF (l : List LeafP) (root : Hash) (h : Int) : Nat → Int → Hash → Option (List Hash)
  | 0, _, _ => none
  | f + 1, above, k => if k = root then (if above < 0 ∨ above = h + 1 then some [] else none)
    else if okStep l h above k then (upF l root h f (leafOf l k).height (leafOf l k).parent).map (k :: ·) else none
def wayOf (l : List LeafP) (root : Hash) (h : Int) (k : Hash) : Option (List Hash) := (upF l root h (l.length + 1) (-1) k).map List.reverse
structure Passed (l : List LeafP) (acc : List Hash) (above : Int) : Prop where
  mem : ∀ k ∈ acc, leafOf l k ∈ l ∧ (leafOf l k).id = k ∧ 0 ≤ above ∧ above ≤ (leafOf l k).height
  nd : acc.Nodup
theorem Passed.len {l : List LeafP} {acc : List Hash} {above : Int} (h : Passed l acc above) : acc.length ≤ l.length := by
  have := nodup_le acc (l.map (·.id)) h.nd (fun k hk => List.mem_map.2 ⟨_, (h.mem k hk).1, (h.mem k hk).2.1⟩)
  rwa [List.length_map] at this
theorem Passed.step {l : List LeafP} {acc : List Hash} {h above : Int} {k : Hash} (hp : Passed l acc above) (h0 : 0 ≤ h) (hs : okStep l h above k = true) (hab : above < 0 → acc = []) : Passed l (acc ++ [k]) (leafOf l k).height := by
  simp only [okStep, Bool.and_eq_true, Bool.or_eq_true, decide_eq_true_eq, beq_iff_eq, List.any_eq_true] at hs
  obtain ⟨⟨⟨⟨x, hx, he⟩, hlo⟩, hh⟩, hab2⟩ := hs
  have hl := leafOf_mem (l := l) (k := k) ⟨x, hx, by simpa using he⟩
  have hlt : ∀ q ∈ acc, (leafOf l k).height < (leafOf l q).height ∧ (leafOf l k).height ≤ (leafOf l q).height := fun q hq => by
    have hm := hp.mem q hq
    rcases hab2 with h1 | h1
    · rw [hab h1] at hq; cases hq
    · omega
  refine ⟨fun q hq => ?_, ?_⟩
  · rcases List.mem_append.1 hq with hq | hq
    · have hm := hp.mem q hq
      exact ⟨hm.1, hm.2.1, by omega, (hlt q hq).2⟩
    · simp at hq
      subst hq
      exact ⟨hl.1, hl.2, by omega, Int.le_refl _⟩
  · rw [List.nodup_append]
    refine ⟨hp.nd, by simp, ?_⟩
    intro a ha b hb e
    simp at hb
    subst hb
    subst e
    have := (hlt a ha).1
    omega
theorem leafOf_high {l : List LeafP} (hh : ∀ x ∈ l, x.height ≤ 9223372036854775807) (k : Hash) : (leafOf l k).height ≤ 9223372036854775807 := by
  unfold leafOf
  cases hf : l.find? fun x => x.id = k with
  | none => simp [leaf0]
  | some x => exact hh x (List.mem_of_find?_eq_some hf)
set_option maxHeartbeats 8000000 in
set_option maxRecDepth 100000 in
theorem way_calls (g gl gK : Nat) (xs : List (Hash × KV × Nat)) (root : Hash) (h : Int) (l : List LeafP) (dest : Hash) (w : World) (ht : ∀ r ∈ treeL g gl gK xs root h l, r.holds w) (hh : ∀ x ∈ l, x.height ≤ 9223372036854775807) (h0 : 0 ≤ h) (h1 : h ≤ 2147483647) (hl : l.length ≤ 3000) :
    Calls Tryz.prog 34 #[.pointer (some ⟨g, 0, none⟩), hval dest] w fun e w' => (wayOf l root h dest = none ∧ e = .panicked fell ∧ St w w' No []) ∨ ∃ ids A c, wayOf l root h dest = some ids ∧ ids.length ≤ l.length ∧ e = .returned (.slice A ids.length c) ∧ St w w' No [Res.row A ids.length c 24 32 (flat (ids.map hval))] := by
  have hst := St.start w No
  have hV : (Res.var g 50 [.map (some gl), .map (some gK), hval root, .int .i64 h]).holds w := ht _ (List.mem_of_getElem? (i := 0) rfl)
  have hL : (Res.map gl hval leafE (lents l) l.length).holds w := ht _ (List.mem_of_getElem? (i := 1) rfl)
  go_enter Tryz.func34, Tryz.ntmps34
  go_wp2_with (first
    | (refine o_box (v := hval dest) rfl rfl (.list rfl) hst ?_; clear hst; intro w1 g3 hst; simp only [Act.put, List.setIfInBounds_toArray, List.set_cons_succ, List.set_cons_zero])
    | (refine o_call (vs := [.pointer (some ⟨g, 0, none⟩)]) Tryz.func28 rfl rfl rfl rfl rfl (.list rfl) (made_calls g gl gK root h _ (hst.old_holds hV)) (by simp) ?_; rintro e w2 ⟨rfl, h3⟩; replace hst := hst.call h3; clear h3; simp only [List.nil_append] at hst; simp only [Act.put, List.setIfInBounds_toArray, List.set_cons_succ, List.set_cons_zero])
    | (refine o_call (vs := [.bool true]) Tryz.func47 rfl rfl rfl rfl rfl (.list rfl) (must_calls true _) (by simp) ?_; rintro e w2 ⟨h2, h3⟩; replace hst := hst.call h3; clear h3; simp only [List.nil_append] at hst; rcases h2 with ⟨_, rfl⟩ | ⟨h2, _⟩; rotate_left; (focus (cases h2; done)); simp only [Act.put, List.setIfInBounds_toArray, List.set_cons_succ, List.set_cons_zero]))
  replace hst := hst.nilrow 24 32
  go_loopg [4, 5] (l.length + 1) (fun kx s4 s5 wr => ∃ (acc : List Hash) (A : Option Addr) (c : Nat) (above : Int) (k : Hash) (f : Nat), s4 = .slice A acc.length c ∧ s5 = .int .i64 above ∧ f + acc.length = l.length + 1 ∧ f ≤ kx ∧
    upF l root h (l.length + 1) (-1) dest = (upF l root h f above k).map (acc ++ ·) ∧ Passed l acc above ∧ (above < 0 → acc = []) ∧ -1 ≤ above ∧ above ≤ 9223372036854775807 ∧ St w wr No [Res.row A acc.length c 24 32 (flat (acc.map hval)), Res.var g3 24 [hval k]])
  case atStart => exact ⟨[], none, 0, -1, dest, l.length + 1, rfl, rfl, rfl, Nat.le_refl _, by simp, ⟨by simp, by simp⟩, fun _ => rfl, by omega, by omega, by simpa [flat_nil] using hst⟩
  case round =>
    clear hst
    obtain ⟨acc, A, c, above, k, f, rfl, rfl, hf, hkx, hup, hp, hab, hlo, hhi, hst⟩ := hrel
    have hal := hp.len
    obtain ⟨f, rfl⟩ : ∃ m, f = m + 1 := ⟨f - 1, by omega⟩
    have HUP := Lib.hid hup
    clear hup
    go_wp2
    refine wp_region_sched (.q 0 (.q 1 (.q 2 (.q 3 (.q 4 (.q 5 .nil)))))) (fun w1 => St w w1 No [Res.row A acc.length c 24 32 (flat (acc.map hval)), Res.var g3 24 [hval k]]) (by kernel_rfl) (by kernel_rfl) (by kernel_rfl) (by decide) (fun d v c a w h => by cases d <;> exact h) ?_
    have hst := hst.drew
    refine q_load (v := hval k) rfl rfl rfl rfl hst (fits_hash _) (fun w1 h => h.field_cells (i := 1) (k := 0) rfl rfl (by simp [szs])) ?_; simp only [Act.put, List.setIfInBounds_toArray, List.set_cons_succ, List.set_cons_zero]
    refine q_move rfl rfl rfl rfl hst ?_; simp only [Act.put, List.setIfInBounds_toArray, List.set_cons_succ, List.set_cons_zero]
    refine q_nilCheck rfl rfl rfl rfl hst ?_; simp only [Act.put, List.setIfInBounds_toArray, List.set_cons_succ, List.set_cons_zero]
    refine q_field rfl rfl rfl rfl hst fa50_1 ?_; simp only [Act.put, List.setIfInBounds_toArray, List.set_cons_succ, List.set_cons_zero]
    refine q_load (v := hval root) rfl rfl rfl rfl hst (fits_hash _) (fun w1 h => var_field (h.old_holds hV) (k := 2) rfl rfl) ?_; simp only [Act.put, List.setIfInBounds_toArray, List.set_cons_succ, List.set_cons_zero]
    refine q_ne ek24.eq (by omega) isAgg_hval eg24 rfl rfl rfl rfl rfl hst ?_
    refine sched_nil ?_
    try simp only [Act.put, List.setIfInBounds_toArray, List.set_cons_succ, List.set_cons_zero]
    by_cases hkr : k = root
    · have hd : (!decide (k = root)) = false := by simp [hkr]
      simp only [hd]
      clear hd
      subst hkr
      have hupF : upF l k h (f + 1) above k = if above < 0 ∨ above = h + 1 then some [] else none := by rw [upF, if_pos rfl]
      by_cases ha0 : above < 0
      · obtain rfl := hab ha0
        have hw : wayOf l k h dest = some [] := by rw [wayOf, HUP.out, hupF, if_pos (.inl ha0)]; simp
        have HW := Lib.hid hw
        clear hw hupF
        go_wp2_with (first
            | (refine o_call (vs := [.bool true]) Tryz.func47 rfl rfl rfl rfl rfl (.list rfl) (must_calls true _) (by simp) ?_; rintro e w2 ⟨h2, h3⟩; replace hst := hst.call h3; clear h3; simp only [List.nil_append] at hst; rcases h2 with ⟨_, rfl⟩ | ⟨h2, _⟩; rotate_left; (focus (cases h2; done)); simp only [Act.put, List.setIfInBounds_toArray, List.set_cons_succ, List.set_cons_zero])
            | (refine o_call (vs := [.slice A 0 c]) Tryz.func35 rfl rfl rfl rfl rfl (.list rfl) (reverse_calls A [] c _ (hst.get (i := 0) rfl) (by omega)) (by simp) ?_; rintro e w2 ⟨rfl, h3⟩; replace hst := hst.call0 h3 (fun b hb => fp_row.2 hb); clear h3; simp only [List.cons_append, List.nil_append] at hst; simp only [Act.put, List.setIfInBounds_toArray, List.set_cons_succ, List.set_cons_zero]))
        go_ret
        exact .inr ⟨[], HW.out, by simp, A, c, by simp, by simpa using hst.pick [0] (by decide)⟩
      · by_cases hah : above = h + 1
        · subst hah
          have hw : wayOf l k h dest = some acc.reverse := by rw [wayOf, HUP.out, hupF, if_pos (.inr rfl)]; simp
          have HW := Lib.hid hw
          have hwr : IntKind.i64.wrap (h + 1) = h + 1 := by rw [IntKind.wrap_i64]; omega
          clear hw hupF
          go_wp2_with (first
            | (refine at_nil ?_ rfl; refine o_nilCheck rfl rfl (.list rfl) ?_; simp only [Act.put, List.setIfInBounds_toArray, List.set_cons_succ, List.set_cons_zero])
            | (refine o_field rfl rfl (.list rfl) fa50_2 ?_; simp only [Act.put, List.setIfInBounds_toArray, List.set_cons_succ, List.set_cons_zero])
            | (refine o_load (v := .int .i64 h) rfl rfl (.list rfl) (fits_of ty3 rfl rfl) (var_field (hst.old_holds hV) (k := 3) rfl (by simp [szs])) ?_; simp only [Act.put, List.setIfInBounds_toArray, List.set_cons_succ, List.set_cons_zero])
            | (refine o_call (vs := [.bool true]) Tryz.func47 rfl rfl rfl rfl rfl (.list rfl) (must_calls true _) (by simp) ?_; rintro e w2 ⟨h2, h3⟩; replace hst := hst.call h3; clear h3; simp only [List.nil_append] at hst; rcases h2 with ⟨_, rfl⟩ | ⟨h2, _⟩; rotate_left; (focus (cases h2; done)); simp only [Act.put, List.setIfInBounds_toArray, List.set_cons_succ, List.set_cons_zero])
            | (refine o_call (vs := [.slice A acc.length c]) Tryz.func35 rfl rfl rfl rfl rfl (.list rfl) (reverse_calls A acc c _ (hst.get (i := 0) rfl) (by omega)) (by simp) ?_; rintro e w2 ⟨rfl, h3⟩; replace hst := hst.call0 h3 (fun b hb => fp_row.2 hb); clear h3; simp only [List.cons_append, List.nil_append] at hst; simp only [Act.put, List.setIfInBounds_toArray, List.set_cons_succ, List.set_cons_zero]))
          go_ret
          exact .inr ⟨acc.reverse, HW.out, by simpa using hal, A, c, by simp, by simpa using hst.pick [0] (by decide)⟩
        · have hw : wayOf l k h dest = none := by rw [wayOf, HUP.out, hupF, if_neg (by omega)]; simp
          have HW := Lib.hid hw
          have hwr : IntKind.i64.wrap (h + 1) = h + 1 := by rw [IntKind.wrap_i64]; omega
          clear hw hupF
          go_wp2_with (first
            | (refine at_nil ?_ rfl; refine o_nilCheck rfl rfl (.list rfl) ?_; simp only [Act.put, List.setIfInBounds_toArray, List.set_cons_succ, List.set_cons_zero])
            | (refine o_field rfl rfl (.list rfl) fa50_2 ?_; simp only [Act.put, List.setIfInBounds_toArray, List.set_cons_succ, List.set_cons_zero])
            | (refine o_load (v := .int .i64 h) rfl rfl (.list rfl) (fits_of ty3 rfl rfl) (var_field (hst.old_holds hV) (k := 3) rfl (by simp [szs])) ?_; simp only [Act.put, List.setIfInBounds_toArray, List.set_cons_succ, List.set_cons_zero])
            | (refine o_call (vs := [.bool (above == h + 1)]) Tryz.func47 rfl rfl rfl rfl rfl (.list rfl) (must_calls (above == h + 1) _) (by simp) ?_; rintro e w2 ⟨h2, h3⟩; replace hst := hst.call h3; clear h3; simp only [List.nil_append] at hst; rcases h2 with ⟨h2, _⟩ | ⟨_, rfl⟩; (focus (simp [hah] at h2; done)); simp only [Act.put, List.setIfInBounds_toArray, List.set_cons_succ, List.set_cons_zero]))
          exact ⟨rfl, .inl ⟨HW.out, rfl, hst.sub (by simp)⟩⟩
    · have hd : (!decide (k = root)) = true := by simp [hkr]
      simp only [hd]
      clear hd
      go_wp2
      refine wp_region_sched (.q 0 (.q 1 (.q 2 (.q 3 (.q 4 (.q 5 (.q 6 (.q 7 (.q 8 (.q 9 (.s 10 (.s 11 (.q 12 .nil))))))))))))) (fun w1 => St w w1 No [Res.row A acc.length c 24 32 (flat (acc.map hval)), Res.var g3 24 [hval k]]) (by kernel_rfl) (by kernel_rfl) (by kernel_rfl) (by decide) (fun d v c a w h => by cases d <;> exact h) ?_
      have hst := hst.drew
      refine q_move rfl rfl rfl rfl hst ?_; simp only [Act.put, List.setIfInBounds_toArray, List.set_cons_succ, List.set_cons_zero]
      refine q_nilCheck rfl rfl rfl rfl hst ?_; simp only [Act.put, List.setIfInBounds_toArray, List.set_cons_succ, List.set_cons_zero]
      refine q_field rfl rfl rfl rfl hst fa50_0 ?_; simp only [Act.put, List.setIfInBounds_toArray, List.set_cons_succ, List.set_cons_zero]
      refine q_field rfl rfl rfl rfl hst fa48_0 ?_; simp only [Act.put, List.setIfInBounds_toArray, List.set_cons_succ, List.set_cons_zero]
      refine q_load (v := .map (some gl)) rfl rfl rfl rfl hst (fits_of ty45 rfl rfl) (fun w1 h => var_field (h.old_holds hV) (k := 0) rfl rfl) ?_; simp only [Act.put, List.setIfInBounds_toArray, List.set_cons_succ, List.set_cons_zero]
      refine q_load (v := hval k) rfl rfl rfl rfl hst (fits_hash _) (fun w1 h => h.field_cells (i := 1) (k := 0) rfl rfl (by simp [szs])) ?_; simp only [Act.put, List.setIfInBounds_toArray, List.set_cons_succ, List.set_cons_zero]
      refine q_lookup (kenc := hval) (venc := leafE) ek24 Tryz.underlying45 ty27 rfl rfl rfl rfl rfl hst (fun w1 h => map_heap (h.old_holds hL)) ?_; simp only [Act.put, List.setIfInBounds_toArray, List.set_cons_succ, List.set_cons_zero]
      simp only [if_true]
      rw [getD_leafE, mlook_lents, mhas_lents]
      refine q_move rfl rfl rfl rfl hst ?_; simp only [Act.put, List.setIfInBounds_toArray, List.set_cons_succ, List.set_cons_zero]
      refine q_extract rfl rfl rfl rfl rfl hst ?_; simp only [Act.put, List.setIfInBounds_toArray, List.set_cons_succ, List.set_cons_zero]
      refine q_extract rfl rfl rfl rfl rfl hst ?_; simp only [Act.put, List.setIfInBounds_toArray, List.set_cons_succ, List.set_cons_zero]
      have hxx : (l.find? fun x => x.id = k).getD leaf0 = leafOf l k := rfl
      rw [hxx]
      clear hxx
      have hsp : upF l root h (f + 1) above k = if okStep l h above k then (upF l root h f (leafOf l k).height (leafOf l k).parent).map (k :: ·) else none := by rw [upF, if_neg hkr]
      have hok : okStep l h above k = ((l.any fun x => x.id = k) && !isLoose (leafOf l k) && decide (h < (leafOf l k).height) && (decide (above < 0) || ((leafOf l k).height == above - 1))) := rfl
      have hxh := leafOf_high hh k
      have hstep := hp.step h0 (k := k) (above := above)
      obtain ⟨x, hx⟩ : ∃ x, x = leafOf l k := ⟨_, rfl⟩
      rw [← hx] at hsp hok hxh hstep ⊢
      refine o_alloc ty27 rfl (.sched rfl rfl) hst ?_; clear hst; intro w1 g6 hst; refine ⟨hst.drop 0, ?_⟩; simp only [Act.put, List.setIfInBounds_toArray, List.set_cons_succ, List.set_cons_zero]
      refine o_store (i := 0) (k := 0) rfl rfl rfl rfl rfl (.sched rfl rfl) hst (fits_leaf x) (ok1_leafE _) ?_ ?_ ?_; (focus (simp [szs]; done)); (focus (simp [szs]; done)); clear hst; intro w1 hst; simp only [List.set_cons_succ, List.set_cons_zero] at hst; refine ⟨hst.drop 0, ?_⟩; simp only [Act.put, List.setIfInBounds_toArray, List.set_cons_succ, List.set_cons_zero]
      refine q_assign rfl rfl rfl rfl (hst.drop 0) ?_; simp only [Act.put, List.setIfInBounds_toArray, List.set_cons_succ, List.set_cons_zero]
      refine sched_nil ?_
      try simp only [Act.put, List.setIfInBounds_toArray, List.set_cons_succ, List.set_cons_zero]
      rw [var_leafE] at hst
      clear hx
      have hfl : ∀ b, okStep l h above k = b → (b = false → wayOf l root h dest = none) := fun b hb hf0 => by
        subst hf0
        rw [wayOf, HUP.out, hsp, hb]
        simp
      cases hfo : (l.any fun x => decide (x.id = k)) with
      | false =>
        have hw := hfl false (by rw [hok, hfo]; rfl) rfl
        have HW := Lib.hid hw
        clear hw hfl hok hsp hstep
        go_wp2
        refine wp_region_sched (.q 0 (.q 1 (.q 2 (.s 3 (.q 4 (.q 5 (.q 6 (.q 7 (.q 8 (.q 9 (.q 10 (.q 11 (.q 12 (.q 13 (.q 14 (.q 15 (.q 16 (.q 17 (.q 18 (.q 19 (.q 20 (.q 21 (.q 22 (.q 23 (.q 24 (.q 25 (.s 26 .nil))))))))))))))))))))))))))) (fun w1 => St w w1 No [Res.var g6 27 [hval x.id, hval x.parent, .int .i64 x.height, .int .i64 x.mark], Res.row A acc.length c 24 32 (flat (acc.map hval)), Res.var g3 24 [hval k]]) (by kernel_rfl) (by kernel_rfl) (by kernel_rfl) (by decide) (fun d v c a w h => by cases d <;> exact h) ?_
        have hst := hst.drew
        repeat (first
          | (refine sched_skip rfl rfl hst ?_; try simp only [Act.put, List.setIfInBounds_toArray, List.set_cons_succ, List.set_cons_zero])
          | (refine sched_sskip rfl rfl hst ?_; try simp only [Act.put, List.setIfInBounds_toArray, List.set_cons_succ, List.set_cons_zero])
          | (refine sched_q rfl rfl rfl hst (fun K hK => ?_); go_big_quiet_op; first | refine hK _ ?_ | refine ⟨_, fun _ _ => rfl, hK _ ?_⟩; clear hK K)
          | (refine q_nilCheck rfl rfl rfl rfl hst ?_; simp only [Act.put, List.setIfInBounds_toArray, List.set_cons_succ, List.set_cons_zero])
          | (refine q_field rfl rfl rfl rfl hst fa27_2 ?_; simp only [Act.put, List.setIfInBounds_toArray, List.set_cons_succ, List.set_cons_zero])
          | (refine q_field rfl rfl rfl rfl hst fa50_2 ?_; simp only [Act.put, List.setIfInBounds_toArray, List.set_cons_succ, List.set_cons_zero])
          | (refine q_load (v := .int .i64 x.height) rfl rfl rfl rfl hst (fits_of ty3 rfl rfl) (fun w1 h => h.field_cells (i := 0) (k := 2) rfl rfl (by simp [szs])) ?_; simp only [Act.put, List.setIfInBounds_toArray, List.set_cons_succ, List.set_cons_zero])
          | (refine q_load (v := .int .i64 h) rfl rfl rfl rfl hst (fits_of ty3 rfl rfl) (fun w1 h => var_field (h.old_holds hV) (k := 3) rfl (by simp [szs])) ?_; simp only [Act.put, List.setIfInBounds_toArray, List.set_cons_succ, List.set_cons_zero])
          | (refine q_load (v := leafE x) rfl rfl rfl rfl hst (fits_leaf _) (fun w1 h => ?_) ?_; (focus (rw [cells_leafE]; exact h.var_cells (i := 0) rfl)); try simp only [Act.put, List.setIfInBounds_toArray, List.set_cons_succ, List.set_cons_zero])
          | (refine o_call (vs := [leafE x]) Tryz.func31 rfl rfl rfl rfl rfl (.sched rfl rfl) (looseE_calls x _) (by simp) ?_; rintro e w2 ⟨rfl, h3⟩; refine ⟨hst.call h3, ?_⟩; replace hst := hst.call h3; clear h3; simp only [List.nil_append] at hst; rw [hlo]; try simp only [Act.put, List.setIfInBounds_toArray, List.set_cons_succ, List.set_cons_zero]))
        refine o_call (vs := [.bool false]) Tryz.func47 rfl rfl rfl rfl rfl (.sched rfl rfl) (must_calls false _) (by simp) ?_
        rintro e w2 ⟨h2, h3⟩
        replace hst := hst.call h3
        rcases h2 with ⟨h2, _⟩ | ⟨_, rfl⟩
        · cases h2
        exact ⟨rfl, .inl ⟨HW.out, rfl, hst.sub (by simp)⟩⟩
      | true =>
        cases hlo : isLoose x with
        | true =>
          have hw := hfl false (by rw [hok, hfo, hlo]; rfl) rfl
          have HW := Lib.hid hw
          clear hw hfl hok hsp hstep
          go_wp2
          refine wp_region_sched (.q 0 (.q 1 (.q 2 (.s 3 (.q 4 (.q 5 (.q 6 (.q 7 (.q 8 (.q 9 (.q 10 (.q 11 (.q 12 (.q 13 (.q 14 (.q 15 (.q 16 (.q 17 (.q 18 (.q 19 (.q 20 (.q 21 (.q 22 (.q 23 (.q 24 (.q 25 (.s 26 .nil))))))))))))))))))))))))))) (fun w1 => St w w1 No [Res.var g6 27 [hval x.id, hval x.parent, .int .i64 x.height, .int .i64 x.mark], Res.row A acc.length c 24 32 (flat (acc.map hval)), Res.var g3 24 [hval k]]) (by kernel_rfl) (by kernel_rfl) (by kernel_rfl) (by decide) (fun d v c a w h => by cases d <;> exact h) ?_
          have hst := hst.drew
          repeat (first
            | (refine sched_skip rfl rfl hst ?_; try simp only [Act.put, List.setIfInBounds_toArray, List.set_cons_succ, List.set_cons_zero])
            | (refine sched_sskip rfl rfl hst ?_; try simp only [Act.put, List.setIfInBounds_toArray, List.set_cons_succ, List.set_cons_zero])
            | (refine sched_q rfl rfl rfl hst (fun K hK => ?_); go_big_quiet_op; first | refine hK _ ?_ | refine ⟨_, fun _ _ => rfl, hK _ ?_⟩; clear hK K)
            | (refine q_nilCheck rfl rfl rfl rfl hst ?_; simp only [Act.put, List.setIfInBounds_toArray, List.set_cons_succ, List.set_cons_zero])
            | (refine q_field rfl rfl rfl rfl hst fa27_2 ?_; simp only [Act.put, List.setIfInBounds_toArray, List.set_cons_succ, List.set_cons_zero])
            | (refine q_field rfl rfl rfl rfl hst fa50_2 ?_; simp only [Act.put, List.setIfInBounds_toArray, List.set_cons_succ, List.set_cons_zero])
            | (refine q_load (v := .int .i64 x.height) rfl rfl rfl rfl hst (fits_of ty3 rfl rfl) (fun w1 h => h.field_cells (i := 0) (k := 2) rfl rfl (by simp [szs])) ?_; simp only [Act.put, List.setIfInBounds_toArray, List.set_cons_succ, List.set_cons_zero])
            | (refine q_load (v := .int .i64 h) rfl rfl rfl rfl hst (fits_of ty3 rfl rfl) (fun w1 h => var_field (h.old_holds hV) (k := 3) rfl (by simp [szs])) ?_; simp only [Act.put, List.setIfInBounds_toArray, List.set_cons_succ, List.set_cons_zero])
            | (refine q_load (v := leafE x) rfl rfl rfl rfl hst (fits_leaf _) (fun w1 h => ?_) ?_; (focus (rw [cells_leafE]; exact h.var_cells (i := 0) rfl)); try simp only [Act.put, List.setIfInBounds_toArray, List.set_cons_succ, List.set_cons_zero])
            | (refine o_call (vs := [leafE x]) Tryz.func31 rfl rfl rfl rfl rfl (.sched rfl rfl) (looseE_calls x _) (by simp) ?_; rintro e w2 ⟨rfl, h3⟩; refine ⟨hst.call h3, ?_⟩; replace hst := hst.call h3; clear h3; simp only [List.nil_append] at hst; rw [hlo]; try simp only [Act.put, List.setIfInBounds_toArray, List.set_cons_succ, List.set_cons_zero]))
          refine o_call (vs := [.bool false]) Tryz.func47 rfl rfl rfl rfl rfl (.sched rfl rfl) (must_calls false _) (by simp) ?_
          rintro e w2 ⟨h2, h3⟩
          replace hst := hst.call h3
          rcases h2 with ⟨h2, _⟩ | ⟨_, rfl⟩
          · cases h2
          exact ⟨rfl, .inl ⟨HW.out, rfl, hst.sub (by simp)⟩⟩
        | false =>
          by_cases hgt : h < x.height
          rotate_left
          · have hd1 : decide (h < x.height) = false := decide_eq_false hgt
            have hw := hfl false (by rw [hok, hfo, hlo, hd1]; rfl) rfl
            have HW := Lib.hid hw
            clear hw hfl hok hsp hstep
            go_wp2
            refine wp_region_sched (.q 0 (.q 1 (.q 2 (.s 3 (.q 4 (.q 5 (.q 6 (.q 7 (.q 8 (.q 9 (.q 10 (.q 11 (.q 12 (.q 13 (.q 14 (.q 15 (.q 16 (.q 17 (.q 18 (.q 19 (.q 20 (.q 21 (.q 22 (.q 23 (.q 24 (.q 25 (.s 26 .nil))))))))))))))))))))))))))) (fun w1 => St w w1 No [Res.var g6 27 [hval x.id, hval x.parent, .int .i64 x.height, .int .i64 x.mark], Res.row A acc.length c 24 32 (flat (acc.map hval)), Res.var g3 24 [hval k]]) (by kernel_rfl) (by kernel_rfl) (by kernel_rfl) (by decide) (fun d v c a w h => by cases d <;> exact h) ?_
            have hst := hst.drew
            repeat (first
              | (simp only [hd1])
              | (refine sched_skip rfl rfl hst ?_; try simp only [Act.put, List.setIfInBounds_toArray, List.set_cons_succ, List.set_cons_zero])
              | (refine sched_sskip rfl rfl hst ?_; try simp only [Act.put, List.setIfInBounds_toArray, List.set_cons_succ, List.set_cons_zero])
              | (refine sched_q rfl rfl rfl hst (fun K hK => ?_); go_big_quiet_op; first | refine hK _ ?_ | refine ⟨_, fun _ _ => rfl, hK _ ?_⟩; clear hK K)
              | (refine q_nilCheck rfl rfl rfl rfl hst ?_; simp only [Act.put, List.setIfInBounds_toArray, List.set_cons_succ, List.set_cons_zero])
              | (refine q_field rfl rfl rfl rfl hst fa27_2 ?_; simp only [Act.put, List.setIfInBounds_toArray, List.set_cons_succ, List.set_cons_zero])
              | (refine q_field rfl rfl rfl rfl hst fa50_2 ?_; simp only [Act.put, List.setIfInBounds_toArray, List.set_cons_succ, List.set_cons_zero])
              | (refine q_load (v := .int .i64 x.height) rfl rfl rfl rfl hst (fits_of ty3 rfl rfl) (fun w1 h => h.field_cells (i := 0) (k := 2) rfl rfl (by simp [szs])) ?_; simp only [Act.put, List.setIfInBounds_toArray, List.set_cons_succ, List.set_cons_zero])
              | (refine q_load (v := .int .i64 h) rfl rfl rfl rfl hst (fits_of ty3 rfl rfl) (fun w1 h => var_field (h.old_holds hV) (k := 3) rfl (by simp [szs])) ?_; simp only [Act.put, List.setIfInBounds_toArray, List.set_cons_succ, List.set_cons_zero])
              | (refine q_load (v := leafE x) rfl rfl rfl rfl hst (fits_leaf _) (fun w1 h => ?_) ?_; (focus (rw [cells_leafE]; exact h.var_cells (i := 0) rfl)); try simp only [Act.put, List.setIfInBounds_toArray, List.set_cons_succ, List.set_cons_zero])
              | (refine o_call (vs := [leafE x]) Tryz.func31 rfl rfl rfl rfl rfl (.sched rfl rfl) (looseE_calls x _) (by simp) ?_; rintro e w2 ⟨rfl, h3⟩; refine ⟨hst.call h3, ?_⟩; replace hst := hst.call h3; clear h3; simp only [List.nil_append] at hst; rw [hlo]; try simp only [Act.put, List.setIfInBounds_toArray, List.set_cons_succ, List.set_cons_zero]))
            refine o_call (vs := [.bool false]) Tryz.func47 rfl rfl rfl rfl rfl (.sched rfl rfl) (must_calls false _) (by simp) ?_
            rintro e w2 ⟨h2, h3⟩
            replace hst := hst.call h3
            rcases h2 with ⟨h2, _⟩ | ⟨_, rfl⟩
            · cases h2
            exact ⟨rfl, .inl ⟨HW.out, rfl, hst.sub (by simp)⟩⟩
          have hd1 : decide (h < x.height) = true := decide_eq_true hgt
          by_cases ha0 : above < 0
          · have hd2 : decide (above < 0) = true := decide_eq_true ha0
            have hoks := hok
            rw [hfo, hlo, hd1, hd2] at hoks
            have hw : okStep l h above k = true := hoks
            rw [hw, if_pos rfl] at hsp
            have hnew := hstep hw hab
            have HSP := Lib.hid hsp
            have HNEW := Lib.hid hnew
            have HA0 := Lib.hid ha0
            clear ha0
            clear hw hfl hok hsp hstep hnew hoks
            go_wp2
            refine wp_region_sched (.q 0 (.q 1 (.q 2 (.s 3 (.q 4 (.q 5 (.q 6 (.q 7 (.q 8 (.q 9 (.q 10 (.q 11 (.q 12 (.q 13 (.q 14 (.q 15 (.q 16 (.q 17 (.q 18 (.q 19 (.q 20 (.q 21 (.q 22 (.q 23 (.q 24 (.q 25 (.s 26 .nil))))))))))))))))))))))))))) (fun w1 => St w w1 No [Res.var g6 27 [hval x.id, hval x.parent, .int .i64 x.height, .int .i64 x.mark], Res.row A acc.length c 24 32 (flat (acc.map hval)), Res.var g3 24 [hval k]]) (by kernel_rfl) (by kernel_rfl) (by kernel_rfl) (by decide) (fun d v c a w h => by cases d <;> exact h) ?_
            have hst := hst.drew
            repeat (first
              | (simp only [hd1, hd2])
              | (refine sched_skip rfl rfl hst ?_; try simp only [Act.put, List.setIfInBounds_toArray, List.set_cons_succ, List.set_cons_zero])
              | (refine sched_sskip rfl rfl hst ?_; try simp only [Act.put, List.setIfInBounds_toArray, List.set_cons_succ, List.set_cons_zero])
              | (refine sched_q rfl rfl rfl hst (fun K hK => ?_); go_big_quiet_op; first | refine hK _ ?_ | refine ⟨_, fun _ _ => rfl, hK _ ?_⟩; clear hK K)
              | (refine q_nilCheck rfl rfl rfl rfl hst ?_; simp only [Act.put, List.setIfInBounds_toArray, List.set_cons_succ, List.set_cons_zero])
              | (refine q_field rfl rfl rfl rfl hst fa27_2 ?_; simp only [Act.put, List.setIfInBounds_toArray, List.set_cons_succ, List.set_cons_zero])
              | (refine q_field rfl rfl rfl rfl hst fa50_2 ?_; simp only [Act.put, List.setIfInBounds_toArray, List.set_cons_succ, List.set_cons_zero])
              | (refine q_load (v := .int .i64 x.height) rfl rfl rfl rfl hst (fits_of ty3 rfl rfl) (fun w1 h => h.field_cells (i := 0) (k := 2) rfl rfl (by simp [szs])) ?_; simp only [Act.put, List.setIfInBounds_toArray, List.set_cons_succ, List.set_cons_zero])
              | (refine q_load (v := .int .i64 h) rfl rfl rfl rfl hst (fits_of ty3 rfl rfl) (fun w1 h => var_field (h.old_holds hV) (k := 3) rfl (by simp [szs])) ?_; simp only [Act.put, List.setIfInBounds_toArray, List.set_cons_succ, List.set_cons_zero])
              | (refine q_load (v := leafE x) rfl rfl rfl rfl hst (fits_leaf _) (fun w1 h => ?_) ?_; (focus (rw [cells_leafE]; exact h.var_cells (i := 0) rfl)); try simp only [Act.put, List.setIfInBounds_toArray, List.set_cons_succ, List.set_cons_zero])
              | (refine o_call (vs := [leafE x]) Tryz.func31 rfl rfl rfl rfl rfl (.sched rfl rfl) (looseE_calls x _) (by simp) ?_; rintro e w2 ⟨rfl, h3⟩; refine ⟨hst.call h3, ?_⟩; replace hst := hst.call h3; clear h3; simp only [List.nil_append] at hst; rw [hlo]; try simp only [Act.put, List.setIfInBounds_toArray, List.set_cons_succ, List.set_cons_zero]))
            refine o_call (vs := [.bool true]) Tryz.func47 rfl rfl rfl rfl rfl (.sched rfl rfl) (must_calls true _) (by simp) ?_
            rintro e w2 ⟨h2, h3⟩
            rcases h2 with ⟨_, rfl⟩ | ⟨h2, _⟩
            rotate_left
            · cases h2
            refine ⟨hst.call h3, ?_⟩
            replace hst := hst.call h3
            clear h3
            simp only [List.nil_append] at hst
            refine sched_nil ?_
            try simp only [Act.put, List.setIfInBounds_toArray, List.set_cons_succ, List.set_cons_zero]
            go_wp2_with (first
              | (refine o_load (v := hval k) rfl rfl (.list rfl) (fits_hash _) (hst.field_cells (i := 2) (k := 0) rfl rfl ?_) ?_; (focus (simp [szs]; done)); simp only [Act.put, List.setIfInBounds_toArray, List.set_cons_succ, List.set_cons_zero])
              | (refine o_buildSlice (vs := [hval k]) Tryz.underlying55 ty24 (size_hval hz) rfl (.list rfl) hst rfl rfl (by simp) (by simp) (by omega) ?_; clear hst; intro B w1 hst; simp only [Act.put, List.setIfInBounds_toArray, List.set_cons_succ, List.set_cons_zero])
              | (at_builtin; go_must (refine o_append (i := 2) Tryz.underlying55 ty24 (by omega) (size_hval hz) rfl rfl rfl (.list rfl) hst rfl (hst.src_row (i := 0) rfl (ok1_flat (by simp [ok1_hval]))) ?_ ?_ ?_; (focus (show (acc.length + 1) * 32 ≤ 140737488355328; omega)); (focus (show acc.length + 1 ≤ 140737488355328; omega)); clear hst; intro B2 c2 w1 hst; simp only [List.set_cons_succ, List.set_cons_zero] at hst; simp only [Act.put, List.setIfInBounds_toArray, List.set_cons_succ, List.set_cons_zero])))
            have h6 := hst.pick [1] (by decide)
            refine wp_region_sched (.q 0 (.q 1 (.q 2 (.q 3 (.q 4 (.s 5 .nil)))))) (fun w1 => St w w1 No [Res.var g6 27 [hval x.id, hval x.parent, .int .i64 x.height, .int .i64 x.mark]]) (by kernel_rfl) (by kernel_rfl) (by kernel_rfl) (by decide) (fun d v c a w h => by cases d <;> exact h) ?_
            have h6 := h6.drew
            have hst := hst.drew
            refine q_field rfl rfl rfl rfl h6 fa27_2 ?_
            try simp only [Act.put, List.setIfInBounds_toArray, List.set_cons_succ, List.set_cons_zero]
            refine q_load (v := .int .i64 x.height) rfl rfl rfl rfl h6 (fits_of ty3 rfl rfl) (fun w1 h => h.field_cells (i := 0) (k := 2) rfl rfl (by simp [szs])) ?_
            try simp only [Act.put, List.setIfInBounds_toArray, List.set_cons_succ, List.set_cons_zero]
            refine q_field rfl rfl rfl rfl h6 fa27_1 ?_
            try simp only [Act.put, List.setIfInBounds_toArray, List.set_cons_succ, List.set_cons_zero]
            refine q_load (v := hval x.parent) rfl rfl rfl rfl h6 (fits_hash _) (fun w1 h => h.field_cells (i := 0) (k := 1) rfl rfl (by simp [szs])) ?_
            try simp only [Act.put, List.setIfInBounds_toArray, List.set_cons_succ, List.set_cons_zero]
            refine q_assign rfl rfl rfl rfl h6 ?_
            try simp only [Act.put, List.setIfInBounds_toArray, List.set_cons_succ, List.set_cons_zero]
            refine o_store (i := 3) (k := 0) rfl rfl rfl rfl rfl (.sched rfl rfl) hst (fits_hash _) (ok1_hval _) ?_ ?_ ?_
            (focus (simp [szs]; done))
            (focus (simp [szs]; done))
            clear hst h6
            intro w1 hst
            simp only [List.set_cons_succ, List.set_cons_zero] at hst
            refine ⟨hst.pick [1] (by decide), ?_⟩
            refine sched_nil ?_
            try simp only [Act.put, List.setIfInBounds_toArray, List.set_cons_succ, List.set_cons_zero]
            go_wp2
            go_roundg f
            case measure => omega
            case rel => exact ⟨acc ++ [k], B2, c2, x.height, x.parent, f, by simp, rfl, by simp; omega, Nat.le_refl _, by rw [HUP.out, HSP.out, Option.map_map]; congr 1; funext r; simp, HNEW.out, fun hneg => by omega, by omega, hxh, by
              have h9 := hst.pick [2, 3] (by decide)
              rw [List.map_append, flat_append, List.length_append]
              exact h9⟩
          · have hd2 : decide (above < 0) = false := decide_eq_false ha0
            have hwr : IntKind.i64.wrap (above - 1) = above - 1 := by rw [IntKind.wrap_i64]; omega
            by_cases hx1 : x.height = above - 1
            · have hd3 : (x.height == above - 1) = true := by simp [hx1]
              have HX1 := Lib.hid hx1
              clear hx1
              have hoks := hok
              rw [hfo, hlo, hd1, hd2, hd3] at hoks
              have hw : okStep l h above k = true := hoks
              rw [hw, if_pos rfl] at hsp
              have hnew := hstep hw hab
              have HSP := Lib.hid hsp
              have HNEW := Lib.hid hnew
              clear hw hfl hok hsp hstep hnew hoks
              go_wp2
              refine wp_region_sched (.q 0 (.q 1 (.q 2 (.s 3 (.q 4 (.q 5 (.q 6 (.q 7 (.q 8 (.q 9 (.q 10 (.q 11 (.q 12 (.q 13 (.q 14 (.q 15 (.q 16 (.q 17 (.q 18 (.q 19 (.q 20 (.q 21 (.q 22 (.q 23 (.q 24 (.q 25 (.s 26 .nil))))))))))))))))))))))))))) (fun w1 => St w w1 No [Res.var g6 27 [hval x.id, hval x.parent, .int .i64 x.height, .int .i64 x.mark], Res.row A acc.length c 24 32 (flat (acc.map hval)), Res.var g3 24 [hval k]]) (by kernel_rfl) (by kernel_rfl) (by kernel_rfl) (by decide) (fun d v c a w h => by cases d <;> exact h) ?_
              have hst := hst.drew
              repeat (first
                | (simp only [hd1, hd2, hd3, hwr])
                | (refine sched_skip rfl rfl hst ?_; try simp only [Act.put, List.setIfInBounds_toArray, List.set_cons_succ, List.set_cons_zero])
                | (refine sched_sskip rfl rfl hst ?_; try simp only [Act.put, List.setIfInBounds_toArray, List.set_cons_succ, List.set_cons_zero])
                | (refine sched_q rfl rfl rfl hst (fun K hK => ?_); go_big_quiet_op; first | refine hK _ ?_ | refine ⟨_, fun _ _ => rfl, hK _ ?_⟩; clear hK K)
                | (refine q_nilCheck rfl rfl rfl rfl hst ?_; simp only [Act.put, List.setIfInBounds_toArray, List.set_cons_succ, List.set_cons_zero])
                | (refine q_field rfl rfl rfl rfl hst fa27_2 ?_; simp only [Act.put, List.setIfInBounds_toArray, List.set_cons_succ, List.set_cons_zero])
                | (refine q_field rfl rfl rfl rfl hst fa50_2 ?_; simp only [Act.put, List.setIfInBounds_toArray, List.set_cons_succ, List.set_cons_zero])
                | (refine q_load (v := .int .i64 x.height) rfl rfl rfl rfl hst (fits_of ty3 rfl rfl) (fun w1 h => h.field_cells (i := 0) (k := 2) rfl rfl (by simp [szs])) ?_; simp only [Act.put, List.setIfInBounds_toArray, List.set_cons_succ, List.set_cons_zero])
                | (refine q_load (v := .int .i64 h) rfl rfl rfl rfl hst (fits_of ty3 rfl rfl) (fun w1 h => var_field (h.old_holds hV) (k := 3) rfl (by simp [szs])) ?_; simp only [Act.put, List.setIfInBounds_toArray, List.set_cons_succ, List.set_cons_zero])
                | (refine q_load (v := leafE x) rfl rfl rfl rfl hst (fits_leaf _) (fun w1 h => ?_) ?_; (focus (rw [cells_leafE]; exact h.var_cells (i := 0) rfl)); try simp only [Act.put, List.setIfInBounds_toArray, List.set_cons_succ, List.set_cons_zero])
                | (refine o_call (vs := [leafE x]) Tryz.func31 rfl rfl rfl rfl rfl (.sched rfl rfl) (looseE_calls x _) (by simp) ?_; rintro e w2 ⟨rfl, h3⟩; refine ⟨hst.call h3, ?_⟩; replace hst := hst.call h3; clear h3; simp only [List.nil_append] at hst; rw [hlo]; try simp only [Act.put, List.setIfInBounds_toArray, List.set_cons_succ, List.set_cons_zero]))
              refine o_call (vs := [.bool true]) Tryz.func47 rfl rfl rfl rfl rfl (.sched rfl rfl) (must_calls true _) (by simp) ?_
              rintro e w2 ⟨h2, h3⟩
              rcases h2 with ⟨_, rfl⟩ | ⟨h2, _⟩
              rotate_left
              · cases h2
              refine ⟨hst.call h3, ?_⟩
              replace hst := hst.call h3
              clear h3
              simp only [List.nil_append] at hst
              refine sched_nil ?_
              try simp only [Act.put, List.setIfInBounds_toArray, List.set_cons_succ, List.set_cons_zero]
              go_wp2_with (first
                | (refine o_load (v := hval k) rfl rfl (.list rfl) (fits_hash _) (hst.field_cells (i := 2) (k := 0) rfl rfl ?_) ?_; (focus (simp [szs]; done)); simp only [Act.put, List.setIfInBounds_toArray, List.set_cons_succ, List.set_cons_zero])
                | (refine o_buildSlice (vs := [hval k]) Tryz.underlying55 ty24 (size_hval hz) rfl (.list rfl) hst rfl rfl (by simp) (by simp) (by omega) ?_; clear hst; intro B w1 hst; simp only [Act.put, List.setIfInBounds_toArray, List.set_cons_succ, List.set_cons_zero])
                | (at_builtin; go_must (refine o_append (i := 2) Tryz.underlying55 ty24 (by omega) (size_hval hz) rfl rfl rfl (.list rfl) hst rfl (hst.src_row (i := 0) rfl (ok1_flat (by simp [ok1_hval]))) ?_ ?_ ?_; (focus (show (acc.length + 1) * 32 ≤ 140737488355328; omega)); (focus (show acc.length + 1 ≤ 140737488355328; omega)); clear hst; intro B2 c2 w1 hst; simp only [List.set_cons_succ, List.set_cons_zero] at hst; simp only [Act.put, List.setIfInBounds_toArray, List.set_cons_succ, List.set_cons_zero])))
              have h6 := hst.pick [1] (by decide)
              refine wp_region_sched (.q 0 (.q 1 (.q 2 (.q 3 (.q 4 (.s 5 .nil)))))) (fun w1 => St w w1 No [Res.var g6 27 [hval x.id, hval x.parent, .int .i64 x.height, .int .i64 x.mark]]) (by kernel_rfl) (by kernel_rfl) (by kernel_rfl) (by decide) (fun d v c a w h => by cases d <;> exact h) ?_
              have h6 := h6.drew
              have hst := hst.drew
              refine q_field rfl rfl rfl rfl h6 fa27_2 ?_
              try simp only [Act.put, List.setIfInBounds_toArray, List.set_cons_succ, List.set_cons_zero]
              refine q_load (v := .int .i64 x.height) rfl rfl rfl rfl h6 (fits_of ty3 rfl rfl) (fun w1 h => h.field_cells (i := 0) (k := 2) rfl rfl (by simp [szs])) ?_
              try simp only [Act.put, List.setIfInBounds_toArray, List.set_cons_succ, List.set_cons_zero]
              refine q_field rfl rfl rfl rfl h6 fa27_1 ?_
              try simp only [Act.put, List.setIfInBounds_toArray, List.set_cons_succ, List.set_cons_zero]
              refine q_load (v := hval x.parent) rfl rfl rfl rfl h6 (fits_hash _) (fun w1 h => h.field_cells (i := 0) (k := 1) rfl rfl (by simp [szs])) ?_
              try simp only [Act.put, List.setIfInBounds_toArray, List.set_cons_succ, List.set_cons_zero]
              refine q_assign rfl rfl rfl rfl h6 ?_
              try simp only [Act.put, List.setIfInBounds_toArray, List.set_cons_succ, List.set_cons_zero]
              refine o_store (i := 3) (k := 0) rfl rfl rfl rfl rfl (.sched rfl rfl) hst (fits_hash _) (ok1_hval _) ?_ ?_ ?_
              (focus (simp [szs]; done))
              (focus (simp [szs]; done))
              clear hst h6
              intro w1 hst
              simp only [List.set_cons_succ, List.set_cons_zero] at hst
              refine ⟨hst.pick [1] (by decide), ?_⟩
              refine sched_nil ?_
              try simp only [Act.put, List.setIfInBounds_toArray, List.set_cons_succ, List.set_cons_zero]
              go_wp2
              go_roundg f
              case measure => omega
              case rel => exact ⟨acc ++ [k], B2, c2, x.height, x.parent, f, by simp, rfl, by simp; omega, Nat.le_refl _, by rw [HUP.out, HSP.out, Option.map_map]; congr 1; funext r; simp, HNEW.out, fun hneg => by omega, by omega, hxh, by
                have h9 := hst.pick [2, 3] (by decide)
                rw [List.map_append, flat_append, List.length_append]
                exact h9⟩
            · have hd3 : (x.height == above - 1) = false := by simp [hx1]
              have hw := hfl false (by rw [hok, hfo, hlo, hd1, hd2, hd3]; rfl) rfl
              have HW := Lib.hid hw
              clear hw hfl hok hsp hstep
              go_wp2
              refine wp_region_sched (.q 0 (.q 1 (.q 2 (.s 3 (.q 4 (.q 5 (.q 6 (.q 7 (.q 8 (.q 9 (.q 10 (.q 11 (.q 12 (.q 13 (.q 14 (.q 15 (.q 16 (.q 17 (.q 18 (.q 19 (.q 20 (.q 21 (.q 22 (.q 23 (.q 24 (.q 25 (.s 26 .nil))))))))))))))))))))))))))) (fun w1 => St w w1 No [Res.var g6 27 [hval x.id, hval x.parent, .int .i64 x.height, .int .i64 x.mark], Res.row A acc.length c 24 32 (flat (acc.map hval)), Res.var g3 24 [hval k]]) (by kernel_rfl) (by kernel_rfl) (by kernel_rfl) (by decide) (fun d v c a w h => by cases d <;> exact h) ?_
              have hst := hst.drew
              repeat (first
                | (simp only [hd1, hd2, hd3, hwr])
                | (refine sched_skip rfl rfl hst ?_; try simp only [Act.put, List.setIfInBounds_toArray, List.set_cons_succ, List.set_cons_zero])
                | (refine sched_sskip rfl rfl hst ?_; try simp only [Act.put, List.setIfInBounds_toArray, List.set_cons_succ, List.set_cons_zero])
                | (refine sched_q rfl rfl rfl hst (fun K hK => ?_); go_big_quiet_op; first | refine hK _ ?_ | refine ⟨_, fun _ _ => rfl, hK _ ?_⟩; clear hK K)
                | (refine q_nilCheck rfl rfl rfl rfl hst ?_; simp only [Act.put, List.setIfInBounds_toArray, List.set_cons_succ, List.set_cons_zero])
                | (refine q_field rfl rfl rfl rfl hst fa27_2 ?_; simp only [Act.put, List.setIfInBounds_toArray, List.set_cons_succ, List.set_cons_zero])
                | (refine q_field rfl rfl rfl rfl hst fa50_2 ?_; simp only [Act.put, List.setIfInBounds_toArray, List.set_cons_succ, List.set_cons_zero])
                | (refine q_load (v := .int .i64 x.height) rfl rfl rfl rfl hst (fits_of ty3 rfl rfl) (fun w1 h => h.field_cells (i := 0) (k := 2) rfl rfl (by simp [szs])) ?_; simp only [Act.put, List.setIfInBounds_toArray, List.set_cons_succ, List.set_cons_zero])
                | (refine q_load (v := .int .i64 h) rfl rfl rfl rfl hst (fits_of ty3 rfl rfl) (fun w1 h => var_field (h.old_holds hV) (k := 3) rfl (by simp [szs])) ?_; simp only [Act.put, List.setIfInBounds_toArray, List.set_cons_succ, List.set_cons_zero])
                | (refine q_load (v := leafE x) rfl rfl rfl rfl hst (fits_leaf _) (fun w1 h => ?_) ?_; (focus (rw [cells_leafE]; exact h.var_cells (i := 0) rfl)); try simp only [Act.put, List.setIfInBounds_toArray, List.set_cons_succ, List.set_cons_zero])
                | (refine o_call (vs := [leafE x]) Tryz.func31 rfl rfl rfl rfl rfl (.sched rfl rfl) (looseE_calls x _) (by simp) ?_; rintro e w2 ⟨rfl, h3⟩; refine ⟨hst.call h3, ?_⟩; replace hst := hst.call h3; clear h3; simp only [List.nil_append] at hst; rw [hlo]; try simp only [Act.put, List.setIfInBounds_toArray, List.set_cons_succ, List.set_cons_zero]))
              refine o_call (vs := [.bool false]) Tryz.func47 rfl rfl rfl rfl rfl (.sched rfl rfl) (must_calls false _) (by simp) ?_
              rintro e w2 ⟨h2, h3⟩
              replace hst := hst.call h3
              rcases h2 with ⟨h2, _⟩ | ⟨_, rfl⟩
              · cases h2
              exact ⟨rfl, .inl ⟨HW.out, rfl, hst.sub (by simp)⟩⟩
end Go.Proofs.YtehhnfpfefccaaaGreat
set_option linter.unusedVariables false
set_option linter.unusedSimpArgs false
namespace Go.Proofs.YtehhnfpfefccaaaGreat
open Go Go.RowKit HL BigFrame
theorem stood1_idle (g2 : Nat) (w : World) : CallsD Tryz.prog 46 #[.pointer (some ⟨g2, 0, none⟩)] .returning w fun e u' w' => e = .returned (.tuple #[]) ∧ u' = .returning ∧ w' = w := by
  refine callsD_of_wpS Tryz.func46 rfl fun c₀ cs hu => ?_
  apply wpS_seq
  apply wpS_region
  simp [wpOpsS, go_sem, recoverD, hu, Tryz.ntmps46, Exit.thenS]
  refine wpS_of_wp ?_
  simp only [Array.replicate_succ, Array.replicate_zero, List.push_toArray, List.append_toArray, List.nil_append, List.cons_append, List.setIfInBounds_toArray, List.set_cons_zero, List.set_cons_succ]
  go_wp2
  refine ⟨rfl, c₀.mode, by simp, .tuple #[], by simp [results, Tryz.results46, Sem.run_pure], rfl, hu, rfl⟩
set_option maxRecDepth 100000 in
set_option maxHeartbeats 1000000 in
theorem stood1_fell (g2 : Nat) (b : Bool) (w : World) (hv : (Res.var g2 4 [.bool b]).holds w) : CallsD Tryz.prog 46 #[.pointer (some ⟨g2, 0, none⟩)] (.panicking fell) w fun e u' w' => e = .returned (.tuple #[]) ∧ u' = .panicking [{ v := fallenV, recovered := true }] ∧ St w w' (fun b => b = g2) [Res.var g2 4 [.bool false]] := by
  refine callsD_of_wpS Tryz.func46 rfl fun c₀ cs hu => ?_
  have hst : St w w (fun b => b = g2) [Res.var g2 4 [.bool b]] := (St.start1 hv).more fun b hb => fp_var.1 hb
  clear hv
  have hta : ∀ w, (Instr.typeAssert fallenV 20 113 true).run Tryz.prog w = .ok (.tuple #[.agg #[], .bool true]) w := fun w => by
    simp [Instr.typeAssert, fallenV, go_sem]
  unfold fallenV at hta
  apply wpS_seq
  apply wpS_region
  simp [wpOpsS, go_sem, recoverD, hu, Tryz.ntmps46, Exit.thenS, fell, fallenV]
  refine wpS_of_wp ?_
  simp only [Array.replicate_succ, Array.replicate_zero, List.push_toArray, List.append_toArray, List.nil_append, List.cons_append, List.setIfInBounds_toArray, List.set_cons_zero, List.set_cons_succ]
  go_wp2_with (first
    | (refine o_alloc ty113 rfl (.list rfl) hst ?_; clear hst; intro w1 g1 hst; simp only [Act.put, List.setIfInBounds_toArray, List.set_cons_succ, List.set_cons_zero])
    | (refine o_store (i := 0) (k := 0) (v := mkS []) rfl rfl rfl rfl ?_ (.list rfl) hst (fits_of ty113 rfl (by simp [szs])) (Ok1.mkS (by simp)) ?_ ?_ ?_; (focus (rw [mkS_nil]; rfl; done)); (focus (simp [szs]; done)); (focus (simp [szs]; done)); clear hst; intro w1 hst; simp only [List.set_cons_succ, List.set_cons_zero] at hst; simp only [Act.put, List.setIfInBounds_toArray, List.set_cons_succ, List.set_cons_zero])
    | (refine o_store (i := 1) (k := 0) rfl rfl rfl rfl rfl (.list rfl) hst (fits_of ty4 rfl rfl) (ok1_bool _) ?_ ?_ ?_; (focus (simp [szs]; done)); (focus (simp [szs]; done)); clear hst; intro w1 hst; simp only [List.set_cons_succ, List.set_cons_zero] at hst; simp only [Act.put, List.setIfInBounds_toArray, List.set_cons_succ, List.set_cons_zero]))
  exact ⟨rfl, _, rfl, .tuple #[], by simp [results, Tryz.results46, Sem.run_pure], rfl, rfl, hst.drop 0⟩
theorem leavesNil {fn : Func} {tmps : Array Value} {R : Ending → World → Prop} {w w0 : World} {M : Nat → Prop} {L : List Res} {i g t : Nat} {v : Value} (hr : fn.results = #[.cell t 4]) (ht : tmps[t]? = some (.pointer (some ⟨g, 0, none⟩))) (hst : St w0 w M L) (hi : L[i]? = some (Res.var g 4 [v])) (hf : Fits Tryz.prog 4 v) (hR : R (.returned v) w) : Leaves Tryz.prog fn tmps R [] .returning w := by
  refine ⟨v, ?_, hR⟩
  have hc := hst.var_cells hi
  rw [flat_single] at hc
  simp [results, hr, ht, asAddr, run_loadVar hf hc]
set_option maxRecDepth 100000 in
set_option maxHeartbeats 1000000 in
theorem stood_calls (F : Nat) (fnF : Func) (hfF : Tryz.prog.funcs[F]? = some fnF) (hbF : fnF.body.isNone = false) (hnF : (fnF.name == "runtime.NumGoroutine") = false) (cap : Array Value) (Lc : List Res) (M M2 : Nat → Prop) (w : World) (hst : St w w M Lc) (hM : ∀ b, M2 b → ∃ r ∈ Lc, r.fp b) (Pc : Bool → List Res → Prop)
    (hc : ∀ w1 g2, St w w1 M (Res.var g2 4 [.bool false] :: Lc) → Calls Tryz.prog F cap w1 fun e w2 => ∃ b L, (b = true ∧ e = .returned (.tuple #[]) ∨ b = false ∧ e = .panicked fell) ∧ Pc b L ∧ St w1 w2 M2 L) :
    Calls Tryz.prog 32 #[.func (.func F) #[] cap] w fun e w' => ∃ b L, e = .returned (.bool b) ∧ Pc b L ∧ St w w' M L := by
  have hmf : ∀ (fn : Fn) (first cap : Array Value) (w : World), (Instr.makeFunc fn first cap).run Tryz.prog w = .ok (.func fn first cap) w := fun _ _ _ _ => rfl
  go_enter_defers Tryz.func32, Tryz.ntmps32
  go_wp2_with (first
    | (refine o_alloc ty4 rfl (.list rfl) hst ?_; clear hst; intro w1 g2 hst; simp only [Act.put, List.setIfInBounds_toArray, List.set_cons_succ, List.set_cons_zero])
    | (refine o_call (vs := []) hfF hbF hnF rfl rfl rfl (.list rfl) (hc _ _ hst) (by simp) ?_; rintro e w2 ⟨b, L, he, hP, h3⟩; replace hst := ((hst.perm (List.perm_append_singleton _ _).symm).callN h3 hM).perm (List.perm_append_singleton _ _); clear h3; rcases he with ⟨rfl, rfl⟩ | ⟨rfl, rfl⟩; simp only [Act.put, List.setIfInBounds_toArray, List.set_cons_succ, List.set_cons_zero])
    | (refine o_store (i := 0) (k := 0) rfl rfl rfl rfl rfl (.list rfl) hst (fits_of ty4 rfl rfl) (ok1_bool _) ?_ ?_ ?_; (focus (simp [szs]; done)); (focus (simp [szs]; done)); clear hst; intro w1 hst; simp only [List.set_cons_succ, List.set_cons_zero] at hst; simp only [Act.put, List.setIfInBounds_toArray, List.set_cons_succ, List.set_cons_zero]))
  · refine leaves_cons (f := 46) (args := #[.pointer (some ⟨g2, 0, none⟩)]) (by simp) (by simp [go_sem]) ?_
    refine (stood1_idle g2 _).mono ?_
    rintro e u' w'' ⟨rfl, rfl, rfl⟩
    exact leavesNil (i := 0) rfl rfl hst rfl (fits_of ty4 rfl rfl) ⟨true, L, rfl, hP, hst.drop 0⟩
  · refine leaves_cons (f := 46) (args := #[.pointer (some ⟨g2, 0, none⟩)]) (by simp) (by simp [go_sem]) ?_
    refine (stood1_fell g2 false _ (hst.get (i := 0) rfl)).mono ?_
    rintro e u' w'' ⟨rfl, rfl, h4⟩
    have hst := hst.call0 h4 (fun b hb => fp_var.2 hb)
    exact leavesNil (i := 0) rfl rfl hst rfl (fits_of ty4 rfl rfl) ⟨false, L, rfl, hP, hst.drop 0⟩
theorem stands1_calls (g gl gK : Nat) (xs : List (Hash × KV × Nat)) (root : Hash) (h : Int) (l : List LeafP) (dest : Hash) (gt gi : Nat) (w : World) (ht : ∀ r ∈ treeL g gl gK xs root h l, r.holds w) (hh : ∀ x ∈ l, x.height ≤ 9223372036854775807) (h0 : 0 ≤ h) (h1 : h ≤ 2147483647) (hl : l.length ≤ 3000)
    (h2 : (Res.var gt 34 [.pointer (some ⟨g, 0, none⟩)]).holds w) (h3 : (Res.var gi 24 [hval dest]).holds w) :
    Calls Tryz.prog 41 #[.pointer (some ⟨gt, 0, none⟩), .pointer (some ⟨gi, 0, none⟩)] w fun e w2 => ∃ b L, (b = true ∧ e = .returned (.tuple #[]) ∨ b = false ∧ e = .panicked fell) ∧ (b = (wayOf l root h dest).isSome ∧ L = []) ∧ St w w2 No L := by
  have hst := St.start w No
  go_enter Tryz.func41, Tryz.ntmps41
  go_wp2_with (first
    | (refine o_load (v := .pointer (some ⟨g, 0, none⟩)) rfl rfl (.list rfl) (fits_of ty34 rfl rfl) (var_field h2 (k := 0) rfl rfl) ?_; simp only [Act.put, List.setIfInBounds_toArray, List.set_cons_succ, List.set_cons_zero])
    | (refine o_load (v := hval dest) rfl rfl (.list rfl) (fits_hash _) (var_field h3 (k := 0) rfl rfl) ?_; simp only [Act.put, List.setIfInBounds_toArray, List.set_cons_succ, List.set_cons_zero])
    | (refine o_call (vs := [.pointer (some ⟨g, 0, none⟩), hval dest]) Tryz.func34 rfl rfl rfl rfl rfl (.list rfl) (way_calls g gl gK xs root h l dest _ ht hh h0 h1 hl) (by simp) ?_; rintro e w2 (⟨hw, rfl, h3⟩ | ⟨ids, A, c, hw, hil, rfl, h3⟩) <;> replace hst := hst.call h3 <;> clear h3))
  · exact ⟨rfl, false, [], .inr ⟨rfl, rfl⟩, ⟨by rw [hw]; rfl, rfl⟩, hst.sub (by simp)⟩
  · exact ⟨rfl, .tuple #[], by simp [results, Tryz.results41, Sem.run_pure], true, [], .inl ⟨rfl, rfl⟩, ⟨by rw [hw]; rfl, rfl⟩, hst.sub (by simp)⟩
theorem stands_calls (g gl gK : Nat) (xs : List (Hash × KV × Nat)) (root : Hash) (h : Int) (l : List LeafP) (dest : Hash) (w : World) (ht : ∀ r ∈ treeL g gl gK xs root h l, r.holds w) (hh : ∀ x ∈ l, x.height ≤ 9223372036854775807) (h0 : 0 ≤ h) (h1 : h ≤ 2147483647) (hl : l.length ≤ 3000) :
    Calls Tryz.prog 23 #[.pointer (some ⟨g, 0, none⟩), hval dest] w fun e w' => e = .returned (.bool (wayOf l root h dest).isSome) ∧ St w w' No [] := by
  have hst := St.start w No
  have hmf : ∀ (fn : Fn) (first cap : Array Value) (w : World), (Instr.makeFunc fn first cap).run Tryz.prog w = .ok (.func fn first cap) w := fun _ _ _ _ => rfl
  go_enter Tryz.func23, Tryz.ntmps23
  go_wp2_with (first
    | (refine o_box (v := .pointer (some ⟨g, 0, none⟩)) rfl rfl (.list rfl) hst ?_; clear hst; intro w1 gt hst; simp only [Act.put, List.setIfInBounds_toArray, List.set_cons_succ, List.set_cons_zero])
    | (refine o_box (v := hval dest) rfl rfl (.list rfl) hst ?_; clear hst; intro w1 gi hst; simp only [Act.put, List.setIfInBounds_toArray, List.set_cons_succ, List.set_cons_zero])
    | (refine o_call (vs := [.func (.func 41) #[] #[.pointer (some ⟨gt, 0, none⟩), .pointer (some ⟨gi, 0, none⟩)]]) Tryz.func32 rfl rfl rfl rfl rfl (.list rfl) (stood_calls 41 _ Tryz.func41 rfl rfl #[.pointer (some ⟨gt, 0, none⟩), .pointer (some ⟨gi, 0, none⟩)] [] No No _ (St.start _ _) (fun b hb => hb.elim) (fun b L => b = (wayOf l root h dest).isSome ∧ L = []) (fun w1 g2 h9 => stands1_calls g gl gK xs root h l dest gt gi w1 (fun r hr => h9.old_holds (hst.old_holds (ht r hr))) hh h0 h1 hl (h9.old_holds (hst.get (i := 1) rfl)) (h9.old_holds (hst.get (i := 0) rfl)))) (by simp) ?_; rintro e w2 ⟨b, L, rfl, ⟨rfl, rfl⟩, h3⟩; replace hst := hst.call h3; clear h3; simp only [List.nil_append] at hst; simp only [Act.put, List.setIfInBounds_toArray, List.set_cons_succ, List.set_cons_zero]))
  go_ret
  exact ⟨rfl, hst.sub (by simp)⟩
end Go.Proofs.YtehhnfpfefccaaaGreat
set_option linter.unusedVariables false
set_option linter.unusedSimpArgs false
namespace Go.Proofs.YtehhnfpfefccaaaGreat
open Go Go.RowKit HL BigFrame
abbrev nilS : Value := .slice none 0 0
abbrev sl (A : Option Addr) (l : List Hash) (c : Nat) : Value := .slice A l.length c
def rowH (A : Option Addr) (l : List Hash) (c : Nat) : Res := Res.row A l.length c 24 32 (flat (l.map hval))
theorem rowH_nil : rowH none [] 0 = Res.row none 0 0 24 32 [] := by
  unfold rowH
  simp [flat_nil]
def WayL (l : List LeafP) (root : Hash) (h : Int) (dest : Hash) (go : Nat) (b : Bool) (L : List Res) : Prop :=
  (∃ ids A c, wayOf l root h dest = some ids ∧ b = true ∧ ids.length ≤ l.length ∧ L = [rowH A ids c, Res.var go 55 [sl A ids c]]) ∨ (wayOf l root h dest = none ∧ b = false ∧ L = [Res.var go 55 [nilS]])
set_option maxRecDepth 100000 in
theorem way1_calls (g gl gK : Nat) (xs : List (Hash × KV × Nat)) (root : Hash) (h : Int) (l : List LeafP) (dest : Hash) (gt gi go : Nat) (w : World) (ht : ∀ r ∈ treeL g gl gK xs root h l, r.holds w) (hh : ∀ x ∈ l, x.height ≤ 9223372036854775807) (h0 : 0 ≤ h) (h1 : h ≤ 2147483647) (hl : l.length ≤ 3000)
    (h2 : (Res.var gt 34 [.pointer (some ⟨g, 0, none⟩)]).holds w) (h3 : (Res.var gi 24 [hval dest]).holds w) (h4 : (Res.var go 55 [nilS]).holds w) :
    Calls Tryz.prog 37 #[.pointer (some ⟨gt, 0, none⟩), .pointer (some ⟨gi, 0, none⟩), .pointer (some ⟨go, 0, none⟩)] w fun e w2 => ∃ b L, (b = true ∧ e = .returned (.tuple #[]) ∨ b = false ∧ e = .panicked fell) ∧ WayL l root h dest go b L ∧ St w w2 (fun b => b = go) L := by
  have hst : St w w (fun b => b = go) [Res.var go 55 [nilS]] := (St.start1 h4).more fun b hb => fp_var.1 hb
  go_enter Tryz.func37, Tryz.ntmps37
  go_wp2_with (first
    | (refine o_load (v := .pointer (some ⟨g, 0, none⟩)) rfl rfl (.list rfl) (fits_of ty34 rfl rfl) (var_field h2 (k := 0) rfl rfl) ?_; simp only [Act.put, List.setIfInBounds_toArray, List.set_cons_succ, List.set_cons_zero])
    | (refine o_load (v := hval dest) rfl rfl (.list rfl) (fits_hash _) (var_field h3 (k := 0) rfl rfl) ?_; simp only [Act.put, List.setIfInBounds_toArray, List.set_cons_succ, List.set_cons_zero])
    | (refine o_call (vs := [.pointer (some ⟨g, 0, none⟩), hval dest]) Tryz.func34 rfl rfl rfl rfl rfl (.list rfl) (way_calls g gl gK xs root h l dest _ ht hh h0 h1 hl) (by simp) ?_; rintro e w2 (⟨hw, rfl, h3⟩ | ⟨ids, A, c, hw, hil, rfl, h3⟩) <;> replace hst := hst.call h3 <;> clear h3 <;> simp only [List.cons_append, List.nil_append] at hst; simp only [Act.put, List.setIfInBounds_toArray, List.set_cons_succ, List.set_cons_zero])
    | (refine o_store (i := 1) (k := 0) rfl rfl rfl rfl rfl (.list rfl) hst (fits_of (v := .slice A ids.length c) ty55 rfl rfl) (ok1_slice _ _ _) ?_ ?_ ?_; (focus (simp [szs]; done)); (focus (simp [szs]; done)); clear hst; intro w1 hst; simp only [List.set_cons_succ, List.set_cons_zero] at hst; simp only [Act.put, List.setIfInBounds_toArray, List.set_cons_succ, List.set_cons_zero]))
  · exact ⟨rfl, false, [Res.var go 55 [nilS]], .inr ⟨rfl, rfl⟩, .inr ⟨hw, rfl, rfl⟩, hst⟩
  · exact ⟨rfl, .tuple #[], by simp [results, Tryz.results37, Sem.run_pure], true, _, .inl ⟨rfl, rfl⟩, .inl ⟨ids, A, c, hw, rfl, hil, rfl⟩, hst⟩
theorem fits_sl (v : Value) (hv : isAggV v = false) (h1 : v.cells.size = 1) : Fits Tryz.prog 55 v := fits_of ty55 hv h1
set_option maxRecDepth 100000 in
theorem way_fn_calls (g gl gK : Nat) (xs : List (Hash × KV × Nat)) (root : Hash) (h : Int) (l : List LeafP) (dest : Hash) (w : World) (ht : ∀ r ∈ treeL g gl gK xs root h l, r.holds w) (hh : ∀ x ∈ l, x.height ≤ 9223372036854775807) (h0 : 0 ≤ h) (h1 : h ≤ 2147483647) (hl : l.length ≤ 3000) :
    Calls Tryz.prog 18 #[.pointer (some ⟨g, 0, none⟩), hval dest] w fun e w' => ∃ A c, ((wayOf l root h dest).getD []).length ≤ l.length ∧ e = .returned (.tuple #[sl A ((wayOf l root h dest).getD []) c, .bool (wayOf l root h dest).isSome]) ∧ St w w' No [rowH A ((wayOf l root h dest).getD []) c] := by
  have hst := St.start w No
  have hmf : ∀ (fn : Fn) (first cap : Array Value) (w : World), (Instr.makeFunc fn first cap).run Tryz.prog w = .ok (.func fn first cap) w := fun _ _ _ _ => rfl
  go_enter Tryz.func18, Tryz.ntmps18
  go_wp2_with (first
    | (refine o_box (v := .pointer (some ⟨g, 0, none⟩)) rfl rfl (.list rfl) hst ?_; clear hst; intro w1 gt hst; simp only [Act.put, List.setIfInBounds_toArray, List.set_cons_succ, List.set_cons_zero])
    | (refine o_box (v := hval dest) rfl rfl (.list rfl) hst ?_; clear hst; intro w1 gi hst; simp only [Act.put, List.setIfInBounds_toArray, List.set_cons_succ, List.set_cons_zero])
    | (refine o_alloc ty55 rfl (.list rfl) hst ?_; clear hst; intro w1 go hst; simp only [Act.put, List.setIfInBounds_toArray, List.set_cons_succ, List.set_cons_zero])
    | (refine o_call (vs := [.func (.func 37) #[] #[.pointer (some ⟨gt, 0, none⟩), .pointer (some ⟨gi, 0, none⟩), .pointer (some ⟨go, 0, none⟩)]]) Tryz.func32 rfl rfl rfl rfl rfl (.list rfl) (stood_calls 37 _ Tryz.func37 rfl rfl #[.pointer (some ⟨gt, 0, none⟩), .pointer (some ⟨gi, 0, none⟩), .pointer (some ⟨go, 0, none⟩)] [Res.var go 55 [nilS]] (fun b => b = go) (fun b => b = go) _ ((St.start1 (hst.get (i := 0) rfl)).more fun b hb => fp_var.1 hb) (fun b hb => ⟨_, List.mem_of_getElem? (i := 0) rfl, fp_var.2 hb⟩) (WayL l root h dest go) (fun w1 g2 h9 => way1_calls g gl gK xs root h l dest gt gi go w1 (fun r hr => h9.old_holdsM (hst.old_holds (ht r hr)) (fun b hb hbe => by
        have hb1 := r.bound w (ht r hr) b hb
        have hb2 := (hst.own _ (List.mem_of_getElem? (i := 0) rfl) go (fp_var.2 rfl)).resolve_left id
        omega)) hh h0 h1 hl (h9.old_holdsM (hst.get (i := 2) rfl) (fun b hb hbe => hst.ne_ (i := 2) (j := 0) rfl rfl (by decide) hb (fp_var.2 hbe))) (h9.old_holdsM (hst.get (i := 1) rfl) (fun b hb hbe => hst.ne_ (i := 1) (j := 0) rfl rfl (by decide) hb (fp_var.2 hbe))) (h9.get (i := 1) rfl))) (by simp) ?_; rintro e w2 ⟨b, L, rfl, hP, h3⟩; replace hst := hst.call0 h3 (fun b hb => fp_var.2 hb); clear h3; rcases hP with ⟨ids, A, c, hw, rfl, hil, rfl⟩ | ⟨hw, rfl, rfl⟩ <;> simp only [List.cons_append, List.nil_append] at hst; simp only [Act.put, List.setIfInBounds_toArray, List.set_cons_succ, List.set_cons_zero])
    | (refine o_load (v := sl A ids c) rfl rfl (.list rfl) (fits_sl _ rfl rfl) (hst.field_cells (i := 1) (k := 0) rfl rfl ?_) ?_; (focus (simp [szs]; done)); simp only [Act.put, List.setIfInBounds_toArray, List.set_cons_succ, List.set_cons_zero])
    | (refine o_store (i := 1) (k := 0) rfl rfl rfl rfl rfl (.list rfl) hst (fits_sl (sl A ids c) rfl rfl) (ok1_slice _ _ _) ?_ ?_ ?_; (focus (simp [szs]; done)); (focus (simp [szs]; done)); clear hst; intro w1 hst; simp only [List.set_cons_succ, List.set_cons_zero] at hst; simp only [Act.put, List.setIfInBounds_toArray, List.set_cons_succ, List.set_cons_zero])
    | (refine o_load (v := nilS) rfl rfl (.list rfl) (fits_sl _ rfl rfl) (hst.field_cells (i := 0) (k := 0) rfl rfl ?_) ?_; (focus (simp [szs]; done)); simp only [Act.put, List.setIfInBounds_toArray, List.set_cons_succ, List.set_cons_zero])
    | (refine o_store (i := 0) (k := 0) rfl rfl rfl rfl rfl (.list rfl) hst (fits_sl nilS rfl rfl) (ok1_slice _ _ _) ?_ ?_ ?_; (focus (simp [szs]; done)); (focus (simp [szs]; done)); clear hst; intro w1 hst; simp only [List.set_cons_succ, List.set_cons_zero] at hst; simp only [Act.put, List.setIfInBounds_toArray, List.set_cons_succ, List.set_cons_zero]))
  · refine post_cell2 (i := 1) (v := sl A ids c) rfl rfl rfl rfl hst rfl (fits_sl _ rfl rfl) (flat_single _) ⟨A, c, ?_⟩
    rw [hw]
    exact ⟨hil, rfl, hst.pick [0] (by decide)⟩
  · refine post_cell2 (i := 0) (v := nilS) rfl rfl rfl rfl hst rfl (fits_sl _ rfl rfl) (flat_single _) ⟨none, 0, ?_⟩
    rw [hw]
    refine ⟨by simp, rfl, ?_⟩
    rw [Option.getD_none, rowH_nil]
    exact (hst.nilrow 24 32).pick [0] (by decide)
end Go.Proofs.YtehhnfpfefccaaaGreat
set_option linter.unusedVariables false
set_option linter.unusedSimpArgs false
namespace Go.Proofs.YtehhnfpfefccaaaGreat
open Go Go.RowKit HL BigFrame
def cpl : List Hash → List Hash → Nat
  | a :: x, b :: y => if a = b then cpl x y + 1 else 0
  | _, _ => 0
theorem cpl_le : ∀ (x y : List Hash), cpl x y ≤ x.length ∧ cpl x y ≤ y.length
  | [], y => by simp [cpl]
  | a :: x, [] => by simp [cpl]
  | a :: x, b :: y => by
    have := cpl_le x y
    simp only [cpl]
    split <;> simp <;> omega
theorem cpl_step {x y : List Hash} {n : Nat} (h1 : n < x.length) (h2 : n < y.length) : cpl (x.drop n) (y.drop n) = if x[n] = y[n] then cpl (x.drop (n + 1)) (y.drop (n + 1)) + 1 else 0 := by
  rw [List.drop_eq_getElem_cons h1, List.drop_eq_getElem_cons h2, cpl]
theorem cpl_out {x y : List Hash} {n : Nat} (h : x.length ≤ n ∨ y.length ≤ n) : cpl (x.drop n) (y.drop n) = 0 := by
  have := cpl_le (x.drop n) (y.drop n)
  simp only [List.length_drop] at this
  omega
def PathL (l : List LeafP) (root : Hash) (h : Int) (a b : Hash) (g6 g7 : Nat) (ok : Bool) (L : List Res) : Prop :=
  (∃ xs ys A1 c1 A2 c2, wayOf l root h a = some xs ∧ wayOf l root h b = some ys ∧ ok = true ∧ xs.length ≤ l.length ∧ ys.length ≤ l.length ∧
    L = [rowH A1 (xs.drop (cpl xs ys)).reverse c1, rowH A2 (ys.drop (cpl xs ys)) c2, Res.var g6 55 [sl A1 (xs.drop (cpl xs ys)).reverse c1], Res.var g7 55 [sl A2 (ys.drop (cpl xs ys)) c2]]) ∨
  ((wayOf l root h a = none ∨ wayOf l root h b = none) ∧ ok = false ∧ L = [Res.var g6 55 [nilS], Res.var g7 55 [nilS]])
set_option maxRecDepth 100000 in
set_option maxHeartbeats 4000000 in
theorem path1_calls (g gl gK : Nat) (xs : List (Hash × KV × Nat)) (root : Hash) (h : Int) (l : List LeafP) (a b : Hash) (gt gf gq g6 g7 : Nat) (w : World) (ht : ∀ r ∈ treeL g gl gK xs root h l, r.holds w) (htm : ∀ r ∈ treeL g gl gK xs root h l, ∀ q, r.fp q → ¬ (q = g6 ∨ q = g7)) (hh : ∀ x ∈ l, x.height ≤ 9223372036854775807) (h0 : 0 ≤ h) (h1 : h ≤ 2147483647) (hl : l.length ≤ 3000)
    (h2 : (Res.var gt 34 [.pointer (some ⟨g, 0, none⟩)]).holds w) (h2m : ¬ (gt = g6 ∨ gt = g7)) (h3 : (Res.var gf 24 [hval a]).holds w) (h3m : ¬ (gf = g6 ∨ gf = g7)) (h4 : (Res.var gq 24 [hval b]).holds w) (h4m : ¬ (gq = g6 ∨ gq = g7)) (h67 : g6 ≠ g7) (h6 : (Res.var g6 55 [nilS]).holds w) (h7 : (Res.var g7 55 [nilS]).holds w) :
    Calls Tryz.prog 33 #[.pointer (some ⟨gt, 0, none⟩), .pointer (some ⟨gf, 0, none⟩), .pointer (some ⟨gq, 0, none⟩), .pointer (some ⟨g6, 0, none⟩), .pointer (some ⟨g7, 0, none⟩)] w fun e w2 => ∃ ok L, (ok = true ∧ e = .returned (.tuple #[]) ∨ ok = false ∧ e = .panicked fell) ∧ PathL l root h a b g6 g7 ok L ∧ St w w2 (fun q => q = g6 ∨ q = g7) L := by
  have hst : St w w (fun q => q = g6 ∨ q = g7) [Res.var g6 55 [nilS], Res.var g7 55 [nilS]] := (St.startL (L := [Res.var g6 55 [nilS], Res.var g7 55 [nilS]]) (by
      intro r hr
      simp at hr
      rcases hr with rfl | rfl
      · exact h6
      · exact h7) (by
      simp only [List.pairwise_cons]
      refine ⟨?_, by simp, by simp⟩
      intro r hr q hq hq'
      simp at hr
      subst hr
      exact h67 ((fp_var.1 hq).symm.trans (fp_var.1 hq')))).more (by
      rintro q ⟨r, hr, hq⟩
      simp at hr
      rcases hr with rfl | rfl
      · exact .inl (fp_var.1 hq)
      · exact .inr (fp_var.1 hq))
  have old : ∀ {w1 : World} {L : List Res}, St w w1 (fun q => q = g6 ∨ q = g7) L → ∀ r ∈ treeL g gl gK xs root h l, r.holds w1 := fun hs r hr => hs.old_holdsM (ht r hr) (htm r hr)
  have o2 : ∀ {w1 : World} {L : List Res}, St w w1 (fun q => q = g6 ∨ q = g7) L → (Res.var gt 34 [.pointer (some ⟨g, 0, none⟩)]).holds w1 := fun hs => hs.old_holdsM h2 (fun q hq => by rw [fp_var.1 hq]; exact h2m)
  have o3 : ∀ {w1 : World} {L : List Res}, St w w1 (fun q => q = g6 ∨ q = g7) L → (Res.var gf 24 [hval a]).holds w1 := fun hs => hs.old_holdsM h3 (fun q hq => by rw [fp_var.1 hq]; exact h3m)
  have o4 : ∀ {w1 : World} {L : List Res}, St w w1 (fun q => q = g6 ∨ q = g7) L → (Res.var gq 24 [hval b]).holds w1 := fun hs => hs.old_holdsM h4 (fun q hq => by rw [fp_var.1 hq]; exact h4m)
  go_enter Tryz.func33, Tryz.ntmps33
  go_wp2
  refine wp_region_sched (.q 0 (.q 1 (.q 3 (.q 4 (.s 2 (.s 5 (.q 6 (.q 7 .nil)))))))) (fun w1 => St w w1 (fun q => q = g6 ∨ q = g7) [Res.var g6 55 [nilS], Res.var g7 55 [nilS]]) (by kernel_rfl) (by kernel_rfl) (by kernel_rfl) (by decide) (fun d v c a w h => by cases d <;> exact h) ?_
  have hst := hst.drew
  refine q_load (v := .pointer (some ⟨g, 0, none⟩)) rfl rfl rfl rfl hst (fits_of ty34 rfl rfl) (fun w1 h => var_field (o2 h) (k := 0) rfl rfl) ?_; simp only [Act.put, List.setIfInBounds_toArray, List.set_cons_succ, List.set_cons_zero]
  refine q_load (v := hval a) rfl rfl rfl rfl hst (fits_hash _) (fun w1 h => var_field (o3 h) (k := 0) rfl rfl) ?_; simp only [Act.put, List.setIfInBounds_toArray, List.set_cons_succ, List.set_cons_zero]
  refine q_load (v := .pointer (some ⟨g, 0, none⟩)) rfl rfl rfl rfl hst (fits_of ty34 rfl rfl) (fun w1 h => var_field (o2 h) (k := 0) rfl rfl) ?_; simp only [Act.put, List.setIfInBounds_toArray, List.set_cons_succ, List.set_cons_zero]
  refine q_load (v := hval b) rfl rfl rfl rfl hst (fits_hash _) (fun w1 h => var_field (o4 h) (k := 0) rfl rfl) ?_; simp only [Act.put, List.setIfInBounds_toArray, List.set_cons_succ, List.set_cons_zero]
  refine o_call (vs := [.pointer (some ⟨g, 0, none⟩), hval a]) Tryz.func34 rfl rfl rfl rfl rfl (.sched rfl rfl) (way_calls g gl gK xs root h l a _ (old hst) hh h0 h1 hl) (by simp) ?_
  rintro e w2 (⟨hwa, rfl, hc⟩ | ⟨ia, A1, c1, hwa, hla, rfl, hc⟩)
  · exact ⟨rfl, false, [Res.var g6 55 [nilS], Res.var g7 55 [nilS]], .inr ⟨rfl, rfl⟩, .inr ⟨.inl hwa, rfl, rfl⟩, hst.call hc⟩
  refine ⟨(hst.call hc).drop 0, ?_⟩
  replace hst := hst.call hc
  clear hc
  simp only [List.cons_append, List.nil_append] at hst
  try simp only [Act.put, List.setIfInBounds_toArray, List.set_cons_succ, List.set_cons_zero]
  refine o_call (vs := [.pointer (some ⟨g, 0, none⟩), hval b]) Tryz.func34 rfl rfl rfl rfl rfl (.sched rfl rfl) (way_calls g gl gK xs root h l b _ (old hst) hh h0 h1 hl) (by simp) ?_
  rintro e w2 (⟨hwb, rfl, hc⟩ | ⟨ib, A2, c2, hwb, hlb, rfl, hc⟩)
  · exact ⟨rfl, false, [Res.var g6 55 [nilS], Res.var g7 55 [nilS]], .inr ⟨rfl, rfl⟩, .inr ⟨.inr hwb, rfl, rfl⟩, (hst.call hc).drop 0⟩
  refine ⟨(hst.call hc).pick [2, 3] (by decide), ?_⟩
  replace hst := hst.call hc
  clear hc
  simp only [List.cons_append, List.nil_append] at hst
  try simp only [Act.put, List.setIfInBounds_toArray, List.set_cons_succ, List.set_cons_zero]
  refine q_assign rfl rfl rfl rfl (hst.pick [2, 3] (by decide)) ?_; simp only [Act.put, List.setIfInBounds_toArray, List.set_cons_succ, List.set_cons_zero]
  refine q_assign rfl rfl rfl rfl (hst.pick [2, 3] (by decide)) ?_; simp only [Act.put, List.setIfInBounds_toArray, List.set_cons_succ, List.set_cons_zero]
  refine sched_nil ?_
  have HWA := Lib.hid hwa
  have HWB := Lib.hid hwb
  have hrow1 := hst.row_rd (i := 1) rfl
  have hrow2 := hst.row_rd (i := 0) rfl
  clear hwa hwb
  go_wp2
  go_loopg [7] (ia.length + 1) (fun kx s7 wr => ∃ n : Nat, s7 = .int .i64 n ∧ n ≤ ia.length ∧ n ≤ ib.length ∧ ia.length + 1 - n ≤ kx ∧ n + cpl (ia.drop n) (ib.drop n) = cpl ia ib ∧
    St w wr (fun q => q = g6 ∨ q = g7) [rowH A2 ib c2, rowH A1 ia c1, Res.var g6 55 [nilS], Res.var g7 55 [nilS]])
  case atStart => exact ⟨0, rfl, by omega, by omega, by omega, by simp, hst⟩
  case round =>
    clear hst
    obtain ⟨n, rfl, hn1, hn2, hkx, hcp, hst⟩ := hrel
    have hl1 := hst.row_rd (i := 1) rfl
    have hl2 := hst.row_rd (i := 0) rfl
    by_cases hin : n < ia.length ∧ n < ib.length
    · obtain ⟨hn3, hn4⟩ := hin
      have hst' := cpl_step hn3 hn4
      have g1 := hashes_at ia n hn3
      have g2 := hashes_at ib n hn4
      have G1 := Lib.hid g1
      have G2 := Lib.hid g2
      have HCS := Lib.hid hst'
      have HCP := Lib.hid hcp
      clear g1 g2 hst' hcp hl1 hl2
      go_wp2
      refine wp_region_sched (.q 0 (.q 1 (.q 2 (.q 3 (.q 4 (.q 5 (.q 6 (.q 7 (.q 8 (.q 9 (.q 10 (.q 11 (.q 12 (.q 13 (.q 14 (.q 15 (.q 16 (.q 17 .nil)))))))))))))))))) (fun w1 => St w w1 (fun q => q = g6 ∨ q = g7) [rowH A2 ib c2, rowH A1 ia c1, Res.var g6 55 [nilS], Res.var g7 55 [nilS]]) (by kernel_rfl) (by kernel_rfl) (by kernel_rfl) (by decide) (fun d v c a w h => by cases d <;> exact h) ?_
      have hst := hst.drew
      iterate 6 (refine sched_q rfl rfl rfl hst (fun K hK => ?_); go_big_quiet_op; first | refine hK _ ?_ | refine ⟨_, fun _ _ => rfl, hK _ ?_⟩; clear hK K)
      try simp only [Act.put, List.setIfInBounds_toArray, List.set_cons_succ, List.set_cons_zero]
      obtain ⟨mm, hmm⟩ : ∃ mm : Int, mm = if ib.length < ia.length then (ib.length : Int) else ia.length := ⟨_, rfl⟩
      rw [← hmm]
      have hmd : decide ((n : Int) < mm) = true := decide_eq_true (by rw [hmm]; split <;> omega)
      clear hmm
      (refine sched_q rfl rfl rfl hst (fun K hK => ?_); go_big_quiet_op; first | refine hK _ ?_ | refine ⟨_, fun _ _ => rfl, hK _ ?_⟩; clear hK K)
      try simp only [hmd]
      iterate 3 (refine sched_q rfl rfl rfl hst (fun K hK => ?_); go_big_quiet_op; first | refine hK _ ?_ | refine ⟨_, fun _ _ => rfl, hK _ ?_⟩; clear hK K)
      refine q_elem Tryz.underlying55 ty24 rfl rfl rfl rfl rfl hst (by omega) (by omega) (fun w' h => h.row_rd (i := 1) rfl) (hashes_sz ia) (by omega) (by simpa using G1.out) (fun p hp => ?_)
      refine q_load (v := hval ia[n]) rfl rfl rfl rfl hst (fits_hash _) hp ?_; simp only [Act.put, List.setIfInBounds_toArray, List.set_cons_succ, List.set_cons_zero]
      iterate 2 (refine sched_q rfl rfl rfl hst (fun K hK => ?_); go_big_quiet_op; first | refine hK _ ?_ | refine ⟨_, fun _ _ => rfl, hK _ ?_⟩; clear hK K)
      refine q_elem Tryz.underlying55 ty24 rfl rfl rfl rfl rfl hst (by omega) (by omega) (fun w' h => h.row_rd (i := 0) rfl) (hashes_sz ib) (by omega) (by simpa using G2.out) (fun p hp => ?_)
      refine q_load (v := hval ib[n]) rfl rfl rfl rfl hst (fits_hash _) hp ?_; simp only [Act.put, List.setIfInBounds_toArray, List.set_cons_succ, List.set_cons_zero]
      refine q_eq ek24.eq (by omega) isAgg_hval eg24 rfl rfl rfl rfl rfl hst ?_
      try simp only [Act.put, List.setIfInBounds_toArray, List.set_cons_succ, List.set_cons_zero]
      by_cases heq : ia[n] = ib[n]
      · have hd : decide (ia[n] = ib[n]) = true := decide_eq_true heq
        have hcs := HCS.out
        rw [if_pos heq] at hcs
        simp only [hd]
        clear hd heq
        (refine sched_q rfl rfl rfl hst (fun K hK => ?_); go_big_quiet_op; first | refine hK _ ?_ | refine ⟨_, fun _ _ => rfl, hK _ ?_⟩; clear hK K)
        refine sched_nil ?_
        try simp only [Act.put, List.setIfInBounds_toArray, List.set_cons_succ, List.set_cons_zero]
        go_wp2
        go_roundg (ia.length + 1 - (n + 1))
        case measure => omega
        case rel => exact ⟨n + 1, by go_num, by omega, by omega, Nat.le_refl _, by have := HCP.out; omega, hst⟩
      · have hd : decide (ia[n] = ib[n]) = false := decide_eq_false heq
        have hcs := HCS.out
        rw [if_neg heq] at hcs
        have hfin : n = cpl ia ib := by have := HCP.out; omega
        have HFIN := Lib.hid hfin
        clear hfin
        simp only [hd]
        clear hd heq
        (refine sched_q rfl rfl rfl hst (fun K hK => ?_); go_big_quiet_op; first | refine hK _ ?_ | refine ⟨_, fun _ _ => rfl, hK _ ?_⟩; clear hK K)
        refine sched_nil ?_
        try simp only [Act.put, List.setIfInBounds_toArray, List.set_cons_succ, List.set_cons_zero]
        go_wp2
        refine wp_region_sched (.q 0 (.q 1 (.q 2 (.q 3 (.q 4 (.q 5 (.s 6 (.s 7 .nil)))))))) (fun w1 => True) (by kernel_rfl) (by kernel_rfl) (by kernel_rfl) (by decide) (fun d v c a w h => by cases d <;> exact h) ?_
        have hst := hst.drew
        iterate 2 (refine q_move rfl rfl rfl rfl trivial ?_; simp only [Act.put, List.setIfInBounds_toArray, List.set_cons_succ, List.set_cons_zero])
        refine q_sliceLo Tryz.underlying55 ty24 rfl rfl rfl rfl rfl trivial (by omega) (by omega) ?_; simp only [Act.put, List.setIfInBounds_toArray, List.set_cons_succ, List.set_cons_zero]
        iterate 2 (refine q_move rfl rfl rfl rfl trivial ?_; simp only [Act.put, List.setIfInBounds_toArray, List.set_cons_succ, List.set_cons_zero])
        refine q_sliceLo Tryz.underlying55 ty24 rfl rfl rfl rfl rfl trivial (by omega) (by omega) ?_; simp only [Act.put, List.setIfInBounds_toArray, List.set_cons_succ, List.set_cons_zero]
        refine o_store (i := 2) (k := 0) rfl rfl rfl rfl rfl (.sched rfl rfl) hst (fits_sl _ rfl rfl) (ok1_slice _ _ _) ?_ ?_ ?_
        (focus (simp [szs]; done))
        (focus (simp [szs]; done))
        intro w3 hst3
        clear hst
        refine ⟨trivial, ?_⟩
        try simp only [Act.put, List.setIfInBounds_toArray, List.set_cons_succ, List.set_cons_zero]
        simp only [List.set_cons_succ, List.set_cons_zero] at hst3
        refine o_store (i := 3) (k := 0) rfl rfl rfl rfl rfl (.sched rfl rfl) hst3 (fits_sl _ rfl rfl) (ok1_slice _ _ _) ?_ ?_ ?_
        (focus (simp [szs]; done))
        (focus (simp [szs]; done))
        intro w4 hst
        clear hst3
        refine ⟨trivial, ?_⟩
        try simp only [Act.put, List.setIfInBounds_toArray, List.set_cons_succ, List.set_cons_zero]
        simp only [List.set_cons_succ, List.set_cons_zero] at hst
        refine sched_nil ?_
        try simp only [Act.put, List.setIfInBounds_toArray, List.set_cons_succ, List.set_cons_zero]
        replace hst := hst.repl (i := 1) rfl (row_tail (i := n) (by omega) (hashes_sz ia) (hst.get (i := 1) rfl) hn1) (fun q hq => fp_row.2 ((obl_tailA _ _ _ _) ▸ fp_row.1 hq))
        replace hst := hst.repl (i := 0) rfl (row_tail (i := n) (by omega) (hashes_sz ib) (hst.get (i := 0) rfl) hn2) (fun q hq => fp_row.2 ((obl_tailA _ _ _ _) ▸ fp_row.1 hq))
        simp only [List.set_cons_succ, List.set_cons_zero, ← List.map_drop, Int.toNat_natCast] at hst
        rw [← List.length_drop, ← List.length_drop] at hst
        simp only [Int.toNat_natCast]
        rw [← List.length_drop (l := ia), ← List.length_drop (l := ib)]
        have hdl : (ia.drop n).length ≤ 1048576 := by rw [List.length_drop]; omega
        have HDL := Lib.hid hdl
        clear hdl
        obtain ⟨d, hd⟩ : ∃ d, d = ia.drop n := ⟨_, rfl⟩
        obtain ⟨u, hu⟩ : ∃ u, u = ib.drop n := ⟨_, rfl⟩
        rw [← hd] at hst HDL ⊢
        rw [← hu] at hst ⊢
        have HD := Lib.hid hd
        have HU := Lib.hid hu
        clear hd hu
        go_wp2_with (first
          | (refine o_load (v := .slice (tailA A1 c1 n 32) d.length (c1 - n)) rfl rfl (.list rfl) (fits_sl _ rfl rfl) (hst.field_cells (i := 2) (k := 0) rfl rfl ?_) ?_; (focus (simp [szs]; done)); simp only [Act.put, List.setIfInBounds_toArray, List.set_cons_succ, List.set_cons_zero])
          | (refine o_call (vs := [.slice (tailA A1 c1 n 32) d.length (c1 - n)]) Tryz.func35 rfl rfl rfl rfl rfl (.list rfl) (reverse_calls (tailA A1 c1 n 32) d (c1 - n) _ (hst.get (i := 1) rfl) HDL.out) (by simp) ?_; rintro e w5 ⟨rfl, h3⟩; replace hst := (hst.front 1 rfl).call0 h3 (fun b hb => fp_row.2 hb); clear h3; simp only [List.cons_append, List.nil_append, List.eraseIdx_cons_succ, List.eraseIdx_cons_zero] at hst; simp only [Act.put, List.setIfInBounds_toArray, List.set_cons_succ, List.set_cons_zero]))
        refine ⟨rfl, .tuple #[], by simp [results, Tryz.results33, Sem.run_pure], true, _, .inl ⟨rfl, rfl⟩, .inl ⟨ia, ib, tailA A1 c1 n 32, c1 - n, tailA A2 c2 n 32, c2 - n, HWA.out, HWB.out, rfl, hla, hlb, rfl⟩, ?_⟩
        rw [← HFIN.out, ← HD.out, ← HU.out]
        unfold rowH sl
        rw [List.length_reverse]
        exact hst
    · have hout := cpl_out (x := ia) (y := ib) (n := n) (by omega)
      have hfin : n = cpl ia ib := by omega
      have HFIN := Lib.hid hfin
      clear hfin hl1 hl2
      go_wp2
      refine wp_region_sched (.q 0 (.q 1 (.q 2 (.q 3 (.q 4 (.q 5 (.q 6 (.q 7 (.q 8 (.q 9 (.q 10 (.q 11 (.q 12 (.q 13 (.q 14 (.q 15 (.q 16 (.q 17 .nil)))))))))))))))))) (fun w1 => St w w1 (fun q => q = g6 ∨ q = g7) [rowH A2 ib c2, rowH A1 ia c1, Res.var g6 55 [nilS], Res.var g7 55 [nilS]]) (by kernel_rfl) (by kernel_rfl) (by kernel_rfl) (by decide) (fun d v c a w h => by cases d <;> exact h) ?_
      have hst := hst.drew
      iterate 6 (refine sched_q rfl rfl rfl hst (fun K hK => ?_); go_big_quiet_op; first | refine hK _ ?_ | refine ⟨_, fun _ _ => rfl, hK _ ?_⟩; clear hK K)
      try simp only [Act.put, List.setIfInBounds_toArray, List.set_cons_succ, List.set_cons_zero]
      obtain ⟨mm, hmm⟩ : ∃ mm : Int, mm = if ib.length < ia.length then (ib.length : Int) else ia.length := ⟨_, rfl⟩
      rw [← hmm]
      have hmd : decide ((n : Int) < mm) = false := decide_eq_false (by rw [hmm]; split <;> omega)
      clear hmm
      (refine sched_q rfl rfl rfl hst (fun K hK => ?_); go_big_quiet_op; first | refine hK _ ?_ | refine ⟨_, fun _ _ => rfl, hK _ ?_⟩; clear hK K)
      try simp only [hmd]
      (refine sched_q rfl rfl rfl hst (fun K hK => ?_); go_big_quiet_op; first | refine hK _ ?_ | refine ⟨_, fun _ _ => rfl, hK _ ?_⟩; clear hK K)
      iterate 9 (refine sched_skip rfl rfl hst ?_; simp only [Act.put, List.setIfInBounds_toArray, List.set_cons_succ, List.set_cons_zero])
      (refine sched_q rfl rfl rfl hst (fun K hK => ?_); go_big_quiet_op; first | refine hK _ ?_ | refine ⟨_, fun _ _ => rfl, hK _ ?_⟩; clear hK K)
      refine sched_nil ?_
      try simp only [Act.put, List.setIfInBounds_toArray, List.set_cons_succ, List.set_cons_zero]
      go_wp2
      refine wp_region_sched (.q 0 (.q 1 (.q 2 (.q 3 (.q 4 (.q 5 (.s 6 (.s 7 .nil)))))))) (fun w1 => True) (by kernel_rfl) (by kernel_rfl) (by kernel_rfl) (by decide) (fun d v c a w h => by cases d <;> exact h) ?_
      have hst := hst.drew
      iterate 2 (refine q_move rfl rfl rfl rfl trivial ?_; simp only [Act.put, List.setIfInBounds_toArray, List.set_cons_succ, List.set_cons_zero])
      refine q_sliceLo Tryz.underlying55 ty24 rfl rfl rfl rfl rfl trivial (by omega) (by omega) ?_; simp only [Act.put, List.setIfInBounds_toArray, List.set_cons_succ, List.set_cons_zero]
      iterate 2 (refine q_move rfl rfl rfl rfl trivial ?_; simp only [Act.put, List.setIfInBounds_toArray, List.set_cons_succ, List.set_cons_zero])
      refine q_sliceLo Tryz.underlying55 ty24 rfl rfl rfl rfl rfl trivial (by omega) (by omega) ?_; simp only [Act.put, List.setIfInBounds_toArray, List.set_cons_succ, List.set_cons_zero]
      refine o_store (i := 2) (k := 0) rfl rfl rfl rfl rfl (.sched rfl rfl) hst (fits_sl _ rfl rfl) (ok1_slice _ _ _) ?_ ?_ ?_
      (focus (simp [szs]; done))
      (focus (simp [szs]; done))
      intro w3 hst3
      clear hst
      refine ⟨trivial, ?_⟩
      try simp only [Act.put, List.setIfInBounds_toArray, List.set_cons_succ, List.set_cons_zero]
      simp only [List.set_cons_succ, List.set_cons_zero] at hst3
      refine o_store (i := 3) (k := 0) rfl rfl rfl rfl rfl (.sched rfl rfl) hst3 (fits_sl _ rfl rfl) (ok1_slice _ _ _) ?_ ?_ ?_
      (focus (simp [szs]; done))
      (focus (simp [szs]; done))
      intro w4 hst
      clear hst3
      refine ⟨trivial, ?_⟩
      try simp only [Act.put, List.setIfInBounds_toArray, List.set_cons_succ, List.set_cons_zero]
      simp only [List.set_cons_succ, List.set_cons_zero] at hst
      refine sched_nil ?_
      try simp only [Act.put, List.setIfInBounds_toArray, List.set_cons_succ, List.set_cons_zero]
      replace hst := hst.repl (i := 1) rfl (row_tail (i := n) (by omega) (hashes_sz ia) (hst.get (i := 1) rfl) hn1) (fun q hq => fp_row.2 ((obl_tailA _ _ _ _) ▸ fp_row.1 hq))
      replace hst := hst.repl (i := 0) rfl (row_tail (i := n) (by omega) (hashes_sz ib) (hst.get (i := 0) rfl) hn2) (fun q hq => fp_row.2 ((obl_tailA _ _ _ _) ▸ fp_row.1 hq))
      simp only [List.set_cons_succ, List.set_cons_zero, ← List.map_drop, Int.toNat_natCast] at hst
      rw [← List.length_drop, ← List.length_drop] at hst
      simp only [Int.toNat_natCast]
      rw [← List.length_drop (l := ia), ← List.length_drop (l := ib)]
      have hdl : (ia.drop n).length ≤ 1048576 := by rw [List.length_drop]; omega
      have HDL := Lib.hid hdl
      clear hdl
      obtain ⟨d, hd⟩ : ∃ d, d = ia.drop n := ⟨_, rfl⟩
      obtain ⟨u, hu⟩ : ∃ u, u = ib.drop n := ⟨_, rfl⟩
      rw [← hd] at hst HDL ⊢
      rw [← hu] at hst ⊢
      have HD := Lib.hid hd
      have HU := Lib.hid hu
      clear hd hu
      go_wp2_with (first
        | (refine o_load (v := .slice (tailA A1 c1 n 32) d.length (c1 - n)) rfl rfl (.list rfl) (fits_sl _ rfl rfl) (hst.field_cells (i := 2) (k := 0) rfl rfl ?_) ?_; (focus (simp [szs]; done)); simp only [Act.put, List.setIfInBounds_toArray, List.set_cons_succ, List.set_cons_zero])
        | (refine o_call (vs := [.slice (tailA A1 c1 n 32) d.length (c1 - n)]) Tryz.func35 rfl rfl rfl rfl rfl (.list rfl) (reverse_calls (tailA A1 c1 n 32) d (c1 - n) _ (hst.get (i := 1) rfl) HDL.out) (by simp) ?_; rintro e w5 ⟨rfl, h3⟩; replace hst := (hst.front 1 rfl).call0 h3 (fun b hb => fp_row.2 hb); clear h3; simp only [List.cons_append, List.nil_append, List.eraseIdx_cons_succ, List.eraseIdx_cons_zero] at hst; simp only [Act.put, List.setIfInBounds_toArray, List.set_cons_succ, List.set_cons_zero]))
      refine ⟨rfl, .tuple #[], by simp [results, Tryz.results33, Sem.run_pure], true, _, .inl ⟨rfl, rfl⟩, .inl ⟨ia, ib, tailA A1 c1 n 32, c1 - n, tailA A2 c2 n 32, c2 - n, HWA.out, HWB.out, rfl, hla, hlb, rfl⟩, ?_⟩
      rw [← HFIN.out, ← HD.out, ← HU.out]
      unfold rowH sl
      rw [List.length_reverse]
      exact hst
end Go.Proofs.YtehhnfpfefccaaaGreat
set_option linter.unusedVariables false
set_option linter.unusedSimpArgs false
namespace Go.Proofs.YtehhnfpfefccaaaGreat
open Go Go.RowKit HL BigFrame
theorem post_cell3 {fn : Func} {R : Ending → World → Prop} {a : Act} {w w0 : World} {M : Nat → Prop} {L : List Res} {i i2 g g2 : Nat} {t t2 u : Tmp} {T : TypeId} {v1 v2 v3 : Value} (hr : fn.results = #[.cell t T, .cell t2 T, .tmp u]) (ht : opv a (.tmp t) = some (.pointer (some ⟨g, 0, none⟩))) (ht2 : opv a (.tmp t2) = some (.pointer (some ⟨g2, 0, none⟩))) (hu : opv a (.tmp u) = some v3) (hd : a.defers = [])
    (hst : St w0 w M L) (hi : L[i]? = some (Res.var g T [v1])) (hi2 : L[i2]? = some (Res.var g2 T [v2])) (hf : Fits Tryz.prog T v1) (hf2 : Fits Tryz.prog T v2) (hR : R (.returned (.tuple #[v1, v2, v3])) w) : bodyPost Tryz.prog fn R .ret a w := by
  refine bodyPost_ret (v := .tuple #[v1, v2, v3]) ?_ hd hR
  have hc := hst.var_cells hi
  have hc2 := hst.var_cells hi2
  rw [flat_single] at hc hc2
  have hp' : a.tmps[t]?.getD undef = .pointer (some ⟨g, 0, none⟩) := by simpa [Act.eval] using opv_eval ht
  have hp2 : a.tmps[t2]?.getD undef = .pointer (some ⟨g2, 0, none⟩) := by simpa [Act.eval] using opv_eval ht2
  have hq' : a.tmps[u]?.getD undef = v3 := by simpa [Act.eval] using opv_eval hu
  simp [results, hr, hp', hp2, hq', asAddr, run_loadVar hf hc, run_loadVar hf2 hc2]
def pathOf (l : List LeafP) (root : Hash) (h : Int) (a b : Hash) : Option (List Hash × List Hash) :=
  match wayOf l root h a, wayOf l root h b with
  | some xs, some ys => some ((xs.drop (cpl xs ys)).reverse, ys.drop (cpl xs ys))
  | _, _ => none
theorem pathOf_some {l : List LeafP} {root : Hash} {h : Int} {a b : Hash} {xs ys : List Hash} (h1 : wayOf l root h a = some xs) (h2 : wayOf l root h b = some ys) : pathOf l root h a b = some ((xs.drop (cpl xs ys)).reverse, ys.drop (cpl xs ys)) := by rw [pathOf, h1, h2]
theorem pathOf_none {l : List LeafP} {root : Hash} {h : Int} {a b : Hash} (h1 : wayOf l root h a = none ∨ wayOf l root h b = none) : pathOf l root h a b = none := by
  unfold pathOf
  rcases h1 with h1 | h1
  · rw [h1]
  · rw [h1]; cases wayOf l root h a <;> rfl
theorem at_call25 {P : Program} {ops rest o c} {Q : Exit → Act → World → Prop} {a : Act} {w : World} (h : wpList P ops Q (o :: rest) a w) (ho : o.op = .call { callee := .value (.func 32), args := c, argTypes := #[1] }) : wpList P ops Q (o :: rest) a w := h
set_option maxRecDepth 100000 in
theorem stood_pre (g gl gK : Nat) (xs : List (Hash × KV × Nat)) (root : Hash) (h : Int) (l : List LeafP) (a b : Hash) (gt gf gq g6 g7 : Nat) (w wn : World) (ht : ∀ r ∈ treeL g gl gK xs root h l, r.holds w)
    (hst : St w wn No [Res.var g7 55 [nilS], Res.var g6 55 [nilS], Res.var gq 24 [hval b], Res.var gf 24 [hval a], Res.var gt 34 [.pointer (some ⟨g, 0, none⟩)]])
    (hh : ∀ x ∈ l, x.height ≤ 9223372036854775807) (h0 : 0 ≤ h) (h1 : h ≤ 2147483647) (hl : l.length ≤ 3000) :
    Calls Tryz.prog 32 #[.func (.func 33) #[] #[.pointer (some ⟨gt, 0, none⟩), .pointer (some ⟨gf, 0, none⟩), .pointer (some ⟨gq, 0, none⟩), .pointer (some ⟨g6, 0, none⟩), .pointer (some ⟨g7, 0, none⟩)]] wn fun e w' => ∃ ok L, e = .returned (.bool ok) ∧ PathL l root h a b g6 g7 ok L ∧ St wn w' (fun q => q = g6 ∨ q = g7) L := by
  have hs2 : St wn wn (fun q => q = g6 ∨ q = g7) [Res.var g6 55 [nilS], Res.var g7 55 [nilS]] := (St.startL (L := [Res.var g6 55 [nilS], Res.var g7 55 [nilS]]) (by
      intro r hr
      simp at hr
      rcases hr with rfl | rfl
      · exact hst.get (i := 1) rfl
      · exact hst.get (i := 0) rfl) (by
      simp only [List.pairwise_cons]
      refine ⟨?_, by simp, by simp⟩
      intro r hr q hq hq'
      simp at hr
      subst hr
      exact hst.ne_ (i := 1) (j := 0) rfl rfl (by decide) hq hq')).more (by
      rintro q ⟨r, hr, hq⟩
      simp at hr
      rcases hr with rfl | rfl
      · exact .inl (fp_var.1 hq)
      · exact .inr (fp_var.1 hq))
  have ne : ∀ (i : Nat) (r : Res), [Res.var g7 55 [nilS], Res.var g6 55 [nilS], Res.var gq 24 [hval b], Res.var gf 24 [hval a], Res.var gt 34 [.pointer (some ⟨g, 0, none⟩)]][i]? = some r → 2 ≤ i → ∀ q, r.fp q → ¬ (q = g6 ∨ q = g7) := by
    intro i r hi h2 q hq hqq
    rcases hqq with e | e
    · exact hst.ne_ (j := 1) hi rfl (by omega) hq (fp_var.2 e)
    · exact hst.ne_ (j := 0) hi rfl (by omega) hq (fp_var.2 e)
  have nt : ∀ r ∈ treeL g gl gK xs root h l, ∀ q, r.fp q → ¬ (q = g6 ∨ q = g7) := by
    intro r hr q hq hqq
    have hb1 := r.bound w (ht r hr) q hq
    have e6 := (hst.own _ (List.mem_of_getElem? (i := 1) rfl) g6 (fp_var.2 rfl)).resolve_left id
    have e7 := (hst.own _ (List.mem_of_getElem? (i := 0) rfl) g7 (fp_var.2 rfl)).resolve_left id
    omega
  have hne : g6 ≠ g7 := fun e => hst.ne_ (i := 1) (j := 0) rfl rfl (by decide) (b := g6) (fp_var.2 rfl) (fp_var.2 e)
  have hc := stood_calls 33 _ Tryz.func33 rfl rfl #[.pointer (some ⟨gt, 0, none⟩), .pointer (some ⟨gf, 0, none⟩), .pointer (some ⟨gq, 0, none⟩), .pointer (some ⟨g6, 0, none⟩), .pointer (some ⟨g7, 0, none⟩)] [Res.var g6 55 [nilS], Res.var g7 55 [nilS]] (fun q => q = g6 ∨ q = g7) (fun q => q = g6 ∨ q = g7) wn hs2 (by
    rintro q (e | e)
    · exact ⟨_, List.mem_of_getElem? (i := 0) rfl, fp_var.2 e⟩
    · exact ⟨_, List.mem_of_getElem? (i := 1) rfl, fp_var.2 e⟩) (PathL l root h a b g6 g7) (fun w1 g2 h9 => path1_calls g gl gK xs root h l a b gt gf gq g6 g7 w1 (fun r hr => h9.old_holdsM (hst.old_holds (ht r hr)) (nt r hr)) nt hh h0 h1 hl
      (h9.old_holdsM (hst.get (i := 4) rfl) (ne 4 _ rfl (by omega))) (ne 4 _ rfl (by omega) gt (fp_var.2 rfl))
      (h9.old_holdsM (hst.get (i := 3) rfl) (ne 3 _ rfl (by omega))) (ne 3 _ rfl (by omega) gf (fp_var.2 rfl))
      (h9.old_holdsM (hst.get (i := 2) rfl) (ne 2 _ rfl (by omega))) (ne 2 _ rfl (by omega) gq (fp_var.2 rfl)) hne (h9.get (i := 1) rfl) (h9.get (i := 2) rfl))
  exact hc
set_option maxRecDepth 100000 in
set_option maxHeartbeats 4000000 in
theorem path_calls (g gl gK : Nat) (xs : List (Hash × KV × Nat)) (root : Hash) (h : Int) (l : List LeafP) (a b : Hash) (w : World) (ht : ∀ r ∈ treeL g gl gK xs root h l, r.holds w) (hh : ∀ x ∈ l, x.height ≤ 9223372036854775807) (h0 : 0 ≤ h) (h1 : h ≤ 2147483647) (hl : l.length ≤ 3000) :
    Calls Tryz.prog 15 #[.pointer (some ⟨g, 0, none⟩), hval a, hval b] w fun e w' => ∃ d u ok A1 c1 A2 c2, (ok = true ∧ pathOf l root h a b = some (d, u) ∨ ok = false ∧ pathOf l root h a b = none ∧ d = [] ∧ u = []) ∧ d.length ≤ l.length ∧ u.length ≤ l.length ∧
      e = .returned (.tuple #[sl A1 d c1, sl A2 u c2, .bool ok]) ∧ St w w' No [rowH A1 d c1, rowH A2 u c2] := by
  have hst := St.start w No
  have hmf : ∀ (fn : Fn) (first cap : Array Value) (w : World), (Instr.makeFunc fn first cap).run Tryz.prog w = .ok (.func fn first cap) w := fun _ _ _ _ => rfl
  go_enter Tryz.func15, Tryz.ntmps15
  go_wp2_with (first
    | (refine o_box (v := .pointer (some ⟨g, 0, none⟩)) rfl rfl (.list rfl) hst ?_; clear hst; intro w1 gt hst; simp only [Act.put, List.setIfInBounds_toArray, List.set_cons_succ, List.set_cons_zero])
    | (refine o_box (L := [_]) (v := hval a) rfl rfl (.list rfl) hst ?_; clear hst; intro w1 gf hst; simp only [Act.put, List.setIfInBounds_toArray, List.set_cons_succ, List.set_cons_zero])
    | (refine o_box (L := [_, _]) (v := hval b) rfl rfl (.list rfl) hst ?_; clear hst; intro w1 gq hst; simp only [Act.put, List.setIfInBounds_toArray, List.set_cons_succ, List.set_cons_zero])
    | (refine o_alloc (L := [_, _, _]) ty55 rfl (.list rfl) hst ?_; clear hst; intro w1 g6 hst; simp only [Act.put, List.setIfInBounds_toArray, List.set_cons_succ, List.set_cons_zero])
    | (refine o_alloc (L := [_, _, _, _]) ty55 rfl (.list rfl) hst ?_; clear hst; intro w1 g7 hst; simp only [Act.put, List.setIfInBounds_toArray, List.set_cons_succ, List.set_cons_zero])
    | (refine at_call25 ?_ rfl; have hpre := stood_pre g gl gK xs root h l a b gt gf gq g6 g7 w _ ht hst hh h0 h1 hl; go_must (refine o_call (vs := [.func (.func 33) #[] #[.pointer (some ⟨gt, 0, none⟩), .pointer (some ⟨gf, 0, none⟩), .pointer (some ⟨gq, 0, none⟩), .pointer (some ⟨g6, 0, none⟩), .pointer (some ⟨g7, 0, none⟩)]]) Tryz.func32 rfl rfl rfl rfl rfl (.list rfl) (hpre) (by simp) ?_); rintro e w2 ⟨ok, L, rfl, hP, h3⟩; clear hpre; have hst1 : St w w1 No ([Res.var g6 55 [nilS], Res.var g7 55 [nilS]] ++ [Res.var gq 24 [hval b], Res.var gf 24 [hval a], Res.var gt 34 [.pointer (some ⟨g, 0, none⟩)]]) := hst.pick [1, 0, 2, 3, 4] (by decide); clear hst; have hst := hst1.callN h3 (by
        rintro q (e | e)
        · exact ⟨_, List.mem_of_getElem? (i := 0) rfl, fp_var.2 e⟩
        · exact ⟨_, List.mem_of_getElem? (i := 1) rfl, fp_var.2 e⟩); clear hst1 h3; rcases hP with ⟨xa, xb, A1, c1, A2, c2, hwa, hwb, rfl, hla, hlb, rfl⟩ | ⟨hno, rfl, rfl⟩ <;> simp only [List.cons_append, List.nil_append] at hst; simp only [Act.put, List.setIfInBounds_toArray, List.set_cons_succ, List.set_cons_zero]))
  · have hp := pathOf_some hwa hwb
    have hl1 : (xa.drop (cpl xa xb)).reverse.length ≤ l.length := by simp; omega
    have hl2 : (xb.drop (cpl xa xb)).length ≤ l.length := by simp; omega
    obtain ⟨d, hd⟩ : ∃ d, d = (xa.drop (cpl xa xb)).reverse := ⟨_, rfl⟩
    obtain ⟨u, hu⟩ : ∃ u, u = xb.drop (cpl xa xb) := ⟨_, rfl⟩
    rw [← hd] at hst hp hl1
    rw [← hu] at hst hp hl2
    have HP := Lib.hid hp
    clear hp hwa hwb hd hu
    refine wp_region_sched (.q 0 (.q 1 (.q 2 (.s 3 (.s 4 (.q 5 .nil)))))) (fun w1 => St w w1 No [Res.var g6 55 [sl A1 d c1], Res.var g7 55 [sl A2 u c2]]) (by kernel_rfl) (by kernel_rfl) (by kernel_rfl) (by decide) (fun d v c a w h => by cases d <;> exact h) ?_
    have hst := hst.drew
    have hs2 := hst.pick [2, 3] (by decide)
    refine q_load (v := sl A1 d c1) rfl rfl rfl rfl hs2 (fits_sl _ rfl rfl) (fun w1 h => h.field_cells (i := 0) (k := 0) rfl rfl (by simp [szs])) ?_; simp only [Act.put, List.setIfInBounds_toArray, List.set_cons_succ, List.set_cons_zero]
    refine q_load (v := sl A2 u c2) rfl rfl rfl rfl hs2 (fits_sl _ rfl rfl) (fun w1 h => h.field_cells (i := 1) (k := 0) rfl rfl (by simp [szs])) ?_; simp only [Act.put, List.setIfInBounds_toArray, List.set_cons_succ, List.set_cons_zero]
    refine q_move rfl rfl rfl rfl hs2 ?_; simp only [Act.put, List.setIfInBounds_toArray, List.set_cons_succ, List.set_cons_zero]
    clear hs2
    refine o_store (i := 2) (k := 0) rfl rfl rfl rfl rfl (.sched rfl rfl) hst (fits_sl (sl A1 d c1) rfl rfl) (ok1_slice _ _ _) ?_ ?_ ?_
    (focus (simp [szs]; done))
    (focus (simp [szs]; done))
    intro w3 hst3
    clear hst
    simp only [List.set_cons_succ, List.set_cons_zero] at hst3
    refine ⟨hst3.pick [2, 3] (by decide), ?_⟩
    try simp only [Act.put, List.setIfInBounds_toArray, List.set_cons_succ, List.set_cons_zero]
    refine o_store (i := 3) (k := 0) rfl rfl rfl rfl rfl (.sched rfl rfl) hst3 (fits_sl (sl A2 u c2) rfl rfl) (ok1_slice _ _ _) ?_ ?_ ?_
    (focus (simp [szs]; done))
    (focus (simp [szs]; done))
    intro w4 hst
    clear hst3
    simp only [List.set_cons_succ, List.set_cons_zero] at hst
    refine ⟨hst.pick [2, 3] (by decide), ?_⟩
    try simp only [Act.put, List.setIfInBounds_toArray, List.set_cons_succ, List.set_cons_zero]
    refine q_assign rfl rfl rfl rfl (hst.pick [2, 3] (by decide)) ?_; simp only [Act.put, List.setIfInBounds_toArray, List.set_cons_succ, List.set_cons_zero]
    refine sched_nil ?_
    try simp only [Act.put, List.setIfInBounds_toArray, List.set_cons_succ, List.set_cons_zero]
    go_wp2
    exact post_cell3 (i := 2) (i2 := 3) rfl rfl rfl rfl rfl hst rfl rfl (fits_sl (sl A1 d c1) rfl rfl) (fits_sl (sl A2 u c2) rfl rfl) ⟨d, u, true, A1, c1, A2, c2, .inl ⟨rfl, HP.out⟩, hl1, hl2, rfl, hst.pick [0, 1] (by decide)⟩
  · have hp := pathOf_none hno
    have HP := Lib.hid hp
    clear hp hno
    refine wp_region_sched (.q 0 (.q 1 (.q 2 (.s 3 (.s 4 (.q 5 .nil)))))) (fun w1 => St w w1 No [Res.var g6 55 [nilS], Res.var g7 55 [nilS]]) (by kernel_rfl) (by kernel_rfl) (by kernel_rfl) (by decide) (fun d v c a w h => by cases d <;> exact h) ?_
    have hst := hst.drew
    have hs2 := hst.pick [0, 1] (by decide)
    refine q_load (v := nilS) rfl rfl rfl rfl hs2 (fits_sl _ rfl rfl) (fun w1 h => h.field_cells (i := 0) (k := 0) rfl rfl (by simp [szs])) ?_; simp only [Act.put, List.setIfInBounds_toArray, List.set_cons_succ, List.set_cons_zero]
    refine q_load (v := nilS) rfl rfl rfl rfl hs2 (fits_sl _ rfl rfl) (fun w1 h => h.field_cells (i := 1) (k := 0) rfl rfl (by simp [szs])) ?_; simp only [Act.put, List.setIfInBounds_toArray, List.set_cons_succ, List.set_cons_zero]
    refine q_move rfl rfl rfl rfl hs2 ?_; simp only [Act.put, List.setIfInBounds_toArray, List.set_cons_succ, List.set_cons_zero]
    clear hs2
    refine o_store (i := 0) (k := 0) rfl rfl rfl rfl rfl (.sched rfl rfl) hst (fits_sl nilS rfl rfl) (ok1_slice _ _ _) ?_ ?_ ?_
    (focus (simp [szs]; done))
    (focus (simp [szs]; done))
    intro w3 hst3
    clear hst
    simp only [List.set_cons_succ, List.set_cons_zero] at hst3
    refine ⟨hst3.pick [0, 1] (by decide), ?_⟩
    try simp only [Act.put, List.setIfInBounds_toArray, List.set_cons_succ, List.set_cons_zero]
    refine o_store (i := 1) (k := 0) rfl rfl rfl rfl rfl (.sched rfl rfl) hst3 (fits_sl nilS rfl rfl) (ok1_slice _ _ _) ?_ ?_ ?_
    (focus (simp [szs]; done))
    (focus (simp [szs]; done))
    intro w4 hst
    clear hst3
    simp only [List.set_cons_succ, List.set_cons_zero] at hst
    refine ⟨hst.pick [0, 1] (by decide), ?_⟩
    try simp only [Act.put, List.setIfInBounds_toArray, List.set_cons_succ, List.set_cons_zero]
    refine q_assign rfl rfl rfl rfl (hst.pick [0, 1] (by decide)) ?_; simp only [Act.put, List.setIfInBounds_toArray, List.set_cons_succ, List.set_cons_zero]
    refine sched_nil ?_
    try simp only [Act.put, List.setIfInBounds_toArray, List.set_cons_succ, List.set_cons_zero]
    go_wp2
    refine post_cell3 (i := 0) (i2 := 1) rfl rfl rfl rfl rfl hst rfl rfl (fits_sl nilS rfl rfl) (fits_sl nilS rfl rfl) ⟨[], [], false, none, 0, none, 0, .inr ⟨rfl, HP.out, rfl, rfl⟩, by simp, by simp, rfl, ?_⟩
    rw [rowH_nil]
    exact ((hst.nilrow 24 32).nilrow 24 32).pick [0, 1] (by decide)
end Go.Proofs.YtehhnfpfefccaaaGreat
set_option linter.unusedVariables false
set_option linter.unusedSimpArgs false
namespace Go.Proofs.YtehhnfpfefccaaaGreat
open Go Go.RowKit HL BigFrame
theorem leafE_eq (i p : Hash) (h m : Int) : mkS [hval i, hval p, .int .i64 h, .int .i64 m] = leafE ⟨i, p, h, m⟩ := by unfold leafE leafV; rfl
theorem leaf_calls (n p h : Int) (w : World) : Calls Tryz.prog 4 #[.int .i64 n, .int .i64 p, .int .i64 h] w fun e w' => e = .returned (leafE ⟨idH n, idH p, h, 2⟩) ∧ St w w' No [] := by
  have hst := St.start w No
  go_enter Tryz.func4, Tryz.ntmps4
  go_wp2_with (first
    | (refine o_alloc (L := []) ty27 rfl (.list rfl) hst ?_; clear hst; intro w1 g6 hst; simp only [Act.put, List.setIfInBounds_toArray, List.set_cons_succ, List.set_cons_zero])
    | (refine o_call (vs := [.int .i64 n]) Tryz.func6 rfl rfl rfl rfl rfl (.list rfl) (id_calls n _) (by simp) ?_; rintro e w2 ⟨rfl, h3⟩; replace hst := hst.call h3; clear h3; simp only [List.nil_append] at hst; simp only [Act.put, List.setIfInBounds_toArray, List.set_cons_succ, List.set_cons_zero])
    | (refine o_call (vs := [.int .i64 p]) Tryz.func6 rfl rfl rfl rfl rfl (.list rfl) (id_calls p _) (by simp) ?_; rintro e w2 ⟨rfl, h3⟩; replace hst := hst.call h3; clear h3; simp only [List.nil_append] at hst; simp only [Act.put, List.setIfInBounds_toArray, List.set_cons_succ, List.set_cons_zero])
    | ((refine o_buildS [(0, hval (idH n)), (1, hval (idH p)), (2, .int .i64 h), (3, .int .i64 2)] ty27 pl27 rfl (.list rfl) rfl (by simp [partsFit, szs]) rfl ?_; simp only [applyParts, List.set_cons_succ, List.set_cons_zero]; simp only [Act.put, List.setIfInBounds_toArray, List.set_cons_succ, List.set_cons_zero]); rw [leafE_eq])
    | (refine o_store (i := 0) (k := 0) rfl rfl rfl rfl rfl (.list rfl) hst (fits_leaf ⟨idH n, idH p, h, 2⟩) (ok1_leafE _) ?_ ?_ ?_; (focus (simp [szs]; done)); (focus (simp [szs]; done)); clear hst; intro w1 hst; simp only [List.set_cons_succ, List.set_cons_zero] at hst; simp only [Act.put, List.setIfInBounds_toArray, List.set_cons_succ, List.set_cons_zero]))
  exact post_cell (i := 0) rfl rfl rfl hst rfl (fits_leaf _) (flat_single _) ⟨rfl, hst.drop 0⟩
def exL : List LeafP := [⟨idH 5, idH 0, 1, 2⟩, ⟨idH 3, idH 0, 1, 2⟩, ⟨idH 7, idH 5, 2, 2⟩, ⟨idH 6, idH 3, 2, 2⟩]
def rowL (A : Option Addr) (l : List LeafP) (c : Nat) : Res := Res.row A l.length c 27 66 (flat (l.map leafE))
theorem example_calls (w : World) : Calls Tryz.prog 7 #[] w fun e w' => ∃ A, e = .returned (.slice A 4 4) ∧ St w w' No [rowL A exL 4] := by
  have hst := St.start w No
  go_enter Tryz.func7, Tryz.ntmps7
  go_wp2_with (first
    | (refine o_call (vs := [.int .i64 5, .int .i64 0, .int .i64 1]) Tryz.func4 rfl rfl rfl rfl rfl (.list rfl) (leaf_calls 5 0 1 _) (by simp) ?_; rintro e w2 ⟨rfl, h3⟩; replace hst := hst.call h3; clear h3; simp only [List.nil_append] at hst; simp only [Act.put, List.setIfInBounds_toArray, List.set_cons_succ, List.set_cons_zero])
    | (refine o_call (vs := [.int .i64 3, .int .i64 0, .int .i64 1]) Tryz.func4 rfl rfl rfl rfl rfl (.list rfl) (leaf_calls 3 0 1 _) (by simp) ?_; rintro e w2 ⟨rfl, h3⟩; replace hst := hst.call h3; clear h3; simp only [List.nil_append] at hst; simp only [Act.put, List.setIfInBounds_toArray, List.set_cons_succ, List.set_cons_zero])
    | (refine o_call (vs := [.int .i64 7, .int .i64 5, .int .i64 2]) Tryz.func4 rfl rfl rfl rfl rfl (.list rfl) (leaf_calls 7 5 2 _) (by simp) ?_; rintro e w2 ⟨rfl, h3⟩; replace hst := hst.call h3; clear h3; simp only [List.nil_append] at hst; simp only [Act.put, List.setIfInBounds_toArray, List.set_cons_succ, List.set_cons_zero])
    | (refine o_call (vs := [.int .i64 6, .int .i64 3, .int .i64 2]) Tryz.func4 rfl rfl rfl rfl rfl (.list rfl) (leaf_calls 6 3 2 _) (by simp) ?_; rintro e w2 ⟨rfl, h3⟩; replace hst := hst.call h3; clear h3; simp only [List.nil_append] at hst; simp only [Act.put, List.setIfInBounds_toArray, List.set_cons_succ, List.set_cons_zero])
    | (refine o_buildSlice (vs := exL.map leafE) Tryz.underlying22 ty27 (by simp [szs]) rfl (.list rfl) hst rfl rfl (by intro v hv; exact leaves_sz exL v hv) (by simp [exL]) (by omega) ?_; clear hst; intro B w1 hst; simp only [Act.put, List.setIfInBounds_toArray, List.set_cons_succ, List.set_cons_zero]))
  go_ret
  exact ⟨_, rfl, hst⟩
theorem ex_new : NewOk (idH 0) 0 exL := by
  refine ⟨by omega, by omega, by decide, by unfold Apart; decide +kernel, by decide +kernel⟩
theorem ex_lev : lev exL (idH 0) 0 1 = [idH 5, idH 3] ∧ lev exL (idH 0) 0 2 = [idH 7, idH 6] ∧ lev exL (idH 0) 0 3 = [] := by decide +kernel
theorem ex_path : pathOf exL (idH 0) 0 (idH 7) (idH 6) = some ([idH 7, idH 5], [idH 3, idH 6]) := by decide +kernel
theorem ex_best {n : Nat} {m : Hash} {rest : List Hash} (h1 : lev exL (idH 0) 0 n = m :: rest) (h2 : lev exL (idH 0) 0 (n + 1) = []) : n = 2 ∧ hmins m rest = idH 6 := by
  obtain ⟨e1, e2, e3⟩ := ex_lev
  have gen : ∀ k, lev exL (idH 0) 0 (k + 3) = [] := fun k => by
    induction k with
    | zero => exact e3
    | succ k ih => exact lev_nil ih
  match n, h1, h2 with
  | 0, _, h2 => rw [e1] at h2; cases h2
  | 1, _, h2 => rw [e2] at h2; cases h2
  | 2, h1, _ =>
    rw [e2] at h1
    injection h1 with h3 h4
    subst h3 h4
    exact ⟨rfl, by decide +kernel⟩
  | k + 3, h1, _ => rw [gen k] at h1; cases h1
end Go.Proofs.YtehhnfpfefccaaaGreat
set_option linter.unusedVariables false
set_option linter.unusedSimpArgs false
namespace Go.Proofs.YtehhnfpfefccaaaGreat
open Go Go.RowKit HL BigFrame
theorem ex_apart : Apart exL := ex_new.2.2.2.1
theorem ex_high : ∀ x ∈ exL, x.height ≤ 9223372036854775807 := by decide +kernel
theorem exnew_calls (A : Option Addr) (w : World) (hA : RdS w A (flat (exL.map leafE))) : Calls Tryz.prog 8 #[hval (idH 0), .int .i64 0, .slice A 4 4] w fun e w' => ∃ g gl gk xs, KidsOf xs exL ∧ e = .returned (.tuple #[.pointer (some ⟨g, 0, none⟩), .int .i64 0]) ∧ St w w' No (treeL g gl gk xs (idH 0) 0 exL) := by
  have h := new_calls (idH 0) 0 A exL 4 w hA (by decide)
  refine Calls.mono (show Calls Tryz.prog 8 #[hval (idH 0), .int .i64 0, .slice A 4 4] w _ from h) ?_
  rintro e w2 (⟨hno, _, _⟩ | ⟨_, h9⟩)
  · exact absurd ex_new hno
  · exact h9
theorem exbest_calls (g gl gK : Nat) (xs : List (Hash × KV × Nat)) (w : World) (ht : ∀ r ∈ treeL g gl gK xs (idH 0) 0 exL, r.holds w) (hk : KidsOf xs exL) : Calls Tryz.prog 14 #[.pointer (some ⟨g, 0, none⟩)] w fun e w' => e = .returned (.tuple #[hval (idH 6), .int .i64 2]) ∧ St w w' No [] := by
  refine (best_calls g gl gK xs (idH 0) 0 exL w ht hk ex_apart (by omega) (by omega) (by decide)).mono ?_
  rintro e w2 ⟨h1, n, m, rest, h2, h3, rfl⟩
  obtain ⟨rfl, hm⟩ := ex_best h2 h3
  rw [hm]
  exact ⟨rfl, h1⟩
theorem expath_calls (g gl gK : Nat) (xs : List (Hash × KV × Nat)) (w : World) (ht : ∀ r ∈ treeL g gl gK xs (idH 0) 0 exL, r.holds w) : Calls Tryz.prog 15 #[.pointer (some ⟨g, 0, none⟩), hval (idH 7), hval (idH 6)] w fun e w' => ∃ A1 c1 A2 c2, e = .returned (.tuple #[.slice A1 2 c1, .slice A2 2 c2, .bool true]) ∧ St w w' No [rowH A1 [idH 7, idH 5] c1, rowH A2 [idH 3, idH 6] c2] := by
  refine (path_calls g gl gK xs (idH 0) 0 exL (idH 7) (idH 6) w ht ex_high (by omega) (by omega) (by decide)).mono ?_
  rintro e w2 ⟨d, u, ok, A1, c1, A2, c2, hp, _, _, rfl, h1⟩
  rw [ex_path] at hp
  rcases hp with ⟨rfl, hp⟩ | ⟨_, hp, _⟩
  · injection hp with hp
    injection hp with hp1 hp2
    subst hp1 hp2
    exact ⟨A1, c1, A2, c2, rfl, h1⟩
  · cases hp
theorem same2_calls (A B : Option Addr) (a b : Hash) (c d : Nat) (w : World) (hA : RdS w A (flat ([a, b].map hval))) (hB : RdS w B (flat ([a, b].map hval))) : Calls Tryz.prog 16 #[.slice A 2 c, .slice B 2 d] w fun e w' => e = .returned (.bool true) ∧ St w w' No [] := by
  refine Calls.mono (show Calls Tryz.prog 16 #[.slice A 2 c, .slice B 2 d] w _ from sameHashes_calls A B [a, b] [a, b] c d w hA hB (by simp) (by simp)) ?_
  rintro e w2 ⟨h1, h2⟩
  exact ⟨by simpa using h1, h2⟩
set_option maxRecDepth 100000 in
set_option maxHeartbeats 4000000 in
theorem awake_calls (w : World) : Calls Tryz.prog 9 #[] w fun e w' => e = .returned (.bool true) ∧ St w w' No [] := by
  have hst := St.start w No
  go_enter Tryz.func9, Tryz.ntmps9
  go_wp2_with (first
    | (refine o_call (vs := [.int .i64 0]) Tryz.func6 rfl rfl rfl rfl rfl (.list rfl) (id_calls 0 _) (by simp) ?_; rintro e w2 ⟨rfl, h3⟩; replace hst := hst.call h3; clear h3; simp only [List.nil_append] at hst; simp only [Act.put, List.setIfInBounds_toArray, List.set_cons_succ, List.set_cons_zero])
    | (refine o_call (vs := [.int .i64 7]) Tryz.func6 rfl rfl rfl rfl rfl (.list rfl) (id_calls 7 _) (by simp) ?_; rintro e w2 ⟨rfl, h3⟩; replace hst := hst.call h3; clear h3; simp only [List.nil_append] at hst; simp only [Act.put, List.setIfInBounds_toArray, List.set_cons_succ, List.set_cons_zero])
    | (refine o_call (vs := [.int .i64 6]) Tryz.func6 rfl rfl rfl rfl rfl (.list rfl) (id_calls 6 _) (by simp) ?_; rintro e w2 ⟨rfl, h3⟩; replace hst := hst.call h3; clear h3; simp only [List.nil_append] at hst; simp only [Act.put, List.setIfInBounds_toArray, List.set_cons_succ, List.set_cons_zero])
    | (refine o_call (vs := []) Tryz.func7 rfl rfl rfl rfl rfl (.list rfl) (example_calls _) (by simp) ?_; rintro e w2 ⟨A, rfl, h3⟩; replace hst := hst.call h3; clear h3; simp only [List.cons_append, List.nil_append] at hst; simp only [Act.put, List.setIfInBounds_toArray, List.set_cons_succ, List.set_cons_zero])
    | (refine o_call (vs := [hval (idH 0), .int .i64 0, .slice A 4 4]) Tryz.func8 rfl rfl rfl rfl rfl (.list rfl) (exnew_calls A _ (hst.row_rd (i := 0) rfl)) (by simp) ?_; rintro e w2 ⟨g, gl, gK, xs, hks, rfl, h3⟩; replace hst := hst.call h3; clear h3; simp only [Act.put, List.setIfInBounds_toArray, List.set_cons_succ, List.set_cons_zero])
    | (refine o_call (vs := [.pointer (some ⟨g, 0, none⟩)]) Tryz.func14 rfl rfl rfl rfl rfl (.list rfl) (exbest_calls g gl gK xs _ (fun r hr => hst.res r (List.mem_append_left _ hr)) hks) (by simp) ?_; rintro e w2 ⟨rfl, h3⟩; replace hst := hst.call h3; clear h3; simp only [List.nil_append] at hst; simp only [Act.put, List.setIfInBounds_toArray, List.set_cons_succ, List.set_cons_zero])
    | (refine o_alloc ty24 rfl (.list rfl) hst ?_; clear hst; intro w1 g3 hst; simp only [Act.put, List.setIfInBounds_toArray, List.set_cons_succ, List.set_cons_zero])
    | (refine o_store (i := 0) (k := 0) rfl rfl rfl rfl rfl (.list rfl) hst (fits_hash _) (ok1_hval _) ?_ ?_ ?_; (focus (simp [szs]; done)); (focus (simp [szs]; done)); clear hst; intro w1 hst; simp only [List.set_cons_succ, List.set_cons_zero] at hst; simp only [Act.put, List.setIfInBounds_toArray, List.set_cons_succ, List.set_cons_zero])
    | (refine o_call (vs := [.pointer (some ⟨g, 0, none⟩), hval (idH 7), hval (idH 6)]) Tryz.func15 rfl rfl rfl rfl rfl (.list rfl) (expath_calls g gl gK xs _ (fun r hr => hst.res r (List.mem_cons_of_mem _ (List.mem_append_left _ hr)))) (by simp) ?_; rintro e w2 ⟨A1, c1, A2, c2, rfl, h3⟩; replace hst := hst.call h3; clear h3; simp only [List.cons_append, List.nil_append] at hst; simp only [Act.put, List.setIfInBounds_toArray, List.set_cons_succ, List.set_cons_zero]))
  replace hst : St w w2 No [rowH A1 [idH 7, idH 5] c1, rowH A2 [idH 3, idH 6] c2, Res.var g3 24 [hval (idH 6)]] := hst.sub (.cons_cons _ (.cons_cons _ (.cons_cons _ (List.nil_sublist _))))
  refine wp_region_sched (.q 0 (.q 1 (.q 2 (.q 3 (.s 4 (.q 5 (.q 6 (.q 7 (.q 8 (.q 9 (.q 10 (.q 11 (.q 12 (.q 13 (.q 14 (.q 15 (.s 16 (.s 17 (.s 18 (.s 19 (.q 20 (.q 21 (.q 22 (.s 23 (.s 24 (.s 25 (.s 26 (.q 27 (.q 28 .nil))))))))))))))))))))))))))))) (fun w1 => St w w1 No [rowH A1 [idH 7, idH 5] c1, rowH A2 [idH 3, idH 6] c2, Res.var g3 24 [hval (idH 6)]]) (by kernel_rfl) (by kernel_rfl) (by kernel_rfl) (by decide) (fun d v c a w h => by cases d <;> exact h) ?_
  have hst := hst.drew
  iterate 3 (refine sched_q rfl rfl rfl hst (fun K hK => ?_); go_big_quiet_op; first | refine hK _ ?_ | refine ⟨_, fun _ _ => rfl, hK _ ?_⟩; clear hK K)
  refine q_load (v := hval (idH 6)) rfl rfl rfl rfl hst (fits_hash _) (fun w1 h => h.field_cells (i := 2) (k := 0) rfl rfl (by simp [szs])) ?_; simp only [Act.put, List.setIfInBounds_toArray, List.set_cons_succ, List.set_cons_zero]
  refine o_call (vs := [.int .i64 6]) Tryz.func6 rfl rfl rfl rfl rfl (.sched rfl rfl) (id_calls 6 _) (by simp) ?_
  rintro e w2 ⟨rfl, h3⟩
  replace hst := hst.call h3
  clear h3
  simp only [List.nil_append] at hst
  refine ⟨hst, ?_⟩
  try simp only [Act.put, List.setIfInBounds_toArray, List.set_cons_succ, List.set_cons_zero]
  refine q_eq ek24.eq (by omega) isAgg_hval eg24 rfl rfl rfl rfl rfl hst ?_
  try simp only [Act.put, List.setIfInBounds_toArray, List.set_cons_succ, List.set_cons_zero]
  simp only [decide_true]
  iterate 10 (refine sched_q rfl rfl rfl hst (fun K hK => ?_); go_big_quiet_op; first | refine hK _ ?_ | refine ⟨_, fun _ _ => rfl, hK _ ?_⟩; clear hK K)
  refine o_call (vs := [.int .i64 7]) Tryz.func6 rfl rfl rfl rfl rfl (.sched rfl rfl) (id_calls 7 _) (by simp) ?_
  rintro e w2 ⟨rfl, h3⟩
  replace hst := hst.call h3
  clear h3
  simp only [List.nil_append] at hst
  refine ⟨hst, ?_⟩
  try simp only [Act.put, List.setIfInBounds_toArray, List.set_cons_succ, List.set_cons_zero]
  refine o_call (vs := [.int .i64 5]) Tryz.func6 rfl rfl rfl rfl rfl (.sched rfl rfl) (id_calls 5 _) (by simp) ?_
  rintro e w2 ⟨rfl, h3⟩
  replace hst := hst.call h3
  clear h3
  simp only [List.nil_append] at hst
  refine ⟨hst, ?_⟩
  try simp only [Act.put, List.setIfInBounds_toArray, List.set_cons_succ, List.set_cons_zero]
  refine o_buildSlice (vs := [hval (idH 7), hval (idH 5)]) Tryz.underlying55 ty24 (size_hval hz) rfl (.sched rfl rfl) hst rfl rfl (by simp) (by simp) (by omega) ?_
  clear hst
  intro B w1 hst
  refine ⟨hst.drop 0, ?_⟩
  try simp only [Act.put, List.setIfInBounds_toArray, List.set_cons_succ, List.set_cons_zero]
  refine o_call (vs := [.slice A1 2 c1, .slice B 2 2]) Tryz.func16 rfl rfl rfl rfl rfl (.sched rfl rfl) (same2_calls A1 B (idH 7) (idH 5) c1 2 _ (hst.row_rd (i := 1) rfl) (hst.row_rd (i := 0) rfl)) (by simp) ?_
  rintro e w2 ⟨rfl, h3⟩
  replace hst := (hst.call h3).drop 0
  clear h3
  simp only [List.nil_append, List.eraseIdx_cons_zero] at hst
  refine ⟨hst, ?_⟩
  try simp only [Act.put, List.setIfInBounds_toArray, List.set_cons_succ, List.set_cons_zero]
  iterate 3 (refine sched_q rfl rfl rfl hst (fun K hK => ?_); go_big_quiet_op; first | refine hK _ ?_ | refine ⟨_, fun _ _ => rfl, hK _ ?_⟩; clear hK K)
  refine o_call (vs := [.int .i64 3]) Tryz.func6 rfl rfl rfl rfl rfl (.sched rfl rfl) (id_calls 3 _) (by simp) ?_
  rintro e w2 ⟨rfl, h3⟩
  replace hst := hst.call h3
  clear h3
  simp only [List.nil_append] at hst
  refine ⟨hst, ?_⟩
  try simp only [Act.put, List.setIfInBounds_toArray, List.set_cons_succ, List.set_cons_zero]
  refine o_call (vs := [.int .i64 6]) Tryz.func6 rfl rfl rfl rfl rfl (.sched rfl rfl) (id_calls 6 _) (by simp) ?_
  rintro e w2 ⟨rfl, h3⟩
  replace hst := hst.call h3
  clear h3
  simp only [List.nil_append] at hst
  refine ⟨hst, ?_⟩
  try simp only [Act.put, List.setIfInBounds_toArray, List.set_cons_succ, List.set_cons_zero]
  refine o_buildSlice (vs := [hval (idH 3), hval (idH 6)]) Tryz.underlying55 ty24 (size_hval hz) rfl (.sched rfl rfl) hst rfl rfl (by simp) (by simp) (by omega) ?_
  clear hst
  intro B w1 hst
  refine ⟨hst.drop 0, ?_⟩
  try simp only [Act.put, List.setIfInBounds_toArray, List.set_cons_succ, List.set_cons_zero]
  refine o_call (vs := [.slice A2 2 c2, .slice B 2 2]) Tryz.func16 rfl rfl rfl rfl rfl (.sched rfl rfl) (same2_calls A2 B (idH 3) (idH 6) c2 2 _ (hst.row_rd (i := 2) rfl) (hst.row_rd (i := 0) rfl)) (by simp) ?_
  rintro e w2 ⟨rfl, h3⟩
  replace hst := (hst.call h3).drop 0
  clear h3
  simp only [List.nil_append, List.eraseIdx_cons_zero] at hst
  refine ⟨hst, ?_⟩
  try simp only [Act.put, List.setIfInBounds_toArray, List.set_cons_succ, List.set_cons_zero]
  (refine sched_q rfl rfl rfl hst (fun K hK => ?_); go_big_quiet_op; first | refine hK _ ?_ | refine ⟨_, fun _ _ => rfl, hK _ ?_⟩; clear hK K)
  refine q_assign rfl rfl rfl rfl hst ?_; simp only [Act.put, List.setIfInBounds_toArray, List.set_cons_succ, List.set_cons_zero]
  refine sched_nil ?_
  try simp only [Act.put, List.setIfInBounds_toArray, List.set_cons_succ, List.set_cons_zero]
  go_wp2
  go_ret
  exact ⟨rfl, hst.sub (by simp)⟩
end Go.Proofs.YtehhnfpfefccaaaGreat
