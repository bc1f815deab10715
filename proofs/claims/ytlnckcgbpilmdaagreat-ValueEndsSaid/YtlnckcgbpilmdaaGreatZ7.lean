/- Lemmas and walks: B2, C1, C2, C3, C4, C5, C6, C7, D1. -/
import Derived.Test.YtlnckcgbpilmdaaGreatZ6
/- Bundles that are lent, and kept. -/

set_option linter.unusedVariables false
set_option linter.unusedSimpArgs false
set_option maxRecDepth 100000
namespace Go.Proofs.YtlnckcgbpilmdaaGreat
open Go Go.RowKit HL
abbrev lentL (l : List AssetP) : List AssetP := l ++ mkL mkAs 1 12
def lentA (v : ValueM) : Res := Res.rows v.A v.c 57 assetEn (lentL v.assets)
theorem lentValue_spec (v : ValueM) (hl : v.assets.length ≤ 1048576) : CSpec Tryz.prog 23 [.agg [.one (.i .i64 v.coin), .one (.sl 101 v.A v.assets.length v.c)]] [(101, Res.rd v.A assetEn v.assets)] [] fun o L => ∃ B d, v.assets.length + 12 ≤ d ∧ o = .ret (.s (.agg [.one (.i .i64 v.coin), .one (.sl 0 B v.assets.length d)])) ∧ L = [Res.rows B d 57 assetEn (lentL v.assets)] := by
  refine v_enter Tryz.func23 (h := fun w0 => ?_)
  refine v_code [] (hk := ?_)
  refine l_do d_box (fun g1 => ?_)
  refine l_do d_alloc (fun g2 => ?_)
  refine v_ops [] (hk := ?_)
  refine v_call 20250 [] (lentAssets_spec v.A v.assets v.c hl) Tryz.func10 (h := ?_)
  rintro _ _ (⟨B, d, hd, rfl, rfl⟩)
  refine v_ops [] (hk := ?_)
  refine k_ret [20250] (.s (.agg [.one (.i .i64 v.coin), .one (.sl 0 B v.assets.length d)])) (.cons (.cell inferInstance rfl rfl rfl rfl) .nil) (h := ?_)
  exact ⟨B, d, hd, rfl, rfl⟩
theorem keptValue_spec (x y : ValueM) (hl : x.assets.length ≤ 1048576) (hc : x.coin = y.coin) (ha : x.assets = y.assets) (hd : x.assets.length + 12 ≤ x.c) : CSpec Tryz.prog 33 [.agg [.one (.i .i64 x.coin), .one (.sl 101 x.A x.assets.length x.c)], .agg [.one (.i .i64 y.coin), .one (.sl 201 y.A y.assets.length y.c)]] [(101, Res.rd x.A assetEn (lentL x.assets)), (201, Res.rd y.A assetEn y.assets)] [] fun o L => o = .ret (vb true) ∧ L = [] := by
  obtain ⟨yc, yA, yd, ya⟩ := y
  simp only at hc ha
  subst hc; subst ha
  refine v_enter Tryz.func33 (h := fun w0 => ?_)
  refine v_code [] (hk := ?_)
  refine l_do d_box (fun g2 => ?_)
  refine l_do d_box (fun g3 => ?_)
  refine v_ops [] (hk := ?_)
  refine v_callD 20350 [] (sameValue_spec x ⟨x.coin, yA, yd, x.assets⟩ hl) Tryz.func15 (hB := ⟨⟨_, (Der.vw 101 rfl (view_pre (View.refl _))), rfl⟩, ⟨⟨_, (Der.vw 201), rfl⟩, trivial⟩⟩) (h := ?_)
  rintro _ _ (⟨rfl, rfl⟩)
  refine v_know 7 true rfl (decide_eq_true ⟨rfl, rfl⟩) ?_
  refine v_ops [] (hk := ?_)
  refine k_val 8 (vb true) rfl rfl ?_
  refine v_callD 20650 [] (keptAssets_spec x.A yA x.assets x.c yd hl hd) Tryz.func20 (hB := ⟨⟨_, (Der.vw 101), rfl⟩, ⟨⟨_, (Der.vw 201), rfl⟩, trivial⟩⟩) (h := ?_)
  rintro _ _ (⟨rfl, rfl⟩)
  refine v_know 13 true rfl rfl ?_
  refine v_know 8 true rfl rfl ?_
  refine v_ops [] (hk := ?_)
  refine v_ret rfl [] (.cons (.tmp rfl) .nil) (h := ?_)
  exact ⟨rfl, rfl⟩
theorem all_snoc {α : Type} {p : α → Prop} {l : List α} {x : α} (h : ∀ y ∈ l, p y) (hx : p x) : ∀ y ∈ l ++ [x], p y := fun y hy => by
  rcases List.mem_append.1 hy with hy | hy
  · exact h y hy
  · rw [List.mem_singleton.1 hy]; exact hx
theorem lentValues_spec (A : Option Addr) (l : List ValueM) (c : Nat) (hl : l.length ≤ 1000) (hs : ∀ v ∈ l, v.assets.length ≤ 1048576) : CSpec Tryz.prog 9 [.one (.sl 0 A l.length c)] [(0, rdValues A l)] [] fun o L => ∃ B d m, SameVs m l ∧ m.length = l.length ∧ (∀ v ∈ m, v.assets.length + 12 ≤ v.c) ∧ m.length + 12 ≤ d ∧ o = .ret (vsl 0 B m.length d) ∧ L = [Res.rows B d 26 valueEn (m ++ mkL mkV 1 12), Res.bag (m.map lentA)] := by
  refine v_enter Tryz.func9 (h := fun w0 => ?_)
  refine v_code [] (hk := ?_)
  refine l_do (d_room (m := l.length + 12) valueEn) (fun g10 => ?_)
  refine v_ops [] (hk := ?_)
  refine k_empty 900 ?_
  refine v_loop (fun m E H => ∃ (k : Nat) (mm : List ValueM) (rs : List Res) (A2 : Option Addr) (c2 : Nat), E = [(4, vn k), (3, vsl 10010 A2 mm.length c2)] ∧ H = [(10010, Res.rows A2 c2 26 valueEn mm), (900, Res.bag rs)] ∧ m = l.length - k ∧ k ≤ l.length ∧ (SameVs mm (l.take k)) ∧ (mm.length = k) ∧ (rs = mm.map lentA) ∧ (∀ v ∈ mm, v.assets.length + 12 ≤ v.c)) [0, 2, 6, 26, 27, 28, 29, 30, 31, 32, 33, 34, 35, 36, 37, 38] (l.length) ([(4, vn 0), (3, vsl 10010 ((some ⟨g10, 0, none⟩)) ([]).length ((l.length + 12)))]) ([(10010, Res.rows ((some ⟨g10, 0, none⟩)) ((l.length + 12)) 26 valueEn ([])), (900, Res.bag ([]))]) (h0 := ⟨0, [], [], (some ⟨g10, 0, none⟩), (l.length + 12), rfl, rfl, by omega, by omega, rfl, rfl, rfl, by simp⟩) (hr := ?_)
  rintro _ _ _ ⟨k, mm, rs, A2, c2, rfl, rfl, hmk, hk, hik0, hik1, hik2, hik3⟩
  refine v_code [] (hk := ?_)
  first | refine c_ifd rfl (fun h14 => ?_) (fun h14 => ?_) | refine c_ifn rfl (fun h14 => ?_) (fun h14 => ?_) | refine c_if rfl (fun h14 => ?_) (fun h14 => ?_)
  · have hv := hs _ (getD_mem (d := value0) h14)
    refine v_code [] (hk := ?_)
    refine v_call 21050 [] (lentValue_spec (l.getD k value0) hv) Tryz.func23 (h := ?_)
    rintro _ _ (⟨B, d, hd, rfl, rfl⟩)
    refine l_do d_alloc (fun g5 => ?_)
    refine v_ops [] (hk := ?_)
    refine l_do (d_bslice [(⟨(l.getD k value0).coin, B, d, (l.getD k value0).assets⟩ : ValueM)]) (fun B24 => ?_)
    refine l_do d_append (fun p25 => ?_)
    refine v_ops [] (hk := ?_)
    refine k_push 900 21050 rfl rfl ?_
    refine v_again (l.length - (k + 1)) ⟨k + 1, mm ++ [⟨(l.getD k value0).coin, B, d, (l.getD k value0).assets⟩], rs ++ [lentA ⟨(l.getD k value0).coin, B, d, (l.getD k value0).assets⟩], p25.1, p25.2, rfl, rfl, by omega, by omega, hik0.snoc (d := value0) h14 rfl rfl, by simp [hik1], by rw [hik2, List.map_append]; rfl, all_snoc hik3 hd⟩
  · rw [take_all' h14] at hik0
    subst hik2
    refine v_code [] (hk := ?_)
    refine v_loop (fun m E H => ∃ (k : Nat) (A4 : Option Addr) (c4 : Nat) (out : List ValueM), E = [(6, vn k), (3, vsl 10010 A4 out.length c4)] ∧ H = [(10010, Res.rows A4 c4 26 valueEn out)] ∧ m = 12 - k ∧ k ≤ 12 ∧ (out = mm ++ mkL mkV 1 k)) [0, 2, 35, 36, 37, 38] (12) ([(6, vn 0), (3, vsl 10010 (A2) (mm).length (c2))]) ([(10010, Res.rows (A2) (c2) 26 valueEn (mm))]) (h0 := ⟨0, A2, c2, mm, rfl, rfl, by omega, by omega, by rw [show mkL mkV 1 0 = [] from rfl, List.append_nil]⟩) (hr := ?_)
    rintro _ _ _ ⟨k, A4, c4, out, rfl, rfl, hmk, hk, hik0⟩
    refine v_code [] (hk := ?_)
    first | refine c_ifd rfl (fun h27 => ?_) (fun h27 => ?_) | refine c_ifn rfl (fun h27 => ?_) (fun h27 => ?_) | refine c_if rfl (fun h27 => ?_) (fun h27 => ?_)
    · have hol : out.length = mm.length + k := by rw [hik0, List.length_append, mkL_len]
      refine v_code [] (hk := ?_)
      refine v_call 21600 [] (markValue_spec 1 k (by omega) (by omega)) Tryz.func49 (h := ?_)
      rintro _ _ (⟨rfl, rfl⟩)
      refine l_do (d_bslice [mkV 1 k]) (fun B33 => ?_)
      refine l_do d_append (fun p34 => ?_)
      refine v_ops [] (hk := ?_)
      refine v_again (12 - (k + 1)) ⟨k + 1, p34.1, p34.2, out ++ [mkV 1 k], rfl, rfl, by omega, by omega, by rw [mkL_succ, ← List.append_assoc, hik0]⟩
    · obtain rfl : k = 12 := by omega
      subst hik0
      refine k_fact (p := mm.length + 12 ≤ c4) (fun w hf => by have := rows_cap (hf 10010 _ rfl); rw [List.length_append, mkL_len] at this; exact this) (fun hcap => ?_)
      refine v_code [] (hk := ?_)
      have hml : mm.length = l.length := by omega
      refine k_ret [10010, 900] (vsl 0 A4 l.length c4) (.cons (.tmp rfl) .nil) (h := ?_)
      exact ⟨A4, c4, mm, hik0, hml, hik3, hcap, by rw [hml], rfl⟩
theorem der_none {B L : Hp} {v : ValueM} (h : v.A = none ∧ v.assets = []) : Der B L [] (Res.rd v.A assetEn v.assets) := by
  obtain ⟨h1, h2⟩ := h
  rw [h1, h2]
  exact Der.nl
theorem SameVs.len {l m : List ValueM} (h : SameVs l m) : l.length = m.length := by
  have := congrArg List.length h
  simpa using this
theorem SameVs.at {l m : List ValueM} (h : SameVs l m) {k : Nat} {d : ValueM} (hk : k < m.length) : (l.getD k d).coin = (m.getD k d).coin ∧ (l.getD k d).assets = (m.getD k d).assets := by
  have hl := h.len
  have h1 := congrArg (fun x => x[k]?) h
  simp only [List.getElem?_map, List.getElem?_eq_getElem hk, List.getElem?_eq_getElem (show k < l.length by omega), Option.map_some, Option.some.injEq, Prod.mk.injEq] at h1
  rw [gD hk, gD (by omega)]
  exact h1
theorem kv_der {B L : Hp} {S : List Nat} {u v : ValueM} (e : u = v) (h : Der B L S (Res.rd v.A assetEn (lentL v.assets))) : Der B L S (Res.rd u.A assetEn (lentL u.assets)) := by rw [e]; exact h
theorem kv_same {u v y : ValueM} (e : u = v) (h : CSpec Tryz.prog 33 [.agg [.one (.i .i64 v.coin), .one (.sl 101 v.A v.assets.length v.c)], .agg [.one (.i .i64 y.coin), .one (.sl 201 y.A y.assets.length y.c)]] [(101, Res.rd v.A assetEn (lentL v.assets)), (201, Res.rd y.A assetEn y.assets)] [] fun o L => o = .ret (vb true) ∧ L = []) : CSpec Tryz.prog 33 [.agg [.one (.i .i64 u.coin), .one (.sl 101 u.A u.assets.length u.c)], .agg [.one (.i .i64 y.coin), .one (.sl 201 y.A y.assets.length y.c)]] [(101, Res.rd u.A assetEn (lentL u.assets)), (201, Res.rd y.A assetEn y.assets)] [] fun o L => o = .ret (vb true) ∧ L = [] := by rw [e]; exact h
theorem mark_at {v : ValueM} {k i : Nat} (h : v = mkV k i) : v.A = none ∧ v.assets = [] := by rw [h]; exact ⟨rfl, rfl⟩
theorem mkV_at {k n : Nat} (h : n ≤ k) : (mkV 1 (k - n)).coin = (⟨mk1 1 ((k : Int) - (n : Int)), none, 0, []⟩ : ValueM).coin ∧ (mkV 1 (k - n)).assets = (⟨mk1 1 ((k : Int) - (n : Int)), none, 0, []⟩ : ValueM).assets := by
  unfold mkV
  rw [Int.ofNat_sub h]
  exact ⟨rfl, rfl⟩
theorem keptValues_spec (A B : Option Addr) (m l : List ValueM) (c d : Nat) (hl : l.length ≤ 1000) (hs : SameVs m l) (hz : ∀ v ∈ m, v.assets.length ≤ 1048576) (hcs : ∀ v ∈ m, v.assets.length + 12 ≤ v.c) (hc : m.length + 12 ≤ c) : CSpec Tryz.prog 19 [.one (.sl 0 A m.length c), .one (.sl 1 B l.length d)] [(0, Res.rd A valueEn (m ++ mkL mkV 1 12)), (60, Res.bag (m.map lentA)), (1, rdValues B l)] [] fun o L => o = .ret (vb true) ∧ L = [] := by
  have hml := hs.len
  have hlm : (m ++ mkL mkV 1 12).length = l.length + 12 := by rw [List.length_append, mkL_len, hml]
  have hlo : ∀ k, k < l.length → (m ++ mkL mkV 1 12).getD k value0 = m.getD k value0 ∧ m.getD k value0 ∈ m := fun k hk => ⟨kept_get (by omega), getD_mem (by omega)⟩
  have hhi : ∀ k, l.length ≤ k → k < l.length + 12 → (m ++ mkL mkV 1 12).getD k value0 = mkV 1 (k - l.length) := fun k h1 h2 => by rw [kept_get2 (by omega) (by omega), hml]
  have hzz : ∀ k, k < l.length + 12 → ((m ++ mkL mkV 1 12).getD k value0).assets.length ≤ 1048576 := fun k hk => by
    by_cases h : k < l.length
    · rw [(hlo k h).1]; exact hz _ (hlo k h).2
    · rw [hhi k (by omega) hk]; exact Nat.zero_le _
  refine v_enter Tryz.func19 (h := fun w0 => ?_)
  refine v_code [] (hk := ?_)
  first | refine c_ifd rfl (fun h11 => ?_) (fun h11 => ?_) | refine c_ifn rfl (fun h11 => ?_) (fun h11 => ?_) | refine c_if rfl (fun h11 => ?_) (fun h11 => ?_)
  · refine v_code [] (hk := ?_)
    refine v_ret rfl [] (.cons (.tmp rfl) .nil) (h := ?_)
    exact absurd hml h11
  · refine v_code [] (hk := ?_)
    refine v_loop (fun m E H => ∃ (k : Nat), E = [(6, vn k)] ∧ H = [] ∧ m = (l.length + 12) - k ∧ k ≤ (l.length + 12)) [1, 5] ((l.length + 12)) ([(6, vn 0)]) ([]) (h0 := ⟨0, rfl, rfl, by omega, by omega⟩) (hr := ?_)
    rintro _ _ _ ⟨k, rfl, rfl, hmk, hk⟩
    refine v_code [] (hk := ?_)
    first | refine c_ifd rfl (fun h20 => ?_) (fun h20 => ?_) | refine c_ifn rfl (fun h20 => ?_) (fun h20 => ?_) | refine c_if rfl (fun h20 => ?_) (fun h20 => ?_)
    · refine v_code [] (hk := ?_)
      refine v_draw (.q 0 (.q 1 (.q 2 (.q 3 (.q 4 (.q 5 (.q 6 (.q 7 (.q 8 (.q 9 (.q 10 (.q 11 (.q 12 (.s 13 (.q 14 (.q 15 (.q 16 (.q 17 (.q 18 (.q 19 (.q 20 (.q 21 (.q 22 (.q 23 (.q 24 (.q 25 (.q 26 (.q 27 (.q 28 (.q 29 (.s 30 (.s 31 (.q 32 (.q 33 (.q 34 .nil))))))))))))))))))))))))))))))))))) [10008, 10010, 10014, 10019, 10025, 21800, 21801, 21802, 21803, 10042, 10051, 22650, 22651, 22652, 22653, 22700, 22701, 22702, 22703] (hm := by kernel_rfl) (hs := by kernel_rfl) (hk := by kernel_rfl) (h := ?_)
      refine v_sch [] (hk := ?_)
      refine s_callGD rfl [] [31, 35] ⟨_, _, ⟨_, .inl ⟨rfl, rfl⟩⟩, ⟨_, _, ⟨_, .inl ⟨rfl, rfl⟩⟩, rfl, rfl⟩, rfl⟩ (fun hg => kv_same (hlo k (of_decide_eq_true hg)).1 (keptValue_spec (m.getD k value0) (l.getD k value0) (hz _ (hlo k (of_decide_eq_true hg)).2) (hs.at (d := value0) (of_decide_eq_true hg)).1 (hs.at (d := value0) (of_decide_eq_true hg)).2 (hcs _ (hlo k (of_decide_eq_true hg)).2))) Tryz.func33 (hB := fun hg => ⟨⟨_, (kv_der (hlo k (of_decide_eq_true hg)).1 (Der.bag 60 rfl (List.mem_map_of_mem (hlo k (of_decide_eq_true hg)).2) view_rows)), rfl⟩, ⟨⟨_, (Der.vw 1 rfl (view_rdn k 0 (of_decide_eq_true hg))), rfl⟩, trivial⟩⟩) (h := ?_)
      refine v_sch [] (hk := ?_)
      refine s_callG rfl [] [52] ⟨_, _, ⟨_, .inl ⟨rfl, rfl⟩⟩, rfl, rfl⟩ (fun hg => markValue_spec 1 ((k : Int) - (l.length : Int)) (by omega) (by omega)) Tryz.func49 (h := ?_)
      refine s_callGD rfl [] [48, 53] ⟨_, _, ⟨_, .inl ⟨rfl, rfl⟩⟩, ⟨_, _, ⟨_, .inl ⟨rfl, rfl⟩⟩, rfl, rfl⟩, rfl⟩ (fun hg => sameValue_spec ((m ++ mkL mkV 1 12).getD k value0) ⟨mk1 1 ((k : Int) - (l.length : Int)), none, 0, []⟩ (hzz k h20)) Tryz.func15 (hB := fun hg => ⟨⟨_, (der_none (mark_at (hhi k (by simpa using hg) h20))), rfl⟩, ⟨⟨_, Der.nl, rfl⟩, trivial⟩⟩) (h := ?_)
      refine v_sch [] (hk := ?_)
      first | refine c_ifd rfl (fun h57 => ?_) (fun h57 => ?_) | refine c_ifn rfl (fun h57 => ?_) (fun h57 => ?_) | refine c_if rfl (fun h57 => ?_) (fun h57 => ?_)
      · refine v_code [] (hk := ?_)
        refine v_ret rfl [] (.cons (.tmp rfl) .nil) (h := ?_)
        exfalso
        by_cases hkl : k < l.length
        · rw [decide_eq_true hkl, decide_eq_false (show ¬ l.length ≤ k by omega)] at h57
          simp at h57
        · rw [hhi k (by omega) h20, decide_eq_false hkl, decide_eq_true (mkV_at (by omega))] at h57
          simp at h57
      · refine v_code [] (hk := ?_)
        refine v_again ((l.length + 12) - (k + 1)) ⟨k + 1, rfl, rfl, by omega, by omega⟩
    · refine v_code [] (hk := ?_)
      refine v_ret rfl [] (.cons (.tmp rfl) .nil) (h := ?_)
      exact ⟨rfl, rfl⟩
end Go.Proofs.YtlnckcgbpilmdaaGreat
/- Lists that lie apart: their rows, marked and grown: plain. -/

set_option linter.unusedVariables false
set_option linter.unusedSimpArgs false
set_option maxRecDepth 100000
namespace Go.Proofs.YtlnckcgbpilmdaaGreat
open Go Go.RowKit HL
namespace HL
theorem mkL_set {α : Type} {m : Nat → Nat → α} {k i : Nat} {l : List α} (h : i < l.length) : (mkL m k i ++ l.drop i).set i (m k i) = mkL m k (i + 1) ++ l.drop (i + 1) := by
  have e : l.drop i = l[i] :: l.drop (i + 1) := (List.drop_eq_getElem_cons h)
  rw [e, List.set_append_right _ _ (by rw [mkL_len]; exact Nat.le_refl i), mkL_len, Nat.sub_self, List.set_cons_zero, mkL_succ, List.append_assoc]
  rfl
theorem mkL_pgetD {α : Type} {m : Nat → Nat → α} {k n i : Nat} {l : List α} {d : α} (hp : mkL m k n <+: l) (hi : i < n) : l.getD i d = m k i := by
  obtain ⟨u, rfl⟩ := hp
  rw [List.getD_eq_getElem?_getD, List.getElem?_append_left (by rw [mkL_len]; exact hi), mkL_at hi]
  rfl
theorem getD_some {α : Type} {l : List α} {k : Nat} {d : α} (h : k < l.length) : l[k]? = some (l.getD k d) := by
  rw [List.getD_eq_getElem?_getD, List.getElem?_eq_getElem h]
  rfl
end HL
namespace HL
section
variable {α : Type} (e : TypeId) (E : En α) (m : Nat → Nat → α)
def F1 (k j : Nat) (s : Hd α) : Res := Res.rows s.A s.c e E (if j < k then mkL m j s.l.length else s.l)
def F3 (gl : List (Hd α)) (j : Nat) (s : Hd α) : Res := Res.two e E s.A s.c (mkL m j s.l.length) (gl.getD j default).A (gl.getD j default).c (gl.getD j default).l
def F2 (gl : List (Hd α)) (k j : Nat) (s : Hd α) : Res := if j < k then F3 e E m gl j s else Res.rows s.A s.c e E (mkL m j s.l.length)
variable {e E m}
theorem F1_ne {k : Nat} : ∀ (j : Nat) (s : Hd α), j ≠ k → F1 e E m k j s = F1 e E m (k + 1) j s := fun j s h => by
  unfold F1
  by_cases h1 : j < k
  · rw [if_pos h1, if_pos (by omega)]
  · rw [if_neg h1, if_neg (by omega)]
theorem F2_ne {gl : List (Hd α)} {k : Nat} {x : Hd α} (hk : k < gl.length) : ∀ (j : Nat) (s : Hd α), j ≠ k → F2 e E m gl k j s = F2 e E m (gl.set k x) (k + 1) j s := fun j s h => by
  unfold F2 F3
  have hg : (gl.set k x).getD j default = gl.getD j default := by
    rw [List.getD_eq_getElem?_getD, List.getElem?_set_ne (fun e => h e.symm), ← List.getD_eq_getElem?_getD]
  rw [hg]
  by_cases h1 : j < k
  · rw [if_pos h1, if_pos (by omega)]
  · rw [if_neg h1, if_neg (by omega)]
theorem F3_ne {gl : List (Hd α)} {k : Nat} {x : Hd α} : ∀ (j : Nat) (s : Hd α), j ≠ k → F3 e E m gl j s = F3 e E m (gl.set k x) j s := fun j s h => by
  unfold F3
  have hg : (gl.set k x).getD j default = gl.getD j default := by
    rw [List.getD_eq_getElem?_getD, List.getElem?_set_ne (fun e => h e.symm), ← List.getD_eq_getElem?_getD]
  rw [hg]
theorem hdD_set {gl : List (Hd α)} {k : Nat} {x : Hd α} (hk : k < gl.length) : (gl.set k x).getD k default = x := by
  rw [List.getD_eq_getElem?_getD, List.getElem?_set_self hk]
  rfl
theorem hdD_ne {gl : List (Hd α)} {k j : Nat} {x : Hd α} (hk : j ≠ k) : (gl.set k x).getD j default = gl.getD j default := by
  rw [List.getD_eq_getElem?_getD, List.getElem?_set_ne (fun e => hk e.symm), ← List.getD_eq_getElem?_getD]
theorem map_F1 (ss : List (Hd α)) : ss.map (Hd.res e E) = ss.mapIdx (F1 e E m 0) := by
  apply List.ext_getElem?
  intro j
  rw [List.getElem?_map, List.getElem?_mapIdx]
  cases ss[j]? with
  | none => rfl
  | some s => simp [F1, Hd.res]
theorem F1_F2 {ss : List (Hd α)} {gl : List (Hd α)} {k : Nat} (hk : ss.length ≤ k) : ss.mapIdx (F1 e E m k) = ss.mapIdx (F2 e E m gl 0) := mapIdx_congr fun j s hj => by
  have := (List.getElem?_eq_some_iff.1 hj).1
  unfold F1 F2
  rw [if_pos (by omega), if_neg (by omega)]
theorem F2_F3 {ss : List (Hd α)} {gl : List (Hd α)} {k : Nat} (hk : ss.length ≤ k) : ss.mapIdx (F2 e E m gl k) = ss.mapIdx (F3 e E m gl) := mapIdx_congr fun j s hj => by
  have := (List.getElem?_eq_some_iff.1 hj).1
  unfold F2
  rw [if_pos (by omega)]
theorem view_F3a {ss gl : List (Hd α)} {k : Nat} {s : Hd α} (hs : ss[k]? = some s) : View (Res.bag (ss.mapIdx (F3 e E m gl))) (Res.rd s.A E (mkL m k s.l.length)) := bag_view (mapIdx_get hs rfl) view_two1
theorem view_F3b {ss gl : List (Hd α)} {k : Nat} {s t : Hd α} (hs : ss[k]? = some s) (ht : gl[k]? = some t) : View (Res.bag (ss.mapIdx (F3 e E m gl))) (Res.rd t.A E t.l) := bag_view (mapIdx_get hs rfl) (by
  have : gl.getD k default = t := by rw [List.getD_eq_getElem?_getD, ht]; rfl
  unfold F3
  rw [this]
  exact view_two2)
end
end HL
instance df_hd {α : Type} : Df (Hd α) default := ⟨⟩
instance zero_hd {α : Type} {i : Nat} : ZeroOf (hdEn α i) default (.one (.sl 0 none 0 0)) := ⟨rfl⟩
instance : ZeroOf assetEn asset0 (.agg [.hash hz, .one (.s ⟨#[]⟩), .one (.i .i64 0)]) := ⟨rfl⟩
instance : ZeroOf totalEn total0 (.agg [.hash hz, .one (.s ⟨#[]⟩), .one (.i .i64 0), .one (.i .u64 0)]) := ⟨rfl⟩
instance : ZeroOf valueEn value0 (.agg [.one (.i .i64 0), .one (.sl 0 none 0 0)]) := ⟨rfl⟩
instance inh_asset : Inhabited AssetP := ⟨asset0⟩
instance inh_total : Inhabited TotalP := ⟨total0⟩
instance inh_value : Inhabited ValueM := ⟨value0⟩
theorem flat_no {i n : Nat} {b : Bool} {P : Prop} (h : (decide (i < n) && !b) = true) (hb : i < n → b = true) : P := by
  rw [Bool.and_eq_true, decide_eq_true_iff] at h
  rw [hb h.1] at h
  exact absurd h.2 (by decide)
theorem same_mark {v : ValueM} {k i : Nat} (h : v = mkV k i) : v.coin = (⟨mk1 k i, none, 0, []⟩ : ValueM).coin ∧ v.assets = (⟨mk1 k i, none, 0, []⟩ : ValueM).assets := by
  rw [h]
  exact ⟨rfl, rfl⟩
end Go.Proofs.YtlnckcgbpilmdaaGreat
/- Lists that lie apart: assets. -/

set_option linter.unusedVariables false
set_option linter.unusedSimpArgs false
set_option maxRecDepth 100000
set_option maxHeartbeats 8000000
namespace Go.Proofs.YtlnckcgbpilmdaaGreat
open Go Go.RowKit HL
instance : ElT Tryz.prog 23 (hdEn AssetP 51) := ⟨⟩
theorem flatAssets_spec (A0 : Option Addr) (c0 : Nat) (ss : List (Hd AssetP)) (hm : ss.length ≤ 1000) (hln : ∀ s ∈ ss, s.l.length ≤ 1048576) :
    CSpec Tryz.prog 107 [.one (.sl 0 A0 ss.length c0)] [] [(0, Res.rows A0 c0 23 (hdEn AssetP 51) ss), (50, Res.bag (ss.map (Hd.res 57 assetEn)))] fun o L => o = .ret (vb true) ∧ L = [] := by
  refine v_enter Tryz.func107 (h := fun w0 => ?_)
  refine v_code [] (hk := ?_)
  refine k_res 50 (Res.bag (ss.mapIdx (F1 57 assetEn mkAs 0))) rfl (by show Res.bag _ = Res.bag _; rw [map_F1 (m := mkAs)]) ?_
  refine v_loop (fun m E H => ∃ (k : Nat), E = [(3, vn k)] ∧ H = [(50, Res.bag (ss.mapIdx (F1 57 assetEn mkAs k)))] ∧ m = ss.length - k ∧ k ≤ ss.length) [0, 2, 5, 6, 7, 8, 9, 10, 11, 12, 13, 14, 15, 40, 41, 42, 43, 44, 45, 46, 47, 48, 49, 50, 51, 52, 53, 54, 55, 56, 57, 58, 59, 60, 61, 62, 63, 64, 65, 66, 67, 68, 69, 70, 71, 72, 73, 74, 75, 76, 77, 78, 79, 80, 81, 82, 83, 84, 85, 86, 87, 88, 89, 90, 91, 92, 93, 94, 95, 96, 97, 98, 99, 100, 101, 102, 103, 104, 105, 106, 107, 108, 109, 110, 111, 112, 113, 114, 115, 116, 117, 118, 119, 120, 121, 122, 123, 124, 125, 126, 127, 128, 129, 130, 131, 132, 133, 134, 135, 136, 137, 138, 139, 140, 141, 142, 143, 144, 145, 146, 147, 148, 149, 150, 151, 152, 153, 154, 155, 156, 157, 158, 159, 160, 161, 162, 163, 164, 165, 166, 167, 168, 169, 170, 171, 172, 173, 174, 175, 176, 177, 178, 179, 180, 181, 182, 183, 184, 185, 186, 187, 188, 189, 190, 191, 192] (ss.length) ([(3, vn 0)]) ([(50, Res.bag (ss.mapIdx (F1 57 assetEn mkAs 0)))]) (h0 := ⟨0, rfl, rfl, by omega, by omega⟩) (hr := ?_)
  rintro _ _ _ ⟨k, rfl, rfl, hmk, hk⟩
  refine v_code [] (hk := ?_)
  first | refine c_ifd rfl (fun h19 => ?_) (fun h19 => ?_) | refine c_ifn rfl (fun h19 => ?_) (fun h19 => ?_) | refine c_if rfl (fun h19 => ?_) (fun h19 => ?_)
  · have hs := getD_some (d := default) h19
    have hsl := hln _ (getD_mem (d := default) h19)
    refine k_out 50 51 k (r := Res.rows (ss.getD k default).A (ss.getD k default).c 57 assetEn (ss.getD k default).l) (mapIdx_get hs (by unfold F1; rw [if_neg (Nat.lt_irrefl k)])) rfl ?_
    refine v_code [] (hk := ?_)
    refine v_loop (fun m E H => ∃ (i : Nat), E = [(4, vn i)] ∧ H = [(51, Res.rows (ss.getD k default).A (ss.getD k default).c 57 assetEn (mkL mkAs k i ++ (ss.getD k default).l.drop i))] ∧ m = (ss.getD k default).l.length - i ∧ i ≤ (ss.getD k default).l.length) [0, 2, 3, 5, 6, 7, 8, 9, 10, 11, 12, 13, 14, 15, 16, 17, 18, 19, 20, 21, 40, 41, 42, 43, 44, 45, 46, 47, 48, 49, 50, 51, 52, 53, 54, 55, 56, 57, 58, 59, 60, 61, 62, 63, 64, 65, 66, 67, 68, 69, 70, 71, 72, 73, 74, 75, 76, 77, 78, 79, 80, 81, 82, 83, 84, 85, 86, 87, 88, 89, 90, 91, 92, 93, 94, 95, 96, 97, 98, 99, 100, 101, 102, 103, 104, 105, 106, 107, 108, 109, 110, 111, 112, 113, 114, 115, 116, 117, 118, 119, 120, 121, 122, 123, 124, 125, 126, 127, 128, 129, 130, 131, 132, 133, 134, 135, 136, 137, 138, 139, 140, 141, 142, 143, 144, 145, 146, 147, 148, 149, 150, 151, 152, 153, 154, 155, 156, 157, 158, 159, 160, 161, 162, 163, 164, 165, 166, 167, 168, 169, 170, 171, 172, 173, 174, 175, 176, 177, 178, 179, 180, 181, 182, 183, 184, 185, 186, 187, 188, 189, 190, 191, 192] ((ss.getD k default).l.length) ([(4, vn 0)]) ([(51, Res.rows (ss.getD k default).A (ss.getD k default).c 57 assetEn (mkL mkAs k 0 ++ (ss.getD k default).l.drop 0))]) (h0 := ⟨0, rfl, rfl, by omega, by omega⟩) (hr := ?_)
    rintro _ _ _ ⟨i, rfl, rfl, hmi, hi⟩
    refine v_code [] (hk := ?_)
    first | refine c_ifd rfl (fun h28 => ?_) (fun h28 => ?_) | refine c_ifn rfl (fun h28 => ?_) (fun h28 => ?_) | refine c_if rfl (fun h28 => ?_) (fun h28 => ?_)
    · have hml : (ss.getD k default).l.length = (mkL mkAs k i ++ (ss.getD k default).l.drop i).length := by rw [List.length_append, mkL_len, List.length_drop]; omega
      refine v_code [] (hk := ?_)
      refine v_draw (.q 0 (.q 1 (.q 2 (.q 3 (.q 4 (.q 5 (.q 6 (.s 7 (.s 8 (.s 9 .nil)))))))))) [0] (hm := by kernel_rfl) (hs := by kernel_rfl) (hk := by kernel_rfl) (h := ?_)
      refine v_sch [] (hk := ?_)
      refine v_callS rfl 21900 [] (markAsset_spec k i) Tryz.func50 (h := ?_)
      rintro _ _ (⟨rfl, rfl⟩)
      refine ⟨cov_of (by repeat (first | exact trivial | refine ⟨rfl, ?_⟩)), ?_⟩
      refine v_sch [] (hk := ?_)
      refine k_valC 34 (vsl 51 (ss.getD k default).A (ss.getD k default).l.length (ss.getD k default).c) rfl rfl ?_
      refine v_sch [] (hk := ?_)
      refine s_do1 rfl (d_storeT (asset0) (u' := mkAs k i)) ?_
      refine v_sch [] (hk := ?_)
      refine k_res 51 (Res.rows (ss.getD k default).A (ss.getD k default).c 57 assetEn (mkL mkAs k (i + 1) ++ (ss.getD k default).l.drop (i + 1))) rfl (by rw [mkL_set (by omega)] <;> rfl) ?_
      refine v_again ((ss.getD k default).l.length - (i + 1)) ⟨i + 1, rfl, rfl, by omega, by omega⟩
    · refine v_code [] (hk := ?_)
      have hie : i = (ss.getD k default).l.length := by omega
      refine k_in 50 51 k (ss.mapIdx (F1 57 assetEn mkAs (k + 1))) (by rw [List.length_mapIdx]; omega) (mapIdx_set hs (by unfold F1; rw [if_pos (Nat.lt_succ_self k), hie, List.drop_length, List.append_nil] <;> rfl) F1_ne) rfl rfl ?_
      refine v_again (ss.length - (k + 1)) ⟨k + 1, rfl, rfl, by omega, by omega⟩
  · refine v_code [] (hk := ?_)
    refine k_val 41 (vi .i64 (ss.length : Int)) rfl rfl ?_
    refine l_do (d_makeSlice (E := hdEn AssetP 51) (hE := ⟨⟩) (m := ss.length)) (fun g42 => ?_)
    refine v_ops [] (hk := ?_)
    refine k_res 50 (Res.bag (ss.mapIdx (F2 57 assetEn mkAs (List.replicate ss.length default) 0))) rfl (by show Res.bag _ = Res.bag _; rw [F1_F2 (by omega)]) ?_
    refine v_loop (fun m E H => ∃ (k : Nat) (gl : List (Hd AssetP)), E = [(6, vn k)] ∧ H = [(10042, Res.rows (some ⟨g42, 0, none⟩) ss.length 23 (hdEn AssetP 51) gl), (50, Res.bag (ss.mapIdx (F2 57 assetEn mkAs gl k)))] ∧ m = ss.length - k ∧ k ≤ ss.length ∧ (gl.length = ss.length) ∧ (∀ j, j < k → ∀ s, ss[j]? = some s → (gl.getD j default).l = mkL mkAs j (s.l.length + 64))) [0, 2, 5, 9, 10, 11, 12, 13, 14, 15, 73, 74, 75, 76, 77, 78, 79, 80, 81, 82, 83, 84, 85, 86, 87, 88, 89, 90, 91, 92, 93, 94, 95, 96, 97, 98, 99, 100, 101, 102, 103, 104, 105, 106, 107, 108, 109, 110, 111, 112, 113, 114, 115, 116, 117, 118, 119, 120, 121, 122, 123, 124, 125, 126, 127, 128, 129, 130, 131, 132, 133, 134, 135, 136, 137, 138, 139, 140, 141, 142, 143, 144, 145, 146, 147, 148, 149, 150, 151, 152, 153, 154, 155, 156, 157, 158, 159, 160, 161, 162, 163, 164, 165, 166, 167, 168, 169, 170, 171, 172, 173, 174, 175, 176, 177, 178, 179, 180, 181, 182, 183, 184, 185, 186, 187, 188, 189, 190, 191, 192] (ss.length) ([(6, vn 0)]) ([(10042, Res.rows (some ⟨g42, 0, none⟩) ss.length 23 (hdEn AssetP 51) (List.replicate ss.length default)), (50, Res.bag (ss.mapIdx (F2 57 assetEn mkAs (List.replicate ss.length default) 0)))]) (h0 := ⟨0, List.replicate ss.length default, rfl, rfl, by omega, by omega, by simp, (fun j hj => absurd hj (Nat.not_lt_zero j))⟩) (hr := ?_)
    rintro _ _ _ ⟨k, gl, rfl, rfl, hmk, hk, hik0, hik1⟩
    refine v_code [] (hk := ?_)
    first | refine c_ifd rfl (fun h46 => ?_) (fun h46 => ?_) | refine c_ifn rfl (fun h46 => ?_) (fun h46 => ?_) | refine c_if rfl (fun h46 => ?_) (fun h46 => ?_)
    · have hs := getD_some (d := default) h46
      have hsl := hln _ (getD_mem (d := default) h46)
      refine k_out 50 51 k (r := Res.rows (ss.getD k default).A (ss.getD k default).c 57 assetEn (mkL mkAs k (ss.getD k default).l.length)) (mapIdx_get hs (by unfold F2; rw [if_neg (Nat.lt_irrefl k)])) rfl ?_
      refine k_conv 51 (Res.two 57 assetEn (ss.getD k default).A (ss.getD k default).c (mkL mkAs k (ss.getD k default).l.length) (ss.getD k default).A (ss.getD k default).c (mkL mkAs k (ss.getD k default).l.length)) rfl (fun w h => two_of h) (fun b hb => by rw [fp_rows]; exact (fp_two.1 hb).elim id id) ?_
      refine v_code [] (hk := ?_)
      refine v_loop (fun m E H => ∃ (i : Nat) (A7 : Option Addr) (c7 : Nat), E = [(8, vn i), (7, vsl 51 A7 ((ss.getD k default).l.length + i) c7)] ∧ H = [(51, Res.two 57 assetEn (ss.getD k default).A (ss.getD k default).c (mkL mkAs k (ss.getD k default).l.length) A7 c7 (mkL mkAs k ((ss.getD k default).l.length + i)))] ∧ m = 64 - i ∧ i ≤ 64) [0, 2, 5, 6, 9, 10, 11, 12, 13, 14, 15, 43, 44, 45, 46, 47, 48, 49, 50, 51, 52, 69, 70, 71, 72, 73, 74, 75, 76, 77, 78, 79, 80, 81, 82, 83, 84, 85, 86, 87, 88, 89, 90, 91, 92, 93, 94, 95, 96, 97, 98, 99, 100, 101, 102, 103, 104, 105, 106, 107, 108, 109, 110, 111, 112, 113, 114, 115, 116, 117, 118, 119, 120, 121, 122, 123, 124, 125, 126, 127, 128, 129, 130, 131, 132, 133, 134, 135, 136, 137, 138, 139, 140, 141, 142, 143, 144, 145, 146, 147, 148, 149, 150, 151, 152, 153, 154, 155, 156, 157, 158, 159, 160, 161, 162, 163, 164, 165, 166, 167, 168, 169, 170, 171, 172, 173, 174, 175, 176, 177, 178, 179, 180, 181, 182, 183, 184, 185, 186, 187, 188, 189, 190, 191, 192] (64) ([(8, vn 0), (7, vsl 51 ((ss.getD k default).A) ((ss.getD k default).l.length + 0) ((ss.getD k default).c))]) ([(51, Res.two 57 assetEn (ss.getD k default).A (ss.getD k default).c (mkL mkAs k (ss.getD k default).l.length) ((ss.getD k default).A) ((ss.getD k default).c) (mkL mkAs k ((ss.getD k default).l.length + 0)))]) (h0 := ⟨0, (ss.getD k default).A, (ss.getD k default).c, rfl, rfl, by omega, by omega⟩) (hr := ?_)
      rintro _ _ _ ⟨i, A7, c7, rfl, rfl, hmi, hi⟩
      refine v_code [] (hk := ?_)
      first | refine c_ifd rfl (fun h54 => ?_) (fun h54 => ?_) | refine c_ifn rfl (fun h54 => ?_) (fun h54 => ?_) | refine c_if rfl (fun h54 => ?_) (fun h54 => ?_)
      · have hml : (ss.getD k default).l.length + i = (mkL mkAs k ((ss.getD k default).l.length + i)).length := mkL_len.symm
        refine v_code [] (hk := ?_)
        refine v_call 23300 [] (markAsset_spec k (((ss.getD k default).l.length + i : Nat) : Int)) Tryz.func50 (h := ?_)
        rintro _ _ (⟨rfl, rfl⟩)
        refine l_do (d_bslice [mkAs k ((ss.getD k default).l.length + i)]) (fun B67 => ?_)
        refine l_do d_append2 (fun p68 => ?_)
        refine v_ops [] (hk := ?_)
        refine k_val 7 (vsl 51 p68.1 ((ss.getD k default).l.length + (i + 1)) p68.2) rfl (by rw [List.length_append, mkL_len] <;> rfl) ?_
        refine k_res 51 (Res.two 57 assetEn (ss.getD k default).A (ss.getD k default).c (mkL mkAs k (ss.getD k default).l.length) p68.1 p68.2 (mkL mkAs k ((ss.getD k default).l.length + (i + 1)))) rfl (by rw [show (ss.getD k default).l.length + (i + 1) = ((ss.getD k default).l.length + i) + 1 from rfl, mkL_succ] <;> rfl) ?_
        refine v_again (64 - (i + 1)) ⟨i + 1, p68.1, p68.2, rfl, rfl, by omega, by omega⟩
      · obtain rfl : i = 64 := by omega
        refine v_code [] (hk := ?_)
        refine k_val 71 (vsl 51 A7 (mkL mkAs k ((ss.getD k default).l.length + 64)).length c7) rfl (by rw [mkL_len] <;> rfl) ?_
        refine l_do1 (d_storeT (default) (u' := (⟨A7, c7, mkL mkAs k ((ss.getD k default).l.length + 64)⟩ : Hd AssetP))) ?_
        refine v_ops [] (hk := ?_)
        refine k_in 50 51 k (ss.mapIdx (F2 57 assetEn mkAs (gl.set k (⟨A7, c7, mkL mkAs k ((ss.getD k default).l.length + 64)⟩ : Hd AssetP)) (k + 1))) (by rw [List.length_mapIdx]; omega) (mapIdx_set hs (by unfold F2 F3; rw [if_pos (by omega), hdD_set (by omega)] <;> rfl) (F2_ne (by omega))) rfl rfl ?_
        refine v_again (ss.length - (k + 1)) ⟨k + 1, gl.set k (⟨A7, c7, mkL mkAs k ((ss.getD k default).l.length + 64)⟩ : Hd AssetP), rfl, rfl, by omega, by omega, by rw [List.length_set, hik0], (fun j hj s2 hs2 => by by_cases e : j = k; (subst e; rw [hdD_set (by omega), opt_eq hs2 hs]); (rw [hdD_ne e]; exact hik1 j (by omega) s2 hs2))⟩
    · refine v_code [] (hk := ?_)
      refine k_ren 50 51 rfl ?_
      refine k_res 51 (Res.bag (ss.mapIdx (F3 57 assetEn mkAs gl))) rfl (by show Res.bag _ = Res.bag _; rw [F2_F3 (by omega)]) ?_
      have hgl : ∀ j s, ss[j]? = some s → (gl.getD j default).l = mkL mkAs j (s.l.length + 64) := fun j s hj => hik1 j (by have := (List.getElem?_eq_some_iff.1 hj).1; omega) s hj
      refine v_loop (fun m E H => ∃ (k : Nat), E = [(9, vn k)] ∧ H = [] ∧ m = ss.length - k ∧ k ≤ ss.length) [0, 5, 11, 12, 13, 14, 15, 123, 124, 125, 126, 127, 128, 129, 130, 131, 132, 133, 134, 135, 136, 137, 138, 139, 140, 141, 142, 143, 144, 145, 146, 147, 148, 149, 150, 151, 152, 153, 154, 155, 156, 157, 158, 159, 160, 161, 162, 163, 164, 165, 166, 167, 168, 169, 170, 171, 172, 173, 174, 175, 176, 177, 178, 179, 180, 181, 182, 183, 184, 185, 186, 187, 188, 189, 190, 191, 192] (ss.length) ([(9, vn 0)]) ([]) (h0 := ⟨0, rfl, rfl, by omega, by omega⟩) (hr := ?_)
      rintro _ _ _ ⟨k, rfl, rfl, hmk, hk⟩
      refine v_code [] (hk := ?_)
      first | refine c_ifd rfl (fun h76 => ?_) (fun h76 => ?_) | refine c_ifn rfl (fun h76 => ?_) (fun h76 => ?_) | refine c_if rfl (fun h76 => ?_) (fun h76 => ?_)
      · have hs := getD_some (d := default) h76
        have hsl := hln _ (getD_mem (d := default) h76)
        have hmk : (ss.getD k default).l.length = (mkL mkAs k (ss.getD k default).l.length).length := mkL_len.symm
        have ht := getD_some (l := gl) (k := k) (d := default) (by omega)
        have hl2 : (gl.getD k default).l = mkL mkAs k ((ss.getD k default).l.length + 64) := hgl k _ hs
        have hll : (gl.getD k default).l.length = (ss.getD k default).l.length + 64 := by rw [hl2, mkL_len]
        have hv1 := view_F3a (e := 57) (E := assetEn) (m := mkAs) (gl := gl) hs
        have hv2 := view_F3b (e := 57) (E := assetEn) (m := mkAs) hs ht
        refine v_code [] (hk := ?_)
        refine v_loop (fun m E H => ∃ (i : Nat), E = [(10, vn i)] ∧ H = [] ∧ m = (gl.getD k default).l.length - i ∧ i ≤ (gl.getD k default).l.length) [0, 5, 9, 11, 12, 13, 14, 15, 73, 74, 75, 76, 77, 78, 123, 124, 125, 126, 127, 128, 129, 130, 131, 132, 133, 134, 135, 136, 137, 138, 139, 140, 141, 142, 143, 144, 145, 146, 147, 148, 149, 150, 151, 152, 153, 154, 155, 156, 157, 158, 159, 160, 161, 162, 163, 164, 165, 166, 167, 168, 169, 170, 171, 172, 173, 174, 175, 176, 177, 178, 179, 180, 181, 182, 183, 184, 185, 186, 187, 188, 189, 190, 191, 192] ((gl.getD k default).l.length) ([(10, vn 0)]) ([]) (h0 := ⟨0, rfl, rfl, by omega, by omega⟩) (hr := ?_)
        rintro _ _ _ ⟨i, rfl, rfl, hmi, hi⟩
        refine v_code [] (hk := ?_)
        first | refine c_ifd rfl (fun h85 => ?_) (fun h85 => ?_) | refine c_ifn rfl (fun h85 => ?_) (fun h85 => ?_) | refine c_if rfl (fun h85 => ?_) (fun h85 => ?_)
        · refine v_code [] (hk := ?_)
          refine v_draw (.q 0 (.q 1 (.q 2 (.q 3 (.q 4 (.q 5 (.q 6 (.q 7 (.q 8 (.s 9 (.q 10 (.q 11 (.q 12 (.q 13 (.q 14 (.q 15 (.q 16 (.q 17 (.q 18 (.q 19 (.q 20 (.q 21 (.q 22 (.q 23 (.q 24 (.q 25 (.q 26 (.q 27 (.q 28 (.q 29 (.s 30 (.q 31 (.q 32 (.q 33 (.q 34 .nil))))))))))))))))))))))))))))))))))) [0, 51, 10042] (hm := by kernel_rfl) (hs := by kernel_rfl) (hk := by kernel_rfl) (h := ?_)
          refine v_sch [] (hk := ?_)
          refine k_valC 91 (vsl 51 (gl.getD k default).A (gl.getD k default).l.length (gl.getD k default).c) rfl rfl ?_
          refine k_valC 92 (vint i) rfl rfl ?_
          refine q_rd rfl (r_indexT (hj := by omega)) ?_
          refine q_rd rfl (r_loadT (hj := by omega)) ?_
          refine v_sch [] (hk := ?_)
          refine v_callS rfl 24850 [] (markAsset_spec k i) Tryz.func50 (h := ?_)
          rintro _ _ (⟨rfl, rfl⟩)
          refine ⟨cov_of (by repeat (first | exact trivial | refine ⟨rfl, ?_⟩)), ?_⟩
          refine q_rd rfl (r_eqSt (u := (gl.getD k default).l.getD i asset0) (v := mkAs k i)) ?_
          refine v_knowC 98 true rfl (decide_eq_true (by rw [hl2]; exact mkL_getD (by omega))) ?_
          refine v_sch [] (hk := ?_)
          refine k_valC 112 (.cond _ (.one (.sl 51 (ss.getD k default).A (ss.getD k default).l.length (ss.getD k default).c))) rfl rfl ?_
          refine k_valC 113 (.cond _ (.one (.i .i64 i))) rfl rfl ?_
          refine q_rdG rfl [112, 113] ⟨_, _, ⟨_, .inl ⟨rfl, rfl⟩⟩, ⟨_, _, ⟨_, .inl ⟨rfl, rfl⟩⟩, rfl, rfl⟩, rfl⟩ (fun hg => (r_indexT (hj := by have := of_decide_eq_true hg; omega))) ?_
          refine q_rdG rfl [114] ⟨_, _, ⟨_, .inl ⟨rfl, rfl⟩⟩, rfl, rfl⟩ (fun hg => (r_loadT (hj := by have := of_decide_eq_true hg; omega))) ?_
          refine v_sch [] (hk := ?_)
          refine s_callG rfl [] [116, 117] ⟨_, _, ⟨_, .inl ⟨rfl, rfl⟩⟩, ⟨_, _, ⟨_, .inl ⟨rfl, rfl⟩⟩, rfl, rfl⟩, rfl⟩ (fun hg => markAsset_spec k i) Tryz.func50 (h := ?_)
          refine q_rdG rfl [115, 118] ⟨_, _, ⟨_, .inl ⟨rfl, rfl⟩⟩, ⟨_, _, ⟨_, .inl ⟨rfl, rfl⟩⟩, rfl, rfl⟩, rfl⟩ (fun hg => (r_eqSt (u := (mkL mkAs k (ss.getD k default).l.length).getD i asset0) (v := mkAs k i))) ?_
          refine v_sch [] (hk := ?_)
          first | refine c_ifd rfl (fun h122 => ?_) (fun h122 => ?_) | refine c_ifn rfl (fun h122 => ?_) (fun h122 => ?_) | refine c_if rfl (fun h122 => ?_) (fun h122 => ?_)
          · exact flat_no h122 (fun hi2 => decide_eq_true (mkL_getD hi2))
          · refine v_code [] (hk := ?_)
            refine v_again ((gl.getD k default).l.length - (i + 1)) ⟨i + 1, rfl, rfl, by omega, by omega⟩
        · refine v_code [] (hk := ?_)
          refine v_again (ss.length - (k + 1)) ⟨k + 1, rfl, rfl, by omega, by omega⟩
      · refine v_code [] (hk := ?_)
        refine k_ren 51 50 rfl ?_
        refine v_loop (fun m E H => ∃ (k : Nat) (gl2 : List (Hd AssetP)), E = [(11, vn k)] ∧ H = [(10042, Res.rows (some ⟨g42, 0, none⟩) ss.length 23 (hdEn AssetP 51) gl2), (50, Res.bag (ss.mapIdx (F3 57 assetEn mkAs gl2)))] ∧ m = ss.length - k ∧ k ≤ ss.length ∧ (gl2.length = ss.length) ∧ (∀ j, j < k → ∀ s, ss[j]? = some s → mkL mkAs j s.l.length <+: (gl2.getD j default).l)) [0, 2, 5, 14, 15, 152, 153, 154, 155, 156, 157, 158, 159, 160, 161, 162, 163, 164, 165, 166, 167, 168, 169, 170, 171, 172, 173, 174, 175, 176, 177, 178, 179, 180, 181, 182, 183, 184, 185, 186, 187, 188, 189, 190, 191, 192] (ss.length) ([(11, vn 0)]) ([(10042, Res.rows (some ⟨g42, 0, none⟩) ss.length 23 (hdEn AssetP 51) (gl)), (50, Res.bag (ss.mapIdx (F3 57 assetEn mkAs (gl))))]) (h0 := ⟨0, gl, rfl, rfl, by omega, by omega, hik0, (fun j hj => absurd hj (Nat.not_lt_zero j))⟩) (hr := ?_)
        rintro _ _ _ ⟨k, gl2, rfl, rfl, hmk, hk, hg2, hp2⟩
        refine v_code [] (hk := ?_)
        first | refine c_ifd rfl (fun h126 => ?_) (fun h126 => ?_) | refine c_ifn rfl (fun h126 => ?_) (fun h126 => ?_) | refine c_if rfl (fun h126 => ?_) (fun h126 => ?_)
        · have hs := getD_some (d := default) h126
          have hsl := hln _ (getD_mem (d := default) h126)
          have hmk : (ss.getD k default).l.length = (mkL mkAs k (ss.getD k default).l.length).length := mkL_len.symm
          refine k_out 50 51 k (r := F3 57 assetEn mkAs gl2 k (ss.getD k default)) (mapIdx_get hs rfl) rfl ?_
          refine k_conv 51 (Res.two 57 assetEn (ss.getD k default).A (ss.getD k default).c (mkL mkAs k (ss.getD k default).l.length) (ss.getD k default).A (ss.getD k default).c (mkL mkAs k (ss.getD k default).l.length)) rfl (fun w h => two_of (two_rows h)) (fun b hb => (fp_two.1 hb).elim .inl .inl) ?_
          refine v_code [] (hk := ?_)
          refine l_do (d_makeSlice (m := 64)) (fun g129 => ?_)
          refine v_ops [] (hk := ?_)
          refine v_loop (fun m E H => ∃ (i : Nat), E = [(13, vn i)] ∧ H = [(10129, Res.rows (some ⟨g129, 0, none⟩) 64 57 assetEn (mkL mkAs (k + ss.length) i ++ (List.replicate 64 asset0).drop i))] ∧ m = 64 - i ∧ i ≤ 64) [0, 2, 5, 11, 12, 14, 15, 123, 124, 125, 126, 127, 128, 129, 143, 144, 145, 146, 147, 148, 149, 150, 151, 152, 153, 154, 155, 156, 157, 158, 159, 160, 161, 162, 163, 164, 165, 166, 167, 168, 169, 170, 171, 172, 173, 174, 175, 176, 177, 178, 179, 180, 181, 182, 183, 184, 185, 186, 187, 188, 189, 190, 191, 192] (64) ([(13, vn 0)]) ([(10129, Res.rows (some ⟨g129, 0, none⟩) 64 57 assetEn (mkL mkAs (k + ss.length) 0 ++ (List.replicate 64 asset0).drop 0))]) (h0 := ⟨0, rfl, rfl, by omega, by omega⟩) (hr := ?_)
          rintro _ _ _ ⟨i, rfl, rfl, hmi, hi⟩
          refine v_code [] (hk := ?_)
          first | refine c_ifd rfl (fun h131 => ?_) (fun h131 => ?_) | refine c_ifn rfl (fun h131 => ?_) (fun h131 => ?_) | refine c_if rfl (fun h131 => ?_) (fun h131 => ?_)
          · have hm7 : 64 = (mkL mkAs (k + ss.length) i ++ (List.replicate 64 asset0).drop i).length := by rw [List.length_append, mkL_len, List.length_drop, List.length_replicate]; omega
            refine v_code [] (hk := ?_)
            refine v_call 27050 [] (markAsset_spec ((k + ss.length : Nat) : Int) i) Tryz.func50 (h := ?_)
            rintro _ _ (⟨rfl, rfl⟩)
            refine v_ops [] (hk := ?_)
            refine l_do1 (d_storeT (asset0) (u' := mkAs (k + ss.length) i)) ?_
            refine v_ops [] (hk := ?_)
            refine k_res 10129 (Res.rows (some ⟨g129, 0, none⟩) 64 57 assetEn (mkL mkAs (k + ss.length) (i + 1) ++ (List.replicate 64 asset0).drop (i + 1))) rfl (by rw [mkL_set (by rw [List.length_replicate]; omega)] <;> rfl) ?_
            refine v_again (64 - (i + 1)) ⟨i + 1, rfl, rfl, by omega, by omega⟩
          · obtain rfl : i = 64 := by omega
            have hm64 : 64 = (mkL mkAs (k + ss.length) 64).length := mkL_len.symm
            have hm64b : (mkL mkAs (k + ss.length) 64).length ≤ 1000 := by rw [mkL_len]; decide
            refine k_res 10129 (Res.rows (some ⟨g129, 0, none⟩) 64 57 assetEn (mkL mkAs (k + ss.length) 64)) rfl (by rw [show (List.replicate 64 asset0).drop 64 = [] from rfl, List.append_nil] <;> rfl) ?_
            refine v_code [] (hk := ?_)
            refine k_val 148 (vsl 51 (ss.getD k default).A (ss.getD k default).l.length (ss.getD k default).c) rfl rfl ?_
            refine l_do (d_append2 (hb := by simp only [mkL_len]; omega)) (fun p150 => ?_)
            refine v_ops [] (hk := ?_)
            refine l_do1 (d_storeT (default) (u' := (⟨p150.1, p150.2, mkL mkAs k (ss.getD k default).l.length ++ mkL mkAs (k + ss.length) 64⟩ : Hd AssetP))) ?_
            refine v_ops [] (hk := ?_)
            refine k_in 50 51 k (ss.mapIdx (F3 57 assetEn mkAs (gl2.set k (⟨p150.1, p150.2, mkL mkAs k (ss.getD k default).l.length ++ mkL mkAs (k + ss.length) 64⟩ : Hd AssetP)))) (by rw [List.length_mapIdx]; omega) (mapIdx_set hs (by unfold F3; rw [hdD_set (by omega)] <;> rfl) F3_ne) rfl rfl ?_
            refine v_again (ss.length - (k + 1)) ⟨k + 1, gl2.set k (⟨p150.1, p150.2, mkL mkAs k (ss.getD k default).l.length ++ mkL mkAs (k + ss.length) 64⟩ : Hd AssetP), rfl, rfl, by omega, by omega, by rw [List.length_set, hg2], (fun j hj s2 hs2 => by by_cases e : j = k; (subst e; rw [hdD_set (by omega), opt_eq hs2 hs]; exact List.prefix_append _ _); (rw [hdD_ne e]; exact hp2 j (by omega) s2 hs2))⟩
        · refine v_code [] (hk := ?_)
          refine k_ren 50 51 rfl ?_
          have hgl2 : ∀ j s, ss[j]? = some s → mkL mkAs j s.l.length <+: (gl2.getD j default).l := fun j s hj => hp2 j (by have := (List.getElem?_eq_some_iff.1 hj).1; omega) s hj
          refine v_loop (fun m E H => ∃ (k : Nat), E = [(14, vn k)] ∧ H = [] ∧ m = ss.length - k ∧ k ≤ ss.length) [0, 5] (ss.length) ([(14, vn 0)]) ([]) (h0 := ⟨0, rfl, rfl, by omega, by omega⟩) (hr := ?_)
          rintro _ _ _ ⟨k, rfl, rfl, hmk, hk⟩
          refine v_code [] (hk := ?_)
          first | refine c_ifd rfl (fun h155 => ?_) (fun h155 => ?_) | refine c_ifn rfl (fun h155 => ?_) (fun h155 => ?_) | refine c_if rfl (fun h155 => ?_) (fun h155 => ?_)
          · have hs := getD_some (d := default) h155
            have hsl := hln _ (getD_mem (d := default) h155)
            have hmk : (ss.getD k default).l.length = (mkL mkAs k (ss.getD k default).l.length).length := mkL_len.symm
            have ht := getD_some (l := gl2) (k := k) (d := default) (by omega)
            have hpre : mkL mkAs k (ss.getD k default).l.length <+: (gl2.getD k default).l := hgl2 k _ hs
            have htl : (ss.getD k default).l.length ≤ (gl2.getD k default).l.length := by have := hpre.length_le; rwa [mkL_len] at this
            have hv1 := view_F3a (e := 57) (E := assetEn) (m := mkAs) (gl := gl2) hs
            have hv2 := view_F3b (e := 57) (E := assetEn) (m := mkAs) hs ht
            refine v_code [] (hk := ?_)
            refine v_loop (fun m E H => ∃ (i : Nat), E = [(15, vn i)] ∧ H = [] ∧ m = (ss.getD k default).l.length - i ∧ i ≤ (ss.getD k default).l.length) [0, 5, 14, 152, 153, 154, 155, 156, 157] ((ss.getD k default).l.length) ([(15, vn 0)]) ([]) (h0 := ⟨0, rfl, rfl, by omega, by omega⟩) (hr := ?_)
            rintro _ _ _ ⟨i, rfl, rfl, hmi, hi⟩
            refine v_code [] (hk := ?_)
            first | refine c_ifd rfl (fun h164 => ?_) (fun h164 => ?_) | refine c_ifn rfl (fun h164 => ?_) (fun h164 => ?_) | refine c_if rfl (fun h164 => ?_) (fun h164 => ?_)
            · refine v_code [] (hk := ?_)
              refine v_draw (.q 0 (.q 1 (.q 2 (.q 3 (.q 4 (.q 5 (.q 6 (.q 7 (.q 8 (.s 9 (.q 10 (.q 11 (.q 12 (.q 13 (.q 14 (.q 15 (.q 16 (.q 17 (.q 18 (.q 19 (.q 20 (.q 21 (.s 22 (.q 23 (.q 24 (.q 25 .nil)))))))))))))))))))))))))) [0, 51, 10042] (hm := by kernel_rfl) (hs := by kernel_rfl) (hk := by kernel_rfl) (h := ?_)
              refine v_sch [] (hk := ?_)
              refine k_valC 170 (vsl 51 (ss.getD k default).A (ss.getD k default).l.length (ss.getD k default).c) rfl rfl ?_
              refine k_valC 171 (vint i) rfl rfl ?_
              refine q_rd rfl (r_indexT (hj := by omega)) ?_
              refine q_rd rfl (r_loadT (hj := by omega)) ?_
              refine v_sch [] (hk := ?_)
              refine v_callS rfl 28800 [] (markAsset_spec k i) Tryz.func50 (h := ?_)
              rintro _ _ (⟨rfl, rfl⟩)
              refine ⟨cov_of (by repeat (first | exact trivial | refine ⟨rfl, ?_⟩)), ?_⟩
              refine q_rd rfl (r_eqSt (u := (mkL mkAs k (ss.getD k default).l.length).getD i asset0) (v := mkAs k i)) ?_
              refine v_knowC 177 true rfl (decide_eq_true (mkL_getD (by omega))) ?_
              refine v_sch [] (hk := ?_)
              refine k_valC 183 (vsl 51 (gl2.getD k default).A (gl2.getD k default).l.length (gl2.getD k default).c) rfl rfl ?_
              refine k_valC 184 (vint i) rfl rfl ?_
              refine k_valC 179 (vb false) rfl rfl ?_
              refine q_rd rfl (r_indexT (hj := by omega)) ?_
              refine q_rd rfl (r_loadT (hj := by omega)) ?_
              refine v_knowC 179 false rfl rfl ?_
              refine v_sch [] (hk := ?_)
              refine k_valC 179 (vb false) rfl rfl ?_
              refine v_callDS rfl 29450 [] (markAsset_spec k i) Tryz.func50 (hB := trivial) (h := ?_)
              rintro _ _ (⟨rfl, rfl⟩)
              refine ⟨cov_of (by repeat (first | exact trivial | refine ⟨rfl, ?_⟩)), ?_⟩
              refine q_rd rfl (r_eqSt (u := (gl2.getD k default).l.getD i asset0) (v := mkAs k i)) ?_
              refine v_knowC 179 false rfl rfl ?_
              refine v_sch [] (hk := ?_)
              first | refine c_ifd rfl (fun h192 => ?_) (fun h192 => ?_) | refine c_ifn rfl (fun h192 => ?_) (fun h192 => ?_) | refine c_if rfl (fun h192 => ?_) (fun h192 => ?_)
              · exact absurd (mkL_pgetD hpre (by omega)) h192
              · refine v_code [] (hk := ?_)
                refine v_again ((ss.getD k default).l.length - (i + 1)) ⟨i + 1, rfl, rfl, by omega, by omega⟩
            · refine v_code [] (hk := ?_)
              refine v_again (ss.length - (k + 1)) ⟨k + 1, rfl, rfl, by omega, by omega⟩
          · refine v_code [] (hk := ?_)
            refine v_ret rfl [] (.cons (.tmp rfl) .nil) (h := ?_)
            exact ⟨rfl, rfl⟩
end Go.Proofs.YtlnckcgbpilmdaaGreat
/- Lists that lie apart: totals. -/

set_option linter.unusedVariables false
set_option linter.unusedSimpArgs false
set_option maxRecDepth 100000
set_option maxHeartbeats 8000000
namespace Go.Proofs.YtlnckcgbpilmdaaGreat
open Go Go.RowKit HL
instance : ElT Tryz.prog 36 (hdEn TotalP 51) := ⟨⟩
theorem flatTotals_spec (A0 : Option Addr) (c0 : Nat) (ss : List (Hd TotalP)) (hm : ss.length ≤ 1000) (hln : ∀ s ∈ ss, s.l.length ≤ 1048576) :
    CSpec Tryz.prog 120 [.one (.sl 0 A0 ss.length c0)] [] [(0, Res.rows A0 c0 36 (hdEn TotalP 51) ss), (50, Res.bag (ss.map (Hd.res 75 totalEn)))] fun o L => o = .ret (vb true) ∧ L = [] := by
  refine v_enter Tryz.func120 (h := fun w0 => ?_)
  refine v_code [] (hk := ?_)
  refine k_res 50 (Res.bag (ss.mapIdx (F1 75 totalEn mkTt 0))) rfl (by show Res.bag _ = Res.bag _; rw [map_F1 (m := mkTt)]) ?_
  refine v_loop (fun m E H => ∃ (k : Nat), E = [(3, vn k)] ∧ H = [(50, Res.bag (ss.mapIdx (F1 75 totalEn mkTt k)))] ∧ m = ss.length - k ∧ k ≤ ss.length) [0, 2, 5, 6, 7, 8, 9, 10, 11, 12, 13, 14, 15, 40, 41, 42, 43, 44, 45, 46, 47, 48, 49, 50, 51, 52, 53, 54, 55, 56, 57, 58, 59, 60, 61, 62, 63, 64, 65, 66, 67, 68, 69, 70, 71, 72, 73, 74, 75, 76, 77, 78, 79, 80, 81, 82, 83, 84, 85, 86, 87, 88, 89, 90, 91, 92, 93, 94, 95, 96, 97, 98, 99, 100, 101, 102, 103, 104, 105, 106, 107, 108, 109, 110, 111, 112, 113, 114, 115, 116, 117, 118, 119, 120, 121, 122, 123, 124, 125, 126, 127, 128, 129, 130, 131, 132, 133, 134, 135, 136, 137, 138, 139, 140, 141, 142, 143, 144, 145, 146, 147, 148, 149, 150, 151, 152, 153, 154, 155, 156, 157, 158, 159, 160, 161, 162, 163, 164, 165, 166, 167, 168, 169, 170, 171, 172, 173, 174, 175, 176, 177, 178, 179, 180, 181, 182, 183, 184, 185, 186, 187, 188, 189, 190, 191, 192] (ss.length) ([(3, vn 0)]) ([(50, Res.bag (ss.mapIdx (F1 75 totalEn mkTt 0)))]) (h0 := ⟨0, rfl, rfl, by omega, by omega⟩) (hr := ?_)
  rintro _ _ _ ⟨k, rfl, rfl, hmk, hk⟩
  refine v_code [] (hk := ?_)
  first | refine c_ifd rfl (fun h19 => ?_) (fun h19 => ?_) | refine c_ifn rfl (fun h19 => ?_) (fun h19 => ?_) | refine c_if rfl (fun h19 => ?_) (fun h19 => ?_)
  · have hs := getD_some (d := default) h19
    have hsl := hln _ (getD_mem (d := default) h19)
    refine k_out 50 51 k (r := Res.rows (ss.getD k default).A (ss.getD k default).c 75 totalEn (ss.getD k default).l) (mapIdx_get hs (by unfold F1; rw [if_neg (Nat.lt_irrefl k)])) rfl ?_
    refine v_code [] (hk := ?_)
    refine v_loop (fun m E H => ∃ (i : Nat), E = [(4, vn i)] ∧ H = [(51, Res.rows (ss.getD k default).A (ss.getD k default).c 75 totalEn (mkL mkTt k i ++ (ss.getD k default).l.drop i))] ∧ m = (ss.getD k default).l.length - i ∧ i ≤ (ss.getD k default).l.length) [0, 2, 3, 5, 6, 7, 8, 9, 10, 11, 12, 13, 14, 15, 16, 17, 18, 19, 20, 21, 40, 41, 42, 43, 44, 45, 46, 47, 48, 49, 50, 51, 52, 53, 54, 55, 56, 57, 58, 59, 60, 61, 62, 63, 64, 65, 66, 67, 68, 69, 70, 71, 72, 73, 74, 75, 76, 77, 78, 79, 80, 81, 82, 83, 84, 85, 86, 87, 88, 89, 90, 91, 92, 93, 94, 95, 96, 97, 98, 99, 100, 101, 102, 103, 104, 105, 106, 107, 108, 109, 110, 111, 112, 113, 114, 115, 116, 117, 118, 119, 120, 121, 122, 123, 124, 125, 126, 127, 128, 129, 130, 131, 132, 133, 134, 135, 136, 137, 138, 139, 140, 141, 142, 143, 144, 145, 146, 147, 148, 149, 150, 151, 152, 153, 154, 155, 156, 157, 158, 159, 160, 161, 162, 163, 164, 165, 166, 167, 168, 169, 170, 171, 172, 173, 174, 175, 176, 177, 178, 179, 180, 181, 182, 183, 184, 185, 186, 187, 188, 189, 190, 191, 192] ((ss.getD k default).l.length) ([(4, vn 0)]) ([(51, Res.rows (ss.getD k default).A (ss.getD k default).c 75 totalEn (mkL mkTt k 0 ++ (ss.getD k default).l.drop 0))]) (h0 := ⟨0, rfl, rfl, by omega, by omega⟩) (hr := ?_)
    rintro _ _ _ ⟨i, rfl, rfl, hmi, hi⟩
    refine v_code [] (hk := ?_)
    first | refine c_ifd rfl (fun h28 => ?_) (fun h28 => ?_) | refine c_ifn rfl (fun h28 => ?_) (fun h28 => ?_) | refine c_if rfl (fun h28 => ?_) (fun h28 => ?_)
    · have hml : (ss.getD k default).l.length = (mkL mkTt k i ++ (ss.getD k default).l.drop i).length := by rw [List.length_append, mkL_len, List.length_drop]; omega
      refine v_code [] (hk := ?_)
      refine v_draw (.q 0 (.q 1 (.q 2 (.q 3 (.q 4 (.q 5 (.q 6 (.s 7 (.s 8 (.s 9 .nil)))))))))) [0] (hm := by kernel_rfl) (hs := by kernel_rfl) (hk := by kernel_rfl) (h := ?_)
      refine v_sch [] (hk := ?_)
      refine v_callS rfl 21900 [] (markTotal_spec k i) Tryz.func127 (h := ?_)
      rintro _ _ (⟨rfl, rfl⟩)
      refine ⟨cov_of (by repeat (first | exact trivial | refine ⟨rfl, ?_⟩)), ?_⟩
      refine v_sch [] (hk := ?_)
      refine k_valC 34 (vsl 51 (ss.getD k default).A (ss.getD k default).l.length (ss.getD k default).c) rfl rfl ?_
      refine v_sch [] (hk := ?_)
      refine s_do1 rfl (d_storeT (total0) (u' := mkTt k i)) ?_
      refine v_sch [] (hk := ?_)
      refine k_res 51 (Res.rows (ss.getD k default).A (ss.getD k default).c 75 totalEn (mkL mkTt k (i + 1) ++ (ss.getD k default).l.drop (i + 1))) rfl (by rw [mkL_set (by omega)] <;> rfl) ?_
      refine v_again ((ss.getD k default).l.length - (i + 1)) ⟨i + 1, rfl, rfl, by omega, by omega⟩
    · refine v_code [] (hk := ?_)
      have hie : i = (ss.getD k default).l.length := by omega
      refine k_in 50 51 k (ss.mapIdx (F1 75 totalEn mkTt (k + 1))) (by rw [List.length_mapIdx]; omega) (mapIdx_set hs (by unfold F1; rw [if_pos (Nat.lt_succ_self k), hie, List.drop_length, List.append_nil] <;> rfl) F1_ne) rfl rfl ?_
      refine v_again (ss.length - (k + 1)) ⟨k + 1, rfl, rfl, by omega, by omega⟩
  · refine v_code [] (hk := ?_)
    refine k_val 41 (vi .i64 (ss.length : Int)) rfl rfl ?_
    refine l_do (d_makeSlice (E := hdEn TotalP 51) (hE := ⟨⟩) (m := ss.length)) (fun g42 => ?_)
    refine v_ops [] (hk := ?_)
    refine k_res 50 (Res.bag (ss.mapIdx (F2 75 totalEn mkTt (List.replicate ss.length default) 0))) rfl (by show Res.bag _ = Res.bag _; rw [F1_F2 (by omega)]) ?_
    refine v_loop (fun m E H => ∃ (k : Nat) (gl : List (Hd TotalP)), E = [(6, vn k)] ∧ H = [(10042, Res.rows (some ⟨g42, 0, none⟩) ss.length 36 (hdEn TotalP 51) gl), (50, Res.bag (ss.mapIdx (F2 75 totalEn mkTt gl k)))] ∧ m = ss.length - k ∧ k ≤ ss.length ∧ (gl.length = ss.length) ∧ (∀ j, j < k → ∀ s, ss[j]? = some s → (gl.getD j default).l = mkL mkTt j (s.l.length + 64))) [0, 2, 5, 9, 10, 11, 12, 13, 14, 15, 73, 74, 75, 76, 77, 78, 79, 80, 81, 82, 83, 84, 85, 86, 87, 88, 89, 90, 91, 92, 93, 94, 95, 96, 97, 98, 99, 100, 101, 102, 103, 104, 105, 106, 107, 108, 109, 110, 111, 112, 113, 114, 115, 116, 117, 118, 119, 120, 121, 122, 123, 124, 125, 126, 127, 128, 129, 130, 131, 132, 133, 134, 135, 136, 137, 138, 139, 140, 141, 142, 143, 144, 145, 146, 147, 148, 149, 150, 151, 152, 153, 154, 155, 156, 157, 158, 159, 160, 161, 162, 163, 164, 165, 166, 167, 168, 169, 170, 171, 172, 173, 174, 175, 176, 177, 178, 179, 180, 181, 182, 183, 184, 185, 186, 187, 188, 189, 190, 191, 192] (ss.length) ([(6, vn 0)]) ([(10042, Res.rows (some ⟨g42, 0, none⟩) ss.length 36 (hdEn TotalP 51) (List.replicate ss.length default)), (50, Res.bag (ss.mapIdx (F2 75 totalEn mkTt (List.replicate ss.length default) 0)))]) (h0 := ⟨0, List.replicate ss.length default, rfl, rfl, by omega, by omega, by simp, (fun j hj => absurd hj (Nat.not_lt_zero j))⟩) (hr := ?_)
    rintro _ _ _ ⟨k, gl, rfl, rfl, hmk, hk, hik0, hik1⟩
    refine v_code [] (hk := ?_)
    first | refine c_ifd rfl (fun h46 => ?_) (fun h46 => ?_) | refine c_ifn rfl (fun h46 => ?_) (fun h46 => ?_) | refine c_if rfl (fun h46 => ?_) (fun h46 => ?_)
    · have hs := getD_some (d := default) h46
      have hsl := hln _ (getD_mem (d := default) h46)
      refine k_out 50 51 k (r := Res.rows (ss.getD k default).A (ss.getD k default).c 75 totalEn (mkL mkTt k (ss.getD k default).l.length)) (mapIdx_get hs (by unfold F2; rw [if_neg (Nat.lt_irrefl k)])) rfl ?_
      refine k_conv 51 (Res.two 75 totalEn (ss.getD k default).A (ss.getD k default).c (mkL mkTt k (ss.getD k default).l.length) (ss.getD k default).A (ss.getD k default).c (mkL mkTt k (ss.getD k default).l.length)) rfl (fun w h => two_of h) (fun b hb => by rw [fp_rows]; exact (fp_two.1 hb).elim id id) ?_
      refine v_code [] (hk := ?_)
      refine v_loop (fun m E H => ∃ (i : Nat) (A7 : Option Addr) (c7 : Nat), E = [(8, vn i), (7, vsl 51 A7 ((ss.getD k default).l.length + i) c7)] ∧ H = [(51, Res.two 75 totalEn (ss.getD k default).A (ss.getD k default).c (mkL mkTt k (ss.getD k default).l.length) A7 c7 (mkL mkTt k ((ss.getD k default).l.length + i)))] ∧ m = 64 - i ∧ i ≤ 64) [0, 2, 5, 6, 9, 10, 11, 12, 13, 14, 15, 43, 44, 45, 46, 47, 48, 49, 50, 51, 52, 69, 70, 71, 72, 73, 74, 75, 76, 77, 78, 79, 80, 81, 82, 83, 84, 85, 86, 87, 88, 89, 90, 91, 92, 93, 94, 95, 96, 97, 98, 99, 100, 101, 102, 103, 104, 105, 106, 107, 108, 109, 110, 111, 112, 113, 114, 115, 116, 117, 118, 119, 120, 121, 122, 123, 124, 125, 126, 127, 128, 129, 130, 131, 132, 133, 134, 135, 136, 137, 138, 139, 140, 141, 142, 143, 144, 145, 146, 147, 148, 149, 150, 151, 152, 153, 154, 155, 156, 157, 158, 159, 160, 161, 162, 163, 164, 165, 166, 167, 168, 169, 170, 171, 172, 173, 174, 175, 176, 177, 178, 179, 180, 181, 182, 183, 184, 185, 186, 187, 188, 189, 190, 191, 192] (64) ([(8, vn 0), (7, vsl 51 ((ss.getD k default).A) ((ss.getD k default).l.length + 0) ((ss.getD k default).c))]) ([(51, Res.two 75 totalEn (ss.getD k default).A (ss.getD k default).c (mkL mkTt k (ss.getD k default).l.length) ((ss.getD k default).A) ((ss.getD k default).c) (mkL mkTt k ((ss.getD k default).l.length + 0)))]) (h0 := ⟨0, (ss.getD k default).A, (ss.getD k default).c, rfl, rfl, by omega, by omega⟩) (hr := ?_)
      rintro _ _ _ ⟨i, A7, c7, rfl, rfl, hmi, hi⟩
      refine v_code [] (hk := ?_)
      first | refine c_ifd rfl (fun h54 => ?_) (fun h54 => ?_) | refine c_ifn rfl (fun h54 => ?_) (fun h54 => ?_) | refine c_if rfl (fun h54 => ?_) (fun h54 => ?_)
      · have hml : (ss.getD k default).l.length + i = (mkL mkTt k ((ss.getD k default).l.length + i)).length := mkL_len.symm
        refine v_code [] (hk := ?_)
        refine v_call 23300 [] (markTotal_spec k (((ss.getD k default).l.length + i : Nat) : Int)) Tryz.func127 (h := ?_)
        rintro _ _ (⟨rfl, rfl⟩)
        refine l_do (d_bslice [mkTt k ((ss.getD k default).l.length + i)]) (fun B67 => ?_)
        refine l_do d_append2 (fun p68 => ?_)
        refine v_ops [] (hk := ?_)
        refine k_val 7 (vsl 51 p68.1 ((ss.getD k default).l.length + (i + 1)) p68.2) rfl (by rw [List.length_append, mkL_len] <;> rfl) ?_
        refine k_res 51 (Res.two 75 totalEn (ss.getD k default).A (ss.getD k default).c (mkL mkTt k (ss.getD k default).l.length) p68.1 p68.2 (mkL mkTt k ((ss.getD k default).l.length + (i + 1)))) rfl (by rw [show (ss.getD k default).l.length + (i + 1) = ((ss.getD k default).l.length + i) + 1 from rfl, mkL_succ] <;> rfl) ?_
        refine v_again (64 - (i + 1)) ⟨i + 1, p68.1, p68.2, rfl, rfl, by omega, by omega⟩
      · obtain rfl : i = 64 := by omega
        refine v_code [] (hk := ?_)
        refine k_val 71 (vsl 51 A7 (mkL mkTt k ((ss.getD k default).l.length + 64)).length c7) rfl (by rw [mkL_len] <;> rfl) ?_
        refine l_do1 (d_storeT (default) (u' := (⟨A7, c7, mkL mkTt k ((ss.getD k default).l.length + 64)⟩ : Hd TotalP))) ?_
        refine v_ops [] (hk := ?_)
        refine k_in 50 51 k (ss.mapIdx (F2 75 totalEn mkTt (gl.set k (⟨A7, c7, mkL mkTt k ((ss.getD k default).l.length + 64)⟩ : Hd TotalP)) (k + 1))) (by rw [List.length_mapIdx]; omega) (mapIdx_set hs (by unfold F2 F3; rw [if_pos (by omega), hdD_set (by omega)] <;> rfl) (F2_ne (by omega))) rfl rfl ?_
        refine v_again (ss.length - (k + 1)) ⟨k + 1, gl.set k (⟨A7, c7, mkL mkTt k ((ss.getD k default).l.length + 64)⟩ : Hd TotalP), rfl, rfl, by omega, by omega, by rw [List.length_set, hik0], (fun j hj s2 hs2 => by by_cases e : j = k; (subst e; rw [hdD_set (by omega), opt_eq hs2 hs]); (rw [hdD_ne e]; exact hik1 j (by omega) s2 hs2))⟩
    · refine v_code [] (hk := ?_)
      refine k_ren 50 51 rfl ?_
      refine k_res 51 (Res.bag (ss.mapIdx (F3 75 totalEn mkTt gl))) rfl (by show Res.bag _ = Res.bag _; rw [F2_F3 (by omega)]) ?_
      have hgl : ∀ j s, ss[j]? = some s → (gl.getD j default).l = mkL mkTt j (s.l.length + 64) := fun j s hj => hik1 j (by have := (List.getElem?_eq_some_iff.1 hj).1; omega) s hj
      refine v_loop (fun m E H => ∃ (k : Nat), E = [(9, vn k)] ∧ H = [] ∧ m = ss.length - k ∧ k ≤ ss.length) [0, 5, 11, 12, 13, 14, 15, 123, 124, 125, 126, 127, 128, 129, 130, 131, 132, 133, 134, 135, 136, 137, 138, 139, 140, 141, 142, 143, 144, 145, 146, 147, 148, 149, 150, 151, 152, 153, 154, 155, 156, 157, 158, 159, 160, 161, 162, 163, 164, 165, 166, 167, 168, 169, 170, 171, 172, 173, 174, 175, 176, 177, 178, 179, 180, 181, 182, 183, 184, 185, 186, 187, 188, 189, 190, 191, 192] (ss.length) ([(9, vn 0)]) ([]) (h0 := ⟨0, rfl, rfl, by omega, by omega⟩) (hr := ?_)
      rintro _ _ _ ⟨k, rfl, rfl, hmk, hk⟩
      refine v_code [] (hk := ?_)
      first | refine c_ifd rfl (fun h76 => ?_) (fun h76 => ?_) | refine c_ifn rfl (fun h76 => ?_) (fun h76 => ?_) | refine c_if rfl (fun h76 => ?_) (fun h76 => ?_)
      · have hs := getD_some (d := default) h76
        have hsl := hln _ (getD_mem (d := default) h76)
        have hmk : (ss.getD k default).l.length = (mkL mkTt k (ss.getD k default).l.length).length := mkL_len.symm
        have ht := getD_some (l := gl) (k := k) (d := default) (by omega)
        have hl2 : (gl.getD k default).l = mkL mkTt k ((ss.getD k default).l.length + 64) := hgl k _ hs
        have hll : (gl.getD k default).l.length = (ss.getD k default).l.length + 64 := by rw [hl2, mkL_len]
        have hv1 := view_F3a (e := 75) (E := totalEn) (m := mkTt) (gl := gl) hs
        have hv2 := view_F3b (e := 75) (E := totalEn) (m := mkTt) hs ht
        refine v_code [] (hk := ?_)
        refine v_loop (fun m E H => ∃ (i : Nat), E = [(10, vn i)] ∧ H = [] ∧ m = (gl.getD k default).l.length - i ∧ i ≤ (gl.getD k default).l.length) [0, 5, 9, 11, 12, 13, 14, 15, 73, 74, 75, 76, 77, 78, 123, 124, 125, 126, 127, 128, 129, 130, 131, 132, 133, 134, 135, 136, 137, 138, 139, 140, 141, 142, 143, 144, 145, 146, 147, 148, 149, 150, 151, 152, 153, 154, 155, 156, 157, 158, 159, 160, 161, 162, 163, 164, 165, 166, 167, 168, 169, 170, 171, 172, 173, 174, 175, 176, 177, 178, 179, 180, 181, 182, 183, 184, 185, 186, 187, 188, 189, 190, 191, 192] ((gl.getD k default).l.length) ([(10, vn 0)]) ([]) (h0 := ⟨0, rfl, rfl, by omega, by omega⟩) (hr := ?_)
        rintro _ _ _ ⟨i, rfl, rfl, hmi, hi⟩
        refine v_code [] (hk := ?_)
        first | refine c_ifd rfl (fun h85 => ?_) (fun h85 => ?_) | refine c_ifn rfl (fun h85 => ?_) (fun h85 => ?_) | refine c_if rfl (fun h85 => ?_) (fun h85 => ?_)
        · refine v_code [] (hk := ?_)
          refine v_draw (.q 0 (.q 1 (.q 2 (.q 3 (.q 4 (.q 5 (.q 6 (.q 7 (.q 8 (.s 9 (.q 10 (.q 11 (.q 12 (.q 13 (.q 14 (.q 15 (.q 16 (.q 17 (.q 18 (.q 19 (.q 20 (.q 21 (.q 22 (.q 23 (.q 24 (.q 25 (.q 26 (.q 27 (.q 28 (.q 29 (.s 30 (.q 31 (.q 32 (.q 33 (.q 34 .nil))))))))))))))))))))))))))))))))))) [0, 51, 10042] (hm := by kernel_rfl) (hs := by kernel_rfl) (hk := by kernel_rfl) (h := ?_)
          refine v_sch [] (hk := ?_)
          refine k_valC 91 (vsl 51 (gl.getD k default).A (gl.getD k default).l.length (gl.getD k default).c) rfl rfl ?_
          refine k_valC 92 (vint i) rfl rfl ?_
          refine q_rd rfl (r_indexT (hj := by omega)) ?_
          refine q_rd rfl (r_loadT (hj := by omega)) ?_
          refine v_sch [] (hk := ?_)
          refine v_callS rfl 24850 [] (markTotal_spec k i) Tryz.func127 (h := ?_)
          rintro _ _ (⟨rfl, rfl⟩)
          refine ⟨cov_of (by repeat (first | exact trivial | refine ⟨rfl, ?_⟩)), ?_⟩
          refine q_rd rfl (r_eqSt (u := (gl.getD k default).l.getD i total0) (v := mkTt k i)) ?_
          refine v_knowC 98 true rfl (decide_eq_true (by rw [hl2]; exact mkL_getD (by omega))) ?_
          refine v_sch [] (hk := ?_)
          refine k_valC 112 (.cond _ (.one (.sl 51 (ss.getD k default).A (ss.getD k default).l.length (ss.getD k default).c))) rfl rfl ?_
          refine k_valC 113 (.cond _ (.one (.i .i64 i))) rfl rfl ?_
          refine q_rdG rfl [112, 113] ⟨_, _, ⟨_, .inl ⟨rfl, rfl⟩⟩, ⟨_, _, ⟨_, .inl ⟨rfl, rfl⟩⟩, rfl, rfl⟩, rfl⟩ (fun hg => (r_indexT (hj := by have := of_decide_eq_true hg; omega))) ?_
          refine q_rdG rfl [114] ⟨_, _, ⟨_, .inl ⟨rfl, rfl⟩⟩, rfl, rfl⟩ (fun hg => (r_loadT (hj := by have := of_decide_eq_true hg; omega))) ?_
          refine v_sch [] (hk := ?_)
          refine s_callG rfl [] [116, 117] ⟨_, _, ⟨_, .inl ⟨rfl, rfl⟩⟩, ⟨_, _, ⟨_, .inl ⟨rfl, rfl⟩⟩, rfl, rfl⟩, rfl⟩ (fun hg => markTotal_spec k i) Tryz.func127 (h := ?_)
          refine q_rdG rfl [115, 118] ⟨_, _, ⟨_, .inl ⟨rfl, rfl⟩⟩, ⟨_, _, ⟨_, .inl ⟨rfl, rfl⟩⟩, rfl, rfl⟩, rfl⟩ (fun hg => (r_eqSt (u := (mkL mkTt k (ss.getD k default).l.length).getD i total0) (v := mkTt k i))) ?_
          refine v_sch [] (hk := ?_)
          first | refine c_ifd rfl (fun h122 => ?_) (fun h122 => ?_) | refine c_ifn rfl (fun h122 => ?_) (fun h122 => ?_) | refine c_if rfl (fun h122 => ?_) (fun h122 => ?_)
          · exact flat_no h122 (fun hi2 => decide_eq_true (mkL_getD hi2))
          · refine v_code [] (hk := ?_)
            refine v_again ((gl.getD k default).l.length - (i + 1)) ⟨i + 1, rfl, rfl, by omega, by omega⟩
        · refine v_code [] (hk := ?_)
          refine v_again (ss.length - (k + 1)) ⟨k + 1, rfl, rfl, by omega, by omega⟩
      · refine v_code [] (hk := ?_)
        refine k_ren 51 50 rfl ?_
        refine v_loop (fun m E H => ∃ (k : Nat) (gl2 : List (Hd TotalP)), E = [(11, vn k)] ∧ H = [(10042, Res.rows (some ⟨g42, 0, none⟩) ss.length 36 (hdEn TotalP 51) gl2), (50, Res.bag (ss.mapIdx (F3 75 totalEn mkTt gl2)))] ∧ m = ss.length - k ∧ k ≤ ss.length ∧ (gl2.length = ss.length) ∧ (∀ j, j < k → ∀ s, ss[j]? = some s → mkL mkTt j s.l.length <+: (gl2.getD j default).l)) [0, 2, 5, 14, 15, 152, 153, 154, 155, 156, 157, 158, 159, 160, 161, 162, 163, 164, 165, 166, 167, 168, 169, 170, 171, 172, 173, 174, 175, 176, 177, 178, 179, 180, 181, 182, 183, 184, 185, 186, 187, 188, 189, 190, 191, 192] (ss.length) ([(11, vn 0)]) ([(10042, Res.rows (some ⟨g42, 0, none⟩) ss.length 36 (hdEn TotalP 51) (gl)), (50, Res.bag (ss.mapIdx (F3 75 totalEn mkTt (gl))))]) (h0 := ⟨0, gl, rfl, rfl, by omega, by omega, hik0, (fun j hj => absurd hj (Nat.not_lt_zero j))⟩) (hr := ?_)
        rintro _ _ _ ⟨k, gl2, rfl, rfl, hmk, hk, hg2, hp2⟩
        refine v_code [] (hk := ?_)
        first | refine c_ifd rfl (fun h126 => ?_) (fun h126 => ?_) | refine c_ifn rfl (fun h126 => ?_) (fun h126 => ?_) | refine c_if rfl (fun h126 => ?_) (fun h126 => ?_)
        · have hs := getD_some (d := default) h126
          have hsl := hln _ (getD_mem (d := default) h126)
          have hmk : (ss.getD k default).l.length = (mkL mkTt k (ss.getD k default).l.length).length := mkL_len.symm
          refine k_out 50 51 k (r := F3 75 totalEn mkTt gl2 k (ss.getD k default)) (mapIdx_get hs rfl) rfl ?_
          refine k_conv 51 (Res.two 75 totalEn (ss.getD k default).A (ss.getD k default).c (mkL mkTt k (ss.getD k default).l.length) (ss.getD k default).A (ss.getD k default).c (mkL mkTt k (ss.getD k default).l.length)) rfl (fun w h => two_of (two_rows h)) (fun b hb => (fp_two.1 hb).elim .inl .inl) ?_
          refine v_code [] (hk := ?_)
          refine l_do (d_makeSlice (m := 64)) (fun g129 => ?_)
          refine v_ops [] (hk := ?_)
          refine v_loop (fun m E H => ∃ (i : Nat), E = [(13, vn i)] ∧ H = [(10129, Res.rows (some ⟨g129, 0, none⟩) 64 75 totalEn (mkL mkTt (k + ss.length) i ++ (List.replicate 64 total0).drop i))] ∧ m = 64 - i ∧ i ≤ 64) [0, 2, 5, 11, 12, 14, 15, 123, 124, 125, 126, 127, 128, 129, 143, 144, 145, 146, 147, 148, 149, 150, 151, 152, 153, 154, 155, 156, 157, 158, 159, 160, 161, 162, 163, 164, 165, 166, 167, 168, 169, 170, 171, 172, 173, 174, 175, 176, 177, 178, 179, 180, 181, 182, 183, 184, 185, 186, 187, 188, 189, 190, 191, 192] (64) ([(13, vn 0)]) ([(10129, Res.rows (some ⟨g129, 0, none⟩) 64 75 totalEn (mkL mkTt (k + ss.length) 0 ++ (List.replicate 64 total0).drop 0))]) (h0 := ⟨0, rfl, rfl, by omega, by omega⟩) (hr := ?_)
          rintro _ _ _ ⟨i, rfl, rfl, hmi, hi⟩
          refine v_code [] (hk := ?_)
          first | refine c_ifd rfl (fun h131 => ?_) (fun h131 => ?_) | refine c_ifn rfl (fun h131 => ?_) (fun h131 => ?_) | refine c_if rfl (fun h131 => ?_) (fun h131 => ?_)
          · have hm7 : 64 = (mkL mkTt (k + ss.length) i ++ (List.replicate 64 total0).drop i).length := by rw [List.length_append, mkL_len, List.length_drop, List.length_replicate]; omega
            refine v_code [] (hk := ?_)
            refine v_call 27050 [] (markTotal_spec ((k + ss.length : Nat) : Int) i) Tryz.func127 (h := ?_)
            rintro _ _ (⟨rfl, rfl⟩)
            refine v_ops [] (hk := ?_)
            refine l_do1 (d_storeT (total0) (u' := mkTt (k + ss.length) i)) ?_
            refine v_ops [] (hk := ?_)
            refine k_res 10129 (Res.rows (some ⟨g129, 0, none⟩) 64 75 totalEn (mkL mkTt (k + ss.length) (i + 1) ++ (List.replicate 64 total0).drop (i + 1))) rfl (by rw [mkL_set (by rw [List.length_replicate]; omega)] <;> rfl) ?_
            refine v_again (64 - (i + 1)) ⟨i + 1, rfl, rfl, by omega, by omega⟩
          · obtain rfl : i = 64 := by omega
            have hm64 : 64 = (mkL mkTt (k + ss.length) 64).length := mkL_len.symm
            have hm64b : (mkL mkTt (k + ss.length) 64).length ≤ 1000 := by rw [mkL_len]; decide
            refine k_res 10129 (Res.rows (some ⟨g129, 0, none⟩) 64 75 totalEn (mkL mkTt (k + ss.length) 64)) rfl (by rw [show (List.replicate 64 total0).drop 64 = [] from rfl, List.append_nil] <;> rfl) ?_
            refine v_code [] (hk := ?_)
            refine k_val 148 (vsl 51 (ss.getD k default).A (ss.getD k default).l.length (ss.getD k default).c) rfl rfl ?_
            refine l_do (d_append2 (hb := by simp only [mkL_len]; omega)) (fun p150 => ?_)
            refine v_ops [] (hk := ?_)
            refine l_do1 (d_storeT (default) (u' := (⟨p150.1, p150.2, mkL mkTt k (ss.getD k default).l.length ++ mkL mkTt (k + ss.length) 64⟩ : Hd TotalP))) ?_
            refine v_ops [] (hk := ?_)
            refine k_in 50 51 k (ss.mapIdx (F3 75 totalEn mkTt (gl2.set k (⟨p150.1, p150.2, mkL mkTt k (ss.getD k default).l.length ++ mkL mkTt (k + ss.length) 64⟩ : Hd TotalP)))) (by rw [List.length_mapIdx]; omega) (mapIdx_set hs (by unfold F3; rw [hdD_set (by omega)] <;> rfl) F3_ne) rfl rfl ?_
            refine v_again (ss.length - (k + 1)) ⟨k + 1, gl2.set k (⟨p150.1, p150.2, mkL mkTt k (ss.getD k default).l.length ++ mkL mkTt (k + ss.length) 64⟩ : Hd TotalP), rfl, rfl, by omega, by omega, by rw [List.length_set, hg2], (fun j hj s2 hs2 => by by_cases e : j = k; (subst e; rw [hdD_set (by omega), opt_eq hs2 hs]; exact List.prefix_append _ _); (rw [hdD_ne e]; exact hp2 j (by omega) s2 hs2))⟩
        · refine v_code [] (hk := ?_)
          refine k_ren 50 51 rfl ?_
          have hgl2 : ∀ j s, ss[j]? = some s → mkL mkTt j s.l.length <+: (gl2.getD j default).l := fun j s hj => hp2 j (by have := (List.getElem?_eq_some_iff.1 hj).1; omega) s hj
          refine v_loop (fun m E H => ∃ (k : Nat), E = [(14, vn k)] ∧ H = [] ∧ m = ss.length - k ∧ k ≤ ss.length) [0, 5] (ss.length) ([(14, vn 0)]) ([]) (h0 := ⟨0, rfl, rfl, by omega, by omega⟩) (hr := ?_)
          rintro _ _ _ ⟨k, rfl, rfl, hmk, hk⟩
          refine v_code [] (hk := ?_)
          first | refine c_ifd rfl (fun h155 => ?_) (fun h155 => ?_) | refine c_ifn rfl (fun h155 => ?_) (fun h155 => ?_) | refine c_if rfl (fun h155 => ?_) (fun h155 => ?_)
          · have hs := getD_some (d := default) h155
            have hsl := hln _ (getD_mem (d := default) h155)
            have hmk : (ss.getD k default).l.length = (mkL mkTt k (ss.getD k default).l.length).length := mkL_len.symm
            have ht := getD_some (l := gl2) (k := k) (d := default) (by omega)
            have hpre : mkL mkTt k (ss.getD k default).l.length <+: (gl2.getD k default).l := hgl2 k _ hs
            have htl : (ss.getD k default).l.length ≤ (gl2.getD k default).l.length := by have := hpre.length_le; rwa [mkL_len] at this
            have hv1 := view_F3a (e := 75) (E := totalEn) (m := mkTt) (gl := gl2) hs
            have hv2 := view_F3b (e := 75) (E := totalEn) (m := mkTt) hs ht
            refine v_code [] (hk := ?_)
            refine v_loop (fun m E H => ∃ (i : Nat), E = [(15, vn i)] ∧ H = [] ∧ m = (ss.getD k default).l.length - i ∧ i ≤ (ss.getD k default).l.length) [0, 5, 14, 152, 153, 154, 155, 156, 157] ((ss.getD k default).l.length) ([(15, vn 0)]) ([]) (h0 := ⟨0, rfl, rfl, by omega, by omega⟩) (hr := ?_)
            rintro _ _ _ ⟨i, rfl, rfl, hmi, hi⟩
            refine v_code [] (hk := ?_)
            first | refine c_ifd rfl (fun h164 => ?_) (fun h164 => ?_) | refine c_ifn rfl (fun h164 => ?_) (fun h164 => ?_) | refine c_if rfl (fun h164 => ?_) (fun h164 => ?_)
            · refine v_code [] (hk := ?_)
              refine v_draw (.q 0 (.q 1 (.q 2 (.q 3 (.q 4 (.q 5 (.q 6 (.q 7 (.q 8 (.s 9 (.q 10 (.q 11 (.q 12 (.q 13 (.q 14 (.q 15 (.q 16 (.q 17 (.q 18 (.q 19 (.q 20 (.q 21 (.s 22 (.q 23 (.q 24 (.q 25 .nil)))))))))))))))))))))))))) [0, 51, 10042] (hm := by kernel_rfl) (hs := by kernel_rfl) (hk := by kernel_rfl) (h := ?_)
              refine v_sch [] (hk := ?_)
              refine k_valC 170 (vsl 51 (ss.getD k default).A (ss.getD k default).l.length (ss.getD k default).c) rfl rfl ?_
              refine k_valC 171 (vint i) rfl rfl ?_
              refine q_rd rfl (r_indexT (hj := by omega)) ?_
              refine q_rd rfl (r_loadT (hj := by omega)) ?_
              refine v_sch [] (hk := ?_)
              refine v_callS rfl 28800 [] (markTotal_spec k i) Tryz.func127 (h := ?_)
              rintro _ _ (⟨rfl, rfl⟩)
              refine ⟨cov_of (by repeat (first | exact trivial | refine ⟨rfl, ?_⟩)), ?_⟩
              refine q_rd rfl (r_eqSt (u := (mkL mkTt k (ss.getD k default).l.length).getD i total0) (v := mkTt k i)) ?_
              refine v_knowC 177 true rfl (decide_eq_true (mkL_getD (by omega))) ?_
              refine v_sch [] (hk := ?_)
              refine k_valC 183 (vsl 51 (gl2.getD k default).A (gl2.getD k default).l.length (gl2.getD k default).c) rfl rfl ?_
              refine k_valC 184 (vint i) rfl rfl ?_
              refine k_valC 179 (vb false) rfl rfl ?_
              refine q_rd rfl (r_indexT (hj := by omega)) ?_
              refine q_rd rfl (r_loadT (hj := by omega)) ?_
              refine v_knowC 179 false rfl rfl ?_
              refine v_sch [] (hk := ?_)
              refine k_valC 179 (vb false) rfl rfl ?_
              refine v_callDS rfl 29450 [] (markTotal_spec k i) Tryz.func127 (hB := trivial) (h := ?_)
              rintro _ _ (⟨rfl, rfl⟩)
              refine ⟨cov_of (by repeat (first | exact trivial | refine ⟨rfl, ?_⟩)), ?_⟩
              refine q_rd rfl (r_eqSt (u := (gl2.getD k default).l.getD i total0) (v := mkTt k i)) ?_
              refine v_knowC 179 false rfl rfl ?_
              refine v_sch [] (hk := ?_)
              first | refine c_ifd rfl (fun h192 => ?_) (fun h192 => ?_) | refine c_ifn rfl (fun h192 => ?_) (fun h192 => ?_) | refine c_if rfl (fun h192 => ?_) (fun h192 => ?_)
              · exact absurd (mkL_pgetD hpre (by omega)) h192
              · refine v_code [] (hk := ?_)
                refine v_again ((ss.getD k default).l.length - (i + 1)) ⟨i + 1, rfl, rfl, by omega, by omega⟩
            · refine v_code [] (hk := ?_)
              refine v_again (ss.length - (k + 1)) ⟨k + 1, rfl, rfl, by omega, by omega⟩
          · refine v_code [] (hk := ?_)
            refine v_ret rfl [] (.cons (.tmp rfl) .nil) (h := ?_)
            exact ⟨rfl, rfl⟩
end Go.Proofs.YtlnckcgbpilmdaaGreat
/- Lists that lie apart: values. -/

set_option linter.unusedVariables false
set_option linter.unusedSimpArgs false
set_option maxRecDepth 100000
set_option maxHeartbeats 8000000
namespace Go.Proofs.YtlnckcgbpilmdaaGreat
open Go Go.RowKit HL
instance : ElT Tryz.prog 22 (hdEn ValueM 51) := ⟨⟩
theorem flatValues_spec (A0 : Option Addr) (c0 : Nat) (ss : List (Hd ValueM)) (hm : ss.length ≤ 1000) (hln : ∀ s ∈ ss, s.l.length ≤ 1048576) :
    CSpec Tryz.prog 108 [.one (.sl 0 A0 ss.length c0)] [] [(0, Res.rows A0 c0 22 (hdEn ValueM 51) ss), (50, Res.bag (ss.map (Hd.res 26 valueEn)))] fun o L => o = .ret (vb true) ∧ L = [] := by
  refine v_enter Tryz.func108 (h := fun w0 => ?_)
  refine v_code [] (hk := ?_)
  refine k_res 50 (Res.bag (ss.mapIdx (F1 26 valueEn mkV 0))) rfl (by show Res.bag _ = Res.bag _; rw [map_F1 (m := mkV)]) ?_
  refine v_loop (fun m E H => ∃ (k : Nat), E = [(3, vn k)] ∧ H = [(50, Res.bag (ss.mapIdx (F1 26 valueEn mkV k)))] ∧ m = ss.length - k ∧ k ≤ ss.length) [0, 2, 5, 6, 7, 8, 9, 10, 11, 12, 13, 14, 15, 40, 41, 42, 43, 44, 45, 46, 47, 48, 49, 50, 51, 52, 53, 54, 55, 56, 57, 58, 59, 60, 61, 62, 63, 64, 65, 66, 67, 68, 69, 70, 71, 72, 73, 74, 75, 76, 77, 78, 79, 80, 81, 82, 83, 84, 85, 86, 87, 88, 89, 90, 91, 92, 93, 94, 95, 96, 97, 98, 99, 100, 101, 102, 103, 104, 105, 106, 107, 108, 109, 110, 111, 112, 113, 114, 115, 116, 117, 118, 119, 120, 121, 122, 123, 124, 125, 126, 127, 128, 129, 130, 131, 132, 133, 134, 135, 136, 137, 138, 139, 140, 141, 142, 143, 144, 145, 146, 147, 148, 149, 150, 151, 152, 153, 154, 155, 156, 157, 158, 159, 160, 161, 162, 163, 164, 165, 166, 167, 168, 169, 170, 171, 172, 173, 174, 175, 176, 177, 178, 179, 180, 181, 182, 183, 184, 185, 186, 187, 188, 189, 190, 191, 192] (ss.length) ([(3, vn 0)]) ([(50, Res.bag (ss.mapIdx (F1 26 valueEn mkV 0)))]) (h0 := ⟨0, rfl, rfl, by omega, by omega⟩) (hr := ?_)
  rintro _ _ _ ⟨k, rfl, rfl, hmk, hk⟩
  refine v_code [] (hk := ?_)
  first | refine c_ifd rfl (fun h19 => ?_) (fun h19 => ?_) | refine c_ifn rfl (fun h19 => ?_) (fun h19 => ?_) | refine c_if rfl (fun h19 => ?_) (fun h19 => ?_)
  · have hs := getD_some (d := default) h19
    have hsl := hln _ (getD_mem (d := default) h19)
    refine k_out 50 51 k (r := Res.rows (ss.getD k default).A (ss.getD k default).c 26 valueEn (ss.getD k default).l) (mapIdx_get hs (by unfold F1; rw [if_neg (Nat.lt_irrefl k)])) rfl ?_
    refine v_code [] (hk := ?_)
    refine v_loop (fun m E H => ∃ (i : Nat), E = [(4, vn i)] ∧ H = [(51, Res.rows (ss.getD k default).A (ss.getD k default).c 26 valueEn (mkL mkV k i ++ (ss.getD k default).l.drop i))] ∧ m = (ss.getD k default).l.length - i ∧ i ≤ (ss.getD k default).l.length) [0, 2, 3, 5, 6, 7, 8, 9, 10, 11, 12, 13, 14, 15, 16, 17, 18, 19, 20, 21, 40, 41, 42, 43, 44, 45, 46, 47, 48, 49, 50, 51, 52, 53, 54, 55, 56, 57, 58, 59, 60, 61, 62, 63, 64, 65, 66, 67, 68, 69, 70, 71, 72, 73, 74, 75, 76, 77, 78, 79, 80, 81, 82, 83, 84, 85, 86, 87, 88, 89, 90, 91, 92, 93, 94, 95, 96, 97, 98, 99, 100, 101, 102, 103, 104, 105, 106, 107, 108, 109, 110, 111, 112, 113, 114, 115, 116, 117, 118, 119, 120, 121, 122, 123, 124, 125, 126, 127, 128, 129, 130, 131, 132, 133, 134, 135, 136, 137, 138, 139, 140, 141, 142, 143, 144, 145, 146, 147, 148, 149, 150, 151, 152, 153, 154, 155, 156, 157, 158, 159, 160, 161, 162, 163, 164, 165, 166, 167, 168, 169, 170, 171, 172, 173, 174, 175, 176, 177, 178, 179, 180, 181, 182, 183, 184, 185, 186, 187, 188, 189, 190, 191, 192] ((ss.getD k default).l.length) ([(4, vn 0)]) ([(51, Res.rows (ss.getD k default).A (ss.getD k default).c 26 valueEn (mkL mkV k 0 ++ (ss.getD k default).l.drop 0))]) (h0 := ⟨0, rfl, rfl, by omega, by omega⟩) (hr := ?_)
    rintro _ _ _ ⟨i, rfl, rfl, hmi, hi⟩
    refine v_code [] (hk := ?_)
    first | refine c_ifd rfl (fun h28 => ?_) (fun h28 => ?_) | refine c_ifn rfl (fun h28 => ?_) (fun h28 => ?_) | refine c_if rfl (fun h28 => ?_) (fun h28 => ?_)
    · have hml : (ss.getD k default).l.length = (mkL mkV k i ++ (ss.getD k default).l.drop i).length := by rw [List.length_append, mkL_len, List.length_drop]; omega
      refine v_code [] (hk := ?_)
      refine v_draw (.q 0 (.q 1 (.q 2 (.q 3 (.q 4 (.q 5 (.q 6 (.s 7 (.s 8 (.s 9 .nil)))))))))) [0] (hm := by kernel_rfl) (hs := by kernel_rfl) (hk := by kernel_rfl) (h := ?_)
      refine v_sch [] (hk := ?_)
      refine v_callS rfl 21900 [] (markValue_spec k i (by omega) (by omega)) Tryz.func49 (h := ?_)
      rintro _ _ (⟨rfl, rfl⟩)
      refine ⟨cov_of (by repeat (first | exact trivial | refine ⟨rfl, ?_⟩)), ?_⟩
      refine v_sch [] (hk := ?_)
      refine k_valC 34 (vsl 51 (ss.getD k default).A (ss.getD k default).l.length (ss.getD k default).c) rfl rfl ?_
      refine v_sch [] (hk := ?_)
      refine k_valC 38 (.s (valueEn.f (mkV k i))) rfl rfl ?_
      refine s_do1 rfl (d_storeT (value0) (u' := mkV k i)) ?_
      refine v_sch [] (hk := ?_)
      refine k_res 51 (Res.rows (ss.getD k default).A (ss.getD k default).c 26 valueEn (mkL mkV k (i + 1) ++ (ss.getD k default).l.drop (i + 1))) rfl (by rw [mkL_set (by omega)] <;> rfl) ?_
      refine v_again ((ss.getD k default).l.length - (i + 1)) ⟨i + 1, rfl, rfl, by omega, by omega⟩
    · refine v_code [] (hk := ?_)
      have hie : i = (ss.getD k default).l.length := by omega
      refine k_in 50 51 k (ss.mapIdx (F1 26 valueEn mkV (k + 1))) (by rw [List.length_mapIdx]; omega) (mapIdx_set hs (by unfold F1; rw [if_pos (Nat.lt_succ_self k), hie, List.drop_length, List.append_nil] <;> rfl) F1_ne) rfl rfl ?_
      refine v_again (ss.length - (k + 1)) ⟨k + 1, rfl, rfl, by omega, by omega⟩
  · refine v_code [] (hk := ?_)
    refine k_val 41 (vi .i64 (ss.length : Int)) rfl rfl ?_
    refine l_do (d_makeSlice (E := hdEn ValueM 51) (hE := ⟨⟩) (m := ss.length)) (fun g42 => ?_)
    refine v_ops [] (hk := ?_)
    refine k_res 50 (Res.bag (ss.mapIdx (F2 26 valueEn mkV (List.replicate ss.length default) 0))) rfl (by show Res.bag _ = Res.bag _; rw [F1_F2 (by omega)]) ?_
    refine v_loop (fun m E H => ∃ (k : Nat) (gl : List (Hd ValueM)), E = [(6, vn k)] ∧ H = [(10042, Res.rows (some ⟨g42, 0, none⟩) ss.length 22 (hdEn ValueM 51) gl), (50, Res.bag (ss.mapIdx (F2 26 valueEn mkV gl k)))] ∧ m = ss.length - k ∧ k ≤ ss.length ∧ (gl.length = ss.length) ∧ (∀ j, j < k → ∀ s, ss[j]? = some s → (gl.getD j default).l = mkL mkV j (s.l.length + 64))) [0, 2, 5, 9, 10, 11, 12, 13, 14, 15, 73, 74, 75, 76, 77, 78, 79, 80, 81, 82, 83, 84, 85, 86, 87, 88, 89, 90, 91, 92, 93, 94, 95, 96, 97, 98, 99, 100, 101, 102, 103, 104, 105, 106, 107, 108, 109, 110, 111, 112, 113, 114, 115, 116, 117, 118, 119, 120, 121, 122, 123, 124, 125, 126, 127, 128, 129, 130, 131, 132, 133, 134, 135, 136, 137, 138, 139, 140, 141, 142, 143, 144, 145, 146, 147, 148, 149, 150, 151, 152, 153, 154, 155, 156, 157, 158, 159, 160, 161, 162, 163, 164, 165, 166, 167, 168, 169, 170, 171, 172, 173, 174, 175, 176, 177, 178, 179, 180, 181, 182, 183, 184, 185, 186, 187, 188, 189, 190, 191, 192] (ss.length) ([(6, vn 0)]) ([(10042, Res.rows (some ⟨g42, 0, none⟩) ss.length 22 (hdEn ValueM 51) (List.replicate ss.length default)), (50, Res.bag (ss.mapIdx (F2 26 valueEn mkV (List.replicate ss.length default) 0)))]) (h0 := ⟨0, List.replicate ss.length default, rfl, rfl, by omega, by omega, by simp, (fun j hj => absurd hj (Nat.not_lt_zero j))⟩) (hr := ?_)
    rintro _ _ _ ⟨k, gl, rfl, rfl, hmk, hk, hik0, hik1⟩
    refine v_code [] (hk := ?_)
    first | refine c_ifd rfl (fun h46 => ?_) (fun h46 => ?_) | refine c_ifn rfl (fun h46 => ?_) (fun h46 => ?_) | refine c_if rfl (fun h46 => ?_) (fun h46 => ?_)
    · have hs := getD_some (d := default) h46
      have hsl := hln _ (getD_mem (d := default) h46)
      refine k_out 50 51 k (r := Res.rows (ss.getD k default).A (ss.getD k default).c 26 valueEn (mkL mkV k (ss.getD k default).l.length)) (mapIdx_get hs (by unfold F2; rw [if_neg (Nat.lt_irrefl k)])) rfl ?_
      refine k_conv 51 (Res.two 26 valueEn (ss.getD k default).A (ss.getD k default).c (mkL mkV k (ss.getD k default).l.length) (ss.getD k default).A (ss.getD k default).c (mkL mkV k (ss.getD k default).l.length)) rfl (fun w h => two_of h) (fun b hb => by rw [fp_rows]; exact (fp_two.1 hb).elim id id) ?_
      refine v_code [] (hk := ?_)
      refine v_loop (fun m E H => ∃ (i : Nat) (A7 : Option Addr) (c7 : Nat), E = [(8, vn i), (7, vsl 51 A7 ((ss.getD k default).l.length + i) c7)] ∧ H = [(51, Res.two 26 valueEn (ss.getD k default).A (ss.getD k default).c (mkL mkV k (ss.getD k default).l.length) A7 c7 (mkL mkV k ((ss.getD k default).l.length + i)))] ∧ m = 64 - i ∧ i ≤ 64) [0, 2, 5, 6, 9, 10, 11, 12, 13, 14, 15, 43, 44, 45, 46, 47, 48, 49, 50, 51, 52, 69, 70, 71, 72, 73, 74, 75, 76, 77, 78, 79, 80, 81, 82, 83, 84, 85, 86, 87, 88, 89, 90, 91, 92, 93, 94, 95, 96, 97, 98, 99, 100, 101, 102, 103, 104, 105, 106, 107, 108, 109, 110, 111, 112, 113, 114, 115, 116, 117, 118, 119, 120, 121, 122, 123, 124, 125, 126, 127, 128, 129, 130, 131, 132, 133, 134, 135, 136, 137, 138, 139, 140, 141, 142, 143, 144, 145, 146, 147, 148, 149, 150, 151, 152, 153, 154, 155, 156, 157, 158, 159, 160, 161, 162, 163, 164, 165, 166, 167, 168, 169, 170, 171, 172, 173, 174, 175, 176, 177, 178, 179, 180, 181, 182, 183, 184, 185, 186, 187, 188, 189, 190, 191, 192] (64) ([(8, vn 0), (7, vsl 51 ((ss.getD k default).A) ((ss.getD k default).l.length + 0) ((ss.getD k default).c))]) ([(51, Res.two 26 valueEn (ss.getD k default).A (ss.getD k default).c (mkL mkV k (ss.getD k default).l.length) ((ss.getD k default).A) ((ss.getD k default).c) (mkL mkV k ((ss.getD k default).l.length + 0)))]) (h0 := ⟨0, (ss.getD k default).A, (ss.getD k default).c, rfl, rfl, by omega, by omega⟩) (hr := ?_)
      rintro _ _ _ ⟨i, A7, c7, rfl, rfl, hmi, hi⟩
      refine v_code [] (hk := ?_)
      first | refine c_ifd rfl (fun h54 => ?_) (fun h54 => ?_) | refine c_ifn rfl (fun h54 => ?_) (fun h54 => ?_) | refine c_if rfl (fun h54 => ?_) (fun h54 => ?_)
      · have hml : (ss.getD k default).l.length + i = (mkL mkV k ((ss.getD k default).l.length + i)).length := mkL_len.symm
        refine v_code [] (hk := ?_)
        refine v_call 23300 [] (markValue_spec k (((ss.getD k default).l.length + i : Nat) : Int) (by omega) (by omega)) Tryz.func49 (h := ?_)
        rintro _ _ (⟨rfl, rfl⟩)
        refine l_do (d_bslice [mkV k ((ss.getD k default).l.length + i)]) (fun B67 => ?_)
        refine l_do d_append2 (fun p68 => ?_)
        refine v_ops [] (hk := ?_)
        refine k_val 7 (vsl 51 p68.1 ((ss.getD k default).l.length + (i + 1)) p68.2) rfl (by rw [List.length_append, mkL_len] <;> rfl) ?_
        refine k_res 51 (Res.two 26 valueEn (ss.getD k default).A (ss.getD k default).c (mkL mkV k (ss.getD k default).l.length) p68.1 p68.2 (mkL mkV k ((ss.getD k default).l.length + (i + 1)))) rfl (by rw [show (ss.getD k default).l.length + (i + 1) = ((ss.getD k default).l.length + i) + 1 from rfl, mkL_succ] <;> rfl) ?_
        refine v_again (64 - (i + 1)) ⟨i + 1, p68.1, p68.2, rfl, rfl, by omega, by omega⟩
      · obtain rfl : i = 64 := by omega
        refine v_code [] (hk := ?_)
        refine k_val 71 (vsl 51 A7 (mkL mkV k ((ss.getD k default).l.length + 64)).length c7) rfl (by rw [mkL_len] <;> rfl) ?_
        refine l_do1 (d_storeT (default) (u' := (⟨A7, c7, mkL mkV k ((ss.getD k default).l.length + 64)⟩ : Hd ValueM))) ?_
        refine v_ops [] (hk := ?_)
        refine k_in 50 51 k (ss.mapIdx (F2 26 valueEn mkV (gl.set k (⟨A7, c7, mkL mkV k ((ss.getD k default).l.length + 64)⟩ : Hd ValueM)) (k + 1))) (by rw [List.length_mapIdx]; omega) (mapIdx_set hs (by unfold F2 F3; rw [if_pos (by omega), hdD_set (by omega)] <;> rfl) (F2_ne (by omega))) rfl rfl ?_
        refine v_again (ss.length - (k + 1)) ⟨k + 1, gl.set k (⟨A7, c7, mkL mkV k ((ss.getD k default).l.length + 64)⟩ : Hd ValueM), rfl, rfl, by omega, by omega, by rw [List.length_set, hik0], (fun j hj s2 hs2 => by by_cases e : j = k; (subst e; rw [hdD_set (by omega), opt_eq hs2 hs]); (rw [hdD_ne e]; exact hik1 j (by omega) s2 hs2))⟩
    · refine v_code [] (hk := ?_)
      refine k_ren 50 51 rfl ?_
      refine k_res 51 (Res.bag (ss.mapIdx (F3 26 valueEn mkV gl))) rfl (by show Res.bag _ = Res.bag _; rw [F2_F3 (by omega)]) ?_
      have hgl : ∀ j s, ss[j]? = some s → (gl.getD j default).l = mkL mkV j (s.l.length + 64) := fun j s hj => hik1 j (by have := (List.getElem?_eq_some_iff.1 hj).1; omega) s hj
      refine v_loop (fun m E H => ∃ (k : Nat), E = [(9, vn k)] ∧ H = [] ∧ m = ss.length - k ∧ k ≤ ss.length) [0, 5, 11, 12, 13, 14, 15, 123, 124, 125, 126, 127, 128, 129, 130, 131, 132, 133, 134, 135, 136, 137, 138, 139, 140, 141, 142, 143, 144, 145, 146, 147, 148, 149, 150, 151, 152, 153, 154, 155, 156, 157, 158, 159, 160, 161, 162, 163, 164, 165, 166, 167, 168, 169, 170, 171, 172, 173, 174, 175, 176, 177, 178, 179, 180, 181, 182, 183, 184, 185, 186, 187, 188, 189, 190, 191, 192] (ss.length) ([(9, vn 0)]) ([]) (h0 := ⟨0, rfl, rfl, by omega, by omega⟩) (hr := ?_)
      rintro _ _ _ ⟨k, rfl, rfl, hmk, hk⟩
      refine v_code [] (hk := ?_)
      first | refine c_ifd rfl (fun h76 => ?_) (fun h76 => ?_) | refine c_ifn rfl (fun h76 => ?_) (fun h76 => ?_) | refine c_if rfl (fun h76 => ?_) (fun h76 => ?_)
      · have hs := getD_some (d := default) h76
        have hsl := hln _ (getD_mem (d := default) h76)
        have hmk : (ss.getD k default).l.length = (mkL mkV k (ss.getD k default).l.length).length := mkL_len.symm
        have ht := getD_some (l := gl) (k := k) (d := default) (by omega)
        have hl2 : (gl.getD k default).l = mkL mkV k ((ss.getD k default).l.length + 64) := hgl k _ hs
        have hll : (gl.getD k default).l.length = (ss.getD k default).l.length + 64 := by rw [hl2, mkL_len]
        have hv1 := view_F3a (e := 26) (E := valueEn) (m := mkV) (gl := gl) hs
        have hv2 := view_F3b (e := 26) (E := valueEn) (m := mkV) hs ht
        refine v_code [] (hk := ?_)
        refine v_loop (fun m E H => ∃ (i : Nat), E = [(10, vn i)] ∧ H = [] ∧ m = (gl.getD k default).l.length - i ∧ i ≤ (gl.getD k default).l.length) [0, 5, 9, 11, 12, 13, 14, 15, 73, 74, 75, 76, 77, 78, 123, 124, 125, 126, 127, 128, 129, 130, 131, 132, 133, 134, 135, 136, 137, 138, 139, 140, 141, 142, 143, 144, 145, 146, 147, 148, 149, 150, 151, 152, 153, 154, 155, 156, 157, 158, 159, 160, 161, 162, 163, 164, 165, 166, 167, 168, 169, 170, 171, 172, 173, 174, 175, 176, 177, 178, 179, 180, 181, 182, 183, 184, 185, 186, 187, 188, 189, 190, 191, 192] ((gl.getD k default).l.length) ([(10, vn 0)]) ([]) (h0 := ⟨0, rfl, rfl, by omega, by omega⟩) (hr := ?_)
        rintro _ _ _ ⟨i, rfl, rfl, hmi, hi⟩
        refine v_code [] (hk := ?_)
        first | refine c_ifd rfl (fun h85 => ?_) (fun h85 => ?_) | refine c_ifn rfl (fun h85 => ?_) (fun h85 => ?_) | refine c_if rfl (fun h85 => ?_) (fun h85 => ?_)
        · refine v_code [] (hk := ?_)
          refine v_draw (.q 0 (.q 1 (.q 2 (.q 3 (.q 4 (.q 5 (.q 6 (.q 7 (.q 8 (.s 9 (.s 10 (.q 11 (.q 12 (.q 13 (.q 14 (.q 15 (.q 16 (.q 17 (.q 18 (.q 19 (.q 20 (.q 21 (.q 22 (.q 23 (.q 24 (.q 25 (.q 26 (.q 27 (.q 28 (.q 29 (.s 30 (.s 31 (.q 32 (.q 33 (.q 34 .nil))))))))))))))))))))))))))))))))))) [0, 51, 10042] (hm := by kernel_rfl) (hs := by kernel_rfl) (hk := by kernel_rfl) (h := ?_)
          refine v_sch [] (hk := ?_)
          refine k_valC 91 (vsl 51 (gl.getD k default).A (gl.getD k default).l.length (gl.getD k default).c) rfl rfl ?_
          refine k_valC 92 (vint i) rfl rfl ?_
          refine q_rd rfl (r_indexT (hj := by omega)) ?_
          refine q_rd rfl (r_loadT (hj := by omega)) ?_
          refine v_sch [] (hk := ?_)
          refine v_callS rfl 24850 [] (markValue_spec k i (by omega) (by omega)) Tryz.func49 (h := ?_)
          rintro _ _ (⟨rfl, rfl⟩)
          refine ⟨cov_of (by repeat (first | exact trivial | refine ⟨rfl, ?_⟩)), ?_⟩
          refine v_callDS rfl 24900 [] (sameValue_spec ((gl.getD k default).l.getD i value0) ⟨mk1 k i, none, 0, []⟩ (by rw [hl2, mkL_getD (by omega)]; exact Nat.zero_le _)) Tryz.func15 (hB := ⟨⟨_, (der_none (mark_at (k := k) (i := i) (by rw [hl2]; exact mkL_getD (by omega)))), rfl⟩, ⟨⟨_, Der.nl, rfl⟩, trivial⟩⟩) (h := ?_)
          rintro _ _ (⟨rfl, rfl⟩)
          refine ⟨cov_of (by repeat (first | exact trivial | refine ⟨rfl, ?_⟩)), ?_⟩
          refine v_knowC 98 true rfl (decide_eq_true (same_mark (by rw [hl2]; exact mkL_getD (by omega)))) ?_
          refine v_sch [] (hk := ?_)
          refine k_valC 112 (.cond _ (.one (.sl 51 (ss.getD k default).A (ss.getD k default).l.length (ss.getD k default).c))) rfl rfl ?_
          refine k_valC 113 (.cond _ (.one (.i .i64 i))) rfl rfl ?_
          refine q_rdG rfl [112, 113] ⟨_, _, ⟨_, .inl ⟨rfl, rfl⟩⟩, ⟨_, _, ⟨_, .inl ⟨rfl, rfl⟩⟩, rfl, rfl⟩, rfl⟩ (fun hg => (r_indexT (hj := by have := of_decide_eq_true hg; omega))) ?_
          refine q_rdG rfl [114] ⟨_, _, ⟨_, .inl ⟨rfl, rfl⟩⟩, rfl, rfl⟩ (fun hg => (r_loadT (hj := by have := of_decide_eq_true hg; omega))) ?_
          refine v_sch [] (hk := ?_)
          refine s_callG rfl [] [116, 117] ⟨_, _, ⟨_, .inl ⟨rfl, rfl⟩⟩, ⟨_, _, ⟨_, .inl ⟨rfl, rfl⟩⟩, rfl, rfl⟩, rfl⟩ (fun hg => markValue_spec k i (by omega) (by omega)) Tryz.func49 (h := ?_)
          refine s_callGD rfl [] [115, 118] ⟨_, _, ⟨_, .inl ⟨rfl, rfl⟩⟩, ⟨_, _, ⟨_, .inl ⟨rfl, rfl⟩⟩, rfl, rfl⟩, rfl⟩ (fun hg => sameValue_spec ((mkL mkV k (ss.getD k default).l.length).getD i value0) ⟨mk1 k i, none, 0, []⟩ (by rw [mkL_getD (of_decide_eq_true hg)]; exact Nat.zero_le _)) Tryz.func15 (hB := fun hg => ⟨⟨_, (der_none (mark_at (k := k) (i := i) (mkL_getD (of_decide_eq_true hg)))), rfl⟩, ⟨⟨_, Der.nl, rfl⟩, trivial⟩⟩) (h := ?_)
          refine v_sch [] (hk := ?_)
          first | refine c_ifd rfl (fun h122 => ?_) (fun h122 => ?_) | refine c_ifn rfl (fun h122 => ?_) (fun h122 => ?_) | refine c_if rfl (fun h122 => ?_) (fun h122 => ?_)
          · exact flat_no h122 (fun hi2 => decide_eq_true (same_mark (mkL_getD hi2)))
          · refine v_code [] (hk := ?_)
            refine v_again ((gl.getD k default).l.length - (i + 1)) ⟨i + 1, rfl, rfl, by omega, by omega⟩
        · refine v_code [] (hk := ?_)
          refine v_again (ss.length - (k + 1)) ⟨k + 1, rfl, rfl, by omega, by omega⟩
      · refine v_code [] (hk := ?_)
        refine k_ren 51 50 rfl ?_
        refine v_loop (fun m E H => ∃ (k : Nat) (gl2 : List (Hd ValueM)), E = [(11, vn k)] ∧ H = [(10042, Res.rows (some ⟨g42, 0, none⟩) ss.length 22 (hdEn ValueM 51) gl2), (50, Res.bag (ss.mapIdx (F3 26 valueEn mkV gl2)))] ∧ m = ss.length - k ∧ k ≤ ss.length ∧ (gl2.length = ss.length) ∧ (∀ j, j < k → ∀ s, ss[j]? = some s → mkL mkV j s.l.length <+: (gl2.getD j default).l)) [0, 2, 5, 14, 15, 152, 153, 154, 155, 156, 157, 158, 159, 160, 161, 162, 163, 164, 165, 166, 167, 168, 169, 170, 171, 172, 173, 174, 175, 176, 177, 178, 179, 180, 181, 182, 183, 184, 185, 186, 187, 188, 189, 190, 191, 192] (ss.length) ([(11, vn 0)]) ([(10042, Res.rows (some ⟨g42, 0, none⟩) ss.length 22 (hdEn ValueM 51) (gl)), (50, Res.bag (ss.mapIdx (F3 26 valueEn mkV (gl))))]) (h0 := ⟨0, gl, rfl, rfl, by omega, by omega, hik0, (fun j hj => absurd hj (Nat.not_lt_zero j))⟩) (hr := ?_)
        rintro _ _ _ ⟨k, gl2, rfl, rfl, hmk, hk, hg2, hp2⟩
        refine v_code [] (hk := ?_)
        first | refine c_ifd rfl (fun h126 => ?_) (fun h126 => ?_) | refine c_ifn rfl (fun h126 => ?_) (fun h126 => ?_) | refine c_if rfl (fun h126 => ?_) (fun h126 => ?_)
        · have hs := getD_some (d := default) h126
          have hsl := hln _ (getD_mem (d := default) h126)
          have hmk : (ss.getD k default).l.length = (mkL mkV k (ss.getD k default).l.length).length := mkL_len.symm
          refine k_out 50 51 k (r := F3 26 valueEn mkV gl2 k (ss.getD k default)) (mapIdx_get hs rfl) rfl ?_
          refine k_conv 51 (Res.two 26 valueEn (ss.getD k default).A (ss.getD k default).c (mkL mkV k (ss.getD k default).l.length) (ss.getD k default).A (ss.getD k default).c (mkL mkV k (ss.getD k default).l.length)) rfl (fun w h => two_of (two_rows h)) (fun b hb => (fp_two.1 hb).elim .inl .inl) ?_
          refine v_code [] (hk := ?_)
          refine l_do (d_makeSlice (m := 64)) (fun g129 => ?_)
          refine v_ops [] (hk := ?_)
          refine v_loop (fun m E H => ∃ (i : Nat), E = [(13, vn i)] ∧ H = [(10129, Res.rows (some ⟨g129, 0, none⟩) 64 26 valueEn (mkL mkV (k + ss.length) i ++ (List.replicate 64 value0).drop i))] ∧ m = 64 - i ∧ i ≤ 64) [0, 2, 5, 11, 12, 14, 15, 123, 124, 125, 126, 127, 128, 129, 143, 144, 145, 146, 147, 148, 149, 150, 151, 152, 153, 154, 155, 156, 157, 158, 159, 160, 161, 162, 163, 164, 165, 166, 167, 168, 169, 170, 171, 172, 173, 174, 175, 176, 177, 178, 179, 180, 181, 182, 183, 184, 185, 186, 187, 188, 189, 190, 191, 192] (64) ([(13, vn 0)]) ([(10129, Res.rows (some ⟨g129, 0, none⟩) 64 26 valueEn (mkL mkV (k + ss.length) 0 ++ (List.replicate 64 value0).drop 0))]) (h0 := ⟨0, rfl, rfl, by omega, by omega⟩) (hr := ?_)
          rintro _ _ _ ⟨i, rfl, rfl, hmi, hi⟩
          refine v_code [] (hk := ?_)
          first | refine c_ifd rfl (fun h131 => ?_) (fun h131 => ?_) | refine c_ifn rfl (fun h131 => ?_) (fun h131 => ?_) | refine c_if rfl (fun h131 => ?_) (fun h131 => ?_)
          · have hm7 : 64 = (mkL mkV (k + ss.length) i ++ (List.replicate 64 value0).drop i).length := by rw [List.length_append, mkL_len, List.length_drop, List.length_replicate]; omega
            refine v_code [] (hk := ?_)
            refine v_call 27050 [] (markValue_spec ((k + ss.length : Nat) : Int) i (by omega) (by omega)) Tryz.func49 (h := ?_)
            rintro _ _ (⟨rfl, rfl⟩)
            refine v_ops [] (hk := ?_)
            refine k_val 141 (.s (valueEn.f (mkV (k + ss.length) i))) rfl rfl ?_
            refine l_do1 (d_storeT (value0) (u' := mkV (k + ss.length) i)) ?_
            refine v_ops [] (hk := ?_)
            refine k_res 10129 (Res.rows (some ⟨g129, 0, none⟩) 64 26 valueEn (mkL mkV (k + ss.length) (i + 1) ++ (List.replicate 64 value0).drop (i + 1))) rfl (by rw [mkL_set (by rw [List.length_replicate]; omega)] <;> rfl) ?_
            refine v_again (64 - (i + 1)) ⟨i + 1, rfl, rfl, by omega, by omega⟩
          · obtain rfl : i = 64 := by omega
            have hm64 : 64 = (mkL mkV (k + ss.length) 64).length := mkL_len.symm
            have hm64b : (mkL mkV (k + ss.length) 64).length ≤ 1000 := by rw [mkL_len]; decide
            refine k_res 10129 (Res.rows (some ⟨g129, 0, none⟩) 64 26 valueEn (mkL mkV (k + ss.length) 64)) rfl (by rw [show (List.replicate 64 value0).drop 64 = [] from rfl, List.append_nil] <;> rfl) ?_
            refine v_code [] (hk := ?_)
            refine k_val 148 (vsl 51 (ss.getD k default).A (ss.getD k default).l.length (ss.getD k default).c) rfl rfl ?_
            refine l_do (d_append2 (hb := by simp only [mkL_len]; omega)) (fun p150 => ?_)
            refine v_ops [] (hk := ?_)
            refine l_do1 (d_storeT (default) (u' := (⟨p150.1, p150.2, mkL mkV k (ss.getD k default).l.length ++ mkL mkV (k + ss.length) 64⟩ : Hd ValueM))) ?_
            refine v_ops [] (hk := ?_)
            refine k_in 50 51 k (ss.mapIdx (F3 26 valueEn mkV (gl2.set k (⟨p150.1, p150.2, mkL mkV k (ss.getD k default).l.length ++ mkL mkV (k + ss.length) 64⟩ : Hd ValueM)))) (by rw [List.length_mapIdx]; omega) (mapIdx_set hs (by unfold F3; rw [hdD_set (by omega)] <;> rfl) F3_ne) rfl rfl ?_
            refine v_again (ss.length - (k + 1)) ⟨k + 1, gl2.set k (⟨p150.1, p150.2, mkL mkV k (ss.getD k default).l.length ++ mkL mkV (k + ss.length) 64⟩ : Hd ValueM), rfl, rfl, by omega, by omega, by rw [List.length_set, hg2], (fun j hj s2 hs2 => by by_cases e : j = k; (subst e; rw [hdD_set (by omega), opt_eq hs2 hs]; exact List.prefix_append _ _); (rw [hdD_ne e]; exact hp2 j (by omega) s2 hs2))⟩
        · refine v_code [] (hk := ?_)
          refine k_ren 50 51 rfl ?_
          have hgl2 : ∀ j s, ss[j]? = some s → mkL mkV j s.l.length <+: (gl2.getD j default).l := fun j s hj => hp2 j (by have := (List.getElem?_eq_some_iff.1 hj).1; omega) s hj
          refine v_loop (fun m E H => ∃ (k : Nat), E = [(14, vn k)] ∧ H = [] ∧ m = ss.length - k ∧ k ≤ ss.length) [0, 5] (ss.length) ([(14, vn 0)]) ([]) (h0 := ⟨0, rfl, rfl, by omega, by omega⟩) (hr := ?_)
          rintro _ _ _ ⟨k, rfl, rfl, hmk, hk⟩
          refine v_code [] (hk := ?_)
          first | refine c_ifd rfl (fun h155 => ?_) (fun h155 => ?_) | refine c_ifn rfl (fun h155 => ?_) (fun h155 => ?_) | refine c_if rfl (fun h155 => ?_) (fun h155 => ?_)
          · have hs := getD_some (d := default) h155
            have hsl := hln _ (getD_mem (d := default) h155)
            have hmk : (ss.getD k default).l.length = (mkL mkV k (ss.getD k default).l.length).length := mkL_len.symm
            have ht := getD_some (l := gl2) (k := k) (d := default) (by omega)
            have hpre : mkL mkV k (ss.getD k default).l.length <+: (gl2.getD k default).l := hgl2 k _ hs
            have htl : (ss.getD k default).l.length ≤ (gl2.getD k default).l.length := by have := hpre.length_le; rwa [mkL_len] at this
            have hv1 := view_F3a (e := 26) (E := valueEn) (m := mkV) (gl := gl2) hs
            have hv2 := view_F3b (e := 26) (E := valueEn) (m := mkV) hs ht
            refine v_code [] (hk := ?_)
            refine v_loop (fun m E H => ∃ (i : Nat), E = [(15, vn i)] ∧ H = [] ∧ m = (ss.getD k default).l.length - i ∧ i ≤ (ss.getD k default).l.length) [0, 5, 14, 152, 153, 154, 155, 156, 157] ((ss.getD k default).l.length) ([(15, vn 0)]) ([]) (h0 := ⟨0, rfl, rfl, by omega, by omega⟩) (hr := ?_)
            rintro _ _ _ ⟨i, rfl, rfl, hmi, hi⟩
            refine v_code [] (hk := ?_)
            first | refine c_ifd rfl (fun h164 => ?_) (fun h164 => ?_) | refine c_ifn rfl (fun h164 => ?_) (fun h164 => ?_) | refine c_if rfl (fun h164 => ?_) (fun h164 => ?_)
            · refine v_code [] (hk := ?_)
              refine v_draw (.q 0 (.q 1 (.q 2 (.q 3 (.q 4 (.q 5 (.q 6 (.q 7 (.q 8 (.s 9 (.s 10 (.q 11 (.q 12 (.q 13 (.q 14 (.q 15 (.q 16 (.q 17 (.q 18 (.q 19 (.q 20 (.q 21 (.s 22 (.s 23 (.q 24 (.q 25 .nil)))))))))))))))))))))))))) [0, 51, 10042] (hm := by kernel_rfl) (hs := by kernel_rfl) (hk := by kernel_rfl) (h := ?_)
              refine v_sch [] (hk := ?_)
              refine k_valC 170 (vsl 51 (ss.getD k default).A (ss.getD k default).l.length (ss.getD k default).c) rfl rfl ?_
              refine k_valC 171 (vint i) rfl rfl ?_
              refine q_rd rfl (r_indexT (hj := by omega)) ?_
              refine q_rd rfl (r_loadT (hj := by omega)) ?_
              refine v_sch [] (hk := ?_)
              refine v_callS rfl 28800 [] (markValue_spec k i (by omega) (by omega)) Tryz.func49 (h := ?_)
              rintro _ _ (⟨rfl, rfl⟩)
              refine ⟨cov_of (by repeat (first | exact trivial | refine ⟨rfl, ?_⟩)), ?_⟩
              refine v_callDS rfl 28850 [] (sameValue_spec ((mkL mkV k (ss.getD k default).l.length).getD i value0) ⟨mk1 k i, none, 0, []⟩ (by rw [mkL_getD (by omega)]; exact Nat.zero_le _)) Tryz.func15 (hB := ⟨⟨_, (der_none (mark_at (k := k) (i := i) (mkL_getD (by omega)))), rfl⟩, ⟨⟨_, Der.nl, rfl⟩, trivial⟩⟩) (h := ?_)
              rintro _ _ (⟨rfl, rfl⟩)
              refine ⟨cov_of (by repeat (first | exact trivial | refine ⟨rfl, ?_⟩)), ?_⟩
              refine v_knowC 177 true rfl (decide_eq_true (same_mark (mkL_getD (by omega)))) ?_
              refine v_sch [] (hk := ?_)
              refine k_valC 183 (vsl 51 (gl2.getD k default).A (gl2.getD k default).l.length (gl2.getD k default).c) rfl rfl ?_
              refine k_valC 184 (vint i) rfl rfl ?_
              refine k_valC 179 (vb false) rfl rfl ?_
              refine q_rd rfl (r_indexT (hj := by omega)) ?_
              refine q_rd rfl (r_loadT (hj := by omega)) ?_
              refine v_knowC 179 false rfl rfl ?_
              refine v_sch [] (hk := ?_)
              refine k_valC 179 (vb false) rfl rfl ?_
              refine v_callDS rfl 29450 [] (markValue_spec k i (by omega) (by omega)) Tryz.func49 (hB := trivial) (h := ?_)
              rintro _ _ (⟨rfl, rfl⟩)
              refine ⟨cov_of (by repeat (first | exact trivial | refine ⟨rfl, ?_⟩)), ?_⟩
              refine v_callDS rfl 29500 [] (sameValue_spec ((gl2.getD k default).l.getD i value0) ⟨mk1 k i, none, 0, []⟩ (by rw [mkL_pgetD hpre (by omega)]; exact Nat.zero_le _)) Tryz.func15 (hB := ⟨⟨_, (der_none (mark_at (k := k) (i := i) (mkL_pgetD hpre (by omega)))), rfl⟩, ⟨⟨_, Der.nl, rfl⟩, trivial⟩⟩) (h := ?_)
              rintro _ _ (⟨rfl, rfl⟩)
              refine ⟨cov_of (by repeat (first | exact trivial | refine ⟨rfl, ?_⟩)), ?_⟩
              refine v_knowC 179 false rfl rfl ?_
              refine v_sch [] (hk := ?_)
              first | refine c_ifd rfl (fun h192 => ?_) (fun h192 => ?_) | refine c_ifn rfl (fun h192 => ?_) (fun h192 => ?_) | refine c_if rfl (fun h192 => ?_) (fun h192 => ?_)
              · exact absurd (same_mark (mkL_pgetD hpre (by omega))) h192
              · refine v_code [] (hk := ?_)
                refine v_again ((ss.getD k default).l.length - (i + 1)) ⟨i + 1, rfl, rfl, by omega, by omega⟩
            · refine v_code [] (hk := ?_)
              refine v_again (ss.length - (k + 1)) ⟨k + 1, rfl, rfl, by omega, by omega⟩
          · refine v_code [] (hk := ?_)
            refine v_ret rfl [] (.cons (.tmp rfl) .nil) (h := ?_)
            exact ⟨rfl, rfl⟩
end Go.Proofs.YtlnckcgbpilmdaaGreat
/- Lists that lie apart: none of them. -/

set_option linter.unusedVariables false
set_option linter.unusedSimpArgs false
set_option maxRecDepth 100000
set_option maxHeartbeats 8000000
namespace Go.Proofs.YtlnckcgbpilmdaaGreat
open Go Go.RowKit HL
theorem flatLimbs0 : CSpec Tryz.prog 97 [.one (.sl 0 none 0 0)] [] [] fun o L => o = .ret (vb true) ∧ L = [] := by
  refine v_enter Tryz.func97 (h := fun w0 => ?_)
  refine v_code [] (hk := ?_)
  refine v_loop (fun m E H => ∃ (k : Nat), E = [(3, vn k)] ∧ H = [] ∧ m = 0 - k ∧ k ≤ 0) [0, 2, 5, 6, 7, 8, 9, 10, 11, 12, 13, 14, 15, 41, 42, 43, 44, 45, 46, 47, 48, 49, 50, 51, 52, 53, 54, 55, 56, 57, 58, 59, 60, 61, 62, 63, 64, 65, 66, 67, 68, 69, 70, 71, 72, 73, 74, 75, 76, 77, 78, 79, 80, 81, 82, 83, 84, 85, 86, 87, 88, 89, 90, 91, 92, 93, 94, 95, 96, 97, 98, 99, 100, 101, 102, 103, 104, 105, 106, 107, 108, 109, 110, 111, 112, 113, 114, 115, 116, 117, 118, 119, 120, 121, 122, 123, 124, 125, 126, 127, 128, 129, 130, 131, 132, 133, 134, 135, 136, 137, 138, 139, 140, 141, 142, 143, 144, 145, 146, 147, 148, 149, 150, 151, 152, 153, 154, 155, 156, 157, 158, 159, 160, 161, 162, 163, 164, 165, 166, 167, 168, 169, 170, 171, 172, 173, 174, 175, 176, 177, 178, 179, 180, 181, 182, 183, 184, 185, 186, 187, 188, 189, 190, 191, 192, 193, 194, 195, 196, 197, 198, 199] (0) ([(3, vn 0)]) ([]) (h0 := ⟨0, rfl, rfl, by omega, by omega⟩) (hr := ?_)
  rintro _ _ _ ⟨k, rfl, rfl, hmk, hk⟩
  refine v_code [] (hk := ?_)
  first | refine c_ifd rfl (fun h19 => ?_) (fun h19 => ?_) | refine c_ifn rfl (fun h19 => ?_) (fun h19 => ?_) | refine c_if rfl (fun h19 => ?_) (fun h19 => ?_)
  · exact absurd h19 (by omega)
  · refine v_code [] (hk := ?_)
    refine k_val 42 (vint 0) rfl rfl ?_
    refine l_do d_make0 (fun g43 => ?_)
    refine v_ops [] (hk := ?_)
    refine v_loop (fun m E H => ∃ (k : Nat), E = [(6, vn k)] ∧ H = [] ∧ m = 0 - k ∧ k ≤ 0) [0, 2, 5, 9, 10, 11, 12, 13, 14, 15, 75, 76, 77, 78, 79, 80, 81, 82, 83, 84, 85, 86, 87, 88, 89, 90, 91, 92, 93, 94, 95, 96, 97, 98, 99, 100, 101, 102, 103, 104, 105, 106, 107, 108, 109, 110, 111, 112, 113, 114, 115, 116, 117, 118, 119, 120, 121, 122, 123, 124, 125, 126, 127, 128, 129, 130, 131, 132, 133, 134, 135, 136, 137, 138, 139, 140, 141, 142, 143, 144, 145, 146, 147, 148, 149, 150, 151, 152, 153, 154, 155, 156, 157, 158, 159, 160, 161, 162, 163, 164, 165, 166, 167, 168, 169, 170, 171, 172, 173, 174, 175, 176, 177, 178, 179, 180, 181, 182, 183, 184, 185, 186, 187, 188, 189, 190, 191, 192, 193, 194, 195, 196, 197, 198, 199] (0) ([(6, vn 0)]) ([]) (h0 := ⟨0, rfl, rfl, by omega, by omega⟩) (hr := ?_)
    rintro _ _ _ ⟨k, rfl, rfl, hmk, hk⟩
    refine v_code [] (hk := ?_)
    first | refine c_ifd rfl (fun h47 => ?_) (fun h47 => ?_) | refine c_ifn rfl (fun h47 => ?_) (fun h47 => ?_) | refine c_if rfl (fun h47 => ?_) (fun h47 => ?_)
    · exact absurd h47 (by omega)
    · refine v_code [] (hk := ?_)
      refine v_loop (fun m E H => ∃ (k : Nat), E = [(9, vn k)] ∧ H = [] ∧ m = 0 - k ∧ k ≤ 0) [0, 5, 11, 12, 13, 14, 15, 127, 128, 129, 130, 131, 132, 133, 134, 135, 136, 137, 138, 139, 140, 141, 142, 143, 144, 145, 146, 147, 148, 149, 150, 151, 152, 153, 154, 155, 156, 157, 158, 159, 160, 161, 162, 163, 164, 165, 166, 167, 168, 169, 170, 171, 172, 173, 174, 175, 176, 177, 178, 179, 180, 181, 182, 183, 184, 185, 186, 187, 188, 189, 190, 191, 192, 193, 194, 195, 196, 197, 198, 199] (0) ([(9, vn 0)]) ([]) (h0 := ⟨0, rfl, rfl, by omega, by omega⟩) (hr := ?_)
      rintro _ _ _ ⟨k, rfl, rfl, hmk, hk⟩
      refine v_code [] (hk := ?_)
      first | refine c_ifd rfl (fun h78 => ?_) (fun h78 => ?_) | refine c_ifn rfl (fun h78 => ?_) (fun h78 => ?_) | refine c_if rfl (fun h78 => ?_) (fun h78 => ?_)
      · exact absurd h78 (by omega)
      · refine v_code [] (hk := ?_)
        refine v_loop (fun m E H => ∃ (k : Nat), E = [(11, vn k)] ∧ H = [] ∧ m = 0 - k ∧ k ≤ 0) [0, 2, 5, 14, 15, 157, 158, 159, 160, 161, 162, 163, 164, 165, 166, 167, 168, 169, 170, 171, 172, 173, 174, 175, 176, 177, 178, 179, 180, 181, 182, 183, 184, 185, 186, 187, 188, 189, 190, 191, 192, 193, 194, 195, 196, 197, 198, 199] (0) ([(11, vn 0)]) ([]) (h0 := ⟨0, rfl, rfl, by omega, by omega⟩) (hr := ?_)
        rintro _ _ _ ⟨k, rfl, rfl, hmk, hk⟩
        refine v_code [] (hk := ?_)
        first | refine c_ifd rfl (fun h130 => ?_) (fun h130 => ?_) | refine c_ifn rfl (fun h130 => ?_) (fun h130 => ?_) | refine c_if rfl (fun h130 => ?_) (fun h130 => ?_)
        · exact absurd h130 (by omega)
        · refine v_code [] (hk := ?_)
          refine v_loop (fun m E H => ∃ (k : Nat), E = [(14, vn k)] ∧ H = [] ∧ m = 0 - k ∧ k ≤ 0) [0, 5] (0) ([(14, vn 0)]) ([]) (h0 := ⟨0, rfl, rfl, by omega, by omega⟩) (hr := ?_)
          rintro _ _ _ ⟨k, rfl, rfl, hmk, hk⟩
          refine v_code [] (hk := ?_)
          first | refine c_ifd rfl (fun h160 => ?_) (fun h160 => ?_) | refine c_ifn rfl (fun h160 => ?_) (fun h160 => ?_) | refine c_if rfl (fun h160 => ?_) (fun h160 => ?_)
          · exact absurd h160 (by omega)
          · refine v_code [] (hk := ?_)
            refine v_ret rfl [] (.cons (.tmp rfl) .nil) (h := ?_)
            exact ⟨rfl, rfl⟩
theorem flatWords0 : CSpec Tryz.prog 98 [.one (.sl 0 none 0 0)] [] [] fun o L => o = .ret (vb true) ∧ L = [] := by
  refine v_enter Tryz.func98 (h := fun w0 => ?_)
  refine v_code [] (hk := ?_)
  refine v_loop (fun m E H => ∃ (k : Nat), E = [(3, vn k)] ∧ H = [] ∧ m = 0 - k ∧ k ≤ 0) [0, 2, 5, 6, 7, 8, 9, 10, 11, 12, 13, 14, 15, 41, 42, 43, 44, 45, 46, 47, 48, 49, 50, 51, 52, 53, 54, 55, 56, 57, 58, 59, 60, 61, 62, 63, 64, 65, 66, 67, 68, 69, 70, 71, 72, 73, 74, 75, 76, 77, 78, 79, 80, 81, 82, 83, 84, 85, 86, 87, 88, 89, 90, 91, 92, 93, 94, 95, 96, 97, 98, 99, 100, 101, 102, 103, 104, 105, 106, 107, 108, 109, 110, 111, 112, 113, 114, 115, 116, 117, 118, 119, 120, 121, 122, 123, 124, 125, 126, 127, 128, 129, 130, 131, 132, 133, 134, 135, 136, 137, 138, 139, 140, 141, 142, 143, 144, 145, 146, 147, 148, 149, 150, 151, 152, 153, 154, 155, 156, 157, 158, 159, 160, 161, 162, 163, 164, 165, 166, 167, 168, 169, 170, 171, 172, 173, 174, 175, 176, 177, 178, 179, 180, 181, 182, 183, 184, 185, 186, 187, 188, 189, 190, 191, 192, 193, 194, 195, 196, 197, 198, 199] (0) ([(3, vn 0)]) ([]) (h0 := ⟨0, rfl, rfl, by omega, by omega⟩) (hr := ?_)
  rintro _ _ _ ⟨k, rfl, rfl, hmk, hk⟩
  refine v_code [] (hk := ?_)
  first | refine c_ifd rfl (fun h19 => ?_) (fun h19 => ?_) | refine c_ifn rfl (fun h19 => ?_) (fun h19 => ?_) | refine c_if rfl (fun h19 => ?_) (fun h19 => ?_)
  · exact absurd h19 (by omega)
  · refine v_code [] (hk := ?_)
    refine k_val 42 (vint 0) rfl rfl ?_
    refine l_do d_make0 (fun g43 => ?_)
    refine v_ops [] (hk := ?_)
    refine v_loop (fun m E H => ∃ (k : Nat), E = [(6, vn k)] ∧ H = [] ∧ m = 0 - k ∧ k ≤ 0) [0, 2, 5, 9, 10, 11, 12, 13, 14, 15, 75, 76, 77, 78, 79, 80, 81, 82, 83, 84, 85, 86, 87, 88, 89, 90, 91, 92, 93, 94, 95, 96, 97, 98, 99, 100, 101, 102, 103, 104, 105, 106, 107, 108, 109, 110, 111, 112, 113, 114, 115, 116, 117, 118, 119, 120, 121, 122, 123, 124, 125, 126, 127, 128, 129, 130, 131, 132, 133, 134, 135, 136, 137, 138, 139, 140, 141, 142, 143, 144, 145, 146, 147, 148, 149, 150, 151, 152, 153, 154, 155, 156, 157, 158, 159, 160, 161, 162, 163, 164, 165, 166, 167, 168, 169, 170, 171, 172, 173, 174, 175, 176, 177, 178, 179, 180, 181, 182, 183, 184, 185, 186, 187, 188, 189, 190, 191, 192, 193, 194, 195, 196, 197, 198, 199] (0) ([(6, vn 0)]) ([]) (h0 := ⟨0, rfl, rfl, by omega, by omega⟩) (hr := ?_)
    rintro _ _ _ ⟨k, rfl, rfl, hmk, hk⟩
    refine v_code [] (hk := ?_)
    first | refine c_ifd rfl (fun h47 => ?_) (fun h47 => ?_) | refine c_ifn rfl (fun h47 => ?_) (fun h47 => ?_) | refine c_if rfl (fun h47 => ?_) (fun h47 => ?_)
    · exact absurd h47 (by omega)
    · refine v_code [] (hk := ?_)
      refine v_loop (fun m E H => ∃ (k : Nat), E = [(9, vn k)] ∧ H = [] ∧ m = 0 - k ∧ k ≤ 0) [0, 5, 11, 12, 13, 14, 15, 127, 128, 129, 130, 131, 132, 133, 134, 135, 136, 137, 138, 139, 140, 141, 142, 143, 144, 145, 146, 147, 148, 149, 150, 151, 152, 153, 154, 155, 156, 157, 158, 159, 160, 161, 162, 163, 164, 165, 166, 167, 168, 169, 170, 171, 172, 173, 174, 175, 176, 177, 178, 179, 180, 181, 182, 183, 184, 185, 186, 187, 188, 189, 190, 191, 192, 193, 194, 195, 196, 197, 198, 199] (0) ([(9, vn 0)]) ([]) (h0 := ⟨0, rfl, rfl, by omega, by omega⟩) (hr := ?_)
      rintro _ _ _ ⟨k, rfl, rfl, hmk, hk⟩
      refine v_code [] (hk := ?_)
      first | refine c_ifd rfl (fun h78 => ?_) (fun h78 => ?_) | refine c_ifn rfl (fun h78 => ?_) (fun h78 => ?_) | refine c_if rfl (fun h78 => ?_) (fun h78 => ?_)
      · exact absurd h78 (by omega)
      · refine v_code [] (hk := ?_)
        refine v_loop (fun m E H => ∃ (k : Nat), E = [(11, vn k)] ∧ H = [] ∧ m = 0 - k ∧ k ≤ 0) [0, 2, 5, 14, 15, 157, 158, 159, 160, 161, 162, 163, 164, 165, 166, 167, 168, 169, 170, 171, 172, 173, 174, 175, 176, 177, 178, 179, 180, 181, 182, 183, 184, 185, 186, 187, 188, 189, 190, 191, 192, 193, 194, 195, 196, 197, 198, 199] (0) ([(11, vn 0)]) ([]) (h0 := ⟨0, rfl, rfl, by omega, by omega⟩) (hr := ?_)
        rintro _ _ _ ⟨k, rfl, rfl, hmk, hk⟩
        refine v_code [] (hk := ?_)
        first | refine c_ifd rfl (fun h130 => ?_) (fun h130 => ?_) | refine c_ifn rfl (fun h130 => ?_) (fun h130 => ?_) | refine c_if rfl (fun h130 => ?_) (fun h130 => ?_)
        · exact absurd h130 (by omega)
        · refine v_code [] (hk := ?_)
          refine v_loop (fun m E H => ∃ (k : Nat), E = [(14, vn k)] ∧ H = [] ∧ m = 0 - k ∧ k ≤ 0) [0, 5] (0) ([(14, vn 0)]) ([]) (h0 := ⟨0, rfl, rfl, by omega, by omega⟩) (hr := ?_)
          rintro _ _ _ ⟨k, rfl, rfl, hmk, hk⟩
          refine v_code [] (hk := ?_)
          first | refine c_ifd rfl (fun h160 => ?_) (fun h160 => ?_) | refine c_ifn rfl (fun h160 => ?_) (fun h160 => ?_) | refine c_if rfl (fun h160 => ?_) (fun h160 => ?_)
          · exact absurd h160 (by omega)
          · refine v_code [] (hk := ?_)
            refine v_ret rfl [] (.cons (.tmp rfl) .nil) (h := ?_)
            exact ⟨rfl, rfl⟩
theorem flatInts0 : CSpec Tryz.prog 99 [.one (.sl 0 none 0 0)] [] [] fun o L => o = .ret (vb true) ∧ L = [] := by
  refine v_enter Tryz.func99 (h := fun w0 => ?_)
  refine v_code [] (hk := ?_)
  refine v_loop (fun m E H => ∃ (k : Nat), E = [(3, vn k)] ∧ H = [] ∧ m = 0 - k ∧ k ≤ 0) [0, 2, 5, 6, 7, 8, 9, 10, 11, 12, 13, 14, 15, 40, 41, 42, 43, 44, 45, 46, 47, 48, 49, 50, 51, 52, 53, 54, 55, 56, 57, 58, 59, 60, 61, 62, 63, 64, 65, 66, 67, 68, 69, 70, 71, 72, 73, 74, 75, 76, 77, 78, 79, 80, 81, 82, 83, 84, 85, 86, 87, 88, 89, 90, 91, 92, 93, 94, 95, 96, 97, 98, 99, 100, 101, 102, 103, 104, 105, 106, 107, 108, 109, 110, 111, 112, 113, 114, 115, 116, 117, 118, 119, 120, 121, 122, 123, 124, 125, 126, 127, 128, 129, 130, 131, 132, 133, 134, 135, 136, 137, 138, 139, 140, 141, 142, 143, 144, 145, 146, 147, 148, 149, 150, 151, 152, 153, 154, 155, 156, 157, 158, 159, 160, 161, 162, 163, 164, 165, 166, 167, 168, 169, 170, 171, 172, 173, 174, 175, 176, 177, 178, 179, 180, 181, 182, 183, 184, 185, 186, 187, 188, 189, 190, 191, 192] (0) ([(3, vn 0)]) ([]) (h0 := ⟨0, rfl, rfl, by omega, by omega⟩) (hr := ?_)
  rintro _ _ _ ⟨k, rfl, rfl, hmk, hk⟩
  refine v_code [] (hk := ?_)
  first | refine c_ifd rfl (fun h19 => ?_) (fun h19 => ?_) | refine c_ifn rfl (fun h19 => ?_) (fun h19 => ?_) | refine c_if rfl (fun h19 => ?_) (fun h19 => ?_)
  · exact absurd h19 (by omega)
  · refine v_code [] (hk := ?_)
    refine k_val 41 (vint 0) rfl rfl ?_
    refine l_do d_make0 (fun g42 => ?_)
    refine v_ops [] (hk := ?_)
    refine v_loop (fun m E H => ∃ (k : Nat), E = [(6, vn k)] ∧ H = [] ∧ m = 0 - k ∧ k ≤ 0) [0, 2, 5, 9, 10, 11, 12, 13, 14, 15, 73, 74, 75, 76, 77, 78, 79, 80, 81, 82, 83, 84, 85, 86, 87, 88, 89, 90, 91, 92, 93, 94, 95, 96, 97, 98, 99, 100, 101, 102, 103, 104, 105, 106, 107, 108, 109, 110, 111, 112, 113, 114, 115, 116, 117, 118, 119, 120, 121, 122, 123, 124, 125, 126, 127, 128, 129, 130, 131, 132, 133, 134, 135, 136, 137, 138, 139, 140, 141, 142, 143, 144, 145, 146, 147, 148, 149, 150, 151, 152, 153, 154, 155, 156, 157, 158, 159, 160, 161, 162, 163, 164, 165, 166, 167, 168, 169, 170, 171, 172, 173, 174, 175, 176, 177, 178, 179, 180, 181, 182, 183, 184, 185, 186, 187, 188, 189, 190, 191, 192] (0) ([(6, vn 0)]) ([]) (h0 := ⟨0, rfl, rfl, by omega, by omega⟩) (hr := ?_)
    rintro _ _ _ ⟨k, rfl, rfl, hmk, hk⟩
    refine v_code [] (hk := ?_)
    first | refine c_ifd rfl (fun h46 => ?_) (fun h46 => ?_) | refine c_ifn rfl (fun h46 => ?_) (fun h46 => ?_) | refine c_if rfl (fun h46 => ?_) (fun h46 => ?_)
    · exact absurd h46 (by omega)
    · refine v_code [] (hk := ?_)
      refine v_loop (fun m E H => ∃ (k : Nat), E = [(9, vn k)] ∧ H = [] ∧ m = 0 - k ∧ k ≤ 0) [0, 5, 11, 12, 13, 14, 15, 123, 124, 125, 126, 127, 128, 129, 130, 131, 132, 133, 134, 135, 136, 137, 138, 139, 140, 141, 142, 143, 144, 145, 146, 147, 148, 149, 150, 151, 152, 153, 154, 155, 156, 157, 158, 159, 160, 161, 162, 163, 164, 165, 166, 167, 168, 169, 170, 171, 172, 173, 174, 175, 176, 177, 178, 179, 180, 181, 182, 183, 184, 185, 186, 187, 188, 189, 190, 191, 192] (0) ([(9, vn 0)]) ([]) (h0 := ⟨0, rfl, rfl, by omega, by omega⟩) (hr := ?_)
      rintro _ _ _ ⟨k, rfl, rfl, hmk, hk⟩
      refine v_code [] (hk := ?_)
      first | refine c_ifd rfl (fun h76 => ?_) (fun h76 => ?_) | refine c_ifn rfl (fun h76 => ?_) (fun h76 => ?_) | refine c_if rfl (fun h76 => ?_) (fun h76 => ?_)
      · exact absurd h76 (by omega)
      · refine v_code [] (hk := ?_)
        refine v_loop (fun m E H => ∃ (k : Nat), E = [(11, vn k)] ∧ H = [] ∧ m = 0 - k ∧ k ≤ 0) [0, 2, 5, 14, 15, 152, 153, 154, 155, 156, 157, 158, 159, 160, 161, 162, 163, 164, 165, 166, 167, 168, 169, 170, 171, 172, 173, 174, 175, 176, 177, 178, 179, 180, 181, 182, 183, 184, 185, 186, 187, 188, 189, 190, 191, 192] (0) ([(11, vn 0)]) ([]) (h0 := ⟨0, rfl, rfl, by omega, by omega⟩) (hr := ?_)
        rintro _ _ _ ⟨k, rfl, rfl, hmk, hk⟩
        refine v_code [] (hk := ?_)
        first | refine c_ifd rfl (fun h126 => ?_) (fun h126 => ?_) | refine c_ifn rfl (fun h126 => ?_) (fun h126 => ?_) | refine c_if rfl (fun h126 => ?_) (fun h126 => ?_)
        · exact absurd h126 (by omega)
        · refine v_code [] (hk := ?_)
          refine v_loop (fun m E H => ∃ (k : Nat), E = [(14, vn k)] ∧ H = [] ∧ m = 0 - k ∧ k ≤ 0) [0, 5] (0) ([(14, vn 0)]) ([]) (h0 := ⟨0, rfl, rfl, by omega, by omega⟩) (hr := ?_)
          rintro _ _ _ ⟨k, rfl, rfl, hmk, hk⟩
          refine v_code [] (hk := ?_)
          first | refine c_ifd rfl (fun h155 => ?_) (fun h155 => ?_) | refine c_ifn rfl (fun h155 => ?_) (fun h155 => ?_) | refine c_if rfl (fun h155 => ?_) (fun h155 => ?_)
          · exact absurd h155 (by omega)
          · refine v_code [] (hk := ?_)
            refine v_ret rfl [] (.cons (.tmp rfl) .nil) (h := ?_)
            exact ⟨rfl, rfl⟩
theorem flatLongs0 : CSpec Tryz.prog 100 [.one (.sl 0 none 0 0)] [] [] fun o L => o = .ret (vb true) ∧ L = [] := by
  refine v_enter Tryz.func100 (h := fun w0 => ?_)
  refine v_code [] (hk := ?_)
  refine v_loop (fun m E H => ∃ (k : Nat), E = [(3, vn k)] ∧ H = [] ∧ m = 0 - k ∧ k ≤ 0) [0, 2, 5, 6, 7, 8, 9, 10, 11, 12, 13, 14, 15, 40, 41, 42, 43, 44, 45, 46, 47, 48, 49, 50, 51, 52, 53, 54, 55, 56, 57, 58, 59, 60, 61, 62, 63, 64, 65, 66, 67, 68, 69, 70, 71, 72, 73, 74, 75, 76, 77, 78, 79, 80, 81, 82, 83, 84, 85, 86, 87, 88, 89, 90, 91, 92, 93, 94, 95, 96, 97, 98, 99, 100, 101, 102, 103, 104, 105, 106, 107, 108, 109, 110, 111, 112, 113, 114, 115, 116, 117, 118, 119, 120, 121, 122, 123, 124, 125, 126, 127, 128, 129, 130, 131, 132, 133, 134, 135, 136, 137, 138, 139, 140, 141, 142, 143, 144, 145, 146, 147, 148, 149, 150, 151, 152, 153, 154, 155, 156, 157, 158, 159, 160, 161, 162, 163, 164, 165, 166, 167, 168, 169, 170, 171, 172, 173, 174, 175, 176, 177, 178, 179, 180, 181, 182, 183, 184, 185, 186, 187, 188, 189, 190, 191, 192] (0) ([(3, vn 0)]) ([]) (h0 := ⟨0, rfl, rfl, by omega, by omega⟩) (hr := ?_)
  rintro _ _ _ ⟨k, rfl, rfl, hmk, hk⟩
  refine v_code [] (hk := ?_)
  first | refine c_ifd rfl (fun h19 => ?_) (fun h19 => ?_) | refine c_ifn rfl (fun h19 => ?_) (fun h19 => ?_) | refine c_if rfl (fun h19 => ?_) (fun h19 => ?_)
  · exact absurd h19 (by omega)
  · refine v_code [] (hk := ?_)
    refine k_val 41 (vint 0) rfl rfl ?_
    refine l_do d_make0 (fun g42 => ?_)
    refine v_ops [] (hk := ?_)
    refine v_loop (fun m E H => ∃ (k : Nat), E = [(6, vn k)] ∧ H = [] ∧ m = 0 - k ∧ k ≤ 0) [0, 2, 5, 9, 10, 11, 12, 13, 14, 15, 73, 74, 75, 76, 77, 78, 79, 80, 81, 82, 83, 84, 85, 86, 87, 88, 89, 90, 91, 92, 93, 94, 95, 96, 97, 98, 99, 100, 101, 102, 103, 104, 105, 106, 107, 108, 109, 110, 111, 112, 113, 114, 115, 116, 117, 118, 119, 120, 121, 122, 123, 124, 125, 126, 127, 128, 129, 130, 131, 132, 133, 134, 135, 136, 137, 138, 139, 140, 141, 142, 143, 144, 145, 146, 147, 148, 149, 150, 151, 152, 153, 154, 155, 156, 157, 158, 159, 160, 161, 162, 163, 164, 165, 166, 167, 168, 169, 170, 171, 172, 173, 174, 175, 176, 177, 178, 179, 180, 181, 182, 183, 184, 185, 186, 187, 188, 189, 190, 191, 192] (0) ([(6, vn 0)]) ([]) (h0 := ⟨0, rfl, rfl, by omega, by omega⟩) (hr := ?_)
    rintro _ _ _ ⟨k, rfl, rfl, hmk, hk⟩
    refine v_code [] (hk := ?_)
    first | refine c_ifd rfl (fun h46 => ?_) (fun h46 => ?_) | refine c_ifn rfl (fun h46 => ?_) (fun h46 => ?_) | refine c_if rfl (fun h46 => ?_) (fun h46 => ?_)
    · exact absurd h46 (by omega)
    · refine v_code [] (hk := ?_)
      refine v_loop (fun m E H => ∃ (k : Nat), E = [(9, vn k)] ∧ H = [] ∧ m = 0 - k ∧ k ≤ 0) [0, 5, 11, 12, 13, 14, 15, 123, 124, 125, 126, 127, 128, 129, 130, 131, 132, 133, 134, 135, 136, 137, 138, 139, 140, 141, 142, 143, 144, 145, 146, 147, 148, 149, 150, 151, 152, 153, 154, 155, 156, 157, 158, 159, 160, 161, 162, 163, 164, 165, 166, 167, 168, 169, 170, 171, 172, 173, 174, 175, 176, 177, 178, 179, 180, 181, 182, 183, 184, 185, 186, 187, 188, 189, 190, 191, 192] (0) ([(9, vn 0)]) ([]) (h0 := ⟨0, rfl, rfl, by omega, by omega⟩) (hr := ?_)
      rintro _ _ _ ⟨k, rfl, rfl, hmk, hk⟩
      refine v_code [] (hk := ?_)
      first | refine c_ifd rfl (fun h76 => ?_) (fun h76 => ?_) | refine c_ifn rfl (fun h76 => ?_) (fun h76 => ?_) | refine c_if rfl (fun h76 => ?_) (fun h76 => ?_)
      · exact absurd h76 (by omega)
      · refine v_code [] (hk := ?_)
        refine v_loop (fun m E H => ∃ (k : Nat), E = [(11, vn k)] ∧ H = [] ∧ m = 0 - k ∧ k ≤ 0) [0, 2, 5, 14, 15, 152, 153, 154, 155, 156, 157, 158, 159, 160, 161, 162, 163, 164, 165, 166, 167, 168, 169, 170, 171, 172, 173, 174, 175, 176, 177, 178, 179, 180, 181, 182, 183, 184, 185, 186, 187, 188, 189, 190, 191, 192] (0) ([(11, vn 0)]) ([]) (h0 := ⟨0, rfl, rfl, by omega, by omega⟩) (hr := ?_)
        rintro _ _ _ ⟨k, rfl, rfl, hmk, hk⟩
        refine v_code [] (hk := ?_)
        first | refine c_ifd rfl (fun h126 => ?_) (fun h126 => ?_) | refine c_ifn rfl (fun h126 => ?_) (fun h126 => ?_) | refine c_if rfl (fun h126 => ?_) (fun h126 => ?_)
        · exact absurd h126 (by omega)
        · refine v_code [] (hk := ?_)
          refine v_loop (fun m E H => ∃ (k : Nat), E = [(14, vn k)] ∧ H = [] ∧ m = 0 - k ∧ k ≤ 0) [0, 5] (0) ([(14, vn 0)]) ([]) (h0 := ⟨0, rfl, rfl, by omega, by omega⟩) (hr := ?_)
          rintro _ _ _ ⟨k, rfl, rfl, hmk, hk⟩
          refine v_code [] (hk := ?_)
          first | refine c_ifd rfl (fun h155 => ?_) (fun h155 => ?_) | refine c_ifn rfl (fun h155 => ?_) (fun h155 => ?_) | refine c_if rfl (fun h155 => ?_) (fun h155 => ?_)
          · exact absurd h155 (by omega)
          · refine v_code [] (hk := ?_)
            refine v_ret rfl [] (.cons (.tmp rfl) .nil) (h := ?_)
            exact ⟨rfl, rfl⟩
theorem flatTexts0 : CSpec Tryz.prog 101 [.one (.sl 0 none 0 0)] [] [] fun o L => o = .ret (vb true) ∧ L = [] := by
  refine v_enter Tryz.func101 (h := fun w0 => ?_)
  refine v_code [] (hk := ?_)
  refine v_loop (fun m E H => ∃ (k : Nat), E = [(3, vn k)] ∧ H = [] ∧ m = 0 - k ∧ k ≤ 0) [0, 2, 5, 6, 7, 8, 9, 10, 11, 12, 13, 14, 15, 40, 41, 42, 43, 44, 45, 46, 47, 48, 49, 50, 51, 52, 53, 54, 55, 56, 57, 58, 59, 60, 61, 62, 63, 64, 65, 66, 67, 68, 69, 70, 71, 72, 73, 74, 75, 76, 77, 78, 79, 80, 81, 82, 83, 84, 85, 86, 87, 88, 89, 90, 91, 92, 93, 94, 95, 96, 97, 98, 99, 100, 101, 102, 103, 104, 105, 106, 107, 108, 109, 110, 111, 112, 113, 114, 115, 116, 117, 118, 119, 120, 121, 122, 123, 124, 125, 126, 127, 128, 129, 130, 131, 132, 133, 134, 135, 136, 137, 138, 139, 140, 141, 142, 143, 144, 145, 146, 147, 148, 149, 150, 151, 152, 153, 154, 155, 156, 157, 158, 159, 160, 161, 162, 163, 164, 165, 166, 167, 168, 169, 170, 171, 172, 173, 174, 175, 176, 177, 178, 179, 180, 181, 182, 183, 184, 185, 186, 187, 188, 189, 190, 191, 192] (0) ([(3, vn 0)]) ([]) (h0 := ⟨0, rfl, rfl, by omega, by omega⟩) (hr := ?_)
  rintro _ _ _ ⟨k, rfl, rfl, hmk, hk⟩
  refine v_code [] (hk := ?_)
  first | refine c_ifd rfl (fun h19 => ?_) (fun h19 => ?_) | refine c_ifn rfl (fun h19 => ?_) (fun h19 => ?_) | refine c_if rfl (fun h19 => ?_) (fun h19 => ?_)
  · exact absurd h19 (by omega)
  · refine v_code [] (hk := ?_)
    refine k_val 41 (vint 0) rfl rfl ?_
    refine l_do d_make0 (fun g42 => ?_)
    refine v_ops [] (hk := ?_)
    refine v_loop (fun m E H => ∃ (k : Nat), E = [(6, vn k)] ∧ H = [] ∧ m = 0 - k ∧ k ≤ 0) [0, 2, 5, 9, 10, 11, 12, 13, 14, 15, 73, 74, 75, 76, 77, 78, 79, 80, 81, 82, 83, 84, 85, 86, 87, 88, 89, 90, 91, 92, 93, 94, 95, 96, 97, 98, 99, 100, 101, 102, 103, 104, 105, 106, 107, 108, 109, 110, 111, 112, 113, 114, 115, 116, 117, 118, 119, 120, 121, 122, 123, 124, 125, 126, 127, 128, 129, 130, 131, 132, 133, 134, 135, 136, 137, 138, 139, 140, 141, 142, 143, 144, 145, 146, 147, 148, 149, 150, 151, 152, 153, 154, 155, 156, 157, 158, 159, 160, 161, 162, 163, 164, 165, 166, 167, 168, 169, 170, 171, 172, 173, 174, 175, 176, 177, 178, 179, 180, 181, 182, 183, 184, 185, 186, 187, 188, 189, 190, 191, 192] (0) ([(6, vn 0)]) ([]) (h0 := ⟨0, rfl, rfl, by omega, by omega⟩) (hr := ?_)
    rintro _ _ _ ⟨k, rfl, rfl, hmk, hk⟩
    refine v_code [] (hk := ?_)
    first | refine c_ifd rfl (fun h46 => ?_) (fun h46 => ?_) | refine c_ifn rfl (fun h46 => ?_) (fun h46 => ?_) | refine c_if rfl (fun h46 => ?_) (fun h46 => ?_)
    · exact absurd h46 (by omega)
    · refine v_code [] (hk := ?_)
      refine v_loop (fun m E H => ∃ (k : Nat), E = [(9, vn k)] ∧ H = [] ∧ m = 0 - k ∧ k ≤ 0) [0, 5, 11, 12, 13, 14, 15, 123, 124, 125, 126, 127, 128, 129, 130, 131, 132, 133, 134, 135, 136, 137, 138, 139, 140, 141, 142, 143, 144, 145, 146, 147, 148, 149, 150, 151, 152, 153, 154, 155, 156, 157, 158, 159, 160, 161, 162, 163, 164, 165, 166, 167, 168, 169, 170, 171, 172, 173, 174, 175, 176, 177, 178, 179, 180, 181, 182, 183, 184, 185, 186, 187, 188, 189, 190, 191, 192] (0) ([(9, vn 0)]) ([]) (h0 := ⟨0, rfl, rfl, by omega, by omega⟩) (hr := ?_)
      rintro _ _ _ ⟨k, rfl, rfl, hmk, hk⟩
      refine v_code [] (hk := ?_)
      first | refine c_ifd rfl (fun h76 => ?_) (fun h76 => ?_) | refine c_ifn rfl (fun h76 => ?_) (fun h76 => ?_) | refine c_if rfl (fun h76 => ?_) (fun h76 => ?_)
      · exact absurd h76 (by omega)
      · refine v_code [] (hk := ?_)
        refine v_loop (fun m E H => ∃ (k : Nat), E = [(11, vn k)] ∧ H = [] ∧ m = 0 - k ∧ k ≤ 0) [0, 2, 5, 14, 15, 152, 153, 154, 155, 156, 157, 158, 159, 160, 161, 162, 163, 164, 165, 166, 167, 168, 169, 170, 171, 172, 173, 174, 175, 176, 177, 178, 179, 180, 181, 182, 183, 184, 185, 186, 187, 188, 189, 190, 191, 192] (0) ([(11, vn 0)]) ([]) (h0 := ⟨0, rfl, rfl, by omega, by omega⟩) (hr := ?_)
        rintro _ _ _ ⟨k, rfl, rfl, hmk, hk⟩
        refine v_code [] (hk := ?_)
        first | refine c_ifd rfl (fun h126 => ?_) (fun h126 => ?_) | refine c_ifn rfl (fun h126 => ?_) (fun h126 => ?_) | refine c_if rfl (fun h126 => ?_) (fun h126 => ?_)
        · exact absurd h126 (by omega)
        · refine v_code [] (hk := ?_)
          refine v_loop (fun m E H => ∃ (k : Nat), E = [(14, vn k)] ∧ H = [] ∧ m = 0 - k ∧ k ≤ 0) [0, 5] (0) ([(14, vn 0)]) ([]) (h0 := ⟨0, rfl, rfl, by omega, by omega⟩) (hr := ?_)
          rintro _ _ _ ⟨k, rfl, rfl, hmk, hk⟩
          refine v_code [] (hk := ?_)
          first | refine c_ifd rfl (fun h155 => ?_) (fun h155 => ?_) | refine c_ifn rfl (fun h155 => ?_) (fun h155 => ?_) | refine c_if rfl (fun h155 => ?_) (fun h155 => ?_)
          · exact absurd h155 (by omega)
          · refine v_code [] (hk := ?_)
            refine v_ret rfl [] (.cons (.tmp rfl) .nil) (h := ?_)
            exact ⟨rfl, rfl⟩
theorem flatBytes0 : CSpec Tryz.prog 102 [.one (.sl 0 none 0 0)] [] [] fun o L => o = .ret (vb true) ∧ L = [] := by
  refine v_enter Tryz.func102 (h := fun w0 => ?_)
  refine v_code [] (hk := ?_)
  refine v_loop (fun m E H => ∃ (k : Nat), E = [(3, vn k)] ∧ H = [] ∧ m = 0 - k ∧ k ≤ 0) [0, 2, 5, 6, 7, 8, 9, 10, 11, 12, 13, 14, 15, 40, 41, 42, 43, 44, 45, 46, 47, 48, 49, 50, 51, 52, 53, 54, 55, 56, 57, 58, 59, 60, 61, 62, 63, 64, 65, 66, 67, 68, 69, 70, 71, 72, 73, 74, 75, 76, 77, 78, 79, 80, 81, 82, 83, 84, 85, 86, 87, 88, 89, 90, 91, 92, 93, 94, 95, 96, 97, 98, 99, 100, 101, 102, 103, 104, 105, 106, 107, 108, 109, 110, 111, 112, 113, 114, 115, 116, 117, 118, 119, 120, 121, 122, 123, 124, 125, 126, 127, 128, 129, 130, 131, 132, 133, 134, 135, 136, 137, 138, 139, 140, 141, 142, 143, 144, 145, 146, 147, 148, 149, 150, 151, 152, 153, 154, 155, 156, 157, 158, 159, 160, 161, 162, 163, 164, 165, 166, 167, 168, 169, 170, 171, 172, 173, 174, 175, 176, 177, 178, 179, 180, 181, 182, 183, 184, 185, 186, 187, 188, 189, 190, 191, 192] (0) ([(3, vn 0)]) ([]) (h0 := ⟨0, rfl, rfl, by omega, by omega⟩) (hr := ?_)
  rintro _ _ _ ⟨k, rfl, rfl, hmk, hk⟩
  refine v_code [] (hk := ?_)
  first | refine c_ifd rfl (fun h19 => ?_) (fun h19 => ?_) | refine c_ifn rfl (fun h19 => ?_) (fun h19 => ?_) | refine c_if rfl (fun h19 => ?_) (fun h19 => ?_)
  · exact absurd h19 (by omega)
  · refine v_code [] (hk := ?_)
    refine k_val 41 (vint 0) rfl rfl ?_
    refine l_do d_make0 (fun g42 => ?_)
    refine v_ops [] (hk := ?_)
    refine v_loop (fun m E H => ∃ (k : Nat), E = [(6, vn k)] ∧ H = [] ∧ m = 0 - k ∧ k ≤ 0) [0, 2, 5, 9, 10, 11, 12, 13, 14, 15, 73, 74, 75, 76, 77, 78, 79, 80, 81, 82, 83, 84, 85, 86, 87, 88, 89, 90, 91, 92, 93, 94, 95, 96, 97, 98, 99, 100, 101, 102, 103, 104, 105, 106, 107, 108, 109, 110, 111, 112, 113, 114, 115, 116, 117, 118, 119, 120, 121, 122, 123, 124, 125, 126, 127, 128, 129, 130, 131, 132, 133, 134, 135, 136, 137, 138, 139, 140, 141, 142, 143, 144, 145, 146, 147, 148, 149, 150, 151, 152, 153, 154, 155, 156, 157, 158, 159, 160, 161, 162, 163, 164, 165, 166, 167, 168, 169, 170, 171, 172, 173, 174, 175, 176, 177, 178, 179, 180, 181, 182, 183, 184, 185, 186, 187, 188, 189, 190, 191, 192] (0) ([(6, vn 0)]) ([]) (h0 := ⟨0, rfl, rfl, by omega, by omega⟩) (hr := ?_)
    rintro _ _ _ ⟨k, rfl, rfl, hmk, hk⟩
    refine v_code [] (hk := ?_)
    first | refine c_ifd rfl (fun h46 => ?_) (fun h46 => ?_) | refine c_ifn rfl (fun h46 => ?_) (fun h46 => ?_) | refine c_if rfl (fun h46 => ?_) (fun h46 => ?_)
    · exact absurd h46 (by omega)
    · refine v_code [] (hk := ?_)
      refine v_loop (fun m E H => ∃ (k : Nat), E = [(9, vn k)] ∧ H = [] ∧ m = 0 - k ∧ k ≤ 0) [0, 5, 11, 12, 13, 14, 15, 123, 124, 125, 126, 127, 128, 129, 130, 131, 132, 133, 134, 135, 136, 137, 138, 139, 140, 141, 142, 143, 144, 145, 146, 147, 148, 149, 150, 151, 152, 153, 154, 155, 156, 157, 158, 159, 160, 161, 162, 163, 164, 165, 166, 167, 168, 169, 170, 171, 172, 173, 174, 175, 176, 177, 178, 179, 180, 181, 182, 183, 184, 185, 186, 187, 188, 189, 190, 191, 192] (0) ([(9, vn 0)]) ([]) (h0 := ⟨0, rfl, rfl, by omega, by omega⟩) (hr := ?_)
      rintro _ _ _ ⟨k, rfl, rfl, hmk, hk⟩
      refine v_code [] (hk := ?_)
      first | refine c_ifd rfl (fun h76 => ?_) (fun h76 => ?_) | refine c_ifn rfl (fun h76 => ?_) (fun h76 => ?_) | refine c_if rfl (fun h76 => ?_) (fun h76 => ?_)
      · exact absurd h76 (by omega)
      · refine v_code [] (hk := ?_)
        refine v_loop (fun m E H => ∃ (k : Nat), E = [(11, vn k)] ∧ H = [] ∧ m = 0 - k ∧ k ≤ 0) [0, 2, 5, 14, 15, 152, 153, 154, 155, 156, 157, 158, 159, 160, 161, 162, 163, 164, 165, 166, 167, 168, 169, 170, 171, 172, 173, 174, 175, 176, 177, 178, 179, 180, 181, 182, 183, 184, 185, 186, 187, 188, 189, 190, 191, 192] (0) ([(11, vn 0)]) ([]) (h0 := ⟨0, rfl, rfl, by omega, by omega⟩) (hr := ?_)
        rintro _ _ _ ⟨k, rfl, rfl, hmk, hk⟩
        refine v_code [] (hk := ?_)
        first | refine c_ifd rfl (fun h126 => ?_) (fun h126 => ?_) | refine c_ifn rfl (fun h126 => ?_) (fun h126 => ?_) | refine c_if rfl (fun h126 => ?_) (fun h126 => ?_)
        · exact absurd h126 (by omega)
        · refine v_code [] (hk := ?_)
          refine v_loop (fun m E H => ∃ (k : Nat), E = [(14, vn k)] ∧ H = [] ∧ m = 0 - k ∧ k ≤ 0) [0, 5] (0) ([(14, vn 0)]) ([]) (h0 := ⟨0, rfl, rfl, by omega, by omega⟩) (hr := ?_)
          rintro _ _ _ ⟨k, rfl, rfl, hmk, hk⟩
          refine v_code [] (hk := ?_)
          first | refine c_ifd rfl (fun h155 => ?_) (fun h155 => ?_) | refine c_ifn rfl (fun h155 => ?_) (fun h155 => ?_) | refine c_if rfl (fun h155 => ?_) (fun h155 => ?_)
          · exact absurd h155 (by omega)
          · refine v_code [] (hk := ?_)
            refine v_ret rfl [] (.cons (.tmp rfl) .nil) (h := ?_)
            exact ⟨rfl, rfl⟩
theorem flatTruths0 : CSpec Tryz.prog 103 [.one (.sl 0 none 0 0)] [] [] fun o L => o = .ret (vb true) ∧ L = [] := by
  refine v_enter Tryz.func103 (h := fun w0 => ?_)
  refine v_code [] (hk := ?_)
  refine v_loop (fun m E H => ∃ (k : Nat), E = [(3, vn k)] ∧ H = [] ∧ m = 0 - k ∧ k ≤ 0) [0, 2, 5, 6, 7, 8, 9, 10, 11, 12, 13, 14, 15, 42, 43, 44, 45, 46, 47, 48, 49, 50, 51, 52, 53, 54, 55, 56, 57, 58, 59, 60, 61, 62, 63, 64, 65, 66, 67, 68, 69, 70, 71, 72, 73, 74, 75, 76, 77, 78, 79, 80, 81, 82, 83, 84, 85, 86, 87, 88, 89, 90, 91, 92, 93, 94, 95, 96, 97, 98, 99, 100, 101, 102, 103, 104, 105, 106, 107, 108, 109, 110, 111, 112, 113, 114, 115, 116, 117, 118, 119, 120, 121, 122, 123, 124, 125, 126, 127, 128, 129, 130, 131, 132, 133, 134, 135, 136, 137, 138, 139, 140, 141, 142, 143, 144, 145, 146, 147, 148, 149, 150, 151, 152, 153, 154, 155, 156, 157, 158, 159, 160, 161, 162, 163, 164, 165, 166, 167, 168, 169, 170, 171, 172, 173, 174, 175, 176, 177, 178, 179, 180, 181, 182, 183, 184, 185, 186, 187, 188, 189, 190, 191, 192, 193, 194, 195, 196, 197, 198, 199, 200, 201, 202, 203, 204, 205, 206] (0) ([(3, vn 0)]) ([]) (h0 := ⟨0, rfl, rfl, by omega, by omega⟩) (hr := ?_)
  rintro _ _ _ ⟨k, rfl, rfl, hmk, hk⟩
  refine v_code [] (hk := ?_)
  first | refine c_ifd rfl (fun h19 => ?_) (fun h19 => ?_) | refine c_ifn rfl (fun h19 => ?_) (fun h19 => ?_) | refine c_if rfl (fun h19 => ?_) (fun h19 => ?_)
  · exact absurd h19 (by omega)
  · refine v_code [] (hk := ?_)
    refine k_val 43 (vint 0) rfl rfl ?_
    refine l_do d_make0 (fun g44 => ?_)
    refine v_ops [] (hk := ?_)
    refine v_loop (fun m E H => ∃ (k : Nat), E = [(6, vn k)] ∧ H = [] ∧ m = 0 - k ∧ k ≤ 0) [0, 2, 5, 9, 10, 11, 12, 13, 14, 15, 77, 78, 79, 80, 81, 82, 83, 84, 85, 86, 87, 88, 89, 90, 91, 92, 93, 94, 95, 96, 97, 98, 99, 100, 101, 102, 103, 104, 105, 106, 107, 108, 109, 110, 111, 112, 113, 114, 115, 116, 117, 118, 119, 120, 121, 122, 123, 124, 125, 126, 127, 128, 129, 130, 131, 132, 133, 134, 135, 136, 137, 138, 139, 140, 141, 142, 143, 144, 145, 146, 147, 148, 149, 150, 151, 152, 153, 154, 155, 156, 157, 158, 159, 160, 161, 162, 163, 164, 165, 166, 167, 168, 169, 170, 171, 172, 173, 174, 175, 176, 177, 178, 179, 180, 181, 182, 183, 184, 185, 186, 187, 188, 189, 190, 191, 192, 193, 194, 195, 196, 197, 198, 199, 200, 201, 202, 203, 204, 205, 206] (0) ([(6, vn 0)]) ([]) (h0 := ⟨0, rfl, rfl, by omega, by omega⟩) (hr := ?_)
    rintro _ _ _ ⟨k, rfl, rfl, hmk, hk⟩
    refine v_code [] (hk := ?_)
    first | refine c_ifd rfl (fun h48 => ?_) (fun h48 => ?_) | refine c_ifn rfl (fun h48 => ?_) (fun h48 => ?_) | refine c_if rfl (fun h48 => ?_) (fun h48 => ?_)
    · exact absurd h48 (by omega)
    · refine v_code [] (hk := ?_)
      refine v_loop (fun m E H => ∃ (k : Nat), E = [(9, vn k)] ∧ H = [] ∧ m = 0 - k ∧ k ≤ 0) [0, 5, 11, 12, 13, 14, 15, 131, 132, 133, 134, 135, 136, 137, 138, 139, 140, 141, 142, 143, 144, 145, 146, 147, 148, 149, 150, 151, 152, 153, 154, 155, 156, 157, 158, 159, 160, 161, 162, 163, 164, 165, 166, 167, 168, 169, 170, 171, 172, 173, 174, 175, 176, 177, 178, 179, 180, 181, 182, 183, 184, 185, 186, 187, 188, 189, 190, 191, 192, 193, 194, 195, 196, 197, 198, 199, 200, 201, 202, 203, 204, 205, 206] (0) ([(9, vn 0)]) ([]) (h0 := ⟨0, rfl, rfl, by omega, by omega⟩) (hr := ?_)
      rintro _ _ _ ⟨k, rfl, rfl, hmk, hk⟩
      refine v_code [] (hk := ?_)
      first | refine c_ifd rfl (fun h80 => ?_) (fun h80 => ?_) | refine c_ifn rfl (fun h80 => ?_) (fun h80 => ?_) | refine c_if rfl (fun h80 => ?_) (fun h80 => ?_)
      · exact absurd h80 (by omega)
      · refine v_code [] (hk := ?_)
        refine v_loop (fun m E H => ∃ (k : Nat), E = [(11, vn k)] ∧ H = [] ∧ m = 0 - k ∧ k ≤ 0) [0, 2, 5, 14, 15, 162, 163, 164, 165, 166, 167, 168, 169, 170, 171, 172, 173, 174, 175, 176, 177, 178, 179, 180, 181, 182, 183, 184, 185, 186, 187, 188, 189, 190, 191, 192, 193, 194, 195, 196, 197, 198, 199, 200, 201, 202, 203, 204, 205, 206] (0) ([(11, vn 0)]) ([]) (h0 := ⟨0, rfl, rfl, by omega, by omega⟩) (hr := ?_)
        rintro _ _ _ ⟨k, rfl, rfl, hmk, hk⟩
        refine v_code [] (hk := ?_)
        first | refine c_ifd rfl (fun h134 => ?_) (fun h134 => ?_) | refine c_ifn rfl (fun h134 => ?_) (fun h134 => ?_) | refine c_if rfl (fun h134 => ?_) (fun h134 => ?_)
        · exact absurd h134 (by omega)
        · refine v_code [] (hk := ?_)
          refine v_loop (fun m E H => ∃ (k : Nat), E = [(14, vn k)] ∧ H = [] ∧ m = 0 - k ∧ k ≤ 0) [0, 5] (0) ([(14, vn 0)]) ([]) (h0 := ⟨0, rfl, rfl, by omega, by omega⟩) (hr := ?_)
          rintro _ _ _ ⟨k, rfl, rfl, hmk, hk⟩
          refine v_code [] (hk := ?_)
          first | refine c_ifd rfl (fun h165 => ?_) (fun h165 => ?_) | refine c_ifn rfl (fun h165 => ?_) (fun h165 => ?_) | refine c_if rfl (fun h165 => ?_) (fun h165 => ?_)
          · exact absurd h165 (by omega)
          · refine v_code [] (hk := ?_)
            refine v_ret rfl [] (.cons (.tmp rfl) .nil) (h := ?_)
            exact ⟨rfl, rfl⟩
theorem flatNodes0 : CSpec Tryz.prog 105 [.one (.sl 0 none 0 0)] [] [] fun o L => o = .ret (vb true) ∧ L = [] := by
  refine v_enter Tryz.func105 (h := fun w0 => ?_)
  refine v_code [] (hk := ?_)
  refine v_loop (fun m E H => ∃ (k : Nat), E = [(3, vn k)] ∧ H = [] ∧ m = 0 - k ∧ k ≤ 0) [0, 2, 5, 6, 7, 8, 9, 10, 11, 12, 13, 14, 15, 40, 41, 42, 43, 44, 45, 46, 47, 48, 49, 50, 51, 52, 53, 54, 55, 56, 57, 58, 59, 60, 61, 62, 63, 64, 65, 66, 67, 68, 69, 70, 71, 72, 73, 74, 75, 76, 77, 78, 79, 80, 81, 82, 83, 84, 85, 86, 87, 88, 89, 90, 91, 92, 93, 94, 95, 96, 97, 98, 99, 100, 101, 102, 103, 104, 105, 106, 107, 108, 109, 110, 111, 112, 113, 114, 115, 116, 117, 118, 119, 120, 121, 122, 123, 124, 125, 126, 127, 128, 129, 130, 131, 132, 133, 134, 135, 136, 137, 138, 139, 140, 141, 142, 143, 144, 145, 146, 147, 148, 149, 150, 151, 152, 153, 154, 155, 156, 157, 158, 159, 160, 161, 162, 163, 164, 165, 166, 167, 168, 169, 170, 171, 172, 173, 174, 175, 176, 177, 178, 179, 180, 181, 182, 183, 184, 185, 186, 187, 188, 189, 190, 191, 192] (0) ([(3, vn 0)]) ([]) (h0 := ⟨0, rfl, rfl, by omega, by omega⟩) (hr := ?_)
  rintro _ _ _ ⟨k, rfl, rfl, hmk, hk⟩
  refine v_code [] (hk := ?_)
  first | refine c_ifd rfl (fun h19 => ?_) (fun h19 => ?_) | refine c_ifn rfl (fun h19 => ?_) (fun h19 => ?_) | refine c_if rfl (fun h19 => ?_) (fun h19 => ?_)
  · exact absurd h19 (by omega)
  · refine v_code [] (hk := ?_)
    refine k_val 41 (vint 0) rfl rfl ?_
    refine l_do d_make0 (fun g42 => ?_)
    refine v_ops [] (hk := ?_)
    refine v_loop (fun m E H => ∃ (k : Nat), E = [(6, vn k)] ∧ H = [] ∧ m = 0 - k ∧ k ≤ 0) [0, 2, 5, 9, 10, 11, 12, 13, 14, 15, 73, 74, 75, 76, 77, 78, 79, 80, 81, 82, 83, 84, 85, 86, 87, 88, 89, 90, 91, 92, 93, 94, 95, 96, 97, 98, 99, 100, 101, 102, 103, 104, 105, 106, 107, 108, 109, 110, 111, 112, 113, 114, 115, 116, 117, 118, 119, 120, 121, 122, 123, 124, 125, 126, 127, 128, 129, 130, 131, 132, 133, 134, 135, 136, 137, 138, 139, 140, 141, 142, 143, 144, 145, 146, 147, 148, 149, 150, 151, 152, 153, 154, 155, 156, 157, 158, 159, 160, 161, 162, 163, 164, 165, 166, 167, 168, 169, 170, 171, 172, 173, 174, 175, 176, 177, 178, 179, 180, 181, 182, 183, 184, 185, 186, 187, 188, 189, 190, 191, 192] (0) ([(6, vn 0)]) ([]) (h0 := ⟨0, rfl, rfl, by omega, by omega⟩) (hr := ?_)
    rintro _ _ _ ⟨k, rfl, rfl, hmk, hk⟩
    refine v_code [] (hk := ?_)
    first | refine c_ifd rfl (fun h46 => ?_) (fun h46 => ?_) | refine c_ifn rfl (fun h46 => ?_) (fun h46 => ?_) | refine c_if rfl (fun h46 => ?_) (fun h46 => ?_)
    · exact absurd h46 (by omega)
    · refine v_code [] (hk := ?_)
      refine v_loop (fun m E H => ∃ (k : Nat), E = [(9, vn k)] ∧ H = [] ∧ m = 0 - k ∧ k ≤ 0) [0, 5, 11, 12, 13, 14, 15, 123, 124, 125, 126, 127, 128, 129, 130, 131, 132, 133, 134, 135, 136, 137, 138, 139, 140, 141, 142, 143, 144, 145, 146, 147, 148, 149, 150, 151, 152, 153, 154, 155, 156, 157, 158, 159, 160, 161, 162, 163, 164, 165, 166, 167, 168, 169, 170, 171, 172, 173, 174, 175, 176, 177, 178, 179, 180, 181, 182, 183, 184, 185, 186, 187, 188, 189, 190, 191, 192] (0) ([(9, vn 0)]) ([]) (h0 := ⟨0, rfl, rfl, by omega, by omega⟩) (hr := ?_)
      rintro _ _ _ ⟨k, rfl, rfl, hmk, hk⟩
      refine v_code [] (hk := ?_)
      first | refine c_ifd rfl (fun h76 => ?_) (fun h76 => ?_) | refine c_ifn rfl (fun h76 => ?_) (fun h76 => ?_) | refine c_if rfl (fun h76 => ?_) (fun h76 => ?_)
      · exact absurd h76 (by omega)
      · refine v_code [] (hk := ?_)
        refine v_loop (fun m E H => ∃ (k : Nat), E = [(11, vn k)] ∧ H = [] ∧ m = 0 - k ∧ k ≤ 0) [0, 2, 5, 14, 15, 152, 153, 154, 155, 156, 157, 158, 159, 160, 161, 162, 163, 164, 165, 166, 167, 168, 169, 170, 171, 172, 173, 174, 175, 176, 177, 178, 179, 180, 181, 182, 183, 184, 185, 186, 187, 188, 189, 190, 191, 192] (0) ([(11, vn 0)]) ([]) (h0 := ⟨0, rfl, rfl, by omega, by omega⟩) (hr := ?_)
        rintro _ _ _ ⟨k, rfl, rfl, hmk, hk⟩
        refine v_code [] (hk := ?_)
        first | refine c_ifd rfl (fun h126 => ?_) (fun h126 => ?_) | refine c_ifn rfl (fun h126 => ?_) (fun h126 => ?_) | refine c_if rfl (fun h126 => ?_) (fun h126 => ?_)
        · exact absurd h126 (by omega)
        · refine v_code [] (hk := ?_)
          refine v_loop (fun m E H => ∃ (k : Nat), E = [(14, vn k)] ∧ H = [] ∧ m = 0 - k ∧ k ≤ 0) [0, 5] (0) ([(14, vn 0)]) ([]) (h0 := ⟨0, rfl, rfl, by omega, by omega⟩) (hr := ?_)
          rintro _ _ _ ⟨k, rfl, rfl, hmk, hk⟩
          refine v_code [] (hk := ?_)
          first | refine c_ifd rfl (fun h155 => ?_) (fun h155 => ?_) | refine c_ifn rfl (fun h155 => ?_) (fun h155 => ?_) | refine c_if rfl (fun h155 => ?_) (fun h155 => ?_)
          · exact absurd h155 (by omega)
          · refine v_code [] (hk := ?_)
            refine v_ret rfl [] (.cons (.tmp rfl) .nil) (h := ?_)
            exact ⟨rfl, rfl⟩
theorem flatTerms0 : CSpec Tryz.prog 106 [.one (.sl 0 none 0 0)] [] [] fun o L => o = .ret (vb true) ∧ L = [] := by
  refine v_enter Tryz.func106 (h := fun w0 => ?_)
  refine v_code [] (hk := ?_)
  refine v_loop (fun m E H => ∃ (k : Nat), E = [(3, vn k)] ∧ H = [] ∧ m = 0 - k ∧ k ≤ 0) [0, 2, 5, 6, 7, 8, 9, 10, 11, 12, 13, 14, 15, 40, 41, 42, 43, 44, 45, 46, 47, 48, 49, 50, 51, 52, 53, 54, 55, 56, 57, 58, 59, 60, 61, 62, 63, 64, 65, 66, 67, 68, 69, 70, 71, 72, 73, 74, 75, 76, 77, 78, 79, 80, 81, 82, 83, 84, 85, 86, 87, 88, 89, 90, 91, 92, 93, 94, 95, 96, 97, 98, 99, 100, 101, 102, 103, 104, 105, 106, 107, 108, 109, 110, 111, 112, 113, 114, 115, 116, 117, 118, 119, 120, 121, 122, 123, 124, 125, 126, 127, 128, 129, 130, 131, 132, 133, 134, 135, 136, 137, 138, 139, 140, 141, 142, 143, 144, 145, 146, 147, 148, 149, 150, 151, 152, 153, 154, 155, 156, 157, 158, 159, 160, 161, 162, 163, 164, 165, 166, 167, 168, 169, 170, 171, 172, 173, 174, 175, 176, 177, 178, 179, 180, 181, 182, 183, 184, 185, 186, 187, 188, 189, 190, 191, 192] (0) ([(3, vn 0)]) ([]) (h0 := ⟨0, rfl, rfl, by omega, by omega⟩) (hr := ?_)
  rintro _ _ _ ⟨k, rfl, rfl, hmk, hk⟩
  refine v_code [] (hk := ?_)
  first | refine c_ifd rfl (fun h19 => ?_) (fun h19 => ?_) | refine c_ifn rfl (fun h19 => ?_) (fun h19 => ?_) | refine c_if rfl (fun h19 => ?_) (fun h19 => ?_)
  · exact absurd h19 (by omega)
  · refine v_code [] (hk := ?_)
    refine k_val 41 (vint 0) rfl rfl ?_
    refine l_do d_make0 (fun g42 => ?_)
    refine v_ops [] (hk := ?_)
    refine v_loop (fun m E H => ∃ (k : Nat), E = [(6, vn k)] ∧ H = [] ∧ m = 0 - k ∧ k ≤ 0) [0, 2, 5, 9, 10, 11, 12, 13, 14, 15, 73, 74, 75, 76, 77, 78, 79, 80, 81, 82, 83, 84, 85, 86, 87, 88, 89, 90, 91, 92, 93, 94, 95, 96, 97, 98, 99, 100, 101, 102, 103, 104, 105, 106, 107, 108, 109, 110, 111, 112, 113, 114, 115, 116, 117, 118, 119, 120, 121, 122, 123, 124, 125, 126, 127, 128, 129, 130, 131, 132, 133, 134, 135, 136, 137, 138, 139, 140, 141, 142, 143, 144, 145, 146, 147, 148, 149, 150, 151, 152, 153, 154, 155, 156, 157, 158, 159, 160, 161, 162, 163, 164, 165, 166, 167, 168, 169, 170, 171, 172, 173, 174, 175, 176, 177, 178, 179, 180, 181, 182, 183, 184, 185, 186, 187, 188, 189, 190, 191, 192] (0) ([(6, vn 0)]) ([]) (h0 := ⟨0, rfl, rfl, by omega, by omega⟩) (hr := ?_)
    rintro _ _ _ ⟨k, rfl, rfl, hmk, hk⟩
    refine v_code [] (hk := ?_)
    first | refine c_ifd rfl (fun h46 => ?_) (fun h46 => ?_) | refine c_ifn rfl (fun h46 => ?_) (fun h46 => ?_) | refine c_if rfl (fun h46 => ?_) (fun h46 => ?_)
    · exact absurd h46 (by omega)
    · refine v_code [] (hk := ?_)
      refine v_loop (fun m E H => ∃ (k : Nat), E = [(9, vn k)] ∧ H = [] ∧ m = 0 - k ∧ k ≤ 0) [0, 5, 11, 12, 13, 14, 15, 123, 124, 125, 126, 127, 128, 129, 130, 131, 132, 133, 134, 135, 136, 137, 138, 139, 140, 141, 142, 143, 144, 145, 146, 147, 148, 149, 150, 151, 152, 153, 154, 155, 156, 157, 158, 159, 160, 161, 162, 163, 164, 165, 166, 167, 168, 169, 170, 171, 172, 173, 174, 175, 176, 177, 178, 179, 180, 181, 182, 183, 184, 185, 186, 187, 188, 189, 190, 191, 192] (0) ([(9, vn 0)]) ([]) (h0 := ⟨0, rfl, rfl, by omega, by omega⟩) (hr := ?_)
      rintro _ _ _ ⟨k, rfl, rfl, hmk, hk⟩
      refine v_code [] (hk := ?_)
      first | refine c_ifd rfl (fun h76 => ?_) (fun h76 => ?_) | refine c_ifn rfl (fun h76 => ?_) (fun h76 => ?_) | refine c_if rfl (fun h76 => ?_) (fun h76 => ?_)
      · exact absurd h76 (by omega)
      · refine v_code [] (hk := ?_)
        refine v_loop (fun m E H => ∃ (k : Nat), E = [(11, vn k)] ∧ H = [] ∧ m = 0 - k ∧ k ≤ 0) [0, 2, 5, 14, 15, 152, 153, 154, 155, 156, 157, 158, 159, 160, 161, 162, 163, 164, 165, 166, 167, 168, 169, 170, 171, 172, 173, 174, 175, 176, 177, 178, 179, 180, 181, 182, 183, 184, 185, 186, 187, 188, 189, 190, 191, 192] (0) ([(11, vn 0)]) ([]) (h0 := ⟨0, rfl, rfl, by omega, by omega⟩) (hr := ?_)
        rintro _ _ _ ⟨k, rfl, rfl, hmk, hk⟩
        refine v_code [] (hk := ?_)
        first | refine c_ifd rfl (fun h126 => ?_) (fun h126 => ?_) | refine c_ifn rfl (fun h126 => ?_) (fun h126 => ?_) | refine c_if rfl (fun h126 => ?_) (fun h126 => ?_)
        · exact absurd h126 (by omega)
        · refine v_code [] (hk := ?_)
          refine v_loop (fun m E H => ∃ (k : Nat), E = [(14, vn k)] ∧ H = [] ∧ m = 0 - k ∧ k ≤ 0) [0, 5] (0) ([(14, vn 0)]) ([]) (h0 := ⟨0, rfl, rfl, by omega, by omega⟩) (hr := ?_)
          rintro _ _ _ ⟨k, rfl, rfl, hmk, hk⟩
          refine v_code [] (hk := ?_)
          first | refine c_ifd rfl (fun h155 => ?_) (fun h155 => ?_) | refine c_ifn rfl (fun h155 => ?_) (fun h155 => ?_) | refine c_if rfl (fun h155 => ?_) (fun h155 => ?_)
          · exact absurd h155 (by omega)
          · refine v_code [] (hk := ?_)
            refine v_ret rfl [] (.cons (.tmp rfl) .nil) (h := ?_)
            exact ⟨rfl, rfl⟩
theorem flatOutputs0 : CSpec Tryz.prog 109 [.one (.sl 0 none 0 0)] [] [] fun o L => o = .ret (vb true) ∧ L = [] := by
  refine v_enter Tryz.func109 (h := fun w0 => ?_)
  refine v_code [] (hk := ?_)
  refine v_loop (fun m E H => ∃ (k : Nat), E = [(3, vn k)] ∧ H = [] ∧ m = 0 - k ∧ k ≤ 0) [0, 2, 5, 6, 7, 8, 9, 10, 11, 12, 13, 14, 15, 40, 41, 42, 43, 44, 45, 46, 47, 48, 49, 50, 51, 52, 53, 54, 55, 56, 57, 58, 59, 60, 61, 62, 63, 64, 65, 66, 67, 68, 69, 70, 71, 72, 73, 74, 75, 76, 77, 78, 79, 80, 81, 82, 83, 84, 85, 86, 87, 88, 89, 90, 91, 92, 93, 94, 95, 96, 97, 98, 99, 100, 101, 102, 103, 104, 105, 106, 107, 108, 109, 110, 111, 112, 113, 114, 115, 116, 117, 118, 119, 120, 121, 122, 123, 124, 125, 126, 127, 128, 129, 130, 131, 132, 133, 134, 135, 136, 137, 138, 139, 140, 141, 142, 143, 144, 145, 146, 147, 148, 149, 150, 151, 152, 153, 154, 155, 156, 157, 158, 159, 160, 161, 162, 163, 164, 165, 166, 167, 168, 169, 170, 171, 172, 173, 174, 175, 176, 177, 178, 179, 180, 181, 182, 183, 184, 185, 186, 187, 188, 189, 190, 191, 192] (0) ([(3, vn 0)]) ([]) (h0 := ⟨0, rfl, rfl, by omega, by omega⟩) (hr := ?_)
  rintro _ _ _ ⟨k, rfl, rfl, hmk, hk⟩
  refine v_code [] (hk := ?_)
  first | refine c_ifd rfl (fun h19 => ?_) (fun h19 => ?_) | refine c_ifn rfl (fun h19 => ?_) (fun h19 => ?_) | refine c_if rfl (fun h19 => ?_) (fun h19 => ?_)
  · exact absurd h19 (by omega)
  · refine v_code [] (hk := ?_)
    refine k_val 41 (vint 0) rfl rfl ?_
    refine l_do d_make0 (fun g42 => ?_)
    refine v_ops [] (hk := ?_)
    refine v_loop (fun m E H => ∃ (k : Nat), E = [(6, vn k)] ∧ H = [] ∧ m = 0 - k ∧ k ≤ 0) [0, 2, 5, 9, 10, 11, 12, 13, 14, 15, 73, 74, 75, 76, 77, 78, 79, 80, 81, 82, 83, 84, 85, 86, 87, 88, 89, 90, 91, 92, 93, 94, 95, 96, 97, 98, 99, 100, 101, 102, 103, 104, 105, 106, 107, 108, 109, 110, 111, 112, 113, 114, 115, 116, 117, 118, 119, 120, 121, 122, 123, 124, 125, 126, 127, 128, 129, 130, 131, 132, 133, 134, 135, 136, 137, 138, 139, 140, 141, 142, 143, 144, 145, 146, 147, 148, 149, 150, 151, 152, 153, 154, 155, 156, 157, 158, 159, 160, 161, 162, 163, 164, 165, 166, 167, 168, 169, 170, 171, 172, 173, 174, 175, 176, 177, 178, 179, 180, 181, 182, 183, 184, 185, 186, 187, 188, 189, 190, 191, 192] (0) ([(6, vn 0)]) ([]) (h0 := ⟨0, rfl, rfl, by omega, by omega⟩) (hr := ?_)
    rintro _ _ _ ⟨k, rfl, rfl, hmk, hk⟩
    refine v_code [] (hk := ?_)
    first | refine c_ifd rfl (fun h46 => ?_) (fun h46 => ?_) | refine c_ifn rfl (fun h46 => ?_) (fun h46 => ?_) | refine c_if rfl (fun h46 => ?_) (fun h46 => ?_)
    · exact absurd h46 (by omega)
    · refine v_code [] (hk := ?_)
      refine v_loop (fun m E H => ∃ (k : Nat), E = [(9, vn k)] ∧ H = [] ∧ m = 0 - k ∧ k ≤ 0) [0, 5, 11, 12, 13, 14, 15, 123, 124, 125, 126, 127, 128, 129, 130, 131, 132, 133, 134, 135, 136, 137, 138, 139, 140, 141, 142, 143, 144, 145, 146, 147, 148, 149, 150, 151, 152, 153, 154, 155, 156, 157, 158, 159, 160, 161, 162, 163, 164, 165, 166, 167, 168, 169, 170, 171, 172, 173, 174, 175, 176, 177, 178, 179, 180, 181, 182, 183, 184, 185, 186, 187, 188, 189, 190, 191, 192] (0) ([(9, vn 0)]) ([]) (h0 := ⟨0, rfl, rfl, by omega, by omega⟩) (hr := ?_)
      rintro _ _ _ ⟨k, rfl, rfl, hmk, hk⟩
      refine v_code [] (hk := ?_)
      first | refine c_ifd rfl (fun h76 => ?_) (fun h76 => ?_) | refine c_ifn rfl (fun h76 => ?_) (fun h76 => ?_) | refine c_if rfl (fun h76 => ?_) (fun h76 => ?_)
      · exact absurd h76 (by omega)
      · refine v_code [] (hk := ?_)
        refine v_loop (fun m E H => ∃ (k : Nat), E = [(11, vn k)] ∧ H = [] ∧ m = 0 - k ∧ k ≤ 0) [0, 2, 5, 14, 15, 152, 153, 154, 155, 156, 157, 158, 159, 160, 161, 162, 163, 164, 165, 166, 167, 168, 169, 170, 171, 172, 173, 174, 175, 176, 177, 178, 179, 180, 181, 182, 183, 184, 185, 186, 187, 188, 189, 190, 191, 192] (0) ([(11, vn 0)]) ([]) (h0 := ⟨0, rfl, rfl, by omega, by omega⟩) (hr := ?_)
        rintro _ _ _ ⟨k, rfl, rfl, hmk, hk⟩
        refine v_code [] (hk := ?_)
        first | refine c_ifd rfl (fun h126 => ?_) (fun h126 => ?_) | refine c_ifn rfl (fun h126 => ?_) (fun h126 => ?_) | refine c_if rfl (fun h126 => ?_) (fun h126 => ?_)
        · exact absurd h126 (by omega)
        · refine v_code [] (hk := ?_)
          refine v_loop (fun m E H => ∃ (k : Nat), E = [(14, vn k)] ∧ H = [] ∧ m = 0 - k ∧ k ≤ 0) [0, 5] (0) ([(14, vn 0)]) ([]) (h0 := ⟨0, rfl, rfl, by omega, by omega⟩) (hr := ?_)
          rintro _ _ _ ⟨k, rfl, rfl, hmk, hk⟩
          refine v_code [] (hk := ?_)
          first | refine c_ifd rfl (fun h155 => ?_) (fun h155 => ?_) | refine c_ifn rfl (fun h155 => ?_) (fun h155 => ?_) | refine c_if rfl (fun h155 => ?_) (fun h155 => ?_)
          · exact absurd h155 (by omega)
          · refine v_code [] (hk := ?_)
            refine v_ret rfl [] (.cons (.tmp rfl) .nil) (h := ?_)
            exact ⟨rfl, rfl⟩
theorem flatRefs0 : CSpec Tryz.prog 110 [.one (.sl 0 none 0 0)] [] [] fun o L => o = .ret (vb true) ∧ L = [] := by
  refine v_enter Tryz.func110 (h := fun w0 => ?_)
  refine v_code [] (hk := ?_)
  refine v_loop (fun m E H => ∃ (k : Nat), E = [(3, vn k)] ∧ H = [] ∧ m = 0 - k ∧ k ≤ 0) [0, 2, 5, 6, 7, 8, 9, 10, 11, 12, 13, 14, 15, 40, 41, 42, 43, 44, 45, 46, 47, 48, 49, 50, 51, 52, 53, 54, 55, 56, 57, 58, 59, 60, 61, 62, 63, 64, 65, 66, 67, 68, 69, 70, 71, 72, 73, 74, 75, 76, 77, 78, 79, 80, 81, 82, 83, 84, 85, 86, 87, 88, 89, 90, 91, 92, 93, 94, 95, 96, 97, 98, 99, 100, 101, 102, 103, 104, 105, 106, 107, 108, 109, 110, 111, 112, 113, 114, 115, 116, 117, 118, 119, 120, 121, 122, 123, 124, 125, 126, 127, 128, 129, 130, 131, 132, 133, 134, 135, 136, 137, 138, 139, 140, 141, 142, 143, 144, 145, 146, 147, 148, 149, 150, 151, 152, 153, 154, 155, 156, 157, 158, 159, 160, 161, 162, 163, 164, 165, 166, 167, 168, 169, 170, 171, 172, 173, 174, 175, 176, 177, 178, 179, 180, 181, 182, 183, 184, 185, 186, 187, 188, 189, 190, 191, 192] (0) ([(3, vn 0)]) ([]) (h0 := ⟨0, rfl, rfl, by omega, by omega⟩) (hr := ?_)
  rintro _ _ _ ⟨k, rfl, rfl, hmk, hk⟩
  refine v_code [] (hk := ?_)
  first | refine c_ifd rfl (fun h19 => ?_) (fun h19 => ?_) | refine c_ifn rfl (fun h19 => ?_) (fun h19 => ?_) | refine c_if rfl (fun h19 => ?_) (fun h19 => ?_)
  · exact absurd h19 (by omega)
  · refine v_code [] (hk := ?_)
    refine k_val 41 (vint 0) rfl rfl ?_
    refine l_do d_make0 (fun g42 => ?_)
    refine v_ops [] (hk := ?_)
    refine v_loop (fun m E H => ∃ (k : Nat), E = [(6, vn k)] ∧ H = [] ∧ m = 0 - k ∧ k ≤ 0) [0, 2, 5, 9, 10, 11, 12, 13, 14, 15, 73, 74, 75, 76, 77, 78, 79, 80, 81, 82, 83, 84, 85, 86, 87, 88, 89, 90, 91, 92, 93, 94, 95, 96, 97, 98, 99, 100, 101, 102, 103, 104, 105, 106, 107, 108, 109, 110, 111, 112, 113, 114, 115, 116, 117, 118, 119, 120, 121, 122, 123, 124, 125, 126, 127, 128, 129, 130, 131, 132, 133, 134, 135, 136, 137, 138, 139, 140, 141, 142, 143, 144, 145, 146, 147, 148, 149, 150, 151, 152, 153, 154, 155, 156, 157, 158, 159, 160, 161, 162, 163, 164, 165, 166, 167, 168, 169, 170, 171, 172, 173, 174, 175, 176, 177, 178, 179, 180, 181, 182, 183, 184, 185, 186, 187, 188, 189, 190, 191, 192] (0) ([(6, vn 0)]) ([]) (h0 := ⟨0, rfl, rfl, by omega, by omega⟩) (hr := ?_)
    rintro _ _ _ ⟨k, rfl, rfl, hmk, hk⟩
    refine v_code [] (hk := ?_)
    first | refine c_ifd rfl (fun h46 => ?_) (fun h46 => ?_) | refine c_ifn rfl (fun h46 => ?_) (fun h46 => ?_) | refine c_if rfl (fun h46 => ?_) (fun h46 => ?_)
    · exact absurd h46 (by omega)
    · refine v_code [] (hk := ?_)
      refine v_loop (fun m E H => ∃ (k : Nat), E = [(9, vn k)] ∧ H = [] ∧ m = 0 - k ∧ k ≤ 0) [0, 5, 11, 12, 13, 14, 15, 123, 124, 125, 126, 127, 128, 129, 130, 131, 132, 133, 134, 135, 136, 137, 138, 139, 140, 141, 142, 143, 144, 145, 146, 147, 148, 149, 150, 151, 152, 153, 154, 155, 156, 157, 158, 159, 160, 161, 162, 163, 164, 165, 166, 167, 168, 169, 170, 171, 172, 173, 174, 175, 176, 177, 178, 179, 180, 181, 182, 183, 184, 185, 186, 187, 188, 189, 190, 191, 192] (0) ([(9, vn 0)]) ([]) (h0 := ⟨0, rfl, rfl, by omega, by omega⟩) (hr := ?_)
      rintro _ _ _ ⟨k, rfl, rfl, hmk, hk⟩
      refine v_code [] (hk := ?_)
      first | refine c_ifd rfl (fun h76 => ?_) (fun h76 => ?_) | refine c_ifn rfl (fun h76 => ?_) (fun h76 => ?_) | refine c_if rfl (fun h76 => ?_) (fun h76 => ?_)
      · exact absurd h76 (by omega)
      · refine v_code [] (hk := ?_)
        refine v_loop (fun m E H => ∃ (k : Nat), E = [(11, vn k)] ∧ H = [] ∧ m = 0 - k ∧ k ≤ 0) [0, 2, 5, 14, 15, 152, 153, 154, 155, 156, 157, 158, 159, 160, 161, 162, 163, 164, 165, 166, 167, 168, 169, 170, 171, 172, 173, 174, 175, 176, 177, 178, 179, 180, 181, 182, 183, 184, 185, 186, 187, 188, 189, 190, 191, 192] (0) ([(11, vn 0)]) ([]) (h0 := ⟨0, rfl, rfl, by omega, by omega⟩) (hr := ?_)
        rintro _ _ _ ⟨k, rfl, rfl, hmk, hk⟩
        refine v_code [] (hk := ?_)
        first | refine c_ifd rfl (fun h126 => ?_) (fun h126 => ?_) | refine c_ifn rfl (fun h126 => ?_) (fun h126 => ?_) | refine c_if rfl (fun h126 => ?_) (fun h126 => ?_)
        · exact absurd h126 (by omega)
        · refine v_code [] (hk := ?_)
          refine v_loop (fun m E H => ∃ (k : Nat), E = [(14, vn k)] ∧ H = [] ∧ m = 0 - k ∧ k ≤ 0) [0, 5] (0) ([(14, vn 0)]) ([]) (h0 := ⟨0, rfl, rfl, by omega, by omega⟩) (hr := ?_)
          rintro _ _ _ ⟨k, rfl, rfl, hmk, hk⟩
          refine v_code [] (hk := ?_)
          first | refine c_ifd rfl (fun h155 => ?_) (fun h155 => ?_) | refine c_ifn rfl (fun h155 => ?_) (fun h155 => ?_) | refine c_if rfl (fun h155 => ?_) (fun h155 => ?_)
          · exact absurd h155 (by omega)
          · refine v_code [] (hk := ?_)
            refine v_ret rfl [] (.cons (.tmp rfl) .nil) (h := ?_)
            exact ⟨rfl, rfl⟩
theorem flatEntries0 : CSpec Tryz.prog 111 [.one (.sl 0 none 0 0)] [] [] fun o L => o = .ret (vb true) ∧ L = [] := by
  refine v_enter Tryz.func111 (h := fun w0 => ?_)
  refine v_code [] (hk := ?_)
  refine v_loop (fun m E H => ∃ (k : Nat), E = [(3, vn k)] ∧ H = [] ∧ m = 0 - k ∧ k ≤ 0) [0, 2, 5, 6, 7, 8, 9, 10, 11, 12, 13, 14, 15, 40, 41, 42, 43, 44, 45, 46, 47, 48, 49, 50, 51, 52, 53, 54, 55, 56, 57, 58, 59, 60, 61, 62, 63, 64, 65, 66, 67, 68, 69, 70, 71, 72, 73, 74, 75, 76, 77, 78, 79, 80, 81, 82, 83, 84, 85, 86, 87, 88, 89, 90, 91, 92, 93, 94, 95, 96, 97, 98, 99, 100, 101, 102, 103, 104, 105, 106, 107, 108, 109, 110, 111, 112, 113, 114, 115, 116, 117, 118, 119, 120, 121, 122, 123, 124, 125, 126, 127, 128, 129, 130, 131, 132, 133, 134, 135, 136, 137, 138, 139, 140, 141, 142, 143, 144, 145, 146, 147, 148, 149, 150, 151, 152, 153, 154, 155, 156, 157, 158, 159, 160, 161, 162, 163, 164, 165, 166, 167, 168, 169, 170, 171, 172, 173, 174, 175, 176, 177, 178, 179, 180, 181, 182, 183, 184, 185, 186, 187, 188, 189, 190, 191, 192] (0) ([(3, vn 0)]) ([]) (h0 := ⟨0, rfl, rfl, by omega, by omega⟩) (hr := ?_)
  rintro _ _ _ ⟨k, rfl, rfl, hmk, hk⟩
  refine v_code [] (hk := ?_)
  first | refine c_ifd rfl (fun h19 => ?_) (fun h19 => ?_) | refine c_ifn rfl (fun h19 => ?_) (fun h19 => ?_) | refine c_if rfl (fun h19 => ?_) (fun h19 => ?_)
  · exact absurd h19 (by omega)
  · refine v_code [] (hk := ?_)
    refine k_val 41 (vint 0) rfl rfl ?_
    refine l_do d_make0 (fun g42 => ?_)
    refine v_ops [] (hk := ?_)
    refine v_loop (fun m E H => ∃ (k : Nat), E = [(6, vn k)] ∧ H = [] ∧ m = 0 - k ∧ k ≤ 0) [0, 2, 5, 9, 10, 11, 12, 13, 14, 15, 73, 74, 75, 76, 77, 78, 79, 80, 81, 82, 83, 84, 85, 86, 87, 88, 89, 90, 91, 92, 93, 94, 95, 96, 97, 98, 99, 100, 101, 102, 103, 104, 105, 106, 107, 108, 109, 110, 111, 112, 113, 114, 115, 116, 117, 118, 119, 120, 121, 122, 123, 124, 125, 126, 127, 128, 129, 130, 131, 132, 133, 134, 135, 136, 137, 138, 139, 140, 141, 142, 143, 144, 145, 146, 147, 148, 149, 150, 151, 152, 153, 154, 155, 156, 157, 158, 159, 160, 161, 162, 163, 164, 165, 166, 167, 168, 169, 170, 171, 172, 173, 174, 175, 176, 177, 178, 179, 180, 181, 182, 183, 184, 185, 186, 187, 188, 189, 190, 191, 192] (0) ([(6, vn 0)]) ([]) (h0 := ⟨0, rfl, rfl, by omega, by omega⟩) (hr := ?_)
    rintro _ _ _ ⟨k, rfl, rfl, hmk, hk⟩
    refine v_code [] (hk := ?_)
    first | refine c_ifd rfl (fun h46 => ?_) (fun h46 => ?_) | refine c_ifn rfl (fun h46 => ?_) (fun h46 => ?_) | refine c_if rfl (fun h46 => ?_) (fun h46 => ?_)
    · exact absurd h46 (by omega)
    · refine v_code [] (hk := ?_)
      refine v_loop (fun m E H => ∃ (k : Nat), E = [(9, vn k)] ∧ H = [] ∧ m = 0 - k ∧ k ≤ 0) [0, 5, 11, 12, 13, 14, 15, 123, 124, 125, 126, 127, 128, 129, 130, 131, 132, 133, 134, 135, 136, 137, 138, 139, 140, 141, 142, 143, 144, 145, 146, 147, 148, 149, 150, 151, 152, 153, 154, 155, 156, 157, 158, 159, 160, 161, 162, 163, 164, 165, 166, 167, 168, 169, 170, 171, 172, 173, 174, 175, 176, 177, 178, 179, 180, 181, 182, 183, 184, 185, 186, 187, 188, 189, 190, 191, 192] (0) ([(9, vn 0)]) ([]) (h0 := ⟨0, rfl, rfl, by omega, by omega⟩) (hr := ?_)
      rintro _ _ _ ⟨k, rfl, rfl, hmk, hk⟩
      refine v_code [] (hk := ?_)
      first | refine c_ifd rfl (fun h76 => ?_) (fun h76 => ?_) | refine c_ifn rfl (fun h76 => ?_) (fun h76 => ?_) | refine c_if rfl (fun h76 => ?_) (fun h76 => ?_)
      · exact absurd h76 (by omega)
      · refine v_code [] (hk := ?_)
        refine v_loop (fun m E H => ∃ (k : Nat), E = [(11, vn k)] ∧ H = [] ∧ m = 0 - k ∧ k ≤ 0) [0, 2, 5, 14, 15, 152, 153, 154, 155, 156, 157, 158, 159, 160, 161, 162, 163, 164, 165, 166, 167, 168, 169, 170, 171, 172, 173, 174, 175, 176, 177, 178, 179, 180, 181, 182, 183, 184, 185, 186, 187, 188, 189, 190, 191, 192] (0) ([(11, vn 0)]) ([]) (h0 := ⟨0, rfl, rfl, by omega, by omega⟩) (hr := ?_)
        rintro _ _ _ ⟨k, rfl, rfl, hmk, hk⟩
        refine v_code [] (hk := ?_)
        first | refine c_ifd rfl (fun h126 => ?_) (fun h126 => ?_) | refine c_ifn rfl (fun h126 => ?_) (fun h126 => ?_) | refine c_if rfl (fun h126 => ?_) (fun h126 => ?_)
        · exact absurd h126 (by omega)
        · refine v_code [] (hk := ?_)
          refine v_loop (fun m E H => ∃ (k : Nat), E = [(14, vn k)] ∧ H = [] ∧ m = 0 - k ∧ k ≤ 0) [0, 5] (0) ([(14, vn 0)]) ([]) (h0 := ⟨0, rfl, rfl, by omega, by omega⟩) (hr := ?_)
          rintro _ _ _ ⟨k, rfl, rfl, hmk, hk⟩
          refine v_code [] (hk := ?_)
          first | refine c_ifd rfl (fun h155 => ?_) (fun h155 => ?_) | refine c_ifn rfl (fun h155 => ?_) (fun h155 => ?_) | refine c_if rfl (fun h155 => ?_) (fun h155 => ?_)
          · exact absurd h155 (by omega)
          · refine v_code [] (hk := ?_)
            refine v_ret rfl [] (.cons (.tmp rfl) .nil) (h := ?_)
            exact ⟨rfl, rfl⟩
theorem flatInstrs0 : CSpec Tryz.prog 112 [.one (.sl 0 none 0 0)] [] [] fun o L => o = .ret (vb true) ∧ L = [] := by
  refine v_enter Tryz.func112 (h := fun w0 => ?_)
  refine v_code [] (hk := ?_)
  refine v_loop (fun m E H => ∃ (k : Nat), E = [(3, vn k)] ∧ H = [] ∧ m = 0 - k ∧ k ≤ 0) [0, 2, 5, 6, 7, 8, 9, 10, 11, 12, 13, 14, 15, 40, 41, 42, 43, 44, 45, 46, 47, 48, 49, 50, 51, 52, 53, 54, 55, 56, 57, 58, 59, 60, 61, 62, 63, 64, 65, 66, 67, 68, 69, 70, 71, 72, 73, 74, 75, 76, 77, 78, 79, 80, 81, 82, 83, 84, 85, 86, 87, 88, 89, 90, 91, 92, 93, 94, 95, 96, 97, 98, 99, 100, 101, 102, 103, 104, 105, 106, 107, 108, 109, 110, 111, 112, 113, 114, 115, 116, 117, 118, 119, 120, 121, 122, 123, 124, 125, 126, 127, 128, 129, 130, 131, 132, 133, 134, 135, 136, 137, 138, 139, 140, 141, 142, 143, 144, 145, 146, 147, 148, 149, 150, 151, 152, 153, 154, 155, 156, 157, 158, 159, 160, 161, 162, 163, 164, 165, 166, 167, 168, 169, 170, 171, 172, 173, 174, 175, 176, 177, 178, 179, 180, 181, 182, 183, 184, 185, 186, 187, 188, 189, 190, 191, 192] (0) ([(3, vn 0)]) ([]) (h0 := ⟨0, rfl, rfl, by omega, by omega⟩) (hr := ?_)
  rintro _ _ _ ⟨k, rfl, rfl, hmk, hk⟩
  refine v_code [] (hk := ?_)
  first | refine c_ifd rfl (fun h19 => ?_) (fun h19 => ?_) | refine c_ifn rfl (fun h19 => ?_) (fun h19 => ?_) | refine c_if rfl (fun h19 => ?_) (fun h19 => ?_)
  · exact absurd h19 (by omega)
  · refine v_code [] (hk := ?_)
    refine k_val 41 (vint 0) rfl rfl ?_
    refine l_do d_make0 (fun g42 => ?_)
    refine v_ops [] (hk := ?_)
    refine v_loop (fun m E H => ∃ (k : Nat), E = [(6, vn k)] ∧ H = [] ∧ m = 0 - k ∧ k ≤ 0) [0, 2, 5, 9, 10, 11, 12, 13, 14, 15, 73, 74, 75, 76, 77, 78, 79, 80, 81, 82, 83, 84, 85, 86, 87, 88, 89, 90, 91, 92, 93, 94, 95, 96, 97, 98, 99, 100, 101, 102, 103, 104, 105, 106, 107, 108, 109, 110, 111, 112, 113, 114, 115, 116, 117, 118, 119, 120, 121, 122, 123, 124, 125, 126, 127, 128, 129, 130, 131, 132, 133, 134, 135, 136, 137, 138, 139, 140, 141, 142, 143, 144, 145, 146, 147, 148, 149, 150, 151, 152, 153, 154, 155, 156, 157, 158, 159, 160, 161, 162, 163, 164, 165, 166, 167, 168, 169, 170, 171, 172, 173, 174, 175, 176, 177, 178, 179, 180, 181, 182, 183, 184, 185, 186, 187, 188, 189, 190, 191, 192] (0) ([(6, vn 0)]) ([]) (h0 := ⟨0, rfl, rfl, by omega, by omega⟩) (hr := ?_)
    rintro _ _ _ ⟨k, rfl, rfl, hmk, hk⟩
    refine v_code [] (hk := ?_)
    first | refine c_ifd rfl (fun h46 => ?_) (fun h46 => ?_) | refine c_ifn rfl (fun h46 => ?_) (fun h46 => ?_) | refine c_if rfl (fun h46 => ?_) (fun h46 => ?_)
    · exact absurd h46 (by omega)
    · refine v_code [] (hk := ?_)
      refine v_loop (fun m E H => ∃ (k : Nat), E = [(9, vn k)] ∧ H = [] ∧ m = 0 - k ∧ k ≤ 0) [0, 5, 11, 12, 13, 14, 15, 123, 124, 125, 126, 127, 128, 129, 130, 131, 132, 133, 134, 135, 136, 137, 138, 139, 140, 141, 142, 143, 144, 145, 146, 147, 148, 149, 150, 151, 152, 153, 154, 155, 156, 157, 158, 159, 160, 161, 162, 163, 164, 165, 166, 167, 168, 169, 170, 171, 172, 173, 174, 175, 176, 177, 178, 179, 180, 181, 182, 183, 184, 185, 186, 187, 188, 189, 190, 191, 192] (0) ([(9, vn 0)]) ([]) (h0 := ⟨0, rfl, rfl, by omega, by omega⟩) (hr := ?_)
      rintro _ _ _ ⟨k, rfl, rfl, hmk, hk⟩
      refine v_code [] (hk := ?_)
      first | refine c_ifd rfl (fun h76 => ?_) (fun h76 => ?_) | refine c_ifn rfl (fun h76 => ?_) (fun h76 => ?_) | refine c_if rfl (fun h76 => ?_) (fun h76 => ?_)
      · exact absurd h76 (by omega)
      · refine v_code [] (hk := ?_)
        refine v_loop (fun m E H => ∃ (k : Nat), E = [(11, vn k)] ∧ H = [] ∧ m = 0 - k ∧ k ≤ 0) [0, 2, 5, 14, 15, 152, 153, 154, 155, 156, 157, 158, 159, 160, 161, 162, 163, 164, 165, 166, 167, 168, 169, 170, 171, 172, 173, 174, 175, 176, 177, 178, 179, 180, 181, 182, 183, 184, 185, 186, 187, 188, 189, 190, 191, 192] (0) ([(11, vn 0)]) ([]) (h0 := ⟨0, rfl, rfl, by omega, by omega⟩) (hr := ?_)
        rintro _ _ _ ⟨k, rfl, rfl, hmk, hk⟩
        refine v_code [] (hk := ?_)
        first | refine c_ifd rfl (fun h126 => ?_) (fun h126 => ?_) | refine c_ifn rfl (fun h126 => ?_) (fun h126 => ?_) | refine c_if rfl (fun h126 => ?_) (fun h126 => ?_)
        · exact absurd h126 (by omega)
        · refine v_code [] (hk := ?_)
          refine v_loop (fun m E H => ∃ (k : Nat), E = [(14, vn k)] ∧ H = [] ∧ m = 0 - k ∧ k ≤ 0) [0, 5] (0) ([(14, vn 0)]) ([]) (h0 := ⟨0, rfl, rfl, by omega, by omega⟩) (hr := ?_)
          rintro _ _ _ ⟨k, rfl, rfl, hmk, hk⟩
          refine v_code [] (hk := ?_)
          first | refine c_ifd rfl (fun h155 => ?_) (fun h155 => ?_) | refine c_ifn rfl (fun h155 => ?_) (fun h155 => ?_) | refine c_if rfl (fun h155 => ?_) (fun h155 => ?_)
          · exact absurd h155 (by omega)
          · refine v_code [] (hk := ?_)
            refine v_ret rfl [] (.cons (.tmp rfl) .nil) (h := ?_)
            exact ⟨rfl, rfl⟩
theorem flatPrograms0 : CSpec Tryz.prog 113 [.one (.sl 0 none 0 0)] [] [] fun o L => o = .ret (vb true) ∧ L = [] := by
  refine v_enter Tryz.func113 (h := fun w0 => ?_)
  refine v_code [] (hk := ?_)
  refine v_loop (fun m E H => ∃ (k : Nat), E = [(3, vn k)] ∧ H = [] ∧ m = 0 - k ∧ k ≤ 0) [0, 2, 5, 6, 7, 8, 9, 10, 11, 12, 13, 14, 15, 40, 41, 42, 43, 44, 45, 46, 47, 48, 49, 50, 51, 52, 53, 54, 55, 56, 57, 58, 59, 60, 61, 62, 63, 64, 65, 66, 67, 68, 69, 70, 71, 72, 73, 74, 75, 76, 77, 78, 79, 80, 81, 82, 83, 84, 85, 86, 87, 88, 89, 90, 91, 92, 93, 94, 95, 96, 97, 98, 99, 100, 101, 102, 103, 104, 105, 106, 107, 108, 109, 110, 111, 112, 113, 114, 115, 116, 117, 118, 119, 120, 121, 122, 123, 124, 125, 126, 127, 128, 129, 130, 131, 132, 133, 134, 135, 136, 137, 138, 139, 140, 141, 142, 143, 144, 145, 146, 147, 148, 149, 150, 151, 152, 153, 154, 155, 156, 157, 158, 159, 160, 161, 162, 163, 164, 165, 166, 167, 168, 169, 170, 171, 172, 173, 174, 175, 176, 177, 178, 179, 180, 181, 182, 183, 184, 185, 186, 187, 188, 189, 190, 191, 192] (0) ([(3, vn 0)]) ([]) (h0 := ⟨0, rfl, rfl, by omega, by omega⟩) (hr := ?_)
  rintro _ _ _ ⟨k, rfl, rfl, hmk, hk⟩
  refine v_code [] (hk := ?_)
  first | refine c_ifd rfl (fun h19 => ?_) (fun h19 => ?_) | refine c_ifn rfl (fun h19 => ?_) (fun h19 => ?_) | refine c_if rfl (fun h19 => ?_) (fun h19 => ?_)
  · exact absurd h19 (by omega)
  · refine v_code [] (hk := ?_)
    refine k_val 41 (vint 0) rfl rfl ?_
    refine l_do d_make0 (fun g42 => ?_)
    refine v_ops [] (hk := ?_)
    refine v_loop (fun m E H => ∃ (k : Nat), E = [(6, vn k)] ∧ H = [] ∧ m = 0 - k ∧ k ≤ 0) [0, 2, 5, 9, 10, 11, 12, 13, 14, 15, 73, 74, 75, 76, 77, 78, 79, 80, 81, 82, 83, 84, 85, 86, 87, 88, 89, 90, 91, 92, 93, 94, 95, 96, 97, 98, 99, 100, 101, 102, 103, 104, 105, 106, 107, 108, 109, 110, 111, 112, 113, 114, 115, 116, 117, 118, 119, 120, 121, 122, 123, 124, 125, 126, 127, 128, 129, 130, 131, 132, 133, 134, 135, 136, 137, 138, 139, 140, 141, 142, 143, 144, 145, 146, 147, 148, 149, 150, 151, 152, 153, 154, 155, 156, 157, 158, 159, 160, 161, 162, 163, 164, 165, 166, 167, 168, 169, 170, 171, 172, 173, 174, 175, 176, 177, 178, 179, 180, 181, 182, 183, 184, 185, 186, 187, 188, 189, 190, 191, 192] (0) ([(6, vn 0)]) ([]) (h0 := ⟨0, rfl, rfl, by omega, by omega⟩) (hr := ?_)
    rintro _ _ _ ⟨k, rfl, rfl, hmk, hk⟩
    refine v_code [] (hk := ?_)
    first | refine c_ifd rfl (fun h46 => ?_) (fun h46 => ?_) | refine c_ifn rfl (fun h46 => ?_) (fun h46 => ?_) | refine c_if rfl (fun h46 => ?_) (fun h46 => ?_)
    · exact absurd h46 (by omega)
    · refine v_code [] (hk := ?_)
      refine v_loop (fun m E H => ∃ (k : Nat), E = [(9, vn k)] ∧ H = [] ∧ m = 0 - k ∧ k ≤ 0) [0, 5, 11, 12, 13, 14, 15, 123, 124, 125, 126, 127, 128, 129, 130, 131, 132, 133, 134, 135, 136, 137, 138, 139, 140, 141, 142, 143, 144, 145, 146, 147, 148, 149, 150, 151, 152, 153, 154, 155, 156, 157, 158, 159, 160, 161, 162, 163, 164, 165, 166, 167, 168, 169, 170, 171, 172, 173, 174, 175, 176, 177, 178, 179, 180, 181, 182, 183, 184, 185, 186, 187, 188, 189, 190, 191, 192] (0) ([(9, vn 0)]) ([]) (h0 := ⟨0, rfl, rfl, by omega, by omega⟩) (hr := ?_)
      rintro _ _ _ ⟨k, rfl, rfl, hmk, hk⟩
      refine v_code [] (hk := ?_)
      first | refine c_ifd rfl (fun h76 => ?_) (fun h76 => ?_) | refine c_ifn rfl (fun h76 => ?_) (fun h76 => ?_) | refine c_if rfl (fun h76 => ?_) (fun h76 => ?_)
      · exact absurd h76 (by omega)
      · refine v_code [] (hk := ?_)
        refine v_loop (fun m E H => ∃ (k : Nat), E = [(11, vn k)] ∧ H = [] ∧ m = 0 - k ∧ k ≤ 0) [0, 2, 5, 14, 15, 152, 153, 154, 155, 156, 157, 158, 159, 160, 161, 162, 163, 164, 165, 166, 167, 168, 169, 170, 171, 172, 173, 174, 175, 176, 177, 178, 179, 180, 181, 182, 183, 184, 185, 186, 187, 188, 189, 190, 191, 192] (0) ([(11, vn 0)]) ([]) (h0 := ⟨0, rfl, rfl, by omega, by omega⟩) (hr := ?_)
        rintro _ _ _ ⟨k, rfl, rfl, hmk, hk⟩
        refine v_code [] (hk := ?_)
        first | refine c_ifd rfl (fun h126 => ?_) (fun h126 => ?_) | refine c_ifn rfl (fun h126 => ?_) (fun h126 => ?_) | refine c_if rfl (fun h126 => ?_) (fun h126 => ?_)
        · exact absurd h126 (by omega)
        · refine v_code [] (hk := ?_)
          refine v_loop (fun m E H => ∃ (k : Nat), E = [(14, vn k)] ∧ H = [] ∧ m = 0 - k ∧ k ≤ 0) [0, 5] (0) ([(14, vn 0)]) ([]) (h0 := ⟨0, rfl, rfl, by omega, by omega⟩) (hr := ?_)
          rintro _ _ _ ⟨k, rfl, rfl, hmk, hk⟩
          refine v_code [] (hk := ?_)
          first | refine c_ifd rfl (fun h155 => ?_) (fun h155 => ?_) | refine c_ifn rfl (fun h155 => ?_) (fun h155 => ?_) | refine c_if rfl (fun h155 => ?_) (fun h155 => ?_)
          · exact absurd h155 (by omega)
          · refine v_code [] (hk := ?_)
            refine v_ret rfl [] (.cons (.tmp rfl) .nil) (h := ?_)
            exact ⟨rfl, rfl⟩
theorem flatRedeemers0 : CSpec Tryz.prog 114 [.one (.sl 0 none 0 0)] [] [] fun o L => o = .ret (vb true) ∧ L = [] := by
  refine v_enter Tryz.func114 (h := fun w0 => ?_)
  refine v_code [] (hk := ?_)
  refine v_loop (fun m E H => ∃ (k : Nat), E = [(3, vn k)] ∧ H = [] ∧ m = 0 - k ∧ k ≤ 0) [0, 2, 5, 6, 7, 8, 9, 10, 11, 12, 13, 14, 15, 40, 41, 42, 43, 44, 45, 46, 47, 48, 49, 50, 51, 52, 53, 54, 55, 56, 57, 58, 59, 60, 61, 62, 63, 64, 65, 66, 67, 68, 69, 70, 71, 72, 73, 74, 75, 76, 77, 78, 79, 80, 81, 82, 83, 84, 85, 86, 87, 88, 89, 90, 91, 92, 93, 94, 95, 96, 97, 98, 99, 100, 101, 102, 103, 104, 105, 106, 107, 108, 109, 110, 111, 112, 113, 114, 115, 116, 117, 118, 119, 120, 121, 122, 123, 124, 125, 126, 127, 128, 129, 130, 131, 132, 133, 134, 135, 136, 137, 138, 139, 140, 141, 142, 143, 144, 145, 146, 147, 148, 149, 150, 151, 152, 153, 154, 155, 156, 157, 158, 159, 160, 161, 162, 163, 164, 165, 166, 167, 168, 169, 170, 171, 172, 173, 174, 175, 176, 177, 178, 179, 180, 181, 182, 183, 184, 185, 186, 187, 188, 189, 190, 191, 192] (0) ([(3, vn 0)]) ([]) (h0 := ⟨0, rfl, rfl, by omega, by omega⟩) (hr := ?_)
  rintro _ _ _ ⟨k, rfl, rfl, hmk, hk⟩
  refine v_code [] (hk := ?_)
  first | refine c_ifd rfl (fun h19 => ?_) (fun h19 => ?_) | refine c_ifn rfl (fun h19 => ?_) (fun h19 => ?_) | refine c_if rfl (fun h19 => ?_) (fun h19 => ?_)
  · exact absurd h19 (by omega)
  · refine v_code [] (hk := ?_)
    refine k_val 41 (vint 0) rfl rfl ?_
    refine l_do d_make0 (fun g42 => ?_)
    refine v_ops [] (hk := ?_)
    refine v_loop (fun m E H => ∃ (k : Nat), E = [(6, vn k)] ∧ H = [] ∧ m = 0 - k ∧ k ≤ 0) [0, 2, 5, 9, 10, 11, 12, 13, 14, 15, 73, 74, 75, 76, 77, 78, 79, 80, 81, 82, 83, 84, 85, 86, 87, 88, 89, 90, 91, 92, 93, 94, 95, 96, 97, 98, 99, 100, 101, 102, 103, 104, 105, 106, 107, 108, 109, 110, 111, 112, 113, 114, 115, 116, 117, 118, 119, 120, 121, 122, 123, 124, 125, 126, 127, 128, 129, 130, 131, 132, 133, 134, 135, 136, 137, 138, 139, 140, 141, 142, 143, 144, 145, 146, 147, 148, 149, 150, 151, 152, 153, 154, 155, 156, 157, 158, 159, 160, 161, 162, 163, 164, 165, 166, 167, 168, 169, 170, 171, 172, 173, 174, 175, 176, 177, 178, 179, 180, 181, 182, 183, 184, 185, 186, 187, 188, 189, 190, 191, 192] (0) ([(6, vn 0)]) ([]) (h0 := ⟨0, rfl, rfl, by omega, by omega⟩) (hr := ?_)
    rintro _ _ _ ⟨k, rfl, rfl, hmk, hk⟩
    refine v_code [] (hk := ?_)
    first | refine c_ifd rfl (fun h46 => ?_) (fun h46 => ?_) | refine c_ifn rfl (fun h46 => ?_) (fun h46 => ?_) | refine c_if rfl (fun h46 => ?_) (fun h46 => ?_)
    · exact absurd h46 (by omega)
    · refine v_code [] (hk := ?_)
      refine v_loop (fun m E H => ∃ (k : Nat), E = [(9, vn k)] ∧ H = [] ∧ m = 0 - k ∧ k ≤ 0) [0, 5, 11, 12, 13, 14, 15, 123, 124, 125, 126, 127, 128, 129, 130, 131, 132, 133, 134, 135, 136, 137, 138, 139, 140, 141, 142, 143, 144, 145, 146, 147, 148, 149, 150, 151, 152, 153, 154, 155, 156, 157, 158, 159, 160, 161, 162, 163, 164, 165, 166, 167, 168, 169, 170, 171, 172, 173, 174, 175, 176, 177, 178, 179, 180, 181, 182, 183, 184, 185, 186, 187, 188, 189, 190, 191, 192] (0) ([(9, vn 0)]) ([]) (h0 := ⟨0, rfl, rfl, by omega, by omega⟩) (hr := ?_)
      rintro _ _ _ ⟨k, rfl, rfl, hmk, hk⟩
      refine v_code [] (hk := ?_)
      first | refine c_ifd rfl (fun h76 => ?_) (fun h76 => ?_) | refine c_ifn rfl (fun h76 => ?_) (fun h76 => ?_) | refine c_if rfl (fun h76 => ?_) (fun h76 => ?_)
      · exact absurd h76 (by omega)
      · refine v_code [] (hk := ?_)
        refine v_loop (fun m E H => ∃ (k : Nat), E = [(11, vn k)] ∧ H = [] ∧ m = 0 - k ∧ k ≤ 0) [0, 2, 5, 14, 15, 152, 153, 154, 155, 156, 157, 158, 159, 160, 161, 162, 163, 164, 165, 166, 167, 168, 169, 170, 171, 172, 173, 174, 175, 176, 177, 178, 179, 180, 181, 182, 183, 184, 185, 186, 187, 188, 189, 190, 191, 192] (0) ([(11, vn 0)]) ([]) (h0 := ⟨0, rfl, rfl, by omega, by omega⟩) (hr := ?_)
        rintro _ _ _ ⟨k, rfl, rfl, hmk, hk⟩
        refine v_code [] (hk := ?_)
        first | refine c_ifd rfl (fun h126 => ?_) (fun h126 => ?_) | refine c_ifn rfl (fun h126 => ?_) (fun h126 => ?_) | refine c_if rfl (fun h126 => ?_) (fun h126 => ?_)
        · exact absurd h126 (by omega)
        · refine v_code [] (hk := ?_)
          refine v_loop (fun m E H => ∃ (k : Nat), E = [(14, vn k)] ∧ H = [] ∧ m = 0 - k ∧ k ≤ 0) [0, 5] (0) ([(14, vn 0)]) ([]) (h0 := ⟨0, rfl, rfl, by omega, by omega⟩) (hr := ?_)
          rintro _ _ _ ⟨k, rfl, rfl, hmk, hk⟩
          refine v_code [] (hk := ?_)
          first | refine c_ifd rfl (fun h155 => ?_) (fun h155 => ?_) | refine c_ifn rfl (fun h155 => ?_) (fun h155 => ?_) | refine c_if rfl (fun h155 => ?_) (fun h155 => ?_)
          · exact absurd h155 (by omega)
          · refine v_code [] (hk := ?_)
            refine v_ret rfl [] (.cons (.tmp rfl) .nil) (h := ?_)
            exact ⟨rfl, rfl⟩
theorem flatBodies0 : CSpec Tryz.prog 115 [.one (.sl 0 none 0 0)] [] [] fun o L => o = .ret (vb true) ∧ L = [] := by
  refine v_enter Tryz.func115 (h := fun w0 => ?_)
  refine v_code [] (hk := ?_)
  refine v_loop (fun m E H => ∃ (k : Nat), E = [(3, vn k)] ∧ H = [] ∧ m = 0 - k ∧ k ≤ 0) [0, 2, 5, 6, 7, 8, 9, 10, 11, 12, 13, 14, 15, 40, 41, 42, 43, 44, 45, 46, 47, 48, 49, 50, 51, 52, 53, 54, 55, 56, 57, 58, 59, 60, 61, 62, 63, 64, 65, 66, 67, 68, 69, 70, 71, 72, 73, 74, 75, 76, 77, 78, 79, 80, 81, 82, 83, 84, 85, 86, 87, 88, 89, 90, 91, 92, 93, 94, 95, 96, 97, 98, 99, 100, 101, 102, 103, 104, 105, 106, 107, 108, 109, 110, 111, 112, 113, 114, 115, 116, 117, 118, 119, 120, 121, 122, 123, 124, 125, 126, 127, 128, 129, 130, 131, 132, 133, 134, 135, 136, 137, 138, 139, 140, 141, 142, 143, 144, 145, 146, 147, 148, 149, 150, 151, 152, 153, 154, 155, 156, 157, 158, 159, 160, 161, 162, 163, 164, 165, 166, 167, 168, 169, 170, 171, 172, 173, 174, 175, 176, 177, 178, 179, 180, 181, 182, 183, 184, 185, 186, 187, 188, 189, 190, 191, 192] (0) ([(3, vn 0)]) ([]) (h0 := ⟨0, rfl, rfl, by omega, by omega⟩) (hr := ?_)
  rintro _ _ _ ⟨k, rfl, rfl, hmk, hk⟩
  refine v_code [] (hk := ?_)
  first | refine c_ifd rfl (fun h19 => ?_) (fun h19 => ?_) | refine c_ifn rfl (fun h19 => ?_) (fun h19 => ?_) | refine c_if rfl (fun h19 => ?_) (fun h19 => ?_)
  · exact absurd h19 (by omega)
  · refine v_code [] (hk := ?_)
    refine k_val 41 (vint 0) rfl rfl ?_
    refine l_do d_make0 (fun g42 => ?_)
    refine v_ops [] (hk := ?_)
    refine v_loop (fun m E H => ∃ (k : Nat), E = [(6, vn k)] ∧ H = [] ∧ m = 0 - k ∧ k ≤ 0) [0, 2, 5, 9, 10, 11, 12, 13, 14, 15, 73, 74, 75, 76, 77, 78, 79, 80, 81, 82, 83, 84, 85, 86, 87, 88, 89, 90, 91, 92, 93, 94, 95, 96, 97, 98, 99, 100, 101, 102, 103, 104, 105, 106, 107, 108, 109, 110, 111, 112, 113, 114, 115, 116, 117, 118, 119, 120, 121, 122, 123, 124, 125, 126, 127, 128, 129, 130, 131, 132, 133, 134, 135, 136, 137, 138, 139, 140, 141, 142, 143, 144, 145, 146, 147, 148, 149, 150, 151, 152, 153, 154, 155, 156, 157, 158, 159, 160, 161, 162, 163, 164, 165, 166, 167, 168, 169, 170, 171, 172, 173, 174, 175, 176, 177, 178, 179, 180, 181, 182, 183, 184, 185, 186, 187, 188, 189, 190, 191, 192] (0) ([(6, vn 0)]) ([]) (h0 := ⟨0, rfl, rfl, by omega, by omega⟩) (hr := ?_)
    rintro _ _ _ ⟨k, rfl, rfl, hmk, hk⟩
    refine v_code [] (hk := ?_)
    first | refine c_ifd rfl (fun h46 => ?_) (fun h46 => ?_) | refine c_ifn rfl (fun h46 => ?_) (fun h46 => ?_) | refine c_if rfl (fun h46 => ?_) (fun h46 => ?_)
    · exact absurd h46 (by omega)
    · refine v_code [] (hk := ?_)
      refine v_loop (fun m E H => ∃ (k : Nat), E = [(9, vn k)] ∧ H = [] ∧ m = 0 - k ∧ k ≤ 0) [0, 5, 11, 12, 13, 14, 15, 123, 124, 125, 126, 127, 128, 129, 130, 131, 132, 133, 134, 135, 136, 137, 138, 139, 140, 141, 142, 143, 144, 145, 146, 147, 148, 149, 150, 151, 152, 153, 154, 155, 156, 157, 158, 159, 160, 161, 162, 163, 164, 165, 166, 167, 168, 169, 170, 171, 172, 173, 174, 175, 176, 177, 178, 179, 180, 181, 182, 183, 184, 185, 186, 187, 188, 189, 190, 191, 192] (0) ([(9, vn 0)]) ([]) (h0 := ⟨0, rfl, rfl, by omega, by omega⟩) (hr := ?_)
      rintro _ _ _ ⟨k, rfl, rfl, hmk, hk⟩
      refine v_code [] (hk := ?_)
      first | refine c_ifd rfl (fun h76 => ?_) (fun h76 => ?_) | refine c_ifn rfl (fun h76 => ?_) (fun h76 => ?_) | refine c_if rfl (fun h76 => ?_) (fun h76 => ?_)
      · exact absurd h76 (by omega)
      · refine v_code [] (hk := ?_)
        refine v_loop (fun m E H => ∃ (k : Nat), E = [(11, vn k)] ∧ H = [] ∧ m = 0 - k ∧ k ≤ 0) [0, 2, 5, 14, 15, 152, 153, 154, 155, 156, 157, 158, 159, 160, 161, 162, 163, 164, 165, 166, 167, 168, 169, 170, 171, 172, 173, 174, 175, 176, 177, 178, 179, 180, 181, 182, 183, 184, 185, 186, 187, 188, 189, 190, 191, 192] (0) ([(11, vn 0)]) ([]) (h0 := ⟨0, rfl, rfl, by omega, by omega⟩) (hr := ?_)
        rintro _ _ _ ⟨k, rfl, rfl, hmk, hk⟩
        refine v_code [] (hk := ?_)
        first | refine c_ifd rfl (fun h126 => ?_) (fun h126 => ?_) | refine c_ifn rfl (fun h126 => ?_) (fun h126 => ?_) | refine c_if rfl (fun h126 => ?_) (fun h126 => ?_)
        · exact absurd h126 (by omega)
        · refine v_code [] (hk := ?_)
          refine v_loop (fun m E H => ∃ (k : Nat), E = [(14, vn k)] ∧ H = [] ∧ m = 0 - k ∧ k ≤ 0) [0, 5] (0) ([(14, vn 0)]) ([]) (h0 := ⟨0, rfl, rfl, by omega, by omega⟩) (hr := ?_)
          rintro _ _ _ ⟨k, rfl, rfl, hmk, hk⟩
          refine v_code [] (hk := ?_)
          first | refine c_ifd rfl (fun h155 => ?_) (fun h155 => ?_) | refine c_ifn rfl (fun h155 => ?_) (fun h155 => ?_) | refine c_if rfl (fun h155 => ?_) (fun h155 => ?_)
          · exact absurd h155 (by omega)
          · refine v_code [] (hk := ?_)
            refine v_ret rfl [] (.cons (.tmp rfl) .nil) (h := ?_)
            exact ⟨rfl, rfl⟩
theorem flatSignatures0 : CSpec Tryz.prog 116 [.one (.sl 0 none 0 0)] [] [] fun o L => o = .ret (vb true) ∧ L = [] := by
  refine v_enter Tryz.func116 (h := fun w0 => ?_)
  refine v_code [] (hk := ?_)
  refine v_loop (fun m E H => ∃ (k : Nat), E = [(3, vn k)] ∧ H = [] ∧ m = 0 - k ∧ k ≤ 0) [0, 2, 5, 6, 7, 8, 9, 10, 11, 12, 13, 14, 15, 40, 41, 42, 43, 44, 45, 46, 47, 48, 49, 50, 51, 52, 53, 54, 55, 56, 57, 58, 59, 60, 61, 62, 63, 64, 65, 66, 67, 68, 69, 70, 71, 72, 73, 74, 75, 76, 77, 78, 79, 80, 81, 82, 83, 84, 85, 86, 87, 88, 89, 90, 91, 92, 93, 94, 95, 96, 97, 98, 99, 100, 101, 102, 103, 104, 105, 106, 107, 108, 109, 110, 111, 112, 113, 114, 115, 116, 117, 118, 119, 120, 121, 122, 123, 124, 125, 126, 127, 128, 129, 130, 131, 132, 133, 134, 135, 136, 137, 138, 139, 140, 141, 142, 143, 144, 145, 146, 147, 148, 149, 150, 151, 152, 153, 154, 155, 156, 157, 158, 159, 160, 161, 162, 163, 164, 165, 166, 167, 168, 169, 170, 171, 172, 173, 174, 175, 176, 177, 178, 179, 180, 181, 182, 183, 184, 185, 186, 187, 188, 189, 190, 191, 192] (0) ([(3, vn 0)]) ([]) (h0 := ⟨0, rfl, rfl, by omega, by omega⟩) (hr := ?_)
  rintro _ _ _ ⟨k, rfl, rfl, hmk, hk⟩
  refine v_code [] (hk := ?_)
  first | refine c_ifd rfl (fun h19 => ?_) (fun h19 => ?_) | refine c_ifn rfl (fun h19 => ?_) (fun h19 => ?_) | refine c_if rfl (fun h19 => ?_) (fun h19 => ?_)
  · exact absurd h19 (by omega)
  · refine v_code [] (hk := ?_)
    refine k_val 41 (vint 0) rfl rfl ?_
    refine l_do d_make0 (fun g42 => ?_)
    refine v_ops [] (hk := ?_)
    refine v_loop (fun m E H => ∃ (k : Nat), E = [(6, vn k)] ∧ H = [] ∧ m = 0 - k ∧ k ≤ 0) [0, 2, 5, 9, 10, 11, 12, 13, 14, 15, 73, 74, 75, 76, 77, 78, 79, 80, 81, 82, 83, 84, 85, 86, 87, 88, 89, 90, 91, 92, 93, 94, 95, 96, 97, 98, 99, 100, 101, 102, 103, 104, 105, 106, 107, 108, 109, 110, 111, 112, 113, 114, 115, 116, 117, 118, 119, 120, 121, 122, 123, 124, 125, 126, 127, 128, 129, 130, 131, 132, 133, 134, 135, 136, 137, 138, 139, 140, 141, 142, 143, 144, 145, 146, 147, 148, 149, 150, 151, 152, 153, 154, 155, 156, 157, 158, 159, 160, 161, 162, 163, 164, 165, 166, 167, 168, 169, 170, 171, 172, 173, 174, 175, 176, 177, 178, 179, 180, 181, 182, 183, 184, 185, 186, 187, 188, 189, 190, 191, 192] (0) ([(6, vn 0)]) ([]) (h0 := ⟨0, rfl, rfl, by omega, by omega⟩) (hr := ?_)
    rintro _ _ _ ⟨k, rfl, rfl, hmk, hk⟩
    refine v_code [] (hk := ?_)
    first | refine c_ifd rfl (fun h46 => ?_) (fun h46 => ?_) | refine c_ifn rfl (fun h46 => ?_) (fun h46 => ?_) | refine c_if rfl (fun h46 => ?_) (fun h46 => ?_)
    · exact absurd h46 (by omega)
    · refine v_code [] (hk := ?_)
      refine v_loop (fun m E H => ∃ (k : Nat), E = [(9, vn k)] ∧ H = [] ∧ m = 0 - k ∧ k ≤ 0) [0, 5, 11, 12, 13, 14, 15, 123, 124, 125, 126, 127, 128, 129, 130, 131, 132, 133, 134, 135, 136, 137, 138, 139, 140, 141, 142, 143, 144, 145, 146, 147, 148, 149, 150, 151, 152, 153, 154, 155, 156, 157, 158, 159, 160, 161, 162, 163, 164, 165, 166, 167, 168, 169, 170, 171, 172, 173, 174, 175, 176, 177, 178, 179, 180, 181, 182, 183, 184, 185, 186, 187, 188, 189, 190, 191, 192] (0) ([(9, vn 0)]) ([]) (h0 := ⟨0, rfl, rfl, by omega, by omega⟩) (hr := ?_)
      rintro _ _ _ ⟨k, rfl, rfl, hmk, hk⟩
      refine v_code [] (hk := ?_)
      first | refine c_ifd rfl (fun h76 => ?_) (fun h76 => ?_) | refine c_ifn rfl (fun h76 => ?_) (fun h76 => ?_) | refine c_if rfl (fun h76 => ?_) (fun h76 => ?_)
      · exact absurd h76 (by omega)
      · refine v_code [] (hk := ?_)
        refine v_loop (fun m E H => ∃ (k : Nat), E = [(11, vn k)] ∧ H = [] ∧ m = 0 - k ∧ k ≤ 0) [0, 2, 5, 14, 15, 152, 153, 154, 155, 156, 157, 158, 159, 160, 161, 162, 163, 164, 165, 166, 167, 168, 169, 170, 171, 172, 173, 174, 175, 176, 177, 178, 179, 180, 181, 182, 183, 184, 185, 186, 187, 188, 189, 190, 191, 192] (0) ([(11, vn 0)]) ([]) (h0 := ⟨0, rfl, rfl, by omega, by omega⟩) (hr := ?_)
        rintro _ _ _ ⟨k, rfl, rfl, hmk, hk⟩
        refine v_code [] (hk := ?_)
        first | refine c_ifd rfl (fun h126 => ?_) (fun h126 => ?_) | refine c_ifn rfl (fun h126 => ?_) (fun h126 => ?_) | refine c_if rfl (fun h126 => ?_) (fun h126 => ?_)
        · exact absurd h126 (by omega)
        · refine v_code [] (hk := ?_)
          refine v_loop (fun m E H => ∃ (k : Nat), E = [(14, vn k)] ∧ H = [] ∧ m = 0 - k ∧ k ≤ 0) [0, 5] (0) ([(14, vn 0)]) ([]) (h0 := ⟨0, rfl, rfl, by omega, by omega⟩) (hr := ?_)
          rintro _ _ _ ⟨k, rfl, rfl, hmk, hk⟩
          refine v_code [] (hk := ?_)
          first | refine c_ifd rfl (fun h155 => ?_) (fun h155 => ?_) | refine c_ifn rfl (fun h155 => ?_) (fun h155 => ?_) | refine c_if rfl (fun h155 => ?_) (fun h155 => ?_)
          · exact absurd h155 (by omega)
          · refine v_code [] (hk := ?_)
            refine v_ret rfl [] (.cons (.tmp rfl) .nil) (h := ?_)
            exact ⟨rfl, rfl⟩
theorem flatTxs0 : CSpec Tryz.prog 117 [.one (.sl 0 none 0 0)] [] [] fun o L => o = .ret (vb true) ∧ L = [] := by
  refine v_enter Tryz.func117 (h := fun w0 => ?_)
  refine v_code [] (hk := ?_)
  refine v_loop (fun m E H => ∃ (k : Nat), E = [(3, vn k)] ∧ H = [] ∧ m = 0 - k ∧ k ≤ 0) [0, 2, 5, 6, 7, 8, 9, 10, 11, 12, 13, 14, 15, 40, 41, 42, 43, 44, 45, 46, 47, 48, 49, 50, 51, 52, 53, 54, 55, 56, 57, 58, 59, 60, 61, 62, 63, 64, 65, 66, 67, 68, 69, 70, 71, 72, 73, 74, 75, 76, 77, 78, 79, 80, 81, 82, 83, 84, 85, 86, 87, 88, 89, 90, 91, 92, 93, 94, 95, 96, 97, 98, 99, 100, 101, 102, 103, 104, 105, 106, 107, 108, 109, 110, 111, 112, 113, 114, 115, 116, 117, 118, 119, 120, 121, 122, 123, 124, 125, 126, 127, 128, 129, 130, 131, 132, 133, 134, 135, 136, 137, 138, 139, 140, 141, 142, 143, 144, 145, 146, 147, 148, 149, 150, 151, 152, 153, 154, 155, 156, 157, 158, 159, 160, 161, 162, 163, 164, 165, 166, 167, 168, 169, 170, 171, 172, 173, 174, 175, 176, 177, 178, 179, 180, 181, 182, 183, 184, 185, 186, 187, 188, 189, 190, 191, 192] (0) ([(3, vn 0)]) ([]) (h0 := ⟨0, rfl, rfl, by omega, by omega⟩) (hr := ?_)
  rintro _ _ _ ⟨k, rfl, rfl, hmk, hk⟩
  refine v_code [] (hk := ?_)
  first | refine c_ifd rfl (fun h19 => ?_) (fun h19 => ?_) | refine c_ifn rfl (fun h19 => ?_) (fun h19 => ?_) | refine c_if rfl (fun h19 => ?_) (fun h19 => ?_)
  · exact absurd h19 (by omega)
  · refine v_code [] (hk := ?_)
    refine k_val 41 (vint 0) rfl rfl ?_
    refine l_do d_make0 (fun g42 => ?_)
    refine v_ops [] (hk := ?_)
    refine v_loop (fun m E H => ∃ (k : Nat), E = [(6, vn k)] ∧ H = [] ∧ m = 0 - k ∧ k ≤ 0) [0, 2, 5, 9, 10, 11, 12, 13, 14, 15, 73, 74, 75, 76, 77, 78, 79, 80, 81, 82, 83, 84, 85, 86, 87, 88, 89, 90, 91, 92, 93, 94, 95, 96, 97, 98, 99, 100, 101, 102, 103, 104, 105, 106, 107, 108, 109, 110, 111, 112, 113, 114, 115, 116, 117, 118, 119, 120, 121, 122, 123, 124, 125, 126, 127, 128, 129, 130, 131, 132, 133, 134, 135, 136, 137, 138, 139, 140, 141, 142, 143, 144, 145, 146, 147, 148, 149, 150, 151, 152, 153, 154, 155, 156, 157, 158, 159, 160, 161, 162, 163, 164, 165, 166, 167, 168, 169, 170, 171, 172, 173, 174, 175, 176, 177, 178, 179, 180, 181, 182, 183, 184, 185, 186, 187, 188, 189, 190, 191, 192] (0) ([(6, vn 0)]) ([]) (h0 := ⟨0, rfl, rfl, by omega, by omega⟩) (hr := ?_)
    rintro _ _ _ ⟨k, rfl, rfl, hmk, hk⟩
    refine v_code [] (hk := ?_)
    first | refine c_ifd rfl (fun h46 => ?_) (fun h46 => ?_) | refine c_ifn rfl (fun h46 => ?_) (fun h46 => ?_) | refine c_if rfl (fun h46 => ?_) (fun h46 => ?_)
    · exact absurd h46 (by omega)
    · refine v_code [] (hk := ?_)
      refine v_loop (fun m E H => ∃ (k : Nat), E = [(9, vn k)] ∧ H = [] ∧ m = 0 - k ∧ k ≤ 0) [0, 5, 11, 12, 13, 14, 15, 123, 124, 125, 126, 127, 128, 129, 130, 131, 132, 133, 134, 135, 136, 137, 138, 139, 140, 141, 142, 143, 144, 145, 146, 147, 148, 149, 150, 151, 152, 153, 154, 155, 156, 157, 158, 159, 160, 161, 162, 163, 164, 165, 166, 167, 168, 169, 170, 171, 172, 173, 174, 175, 176, 177, 178, 179, 180, 181, 182, 183, 184, 185, 186, 187, 188, 189, 190, 191, 192] (0) ([(9, vn 0)]) ([]) (h0 := ⟨0, rfl, rfl, by omega, by omega⟩) (hr := ?_)
      rintro _ _ _ ⟨k, rfl, rfl, hmk, hk⟩
      refine v_code [] (hk := ?_)
      first | refine c_ifd rfl (fun h76 => ?_) (fun h76 => ?_) | refine c_ifn rfl (fun h76 => ?_) (fun h76 => ?_) | refine c_if rfl (fun h76 => ?_) (fun h76 => ?_)
      · exact absurd h76 (by omega)
      · refine v_code [] (hk := ?_)
        refine v_loop (fun m E H => ∃ (k : Nat), E = [(11, vn k)] ∧ H = [] ∧ m = 0 - k ∧ k ≤ 0) [0, 2, 5, 14, 15, 152, 153, 154, 155, 156, 157, 158, 159, 160, 161, 162, 163, 164, 165, 166, 167, 168, 169, 170, 171, 172, 173, 174, 175, 176, 177, 178, 179, 180, 181, 182, 183, 184, 185, 186, 187, 188, 189, 190, 191, 192] (0) ([(11, vn 0)]) ([]) (h0 := ⟨0, rfl, rfl, by omega, by omega⟩) (hr := ?_)
        rintro _ _ _ ⟨k, rfl, rfl, hmk, hk⟩
        refine v_code [] (hk := ?_)
        first | refine c_ifd rfl (fun h126 => ?_) (fun h126 => ?_) | refine c_ifn rfl (fun h126 => ?_) (fun h126 => ?_) | refine c_if rfl (fun h126 => ?_) (fun h126 => ?_)
        · exact absurd h126 (by omega)
        · refine v_code [] (hk := ?_)
          refine v_loop (fun m E H => ∃ (k : Nat), E = [(14, vn k)] ∧ H = [] ∧ m = 0 - k ∧ k ≤ 0) [0, 5] (0) ([(14, vn 0)]) ([]) (h0 := ⟨0, rfl, rfl, by omega, by omega⟩) (hr := ?_)
          rintro _ _ _ ⟨k, rfl, rfl, hmk, hk⟩
          refine v_code [] (hk := ?_)
          first | refine c_ifd rfl (fun h155 => ?_) (fun h155 => ?_) | refine c_ifn rfl (fun h155 => ?_) (fun h155 => ?_) | refine c_if rfl (fun h155 => ?_) (fun h155 => ?_)
          · exact absurd h155 (by omega)
          · refine v_code [] (hk := ?_)
            refine v_ret rfl [] (.cons (.tmp rfl) .nil) (h := ?_)
            exact ⟨rfl, rfl⟩
theorem flatBlocks0 : CSpec Tryz.prog 118 [.one (.sl 0 none 0 0)] [] [] fun o L => o = .ret (vb true) ∧ L = [] := by
  refine v_enter Tryz.func118 (h := fun w0 => ?_)
  refine v_code [] (hk := ?_)
  refine v_loop (fun m E H => ∃ (k : Nat), E = [(3, vn k)] ∧ H = [] ∧ m = 0 - k ∧ k ≤ 0) [0, 2, 5, 6, 7, 8, 9, 10, 11, 12, 13, 14, 15, 40, 41, 42, 43, 44, 45, 46, 47, 48, 49, 50, 51, 52, 53, 54, 55, 56, 57, 58, 59, 60, 61, 62, 63, 64, 65, 66, 67, 68, 69, 70, 71, 72, 73, 74, 75, 76, 77, 78, 79, 80, 81, 82, 83, 84, 85, 86, 87, 88, 89, 90, 91, 92, 93, 94, 95, 96, 97, 98, 99, 100, 101, 102, 103, 104, 105, 106, 107, 108, 109, 110, 111, 112, 113, 114, 115, 116, 117, 118, 119, 120, 121, 122, 123, 124, 125, 126, 127, 128, 129, 130, 131, 132, 133, 134, 135, 136, 137, 138, 139, 140, 141, 142, 143, 144, 145, 146, 147, 148, 149, 150, 151, 152, 153, 154, 155, 156, 157, 158, 159, 160, 161, 162, 163, 164, 165, 166, 167, 168, 169, 170, 171, 172, 173, 174, 175, 176, 177, 178, 179, 180, 181, 182, 183, 184, 185, 186, 187, 188, 189, 190, 191, 192] (0) ([(3, vn 0)]) ([]) (h0 := ⟨0, rfl, rfl, by omega, by omega⟩) (hr := ?_)
  rintro _ _ _ ⟨k, rfl, rfl, hmk, hk⟩
  refine v_code [] (hk := ?_)
  first | refine c_ifd rfl (fun h19 => ?_) (fun h19 => ?_) | refine c_ifn rfl (fun h19 => ?_) (fun h19 => ?_) | refine c_if rfl (fun h19 => ?_) (fun h19 => ?_)
  · exact absurd h19 (by omega)
  · refine v_code [] (hk := ?_)
    refine k_val 41 (vint 0) rfl rfl ?_
    refine l_do d_make0 (fun g42 => ?_)
    refine v_ops [] (hk := ?_)
    refine v_loop (fun m E H => ∃ (k : Nat), E = [(6, vn k)] ∧ H = [] ∧ m = 0 - k ∧ k ≤ 0) [0, 2, 5, 9, 10, 11, 12, 13, 14, 15, 73, 74, 75, 76, 77, 78, 79, 80, 81, 82, 83, 84, 85, 86, 87, 88, 89, 90, 91, 92, 93, 94, 95, 96, 97, 98, 99, 100, 101, 102, 103, 104, 105, 106, 107, 108, 109, 110, 111, 112, 113, 114, 115, 116, 117, 118, 119, 120, 121, 122, 123, 124, 125, 126, 127, 128, 129, 130, 131, 132, 133, 134, 135, 136, 137, 138, 139, 140, 141, 142, 143, 144, 145, 146, 147, 148, 149, 150, 151, 152, 153, 154, 155, 156, 157, 158, 159, 160, 161, 162, 163, 164, 165, 166, 167, 168, 169, 170, 171, 172, 173, 174, 175, 176, 177, 178, 179, 180, 181, 182, 183, 184, 185, 186, 187, 188, 189, 190, 191, 192] (0) ([(6, vn 0)]) ([]) (h0 := ⟨0, rfl, rfl, by omega, by omega⟩) (hr := ?_)
    rintro _ _ _ ⟨k, rfl, rfl, hmk, hk⟩
    refine v_code [] (hk := ?_)
    first | refine c_ifd rfl (fun h46 => ?_) (fun h46 => ?_) | refine c_ifn rfl (fun h46 => ?_) (fun h46 => ?_) | refine c_if rfl (fun h46 => ?_) (fun h46 => ?_)
    · exact absurd h46 (by omega)
    · refine v_code [] (hk := ?_)
      refine v_loop (fun m E H => ∃ (k : Nat), E = [(9, vn k)] ∧ H = [] ∧ m = 0 - k ∧ k ≤ 0) [0, 5, 11, 12, 13, 14, 15, 123, 124, 125, 126, 127, 128, 129, 130, 131, 132, 133, 134, 135, 136, 137, 138, 139, 140, 141, 142, 143, 144, 145, 146, 147, 148, 149, 150, 151, 152, 153, 154, 155, 156, 157, 158, 159, 160, 161, 162, 163, 164, 165, 166, 167, 168, 169, 170, 171, 172, 173, 174, 175, 176, 177, 178, 179, 180, 181, 182, 183, 184, 185, 186, 187, 188, 189, 190, 191, 192] (0) ([(9, vn 0)]) ([]) (h0 := ⟨0, rfl, rfl, by omega, by omega⟩) (hr := ?_)
      rintro _ _ _ ⟨k, rfl, rfl, hmk, hk⟩
      refine v_code [] (hk := ?_)
      first | refine c_ifd rfl (fun h76 => ?_) (fun h76 => ?_) | refine c_ifn rfl (fun h76 => ?_) (fun h76 => ?_) | refine c_if rfl (fun h76 => ?_) (fun h76 => ?_)
      · exact absurd h76 (by omega)
      · refine v_code [] (hk := ?_)
        refine v_loop (fun m E H => ∃ (k : Nat), E = [(11, vn k)] ∧ H = [] ∧ m = 0 - k ∧ k ≤ 0) [0, 2, 5, 14, 15, 152, 153, 154, 155, 156, 157, 158, 159, 160, 161, 162, 163, 164, 165, 166, 167, 168, 169, 170, 171, 172, 173, 174, 175, 176, 177, 178, 179, 180, 181, 182, 183, 184, 185, 186, 187, 188, 189, 190, 191, 192] (0) ([(11, vn 0)]) ([]) (h0 := ⟨0, rfl, rfl, by omega, by omega⟩) (hr := ?_)
        rintro _ _ _ ⟨k, rfl, rfl, hmk, hk⟩
        refine v_code [] (hk := ?_)
        first | refine c_ifd rfl (fun h126 => ?_) (fun h126 => ?_) | refine c_ifn rfl (fun h126 => ?_) (fun h126 => ?_) | refine c_if rfl (fun h126 => ?_) (fun h126 => ?_)
        · exact absurd h126 (by omega)
        · refine v_code [] (hk := ?_)
          refine v_loop (fun m E H => ∃ (k : Nat), E = [(14, vn k)] ∧ H = [] ∧ m = 0 - k ∧ k ≤ 0) [0, 5] (0) ([(14, vn 0)]) ([]) (h0 := ⟨0, rfl, rfl, by omega, by omega⟩) (hr := ?_)
          rintro _ _ _ ⟨k, rfl, rfl, hmk, hk⟩
          refine v_code [] (hk := ?_)
          first | refine c_ifd rfl (fun h155 => ?_) (fun h155 => ?_) | refine c_ifn rfl (fun h155 => ?_) (fun h155 => ?_) | refine c_if rfl (fun h155 => ?_) (fun h155 => ?_)
          · exact absurd h155 (by omega)
          · refine v_code [] (hk := ?_)
            refine v_ret rfl [] (.cons (.tmp rfl) .nil) (h := ?_)
            exact ⟨rfl, rfl⟩
theorem flatGeneses0 : CSpec Tryz.prog 119 [.one (.sl 0 none 0 0)] [] [] fun o L => o = .ret (vb true) ∧ L = [] := by
  refine v_enter Tryz.func119 (h := fun w0 => ?_)
  refine v_code [] (hk := ?_)
  refine v_loop (fun m E H => ∃ (k : Nat), E = [(3, vn k)] ∧ H = [] ∧ m = 0 - k ∧ k ≤ 0) [0, 2, 5, 6, 7, 8, 9, 10, 11, 12, 13, 14, 15, 40, 41, 42, 43, 44, 45, 46, 47, 48, 49, 50, 51, 52, 53, 54, 55, 56, 57, 58, 59, 60, 61, 62, 63, 64, 65, 66, 67, 68, 69, 70, 71, 72, 73, 74, 75, 76, 77, 78, 79, 80, 81, 82, 83, 84, 85, 86, 87, 88, 89, 90, 91, 92, 93, 94, 95, 96, 97, 98, 99, 100, 101, 102, 103, 104, 105, 106, 107, 108, 109, 110, 111, 112, 113, 114, 115, 116, 117, 118, 119, 120, 121, 122, 123, 124, 125, 126, 127, 128, 129, 130, 131, 132, 133, 134, 135, 136, 137, 138, 139, 140, 141, 142, 143, 144, 145, 146, 147, 148, 149, 150, 151, 152, 153, 154, 155, 156, 157, 158, 159, 160, 161, 162, 163, 164, 165, 166, 167, 168, 169, 170, 171, 172, 173, 174, 175, 176, 177, 178, 179, 180, 181, 182, 183, 184, 185, 186, 187, 188, 189, 190, 191, 192] (0) ([(3, vn 0)]) ([]) (h0 := ⟨0, rfl, rfl, by omega, by omega⟩) (hr := ?_)
  rintro _ _ _ ⟨k, rfl, rfl, hmk, hk⟩
  refine v_code [] (hk := ?_)
  first | refine c_ifd rfl (fun h19 => ?_) (fun h19 => ?_) | refine c_ifn rfl (fun h19 => ?_) (fun h19 => ?_) | refine c_if rfl (fun h19 => ?_) (fun h19 => ?_)
  · exact absurd h19 (by omega)
  · refine v_code [] (hk := ?_)
    refine k_val 41 (vint 0) rfl rfl ?_
    refine l_do d_make0 (fun g42 => ?_)
    refine v_ops [] (hk := ?_)
    refine v_loop (fun m E H => ∃ (k : Nat), E = [(6, vn k)] ∧ H = [] ∧ m = 0 - k ∧ k ≤ 0) [0, 2, 5, 9, 10, 11, 12, 13, 14, 15, 73, 74, 75, 76, 77, 78, 79, 80, 81, 82, 83, 84, 85, 86, 87, 88, 89, 90, 91, 92, 93, 94, 95, 96, 97, 98, 99, 100, 101, 102, 103, 104, 105, 106, 107, 108, 109, 110, 111, 112, 113, 114, 115, 116, 117, 118, 119, 120, 121, 122, 123, 124, 125, 126, 127, 128, 129, 130, 131, 132, 133, 134, 135, 136, 137, 138, 139, 140, 141, 142, 143, 144, 145, 146, 147, 148, 149, 150, 151, 152, 153, 154, 155, 156, 157, 158, 159, 160, 161, 162, 163, 164, 165, 166, 167, 168, 169, 170, 171, 172, 173, 174, 175, 176, 177, 178, 179, 180, 181, 182, 183, 184, 185, 186, 187, 188, 189, 190, 191, 192] (0) ([(6, vn 0)]) ([]) (h0 := ⟨0, rfl, rfl, by omega, by omega⟩) (hr := ?_)
    rintro _ _ _ ⟨k, rfl, rfl, hmk, hk⟩
    refine v_code [] (hk := ?_)
    first | refine c_ifd rfl (fun h46 => ?_) (fun h46 => ?_) | refine c_ifn rfl (fun h46 => ?_) (fun h46 => ?_) | refine c_if rfl (fun h46 => ?_) (fun h46 => ?_)
    · exact absurd h46 (by omega)
    · refine v_code [] (hk := ?_)
      refine v_loop (fun m E H => ∃ (k : Nat), E = [(9, vn k)] ∧ H = [] ∧ m = 0 - k ∧ k ≤ 0) [0, 5, 11, 12, 13, 14, 15, 123, 124, 125, 126, 127, 128, 129, 130, 131, 132, 133, 134, 135, 136, 137, 138, 139, 140, 141, 142, 143, 144, 145, 146, 147, 148, 149, 150, 151, 152, 153, 154, 155, 156, 157, 158, 159, 160, 161, 162, 163, 164, 165, 166, 167, 168, 169, 170, 171, 172, 173, 174, 175, 176, 177, 178, 179, 180, 181, 182, 183, 184, 185, 186, 187, 188, 189, 190, 191, 192] (0) ([(9, vn 0)]) ([]) (h0 := ⟨0, rfl, rfl, by omega, by omega⟩) (hr := ?_)
      rintro _ _ _ ⟨k, rfl, rfl, hmk, hk⟩
      refine v_code [] (hk := ?_)
      first | refine c_ifd rfl (fun h76 => ?_) (fun h76 => ?_) | refine c_ifn rfl (fun h76 => ?_) (fun h76 => ?_) | refine c_if rfl (fun h76 => ?_) (fun h76 => ?_)
      · exact absurd h76 (by omega)
      · refine v_code [] (hk := ?_)
        refine v_loop (fun m E H => ∃ (k : Nat), E = [(11, vn k)] ∧ H = [] ∧ m = 0 - k ∧ k ≤ 0) [0, 2, 5, 14, 15, 152, 153, 154, 155, 156, 157, 158, 159, 160, 161, 162, 163, 164, 165, 166, 167, 168, 169, 170, 171, 172, 173, 174, 175, 176, 177, 178, 179, 180, 181, 182, 183, 184, 185, 186, 187, 188, 189, 190, 191, 192] (0) ([(11, vn 0)]) ([]) (h0 := ⟨0, rfl, rfl, by omega, by omega⟩) (hr := ?_)
        rintro _ _ _ ⟨k, rfl, rfl, hmk, hk⟩
        refine v_code [] (hk := ?_)
        first | refine c_ifd rfl (fun h126 => ?_) (fun h126 => ?_) | refine c_ifn rfl (fun h126 => ?_) (fun h126 => ?_) | refine c_if rfl (fun h126 => ?_) (fun h126 => ?_)
        · exact absurd h126 (by omega)
        · refine v_code [] (hk := ?_)
          refine v_loop (fun m E H => ∃ (k : Nat), E = [(14, vn k)] ∧ H = [] ∧ m = 0 - k ∧ k ≤ 0) [0, 5] (0) ([(14, vn 0)]) ([]) (h0 := ⟨0, rfl, rfl, by omega, by omega⟩) (hr := ?_)
          rintro _ _ _ ⟨k, rfl, rfl, hmk, hk⟩
          refine v_code [] (hk := ?_)
          first | refine c_ifd rfl (fun h155 => ?_) (fun h155 => ?_) | refine c_ifn rfl (fun h155 => ?_) (fun h155 => ?_) | refine c_if rfl (fun h155 => ?_) (fun h155 => ?_)
          · exact absurd h155 (by omega)
          · refine v_code [] (hk := ?_)
            refine v_ret rfl [] (.cons (.tmp rfl) .nil) (h := ?_)
            exact ⟨rfl, rfl⟩
theorem flatDiffs0 : CSpec Tryz.prog 121 [.one (.sl 0 none 0 0)] [] [] fun o L => o = .ret (vb true) ∧ L = [] := by
  refine v_enter Tryz.func121 (h := fun w0 => ?_)
  refine v_code [] (hk := ?_)
  refine v_loop (fun m E H => ∃ (k : Nat), E = [(3, vn k)] ∧ H = [] ∧ m = 0 - k ∧ k ≤ 0) [0, 2, 5, 6, 7, 8, 9, 10, 11, 12, 13, 14, 15, 40, 41, 42, 43, 44, 45, 46, 47, 48, 49, 50, 51, 52, 53, 54, 55, 56, 57, 58, 59, 60, 61, 62, 63, 64, 65, 66, 67, 68, 69, 70, 71, 72, 73, 74, 75, 76, 77, 78, 79, 80, 81, 82, 83, 84, 85, 86, 87, 88, 89, 90, 91, 92, 93, 94, 95, 96, 97, 98, 99, 100, 101, 102, 103, 104, 105, 106, 107, 108, 109, 110, 111, 112, 113, 114, 115, 116, 117, 118, 119, 120, 121, 122, 123, 124, 125, 126, 127, 128, 129, 130, 131, 132, 133, 134, 135, 136, 137, 138, 139, 140, 141, 142, 143, 144, 145, 146, 147, 148, 149, 150, 151, 152, 153, 154, 155, 156, 157, 158, 159, 160, 161, 162, 163, 164, 165, 166, 167, 168, 169, 170, 171, 172, 173, 174, 175, 176, 177, 178, 179, 180, 181, 182, 183, 184, 185, 186, 187, 188, 189, 190, 191, 192] (0) ([(3, vn 0)]) ([]) (h0 := ⟨0, rfl, rfl, by omega, by omega⟩) (hr := ?_)
  rintro _ _ _ ⟨k, rfl, rfl, hmk, hk⟩
  refine v_code [] (hk := ?_)
  first | refine c_ifd rfl (fun h19 => ?_) (fun h19 => ?_) | refine c_ifn rfl (fun h19 => ?_) (fun h19 => ?_) | refine c_if rfl (fun h19 => ?_) (fun h19 => ?_)
  · exact absurd h19 (by omega)
  · refine v_code [] (hk := ?_)
    refine k_val 41 (vint 0) rfl rfl ?_
    refine l_do d_make0 (fun g42 => ?_)
    refine v_ops [] (hk := ?_)
    refine v_loop (fun m E H => ∃ (k : Nat), E = [(6, vn k)] ∧ H = [] ∧ m = 0 - k ∧ k ≤ 0) [0, 2, 5, 9, 10, 11, 12, 13, 14, 15, 73, 74, 75, 76, 77, 78, 79, 80, 81, 82, 83, 84, 85, 86, 87, 88, 89, 90, 91, 92, 93, 94, 95, 96, 97, 98, 99, 100, 101, 102, 103, 104, 105, 106, 107, 108, 109, 110, 111, 112, 113, 114, 115, 116, 117, 118, 119, 120, 121, 122, 123, 124, 125, 126, 127, 128, 129, 130, 131, 132, 133, 134, 135, 136, 137, 138, 139, 140, 141, 142, 143, 144, 145, 146, 147, 148, 149, 150, 151, 152, 153, 154, 155, 156, 157, 158, 159, 160, 161, 162, 163, 164, 165, 166, 167, 168, 169, 170, 171, 172, 173, 174, 175, 176, 177, 178, 179, 180, 181, 182, 183, 184, 185, 186, 187, 188, 189, 190, 191, 192] (0) ([(6, vn 0)]) ([]) (h0 := ⟨0, rfl, rfl, by omega, by omega⟩) (hr := ?_)
    rintro _ _ _ ⟨k, rfl, rfl, hmk, hk⟩
    refine v_code [] (hk := ?_)
    first | refine c_ifd rfl (fun h46 => ?_) (fun h46 => ?_) | refine c_ifn rfl (fun h46 => ?_) (fun h46 => ?_) | refine c_if rfl (fun h46 => ?_) (fun h46 => ?_)
    · exact absurd h46 (by omega)
    · refine v_code [] (hk := ?_)
      refine v_loop (fun m E H => ∃ (k : Nat), E = [(9, vn k)] ∧ H = [] ∧ m = 0 - k ∧ k ≤ 0) [0, 5, 11, 12, 13, 14, 15, 123, 124, 125, 126, 127, 128, 129, 130, 131, 132, 133, 134, 135, 136, 137, 138, 139, 140, 141, 142, 143, 144, 145, 146, 147, 148, 149, 150, 151, 152, 153, 154, 155, 156, 157, 158, 159, 160, 161, 162, 163, 164, 165, 166, 167, 168, 169, 170, 171, 172, 173, 174, 175, 176, 177, 178, 179, 180, 181, 182, 183, 184, 185, 186, 187, 188, 189, 190, 191, 192] (0) ([(9, vn 0)]) ([]) (h0 := ⟨0, rfl, rfl, by omega, by omega⟩) (hr := ?_)
      rintro _ _ _ ⟨k, rfl, rfl, hmk, hk⟩
      refine v_code [] (hk := ?_)
      first | refine c_ifd rfl (fun h76 => ?_) (fun h76 => ?_) | refine c_ifn rfl (fun h76 => ?_) (fun h76 => ?_) | refine c_if rfl (fun h76 => ?_) (fun h76 => ?_)
      · exact absurd h76 (by omega)
      · refine v_code [] (hk := ?_)
        refine v_loop (fun m E H => ∃ (k : Nat), E = [(11, vn k)] ∧ H = [] ∧ m = 0 - k ∧ k ≤ 0) [0, 2, 5, 14, 15, 152, 153, 154, 155, 156, 157, 158, 159, 160, 161, 162, 163, 164, 165, 166, 167, 168, 169, 170, 171, 172, 173, 174, 175, 176, 177, 178, 179, 180, 181, 182, 183, 184, 185, 186, 187, 188, 189, 190, 191, 192] (0) ([(11, vn 0)]) ([]) (h0 := ⟨0, rfl, rfl, by omega, by omega⟩) (hr := ?_)
        rintro _ _ _ ⟨k, rfl, rfl, hmk, hk⟩
        refine v_code [] (hk := ?_)
        first | refine c_ifd rfl (fun h126 => ?_) (fun h126 => ?_) | refine c_ifn rfl (fun h126 => ?_) (fun h126 => ?_) | refine c_if rfl (fun h126 => ?_) (fun h126 => ?_)
        · exact absurd h126 (by omega)
        · refine v_code [] (hk := ?_)
          refine v_loop (fun m E H => ∃ (k : Nat), E = [(14, vn k)] ∧ H = [] ∧ m = 0 - k ∧ k ≤ 0) [0, 5] (0) ([(14, vn 0)]) ([]) (h0 := ⟨0, rfl, rfl, by omega, by omega⟩) (hr := ?_)
          rintro _ _ _ ⟨k, rfl, rfl, hmk, hk⟩
          refine v_code [] (hk := ?_)
          first | refine c_ifd rfl (fun h155 => ?_) (fun h155 => ?_) | refine c_ifn rfl (fun h155 => ?_) (fun h155 => ?_) | refine c_if rfl (fun h155 => ?_) (fun h155 => ?_)
          · exact absurd h155 (by omega)
          · refine v_code [] (hk := ?_)
            refine v_ret rfl [] (.cons (.tmp rfl) .nil) (h := ?_)
            exact ⟨rfl, rfl⟩
theorem flatStoredRows0 : CSpec Tryz.prog 122 [.one (.sl 0 none 0 0)] [] [] fun o L => o = .ret (vb true) ∧ L = [] := by
  refine v_enter Tryz.func122 (h := fun w0 => ?_)
  refine v_code [] (hk := ?_)
  refine v_loop (fun m E H => ∃ (k : Nat), E = [(3, vn k)] ∧ H = [] ∧ m = 0 - k ∧ k ≤ 0) [0, 2, 5, 6, 7, 8, 9, 10, 11, 12, 13, 14, 15, 40, 41, 42, 43, 44, 45, 46, 47, 48, 49, 50, 51, 52, 53, 54, 55, 56, 57, 58, 59, 60, 61, 62, 63, 64, 65, 66, 67, 68, 69, 70, 71, 72, 73, 74, 75, 76, 77, 78, 79, 80, 81, 82, 83, 84, 85, 86, 87, 88, 89, 90, 91, 92, 93, 94, 95, 96, 97, 98, 99, 100, 101, 102, 103, 104, 105, 106, 107, 108, 109, 110, 111, 112, 113, 114, 115, 116, 117, 118, 119, 120, 121, 122, 123, 124, 125, 126, 127, 128, 129, 130, 131, 132, 133, 134, 135, 136, 137, 138, 139, 140, 141, 142, 143, 144, 145, 146, 147, 148, 149, 150, 151, 152, 153, 154, 155, 156, 157, 158, 159, 160, 161, 162, 163, 164, 165, 166, 167, 168, 169, 170, 171, 172, 173, 174, 175, 176, 177, 178, 179, 180, 181, 182, 183, 184, 185, 186, 187, 188, 189, 190, 191, 192] (0) ([(3, vn 0)]) ([]) (h0 := ⟨0, rfl, rfl, by omega, by omega⟩) (hr := ?_)
  rintro _ _ _ ⟨k, rfl, rfl, hmk, hk⟩
  refine v_code [] (hk := ?_)
  first | refine c_ifd rfl (fun h19 => ?_) (fun h19 => ?_) | refine c_ifn rfl (fun h19 => ?_) (fun h19 => ?_) | refine c_if rfl (fun h19 => ?_) (fun h19 => ?_)
  · exact absurd h19 (by omega)
  · refine v_code [] (hk := ?_)
    refine k_val 41 (vint 0) rfl rfl ?_
    refine l_do d_make0 (fun g42 => ?_)
    refine v_ops [] (hk := ?_)
    refine v_loop (fun m E H => ∃ (k : Nat), E = [(6, vn k)] ∧ H = [] ∧ m = 0 - k ∧ k ≤ 0) [0, 2, 5, 9, 10, 11, 12, 13, 14, 15, 73, 74, 75, 76, 77, 78, 79, 80, 81, 82, 83, 84, 85, 86, 87, 88, 89, 90, 91, 92, 93, 94, 95, 96, 97, 98, 99, 100, 101, 102, 103, 104, 105, 106, 107, 108, 109, 110, 111, 112, 113, 114, 115, 116, 117, 118, 119, 120, 121, 122, 123, 124, 125, 126, 127, 128, 129, 130, 131, 132, 133, 134, 135, 136, 137, 138, 139, 140, 141, 142, 143, 144, 145, 146, 147, 148, 149, 150, 151, 152, 153, 154, 155, 156, 157, 158, 159, 160, 161, 162, 163, 164, 165, 166, 167, 168, 169, 170, 171, 172, 173, 174, 175, 176, 177, 178, 179, 180, 181, 182, 183, 184, 185, 186, 187, 188, 189, 190, 191, 192] (0) ([(6, vn 0)]) ([]) (h0 := ⟨0, rfl, rfl, by omega, by omega⟩) (hr := ?_)
    rintro _ _ _ ⟨k, rfl, rfl, hmk, hk⟩
    refine v_code [] (hk := ?_)
    first | refine c_ifd rfl (fun h46 => ?_) (fun h46 => ?_) | refine c_ifn rfl (fun h46 => ?_) (fun h46 => ?_) | refine c_if rfl (fun h46 => ?_) (fun h46 => ?_)
    · exact absurd h46 (by omega)
    · refine v_code [] (hk := ?_)
      refine v_loop (fun m E H => ∃ (k : Nat), E = [(9, vn k)] ∧ H = [] ∧ m = 0 - k ∧ k ≤ 0) [0, 5, 11, 12, 13, 14, 15, 123, 124, 125, 126, 127, 128, 129, 130, 131, 132, 133, 134, 135, 136, 137, 138, 139, 140, 141, 142, 143, 144, 145, 146, 147, 148, 149, 150, 151, 152, 153, 154, 155, 156, 157, 158, 159, 160, 161, 162, 163, 164, 165, 166, 167, 168, 169, 170, 171, 172, 173, 174, 175, 176, 177, 178, 179, 180, 181, 182, 183, 184, 185, 186, 187, 188, 189, 190, 191, 192] (0) ([(9, vn 0)]) ([]) (h0 := ⟨0, rfl, rfl, by omega, by omega⟩) (hr := ?_)
      rintro _ _ _ ⟨k, rfl, rfl, hmk, hk⟩
      refine v_code [] (hk := ?_)
      first | refine c_ifd rfl (fun h76 => ?_) (fun h76 => ?_) | refine c_ifn rfl (fun h76 => ?_) (fun h76 => ?_) | refine c_if rfl (fun h76 => ?_) (fun h76 => ?_)
      · exact absurd h76 (by omega)
      · refine v_code [] (hk := ?_)
        refine v_loop (fun m E H => ∃ (k : Nat), E = [(11, vn k)] ∧ H = [] ∧ m = 0 - k ∧ k ≤ 0) [0, 2, 5, 14, 15, 152, 153, 154, 155, 156, 157, 158, 159, 160, 161, 162, 163, 164, 165, 166, 167, 168, 169, 170, 171, 172, 173, 174, 175, 176, 177, 178, 179, 180, 181, 182, 183, 184, 185, 186, 187, 188, 189, 190, 191, 192] (0) ([(11, vn 0)]) ([]) (h0 := ⟨0, rfl, rfl, by omega, by omega⟩) (hr := ?_)
        rintro _ _ _ ⟨k, rfl, rfl, hmk, hk⟩
        refine v_code [] (hk := ?_)
        first | refine c_ifd rfl (fun h126 => ?_) (fun h126 => ?_) | refine c_ifn rfl (fun h126 => ?_) (fun h126 => ?_) | refine c_if rfl (fun h126 => ?_) (fun h126 => ?_)
        · exact absurd h126 (by omega)
        · refine v_code [] (hk := ?_)
          refine v_loop (fun m E H => ∃ (k : Nat), E = [(14, vn k)] ∧ H = [] ∧ m = 0 - k ∧ k ≤ 0) [0, 5] (0) ([(14, vn 0)]) ([]) (h0 := ⟨0, rfl, rfl, by omega, by omega⟩) (hr := ?_)
          rintro _ _ _ ⟨k, rfl, rfl, hmk, hk⟩
          refine v_code [] (hk := ?_)
          first | refine c_ifd rfl (fun h155 => ?_) (fun h155 => ?_) | refine c_ifn rfl (fun h155 => ?_) (fun h155 => ?_) | refine c_if rfl (fun h155 => ?_) (fun h155 => ?_)
          · exact absurd h155 (by omega)
          · refine v_code [] (hk := ?_)
            refine v_ret rfl [] (.cons (.tmp rfl) .nil) (h := ?_)
            exact ⟨rfl, rfl⟩
theorem flatStates0 : CSpec Tryz.prog 123 [.one (.sl 0 none 0 0)] [] [] fun o L => o = .ret (vb true) ∧ L = [] := by
  refine v_enter Tryz.func123 (h := fun w0 => ?_)
  refine v_code [] (hk := ?_)
  refine v_loop (fun m E H => ∃ (k : Nat), E = [(3, vn k)] ∧ H = [] ∧ m = 0 - k ∧ k ≤ 0) [0, 2, 5, 6, 7, 8, 9, 10, 11, 12, 13, 14, 15, 40, 41, 42, 43, 44, 45, 46, 47, 48, 49, 50, 51, 52, 53, 54, 55, 56, 57, 58, 59, 60, 61, 62, 63, 64, 65, 66, 67, 68, 69, 70, 71, 72, 73, 74, 75, 76, 77, 78, 79, 80, 81, 82, 83, 84, 85, 86, 87, 88, 89, 90, 91, 92, 93, 94, 95, 96, 97, 98, 99, 100, 101, 102, 103, 104, 105, 106, 107, 108, 109, 110, 111, 112, 113, 114, 115, 116, 117, 118, 119, 120, 121, 122, 123, 124, 125, 126, 127, 128, 129, 130, 131, 132, 133, 134, 135, 136, 137, 138, 139, 140, 141, 142, 143, 144, 145, 146, 147, 148, 149, 150, 151, 152, 153, 154, 155, 156, 157, 158, 159, 160, 161, 162, 163, 164, 165, 166, 167, 168, 169, 170, 171, 172, 173, 174, 175, 176, 177, 178, 179, 180, 181, 182, 183, 184, 185, 186, 187, 188, 189, 190, 191, 192] (0) ([(3, vn 0)]) ([]) (h0 := ⟨0, rfl, rfl, by omega, by omega⟩) (hr := ?_)
  rintro _ _ _ ⟨k, rfl, rfl, hmk, hk⟩
  refine v_code [] (hk := ?_)
  first | refine c_ifd rfl (fun h19 => ?_) (fun h19 => ?_) | refine c_ifn rfl (fun h19 => ?_) (fun h19 => ?_) | refine c_if rfl (fun h19 => ?_) (fun h19 => ?_)
  · exact absurd h19 (by omega)
  · refine v_code [] (hk := ?_)
    refine k_val 41 (vint 0) rfl rfl ?_
    refine l_do d_make0 (fun g42 => ?_)
    refine v_ops [] (hk := ?_)
    refine v_loop (fun m E H => ∃ (k : Nat), E = [(6, vn k)] ∧ H = [] ∧ m = 0 - k ∧ k ≤ 0) [0, 2, 5, 9, 10, 11, 12, 13, 14, 15, 73, 74, 75, 76, 77, 78, 79, 80, 81, 82, 83, 84, 85, 86, 87, 88, 89, 90, 91, 92, 93, 94, 95, 96, 97, 98, 99, 100, 101, 102, 103, 104, 105, 106, 107, 108, 109, 110, 111, 112, 113, 114, 115, 116, 117, 118, 119, 120, 121, 122, 123, 124, 125, 126, 127, 128, 129, 130, 131, 132, 133, 134, 135, 136, 137, 138, 139, 140, 141, 142, 143, 144, 145, 146, 147, 148, 149, 150, 151, 152, 153, 154, 155, 156, 157, 158, 159, 160, 161, 162, 163, 164, 165, 166, 167, 168, 169, 170, 171, 172, 173, 174, 175, 176, 177, 178, 179, 180, 181, 182, 183, 184, 185, 186, 187, 188, 189, 190, 191, 192] (0) ([(6, vn 0)]) ([]) (h0 := ⟨0, rfl, rfl, by omega, by omega⟩) (hr := ?_)
    rintro _ _ _ ⟨k, rfl, rfl, hmk, hk⟩
    refine v_code [] (hk := ?_)
    first | refine c_ifd rfl (fun h46 => ?_) (fun h46 => ?_) | refine c_ifn rfl (fun h46 => ?_) (fun h46 => ?_) | refine c_if rfl (fun h46 => ?_) (fun h46 => ?_)
    · exact absurd h46 (by omega)
    · refine v_code [] (hk := ?_)
      refine v_loop (fun m E H => ∃ (k : Nat), E = [(9, vn k)] ∧ H = [] ∧ m = 0 - k ∧ k ≤ 0) [0, 5, 11, 12, 13, 14, 15, 123, 124, 125, 126, 127, 128, 129, 130, 131, 132, 133, 134, 135, 136, 137, 138, 139, 140, 141, 142, 143, 144, 145, 146, 147, 148, 149, 150, 151, 152, 153, 154, 155, 156, 157, 158, 159, 160, 161, 162, 163, 164, 165, 166, 167, 168, 169, 170, 171, 172, 173, 174, 175, 176, 177, 178, 179, 180, 181, 182, 183, 184, 185, 186, 187, 188, 189, 190, 191, 192] (0) ([(9, vn 0)]) ([]) (h0 := ⟨0, rfl, rfl, by omega, by omega⟩) (hr := ?_)
      rintro _ _ _ ⟨k, rfl, rfl, hmk, hk⟩
      refine v_code [] (hk := ?_)
      first | refine c_ifd rfl (fun h76 => ?_) (fun h76 => ?_) | refine c_ifn rfl (fun h76 => ?_) (fun h76 => ?_) | refine c_if rfl (fun h76 => ?_) (fun h76 => ?_)
      · exact absurd h76 (by omega)
      · refine v_code [] (hk := ?_)
        refine v_loop (fun m E H => ∃ (k : Nat), E = [(11, vn k)] ∧ H = [] ∧ m = 0 - k ∧ k ≤ 0) [0, 2, 5, 14, 15, 152, 153, 154, 155, 156, 157, 158, 159, 160, 161, 162, 163, 164, 165, 166, 167, 168, 169, 170, 171, 172, 173, 174, 175, 176, 177, 178, 179, 180, 181, 182, 183, 184, 185, 186, 187, 188, 189, 190, 191, 192] (0) ([(11, vn 0)]) ([]) (h0 := ⟨0, rfl, rfl, by omega, by omega⟩) (hr := ?_)
        rintro _ _ _ ⟨k, rfl, rfl, hmk, hk⟩
        refine v_code [] (hk := ?_)
        first | refine c_ifd rfl (fun h126 => ?_) (fun h126 => ?_) | refine c_ifn rfl (fun h126 => ?_) (fun h126 => ?_) | refine c_if rfl (fun h126 => ?_) (fun h126 => ?_)
        · exact absurd h126 (by omega)
        · refine v_code [] (hk := ?_)
          refine v_loop (fun m E H => ∃ (k : Nat), E = [(14, vn k)] ∧ H = [] ∧ m = 0 - k ∧ k ≤ 0) [0, 5] (0) ([(14, vn 0)]) ([]) (h0 := ⟨0, rfl, rfl, by omega, by omega⟩) (hr := ?_)
          rintro _ _ _ ⟨k, rfl, rfl, hmk, hk⟩
          refine v_code [] (hk := ?_)
          first | refine c_ifd rfl (fun h155 => ?_) (fun h155 => ?_) | refine c_ifn rfl (fun h155 => ?_) (fun h155 => ?_) | refine c_if rfl (fun h155 => ?_) (fun h155 => ?_)
          · exact absurd h155 (by omega)
          · refine v_code [] (hk := ?_)
            refine v_ret rfl [] (.cons (.tmp rfl) .nil) (h := ?_)
            exact ⟨rfl, rfl⟩
theorem flatAsks0 : CSpec Tryz.prog 124 [.one (.sl 0 none 0 0)] [] [] fun o L => o = .ret (vb true) ∧ L = [] := by
  refine v_enter Tryz.func124 (h := fun w0 => ?_)
  refine v_code [] (hk := ?_)
  refine v_loop (fun m E H => ∃ (k : Nat), E = [(3, vn k)] ∧ H = [] ∧ m = 0 - k ∧ k ≤ 0) [0, 2, 5, 6, 7, 8, 9, 10, 11, 12, 13, 14, 15, 40, 41, 42, 43, 44, 45, 46, 47, 48, 49, 50, 51, 52, 53, 54, 55, 56, 57, 58, 59, 60, 61, 62, 63, 64, 65, 66, 67, 68, 69, 70, 71, 72, 73, 74, 75, 76, 77, 78, 79, 80, 81, 82, 83, 84, 85, 86, 87, 88, 89, 90, 91, 92, 93, 94, 95, 96, 97, 98, 99, 100, 101, 102, 103, 104, 105, 106, 107, 108, 109, 110, 111, 112, 113, 114, 115, 116, 117, 118, 119, 120, 121, 122, 123, 124, 125, 126, 127, 128, 129, 130, 131, 132, 133, 134, 135, 136, 137, 138, 139, 140, 141, 142, 143, 144, 145, 146, 147, 148, 149, 150, 151, 152, 153, 154, 155, 156, 157, 158, 159, 160, 161, 162, 163, 164, 165, 166, 167, 168, 169, 170, 171, 172, 173, 174, 175, 176, 177, 178, 179, 180, 181, 182, 183, 184, 185, 186, 187, 188, 189, 190, 191, 192] (0) ([(3, vn 0)]) ([]) (h0 := ⟨0, rfl, rfl, by omega, by omega⟩) (hr := ?_)
  rintro _ _ _ ⟨k, rfl, rfl, hmk, hk⟩
  refine v_code [] (hk := ?_)
  first | refine c_ifd rfl (fun h19 => ?_) (fun h19 => ?_) | refine c_ifn rfl (fun h19 => ?_) (fun h19 => ?_) | refine c_if rfl (fun h19 => ?_) (fun h19 => ?_)
  · exact absurd h19 (by omega)
  · refine v_code [] (hk := ?_)
    refine k_val 41 (vint 0) rfl rfl ?_
    refine l_do d_make0 (fun g42 => ?_)
    refine v_ops [] (hk := ?_)
    refine v_loop (fun m E H => ∃ (k : Nat), E = [(6, vn k)] ∧ H = [] ∧ m = 0 - k ∧ k ≤ 0) [0, 2, 5, 9, 10, 11, 12, 13, 14, 15, 73, 74, 75, 76, 77, 78, 79, 80, 81, 82, 83, 84, 85, 86, 87, 88, 89, 90, 91, 92, 93, 94, 95, 96, 97, 98, 99, 100, 101, 102, 103, 104, 105, 106, 107, 108, 109, 110, 111, 112, 113, 114, 115, 116, 117, 118, 119, 120, 121, 122, 123, 124, 125, 126, 127, 128, 129, 130, 131, 132, 133, 134, 135, 136, 137, 138, 139, 140, 141, 142, 143, 144, 145, 146, 147, 148, 149, 150, 151, 152, 153, 154, 155, 156, 157, 158, 159, 160, 161, 162, 163, 164, 165, 166, 167, 168, 169, 170, 171, 172, 173, 174, 175, 176, 177, 178, 179, 180, 181, 182, 183, 184, 185, 186, 187, 188, 189, 190, 191, 192] (0) ([(6, vn 0)]) ([]) (h0 := ⟨0, rfl, rfl, by omega, by omega⟩) (hr := ?_)
    rintro _ _ _ ⟨k, rfl, rfl, hmk, hk⟩
    refine v_code [] (hk := ?_)
    first | refine c_ifd rfl (fun h46 => ?_) (fun h46 => ?_) | refine c_ifn rfl (fun h46 => ?_) (fun h46 => ?_) | refine c_if rfl (fun h46 => ?_) (fun h46 => ?_)
    · exact absurd h46 (by omega)
    · refine v_code [] (hk := ?_)
      refine v_loop (fun m E H => ∃ (k : Nat), E = [(9, vn k)] ∧ H = [] ∧ m = 0 - k ∧ k ≤ 0) [0, 5, 11, 12, 13, 14, 15, 123, 124, 125, 126, 127, 128, 129, 130, 131, 132, 133, 134, 135, 136, 137, 138, 139, 140, 141, 142, 143, 144, 145, 146, 147, 148, 149, 150, 151, 152, 153, 154, 155, 156, 157, 158, 159, 160, 161, 162, 163, 164, 165, 166, 167, 168, 169, 170, 171, 172, 173, 174, 175, 176, 177, 178, 179, 180, 181, 182, 183, 184, 185, 186, 187, 188, 189, 190, 191, 192] (0) ([(9, vn 0)]) ([]) (h0 := ⟨0, rfl, rfl, by omega, by omega⟩) (hr := ?_)
      rintro _ _ _ ⟨k, rfl, rfl, hmk, hk⟩
      refine v_code [] (hk := ?_)
      first | refine c_ifd rfl (fun h76 => ?_) (fun h76 => ?_) | refine c_ifn rfl (fun h76 => ?_) (fun h76 => ?_) | refine c_if rfl (fun h76 => ?_) (fun h76 => ?_)
      · exact absurd h76 (by omega)
      · refine v_code [] (hk := ?_)
        refine v_loop (fun m E H => ∃ (k : Nat), E = [(11, vn k)] ∧ H = [] ∧ m = 0 - k ∧ k ≤ 0) [0, 2, 5, 14, 15, 152, 153, 154, 155, 156, 157, 158, 159, 160, 161, 162, 163, 164, 165, 166, 167, 168, 169, 170, 171, 172, 173, 174, 175, 176, 177, 178, 179, 180, 181, 182, 183, 184, 185, 186, 187, 188, 189, 190, 191, 192] (0) ([(11, vn 0)]) ([]) (h0 := ⟨0, rfl, rfl, by omega, by omega⟩) (hr := ?_)
        rintro _ _ _ ⟨k, rfl, rfl, hmk, hk⟩
        refine v_code [] (hk := ?_)
        first | refine c_ifd rfl (fun h126 => ?_) (fun h126 => ?_) | refine c_ifn rfl (fun h126 => ?_) (fun h126 => ?_) | refine c_if rfl (fun h126 => ?_) (fun h126 => ?_)
        · exact absurd h126 (by omega)
        · refine v_code [] (hk := ?_)
          refine v_loop (fun m E H => ∃ (k : Nat), E = [(14, vn k)] ∧ H = [] ∧ m = 0 - k ∧ k ≤ 0) [0, 5] (0) ([(14, vn 0)]) ([]) (h0 := ⟨0, rfl, rfl, by omega, by omega⟩) (hr := ?_)
          rintro _ _ _ ⟨k, rfl, rfl, hmk, hk⟩
          refine v_code [] (hk := ?_)
          first | refine c_ifd rfl (fun h155 => ?_) (fun h155 => ?_) | refine c_ifn rfl (fun h155 => ?_) (fun h155 => ?_) | refine c_if rfl (fun h155 => ?_) (fun h155 => ?_)
          · exact absurd h155 (by omega)
          · refine v_code [] (hk := ?_)
            refine v_ret rfl [] (.cons (.tmp rfl) .nil) (h := ?_)
            exact ⟨rfl, rfl⟩
theorem flatTellRows0 : CSpec Tryz.prog 125 [.one (.sl 0 none 0 0)] [] [] fun o L => o = .ret (vb true) ∧ L = [] := by
  refine v_enter Tryz.func125 (h := fun w0 => ?_)
  refine v_code [] (hk := ?_)
  refine v_loop (fun m E H => ∃ (k : Nat), E = [(3, vn k)] ∧ H = [] ∧ m = 0 - k ∧ k ≤ 0) [0, 2, 5, 6, 7, 8, 9, 10, 11, 12, 13, 14, 15, 40, 41, 42, 43, 44, 45, 46, 47, 48, 49, 50, 51, 52, 53, 54, 55, 56, 57, 58, 59, 60, 61, 62, 63, 64, 65, 66, 67, 68, 69, 70, 71, 72, 73, 74, 75, 76, 77, 78, 79, 80, 81, 82, 83, 84, 85, 86, 87, 88, 89, 90, 91, 92, 93, 94, 95, 96, 97, 98, 99, 100, 101, 102, 103, 104, 105, 106, 107, 108, 109, 110, 111, 112, 113, 114, 115, 116, 117, 118, 119, 120, 121, 122, 123, 124, 125, 126, 127, 128, 129, 130, 131, 132, 133, 134, 135, 136, 137, 138, 139, 140, 141, 142, 143, 144, 145, 146, 147, 148, 149, 150, 151, 152, 153, 154, 155, 156, 157, 158, 159, 160, 161, 162, 163, 164, 165, 166, 167, 168, 169, 170, 171, 172, 173, 174, 175, 176, 177, 178, 179, 180, 181, 182, 183, 184, 185, 186, 187, 188, 189, 190, 191, 192] (0) ([(3, vn 0)]) ([]) (h0 := ⟨0, rfl, rfl, by omega, by omega⟩) (hr := ?_)
  rintro _ _ _ ⟨k, rfl, rfl, hmk, hk⟩
  refine v_code [] (hk := ?_)
  first | refine c_ifd rfl (fun h19 => ?_) (fun h19 => ?_) | refine c_ifn rfl (fun h19 => ?_) (fun h19 => ?_) | refine c_if rfl (fun h19 => ?_) (fun h19 => ?_)
  · exact absurd h19 (by omega)
  · refine v_code [] (hk := ?_)
    refine k_val 41 (vint 0) rfl rfl ?_
    refine l_do d_make0 (fun g42 => ?_)
    refine v_ops [] (hk := ?_)
    refine v_loop (fun m E H => ∃ (k : Nat), E = [(6, vn k)] ∧ H = [] ∧ m = 0 - k ∧ k ≤ 0) [0, 2, 5, 9, 10, 11, 12, 13, 14, 15, 73, 74, 75, 76, 77, 78, 79, 80, 81, 82, 83, 84, 85, 86, 87, 88, 89, 90, 91, 92, 93, 94, 95, 96, 97, 98, 99, 100, 101, 102, 103, 104, 105, 106, 107, 108, 109, 110, 111, 112, 113, 114, 115, 116, 117, 118, 119, 120, 121, 122, 123, 124, 125, 126, 127, 128, 129, 130, 131, 132, 133, 134, 135, 136, 137, 138, 139, 140, 141, 142, 143, 144, 145, 146, 147, 148, 149, 150, 151, 152, 153, 154, 155, 156, 157, 158, 159, 160, 161, 162, 163, 164, 165, 166, 167, 168, 169, 170, 171, 172, 173, 174, 175, 176, 177, 178, 179, 180, 181, 182, 183, 184, 185, 186, 187, 188, 189, 190, 191, 192] (0) ([(6, vn 0)]) ([]) (h0 := ⟨0, rfl, rfl, by omega, by omega⟩) (hr := ?_)
    rintro _ _ _ ⟨k, rfl, rfl, hmk, hk⟩
    refine v_code [] (hk := ?_)
    first | refine c_ifd rfl (fun h46 => ?_) (fun h46 => ?_) | refine c_ifn rfl (fun h46 => ?_) (fun h46 => ?_) | refine c_if rfl (fun h46 => ?_) (fun h46 => ?_)
    · exact absurd h46 (by omega)
    · refine v_code [] (hk := ?_)
      refine v_loop (fun m E H => ∃ (k : Nat), E = [(9, vn k)] ∧ H = [] ∧ m = 0 - k ∧ k ≤ 0) [0, 5, 11, 12, 13, 14, 15, 123, 124, 125, 126, 127, 128, 129, 130, 131, 132, 133, 134, 135, 136, 137, 138, 139, 140, 141, 142, 143, 144, 145, 146, 147, 148, 149, 150, 151, 152, 153, 154, 155, 156, 157, 158, 159, 160, 161, 162, 163, 164, 165, 166, 167, 168, 169, 170, 171, 172, 173, 174, 175, 176, 177, 178, 179, 180, 181, 182, 183, 184, 185, 186, 187, 188, 189, 190, 191, 192] (0) ([(9, vn 0)]) ([]) (h0 := ⟨0, rfl, rfl, by omega, by omega⟩) (hr := ?_)
      rintro _ _ _ ⟨k, rfl, rfl, hmk, hk⟩
      refine v_code [] (hk := ?_)
      first | refine c_ifd rfl (fun h76 => ?_) (fun h76 => ?_) | refine c_ifn rfl (fun h76 => ?_) (fun h76 => ?_) | refine c_if rfl (fun h76 => ?_) (fun h76 => ?_)
      · exact absurd h76 (by omega)
      · refine v_code [] (hk := ?_)
        refine v_loop (fun m E H => ∃ (k : Nat), E = [(11, vn k)] ∧ H = [] ∧ m = 0 - k ∧ k ≤ 0) [0, 2, 5, 14, 15, 152, 153, 154, 155, 156, 157, 158, 159, 160, 161, 162, 163, 164, 165, 166, 167, 168, 169, 170, 171, 172, 173, 174, 175, 176, 177, 178, 179, 180, 181, 182, 183, 184, 185, 186, 187, 188, 189, 190, 191, 192] (0) ([(11, vn 0)]) ([]) (h0 := ⟨0, rfl, rfl, by omega, by omega⟩) (hr := ?_)
        rintro _ _ _ ⟨k, rfl, rfl, hmk, hk⟩
        refine v_code [] (hk := ?_)
        first | refine c_ifd rfl (fun h126 => ?_) (fun h126 => ?_) | refine c_ifn rfl (fun h126 => ?_) (fun h126 => ?_) | refine c_if rfl (fun h126 => ?_) (fun h126 => ?_)
        · exact absurd h126 (by omega)
        · refine v_code [] (hk := ?_)
          refine v_loop (fun m E H => ∃ (k : Nat), E = [(14, vn k)] ∧ H = [] ∧ m = 0 - k ∧ k ≤ 0) [0, 5] (0) ([(14, vn 0)]) ([]) (h0 := ⟨0, rfl, rfl, by omega, by omega⟩) (hr := ?_)
          rintro _ _ _ ⟨k, rfl, rfl, hmk, hk⟩
          refine v_code [] (hk := ?_)
          first | refine c_ifd rfl (fun h155 => ?_) (fun h155 => ?_) | refine c_ifn rfl (fun h155 => ?_) (fun h155 => ?_) | refine c_if rfl (fun h155 => ?_) (fun h155 => ?_)
          · exact absurd h155 (by omega)
          · refine v_code [] (hk := ?_)
            refine v_ret rfl [] (.cons (.tmp rfl) .nil) (h := ?_)
            exact ⟨rfl, rfl⟩
theorem flatHashes0 : CSpec Tryz.prog 104 [.one (.sl 0 none 0 0)] [] [] fun o L => o = .ret (vb true) ∧ L = [] := by
  refine v_enter Tryz.func104 (h := fun w0 => ?_)
  refine v_code [] (hk := ?_)
  refine v_loop (fun m E H => ∃ (k : Nat), E = [(3, vn k)] ∧ H = [] ∧ m = 0 - k ∧ k ≤ 0) [0, 2, 5, 6, 7, 8, 9, 10, 11, 12, 13, 14, 15, 40, 41, 42, 43, 44, 45, 46, 47, 48, 49, 50, 51, 52, 53, 54, 55, 56, 57, 58, 59, 60, 61, 62, 63, 64, 65, 66, 67, 68, 69, 70, 71, 72, 73, 74, 75, 76, 77, 78, 79, 80, 81, 82, 83, 84, 85, 86, 87, 88, 89, 90, 91, 92, 93, 94, 95, 96, 97, 98, 99, 100, 101, 102, 103, 104, 105, 106, 107, 108, 109, 110, 111, 112, 113, 114, 115, 116, 117, 118, 119, 120, 121, 122, 123, 124, 125, 126, 127, 128, 129, 130, 131, 132, 133, 134, 135, 136, 137, 138, 139, 140, 141, 142, 143, 144, 145, 146, 147, 148, 149, 150, 151, 152, 153, 154, 155, 156, 157, 158, 159, 160, 161, 162, 163, 164, 165, 166, 167, 168, 169, 170, 171, 172, 173, 174, 175, 176, 177, 178, 179, 180, 181, 182, 183, 184, 185, 186, 187, 188, 189, 190, 191, 192] (0) ([(3, vn 0)]) ([]) (h0 := ⟨0, rfl, rfl, by omega, by omega⟩) (hr := ?_)
  rintro _ _ _ ⟨k, rfl, rfl, hmk, hk⟩
  refine v_code [] (hk := ?_)
  first | refine c_ifd rfl (fun h19 => ?_) (fun h19 => ?_) | refine c_ifn rfl (fun h19 => ?_) (fun h19 => ?_) | refine c_if rfl (fun h19 => ?_) (fun h19 => ?_)
  · exact absurd h19 (by omega)
  · refine v_code [] (hk := ?_)
    refine k_val 41 (vint 0) rfl rfl ?_
    refine l_do d_make0 (fun g42 => ?_)
    refine v_ops [] (hk := ?_)
    refine v_loop (fun m E H => ∃ (k : Nat), E = [(6, vn k)] ∧ H = [] ∧ m = 0 - k ∧ k ≤ 0) [0, 2, 5, 9, 10, 11, 12, 13, 14, 15, 73, 74, 75, 76, 77, 78, 79, 80, 81, 82, 83, 84, 85, 86, 87, 88, 89, 90, 91, 92, 93, 94, 95, 96, 97, 98, 99, 100, 101, 102, 103, 104, 105, 106, 107, 108, 109, 110, 111, 112, 113, 114, 115, 116, 117, 118, 119, 120, 121, 122, 123, 124, 125, 126, 127, 128, 129, 130, 131, 132, 133, 134, 135, 136, 137, 138, 139, 140, 141, 142, 143, 144, 145, 146, 147, 148, 149, 150, 151, 152, 153, 154, 155, 156, 157, 158, 159, 160, 161, 162, 163, 164, 165, 166, 167, 168, 169, 170, 171, 172, 173, 174, 175, 176, 177, 178, 179, 180, 181, 182, 183, 184, 185, 186, 187, 188, 189, 190, 191, 192] (0) ([(6, vn 0)]) ([]) (h0 := ⟨0, rfl, rfl, by omega, by omega⟩) (hr := ?_)
    rintro _ _ _ ⟨k, rfl, rfl, hmk, hk⟩
    refine v_code [] (hk := ?_)
    first | refine c_ifd rfl (fun h46 => ?_) (fun h46 => ?_) | refine c_ifn rfl (fun h46 => ?_) (fun h46 => ?_) | refine c_if rfl (fun h46 => ?_) (fun h46 => ?_)
    · exact absurd h46 (by omega)
    · refine v_code [] (hk := ?_)
      refine v_loop (fun m E H => ∃ (k : Nat), E = [(9, vn k)] ∧ H = [] ∧ m = 0 - k ∧ k ≤ 0) [0, 5, 11, 12, 13, 14, 15, 123, 124, 125, 126, 127, 128, 129, 130, 131, 132, 133, 134, 135, 136, 137, 138, 139, 140, 141, 142, 143, 144, 145, 146, 147, 148, 149, 150, 151, 152, 153, 154, 155, 156, 157, 158, 159, 160, 161, 162, 163, 164, 165, 166, 167, 168, 169, 170, 171, 172, 173, 174, 175, 176, 177, 178, 179, 180, 181, 182, 183, 184, 185, 186, 187, 188, 189, 190, 191, 192] (0) ([(9, vn 0)]) ([]) (h0 := ⟨0, rfl, rfl, by omega, by omega⟩) (hr := ?_)
      rintro _ _ _ ⟨k, rfl, rfl, hmk, hk⟩
      refine v_code [] (hk := ?_)
      first | refine c_ifd rfl (fun h76 => ?_) (fun h76 => ?_) | refine c_ifn rfl (fun h76 => ?_) (fun h76 => ?_) | refine c_if rfl (fun h76 => ?_) (fun h76 => ?_)
      · exact absurd h76 (by omega)
      · refine v_code [] (hk := ?_)
        refine v_loop (fun m E H => ∃ (k : Nat), E = [(11, vn k)] ∧ H = [] ∧ m = 0 - k ∧ k ≤ 0) [0, 2, 5, 14, 15, 152, 153, 154, 155, 156, 157, 158, 159, 160, 161, 162, 163, 164, 165, 166, 167, 168, 169, 170, 171, 172, 173, 174, 175, 176, 177, 178, 179, 180, 181, 182, 183, 184, 185, 186, 187, 188, 189, 190, 191, 192] (0) ([(11, vn 0)]) ([]) (h0 := ⟨0, rfl, rfl, by omega, by omega⟩) (hr := ?_)
        rintro _ _ _ ⟨k, rfl, rfl, hmk, hk⟩
        refine v_code [] (hk := ?_)
        first | refine c_ifd rfl (fun h126 => ?_) (fun h126 => ?_) | refine c_ifn rfl (fun h126 => ?_) (fun h126 => ?_) | refine c_if rfl (fun h126 => ?_) (fun h126 => ?_)
        · exact absurd h126 (by omega)
        · refine v_code [] (hk := ?_)
          refine v_loop (fun m E H => ∃ (k : Nat), E = [(14, vn k)] ∧ H = [] ∧ m = 0 - k ∧ k ≤ 0) [0, 5] (0) ([(14, vn 0)]) ([]) (h0 := ⟨0, rfl, rfl, by omega, by omega⟩) (hr := ?_)
          rintro _ _ _ ⟨k, rfl, rfl, hmk, hk⟩
          refine v_code [] (hk := ?_)
          first | refine c_ifd rfl (fun h155 => ?_) (fun h155 => ?_) | refine c_ifn rfl (fun h155 => ?_) (fun h155 => ?_) | refine c_if rfl (fun h155 => ?_) (fun h155 => ?_)
          · exact absurd h155 (by omega)
          · refine v_code [] (hk := ?_)
            refine v_ret rfl [] (.cons (.tmp rfl) .nil) (h := ?_)
            exact ⟨rfl, rfl⟩
end Go.Proofs.YtlnckcgbpilmdaaGreat
/- What lies apart: the bag. -/

set_option linter.unusedVariables false
set_option linter.unusedSimpArgs false
set_option maxRecDepth 100000
set_option maxHeartbeats 8000000
namespace Go.Proofs.YtlnckcgbpilmdaaGreat
open Go Go.RowKit HL
def bagF (A1 : Option Addr) (n1 c1 : Nat) (A2 : Option Addr) (n2 c2 : Nat) (A3 : Option Addr) (n3 c3 : Nat) : List At := [.one (.sl 0 none 0 0), .one (.sl 0 none 0 0), .one (.sl 0 none 0 0), .one (.sl 0 none 0 0), .one (.sl 0 none 0 0), .one (.sl 0 none 0 0), .one (.sl 0 none 0 0), .one (.sl 0 none 0 0), .one (.sl 0 none 0 0), .one (.sl 0 none 0 0), .one (.sl 101 A1 n1 c1), .one (.sl 102 A2 n2 c2), .one (.sl 0 none 0 0), .one (.sl 0 none 0 0), .one (.sl 0 none 0 0), .one (.sl 0 none 0 0), .one (.sl 0 none 0 0), .one (.sl 0 none 0 0), .one (.sl 0 none 0 0), .one (.sl 0 none 0 0), .one (.sl 0 none 0 0), .one (.sl 0 none 0 0), .one (.sl 0 none 0 0), .one (.sl 103 A3 n3 c3), .one (.sl 0 none 0 0), .one (.sl 0 none 0 0), .one (.sl 0 none 0 0), .one (.sl 0 none 0 0), .one (.sl 0 none 0 0)]
theorem putTotals_spec (g : Nat) (A1 A2 A3 : Option Addr) (n1 c1 n2 c2 c3 : Nat) (st : List (Hd TotalP)) (s : Hd TotalP) (hm : st.length ≤ 1000) : CSpec Tryz.prog 64 [.one (.ptr 0 ⟨g, 0, none⟩), .one (.sl 1 s.A s.l.length s.c)] [] [(0, Res.va g 122 (bagF A1 n1 c1 A2 n2 c2 A3 st.length c3)), (103, Res.rows A3 c3 36 (hdEn TotalP 51) st)] fun o L =>
    ∃ A' c', o = .ret (.tup []) ∧ L = [Res.va g 122 (bagF A1 n1 c1 A2 n2 c2 A' (st ++ [s]).length c'), Res.rows A' c' 36 (hdEn TotalP 51) (st ++ [s])] := by
  refine v_enter Tryz.func64 (h := fun w0 => ?_)
  refine v_code [] (hk := ?_)
  refine l_do (d_bslice (E := hdEn TotalP 51) (hE := ⟨⟩) [s]) (fun B10 => ?_)
  refine l_do d_append (fun p11 => ?_)
  refine v_ops [] (hk := ?_)
  refine v_ret rfl [0, 103] .nil (h := ?_)
  exact ⟨p11.1, p11.2, rfl, rfl⟩
theorem putAssets_spec (g : Nat) (A1 A2 A3 : Option Addr) (c1 n2 c2 n3 c3 : Nat) (sa : List (Hd AssetP)) (s : Hd AssetP) (hm : sa.length ≤ 1000000) : CSpec Tryz.prog 173 [.one (.ptr 0 ⟨g, 0, none⟩), .one (.sl 1 s.A s.l.length s.c)] [] [(0, Res.va g 122 (bagF A1 sa.length c1 A2 n2 c2 A3 n3 c3)), (101, Res.rows A1 c1 23 (hdEn AssetP 51) sa)] fun o L =>
    ∃ A' c', o = .ret (.tup []) ∧ L = [Res.va g 122 (bagF A' (sa ++ [s]).length c' A2 n2 c2 A3 n3 c3), Res.rows A' c' 23 (hdEn AssetP 51) (sa ++ [s])] := by
  refine v_enter Tryz.func173 (h := fun w0 => ?_)
  refine v_code [] (hk := ?_)
  refine l_do (d_bslice (E := hdEn AssetP 51) (hE := ⟨⟩) [s]) (fun B10 => ?_)
  refine l_do d_append (fun p11 => ?_)
  refine v_ops [] (hk := ?_)
  refine v_ret rfl [0, 101] .nil (h := ?_)
  exact ⟨p11.1, p11.2, rfl, rfl⟩
def hdOf (v : ValueM) : Hd AssetP := ⟨v.A, v.c, v.assets⟩
theorem oneValue_spec (g : Nat) (A1 A2 A3 : Option Addr) (c1 n2 c2 n3 c3 : Nat) (sa : List (Hd AssetP)) (v : ValueM) (hm : sa.length ≤ 1000000) : CSpec Tryz.prog 126 [.one (.ptr 0 ⟨g, 0, none⟩), .agg [.one (.i .i64 v.coin), .one (.sl 201 v.A v.assets.length v.c)]] [] [(0, Res.va g 122 (bagF A1 sa.length c1 A2 n2 c2 A3 n3 c3)), (101, Res.rows A1 c1 23 (hdEn AssetP 51) sa)] fun o L =>
    ∃ A' c', o = .ret (.tup []) ∧ L = [Res.va g 122 (bagF A' (sa ++ [hdOf v]).length c' A2 n2 c2 A3 n3 c3), Res.rows A' c' 23 (hdEn AssetP 51) (sa ++ [hdOf v])] := by
  refine v_enter Tryz.func126 (h := fun w0 => ?_)
  refine v_code [] (hk := ?_)
  refine l_do d_box (fun g3 => ?_)
  refine v_ops [] (hk := ?_)
  refine v_call 20350 [(101, 101)] (putAssets_spec g A1 A2 A3 c1 n2 c2 n3 c3 sa (hdOf v) hm) Tryz.func173 (h := ?_)
  rintro _ _ (⟨A', c', rfl, rfl⟩)
  refine v_ops [] (hk := ?_)
  refine v_ret rfl [20350, 20351] .nil (h := ?_)
  exact ⟨A', c', rfl, rfl⟩
theorem putValues_spec (g : Nat) (A1 A2 A3 : Option Addr) (c1 c2 n3 c3 : Nat) (sa : List (Hd AssetP)) (sv : List (Hd ValueM)) (s : Hd ValueM) (hm : sa.length ≤ 100000) (hv : sv.length ≤ 1000) (hl : s.l.length ≤ 1000) : CSpec Tryz.prog 66 [.one (.ptr 0 ⟨g, 0, none⟩), .one (.sl 1 s.A s.l.length s.c)] [(1, Res.rd s.A valueEn s.l)] [(0, Res.va g 122 (bagF A1 sa.length c1 A2 sv.length c2 A3 n3 c3)), (101, Res.rows A1 c1 23 (hdEn AssetP 51) sa), (102, Res.rows A2 c2 22 (hdEn ValueM 51) sv)] fun o L =>
    ∃ A' c' A'' c'', o = .ret (.tup []) ∧ L = [Res.va g 122 (bagF A' (sa ++ s.l.map hdOf).length c' A'' (sv ++ [s]).length c'' A3 n3 c3), Res.rows A' c' 23 (hdEn AssetP 51) (sa ++ s.l.map hdOf), Res.rows A'' c'' 22 (hdEn ValueM 51) (sv ++ [s])] := by
  refine v_enter Tryz.func66 (h := fun w0 => ?_)
  refine v_code [] (hk := ?_)
  refine l_do (d_bslice (E := hdEn ValueM 51) (hE := ⟨⟩) [s]) (fun B11 => ?_)
  refine l_do d_append (fun p12 => ?_)
  refine v_ops [] (hk := ?_)
  refine v_loop (fun m E H => ∃ (k : Nat) (A6 : Option Addr) (c6 : Nat) (out : List (Hd AssetP)), E = [(4, vn k)] ∧ H = [(0, Res.va g 122 (bagF A6 out.length c6 p12.1 (sv ++ [s]).length p12.2 A3 n3 c3)), (101, Res.rows A6 c6 23 (hdEn AssetP 51) out)] ∧ m = s.l.length - k ∧ k ≤ s.l.length ∧ (out = sa ++ (s.l.take k).map hdOf)) [0, 1] (s.l.length) ([(4, vn 0)]) ([(0, Res.va g 122 (bagF (A1) (sa).length (c1) p12.1 (sv ++ [s]).length p12.2 A3 n3 c3)), (101, Res.rows (A1) (c1) 23 (hdEn AssetP 51) (sa))]) (h0 := ⟨0, A1, c1, sa, rfl, rfl, by omega, by omega, by simp⟩) (hr := ?_)
  rintro _ _ _ ⟨k, A6, c6, out, rfl, rfl, hmk, hk, hik0⟩
  refine v_code [] (hk := ?_)
  first | refine c_ifd rfl (fun h18 => ?_) (fun h18 => ?_) | refine c_ifn rfl (fun h18 => ?_) (fun h18 => ?_) | refine c_if rfl (fun h18 => ?_) (fun h18 => ?_)
  · have hol : out.length = sa.length + k := by rw [hik0, List.length_append, List.length_map, List.length_take]; omega
    refine v_code [] (hk := ?_)
    refine v_call 21300 [(101, 101)] (oneValue_spec g A6 p12.1 A3 c6 (sv ++ [s]).length p12.2 n3 c3 out (s.l.getD k value0) (by omega)) Tryz.func126 (h := ?_)
    rintro _ _ (⟨A7, c7, rfl, rfl⟩)
    refine v_ops [] (hk := ?_)
    refine k_ren 21300 0 rfl ?_
    refine k_ren 21301 101 rfl ?_
    refine v_again (s.l.length - (k + 1)) ⟨k + 1, A7, c7, out ++ [hdOf (s.l.getD k value0)], rfl, rfl, by omega, by omega, by rw [take_getD (d := value0) h18, List.map_append, ← List.append_assoc, hik0]; rfl⟩
  · rw [take_all' h18] at hik0
    subst hik0
    refine v_code [] (hk := ?_)
    refine v_ret rfl [0, 101, 102] .nil (h := ?_)
    exact ⟨A6, c6, p12.1, p12.2, rfl, rfl⟩
theorem apart_spec (g : Nat) (A1 A2 A3 : Option Addr) (c1 c2 c3 : Nat) (sa : List (Hd AssetP)) (sv : List (Hd ValueM)) (st : List (Hd TotalP)) (h1 : sa.length ≤ 1000) (h2 : sv.length ≤ 1000) (h3 : st.length ≤ 1000) (m1 : ∀ s ∈ sa, s.l.length ≤ 1048576) (m2 : ∀ s ∈ sv, s.l.length ≤ 1048576) (m3 : ∀ s ∈ st, s.l.length ≤ 1048576) : CSpec Tryz.prog 65 [.one (.ptr 0 ⟨g, 0, none⟩)] [] [(0, Res.va g 122 (bagF A1 sa.length c1 A2 sv.length c2 A3 st.length c3)), (101, Res.rows A1 c1 23 (hdEn AssetP 51) sa), (102, Res.rows A2 c2 22 (hdEn ValueM 51) sv), (103, Res.rows A3 c3 36 (hdEn TotalP 51) st), (111, Res.bag (sa.map (Hd.res 57 assetEn))), (112, Res.bag (sv.map (Hd.res 26 valueEn))), (113, Res.bag (st.map (Hd.res 75 totalEn)))] fun o L =>
    o = .ret (vb true) ∧ L = [] := by
  refine v_enter Tryz.func65 (h := fun w0 => ?_)
  refine v_code [] (hk := ?_)
  refine v_callD 20350 [] (flatLimbs0) Tryz.func97 (hB := trivial) (h := ?_)
  rintro _ _ (⟨rfl, rfl⟩)
  refine v_know 7 true rfl rfl ?_
  refine v_ops [] (hk := ?_)
  refine k_val 8 (vb true) rfl rfl ?_
  refine v_callD 20650 [] (flatWords0) Tryz.func98 (hB := trivial) (h := ?_)
  rintro _ _ (⟨rfl, rfl⟩)
  refine v_know 13 true rfl rfl ?_
  refine v_know 8 true rfl rfl ?_
  refine v_ops [] (hk := ?_)
  refine k_val 15 (vb true) rfl rfl ?_
  refine v_callD 21000 [] (flatInts0) Tryz.func99 (hB := trivial) (h := ?_)
  rintro _ _ (⟨rfl, rfl⟩)
  refine v_know 20 true rfl rfl ?_
  refine v_know 15 true rfl rfl ?_
  refine v_ops [] (hk := ?_)
  refine k_val 22 (vb true) rfl rfl ?_
  refine v_callD 21350 [] (flatLongs0) Tryz.func100 (hB := trivial) (h := ?_)
  rintro _ _ (⟨rfl, rfl⟩)
  refine v_know 27 true rfl rfl ?_
  refine v_know 22 true rfl rfl ?_
  refine v_ops [] (hk := ?_)
  refine k_val 29 (vb true) rfl rfl ?_
  refine v_callD 21700 [] (flatTexts0) Tryz.func101 (hB := trivial) (h := ?_)
  rintro _ _ (⟨rfl, rfl⟩)
  refine v_know 34 true rfl rfl ?_
  refine v_know 29 true rfl rfl ?_
  refine v_ops [] (hk := ?_)
  refine k_val 36 (vb true) rfl rfl ?_
  refine v_callD 22050 [] (flatBytes0) Tryz.func102 (hB := trivial) (h := ?_)
  rintro _ _ (⟨rfl, rfl⟩)
  refine v_know 41 true rfl rfl ?_
  refine v_know 36 true rfl rfl ?_
  refine v_ops [] (hk := ?_)
  refine k_val 43 (vb true) rfl rfl ?_
  refine v_callD 22400 [] (flatTruths0) Tryz.func103 (hB := trivial) (h := ?_)
  rintro _ _ (⟨rfl, rfl⟩)
  refine v_know 48 true rfl rfl ?_
  refine v_know 43 true rfl rfl ?_
  refine v_ops [] (hk := ?_)
  refine k_val 50 (vb true) rfl rfl ?_
  refine v_callD 22750 [] (flatHashes0) Tryz.func104 (hB := trivial) (h := ?_)
  rintro _ _ (⟨rfl, rfl⟩)
  refine v_know 55 true rfl rfl ?_
  refine v_know 50 true rfl rfl ?_
  refine v_ops [] (hk := ?_)
  refine k_val 57 (vb true) rfl rfl ?_
  refine v_callD 23100 [] (flatNodes0) Tryz.func105 (hB := trivial) (h := ?_)
  rintro _ _ (⟨rfl, rfl⟩)
  refine v_know 62 true rfl rfl ?_
  refine v_know 57 true rfl rfl ?_
  refine v_ops [] (hk := ?_)
  refine k_val 64 (vb true) rfl rfl ?_
  refine v_callD 23450 [] (flatTerms0) Tryz.func106 (hB := trivial) (h := ?_)
  rintro _ _ (⟨rfl, rfl⟩)
  refine v_know 69 true rfl rfl ?_
  refine v_know 64 true rfl rfl ?_
  refine v_ops [] (hk := ?_)
  refine k_val 71 (vb true) rfl rfl ?_
  refine v_callD 23800 [(50, 111)] (flatAssets_spec A1 c1 sa h1 m1) Tryz.func107 (hB := trivial) (h := ?_)
  rintro _ _ (⟨rfl, rfl⟩)
  refine v_know 76 true rfl rfl ?_
  refine v_know 71 true rfl rfl ?_
  refine v_ops [] (hk := ?_)
  refine k_val 78 (vb true) rfl rfl ?_
  refine v_callD 24150 [(50, 112)] (flatValues_spec A2 c2 sv h2 m2) Tryz.func108 (hB := trivial) (h := ?_)
  rintro _ _ (⟨rfl, rfl⟩)
  refine v_know 83 true rfl rfl ?_
  refine v_know 78 true rfl rfl ?_
  refine v_ops [] (hk := ?_)
  refine k_val 85 (vb true) rfl rfl ?_
  refine v_callD 24500 [] (flatOutputs0) Tryz.func109 (hB := trivial) (h := ?_)
  rintro _ _ (⟨rfl, rfl⟩)
  refine v_know 90 true rfl rfl ?_
  refine v_know 85 true rfl rfl ?_
  refine v_ops [] (hk := ?_)
  refine k_val 92 (vb true) rfl rfl ?_
  refine v_callD 24850 [] (flatRefs0) Tryz.func110 (hB := trivial) (h := ?_)
  rintro _ _ (⟨rfl, rfl⟩)
  refine v_know 97 true rfl rfl ?_
  refine v_know 92 true rfl rfl ?_
  refine v_ops [] (hk := ?_)
  refine k_val 99 (vb true) rfl rfl ?_
  refine v_callD 25200 [] (flatEntries0) Tryz.func111 (hB := trivial) (h := ?_)
  rintro _ _ (⟨rfl, rfl⟩)
  refine v_know 104 true rfl rfl ?_
  refine v_know 99 true rfl rfl ?_
  refine v_ops [] (hk := ?_)
  refine k_val 106 (vb true) rfl rfl ?_
  refine v_callD 25550 [] (flatInstrs0) Tryz.func112 (hB := trivial) (h := ?_)
  rintro _ _ (⟨rfl, rfl⟩)
  refine v_know 111 true rfl rfl ?_
  refine v_know 106 true rfl rfl ?_
  refine v_ops [] (hk := ?_)
  refine k_val 113 (vb true) rfl rfl ?_
  refine v_callD 25900 [] (flatPrograms0) Tryz.func113 (hB := trivial) (h := ?_)
  rintro _ _ (⟨rfl, rfl⟩)
  refine v_know 118 true rfl rfl ?_
  refine v_know 113 true rfl rfl ?_
  refine v_ops [] (hk := ?_)
  refine k_val 120 (vb true) rfl rfl ?_
  refine v_callD 26250 [] (flatRedeemers0) Tryz.func114 (hB := trivial) (h := ?_)
  rintro _ _ (⟨rfl, rfl⟩)
  refine v_know 125 true rfl rfl ?_
  refine v_know 120 true rfl rfl ?_
  refine v_ops [] (hk := ?_)
  refine k_val 127 (vb true) rfl rfl ?_
  refine v_callD 26600 [] (flatBodies0) Tryz.func115 (hB := trivial) (h := ?_)
  rintro _ _ (⟨rfl, rfl⟩)
  refine v_know 132 true rfl rfl ?_
  refine v_know 127 true rfl rfl ?_
  refine v_ops [] (hk := ?_)
  refine k_val 134 (vb true) rfl rfl ?_
  refine v_callD 26950 [] (flatSignatures0) Tryz.func116 (hB := trivial) (h := ?_)
  rintro _ _ (⟨rfl, rfl⟩)
  refine v_know 139 true rfl rfl ?_
  refine v_know 134 true rfl rfl ?_
  refine v_ops [] (hk := ?_)
  refine k_val 141 (vb true) rfl rfl ?_
  refine v_callD 27300 [] (flatTxs0) Tryz.func117 (hB := trivial) (h := ?_)
  rintro _ _ (⟨rfl, rfl⟩)
  refine v_know 146 true rfl rfl ?_
  refine v_know 141 true rfl rfl ?_
  refine v_ops [] (hk := ?_)
  refine k_val 148 (vb true) rfl rfl ?_
  refine v_callD 27650 [] (flatBlocks0) Tryz.func118 (hB := trivial) (h := ?_)
  rintro _ _ (⟨rfl, rfl⟩)
  refine v_know 153 true rfl rfl ?_
  refine v_know 148 true rfl rfl ?_
  refine v_ops [] (hk := ?_)
  refine k_val 155 (vb true) rfl rfl ?_
  refine v_callD 28000 [] (flatGeneses0) Tryz.func119 (hB := trivial) (h := ?_)
  rintro _ _ (⟨rfl, rfl⟩)
  refine v_know 160 true rfl rfl ?_
  refine v_know 155 true rfl rfl ?_
  refine v_ops [] (hk := ?_)
  refine k_val 162 (vb true) rfl rfl ?_
  refine v_callD 28350 [(50, 113)] (flatTotals_spec A3 c3 st h3 m3) Tryz.func120 (hB := trivial) (h := ?_)
  rintro _ _ (⟨rfl, rfl⟩)
  refine v_know 167 true rfl rfl ?_
  refine v_know 162 true rfl rfl ?_
  refine v_ops [] (hk := ?_)
  refine k_val 169 (vb true) rfl rfl ?_
  refine v_callD 28700 [] (flatDiffs0) Tryz.func121 (hB := trivial) (h := ?_)
  rintro _ _ (⟨rfl, rfl⟩)
  refine v_know 174 true rfl rfl ?_
  refine v_know 169 true rfl rfl ?_
  refine v_ops [] (hk := ?_)
  refine k_val 176 (vb true) rfl rfl ?_
  refine v_callD 29050 [] (flatStoredRows0) Tryz.func122 (hB := trivial) (h := ?_)
  rintro _ _ (⟨rfl, rfl⟩)
  refine v_know 181 true rfl rfl ?_
  refine v_know 176 true rfl rfl ?_
  refine v_ops [] (hk := ?_)
  refine k_val 183 (vb true) rfl rfl ?_
  refine v_callD 29400 [] (flatStates0) Tryz.func123 (hB := trivial) (h := ?_)
  rintro _ _ (⟨rfl, rfl⟩)
  refine v_know 188 true rfl rfl ?_
  refine v_know 183 true rfl rfl ?_
  refine v_ops [] (hk := ?_)
  refine k_val 190 (vb true) rfl rfl ?_
  refine v_callD 29750 [] (flatAsks0) Tryz.func124 (hB := trivial) (h := ?_)
  rintro _ _ (⟨rfl, rfl⟩)
  refine v_know 195 true rfl rfl ?_
  refine v_know 190 true rfl rfl ?_
  refine v_ops [] (hk := ?_)
  refine k_val 197 (vb true) rfl rfl ?_
  refine v_callD 30100 [] (flatTellRows0) Tryz.func125 (hB := trivial) (h := ?_)
  rintro _ _ (⟨rfl, rfl⟩)
  refine v_know 202 true rfl rfl ?_
  refine v_know 197 true rfl rfl ?_
  refine v_ops [] (hk := ?_)
  refine v_ret rfl [] (.cons (.tmp rfl) .nil) (h := ?_)
  exact ⟨rfl, rfl⟩
theorem apartTotals_spec (A0 : Option Addr) (c0 : Nat) (st : List (Hd TotalP)) (hm : st.length ≤ 1000) (m3 : ∀ s ∈ st, s.l.length ≤ 1048576) : CSpec Tryz.prog 21 [.one (.sl 0 A0 st.length c0)] [(0, Res.rd A0 (hdEn TotalP 51) st)] [(113, Res.bag (st.map (Hd.res 75 totalEn)))] fun o L => o = .ret (vb true) ∧ L = [] := by
  refine v_enter Tryz.func21 (h := fun w0 => ?_)
  refine v_code [] (hk := ?_)
  refine l_do d_box (fun g6 => ?_)
  refine v_ops [] (hk := ?_)
  refine k_nil 603 36 (hdEn TotalP 51) ?_
  refine v_loop (fun m E H => ∃ (k : Nat) (Ab : Option Addr) (cb : Nat), E = [(4, vn k)] ∧ H = [(10006, Res.va g6 122 (bagF none 0 0 none 0 0 Ab (st.take k).length cb)), (603, Res.rows Ab cb 36 (hdEn TotalP 51) (st.take k))] ∧ m = st.length - k ∧ k ≤ st.length) [0, 2, 3, 19, 20] (st.length) ([(4, vn 0)]) ([(10006, Res.va g6 122 (bagF none 0 0 none 0 0 (none) (st.take 0).length (0))), (603, Res.rows (none) (0) 36 (hdEn TotalP 51) (st.take 0))]) (h0 := ⟨0, none, 0, rfl, rfl, by omega, by omega⟩) (hr := ?_)
  rintro _ _ _ ⟨k, Ab, cb, rfl, rfl, hmk, hk⟩
  refine v_code [] (hk := ?_)
  first | refine c_ifd rfl (fun h10 => ?_) (fun h10 => ?_) | refine c_ifn rfl (fun h10 => ?_) (fun h10 => ?_) | refine c_if rfl (fun h10 => ?_) (fun h10 => ?_)
  · refine v_code [] (hk := ?_)
    refine k_val 17 (vsl 1 (st.getD k default).A (st.getD k default).l.length (st.getD k default).c) rfl rfl ?_
    refine v_call 20900 [(103, 603)] (putTotals_spec g6 none none Ab 0 0 0 0 cb (st.take k) (st.getD k default) (by rw [List.length_take]; omega)) Tryz.func64 (h := ?_)
    rintro _ _ (⟨Ab2, cb2, rfl, rfl⟩)
    refine v_ops [] (hk := ?_)
    refine k_ren 20900 10006 rfl ?_
    refine k_ren 20901 603 rfl ?_
    refine k_res 10006 (Res.va g6 122 (bagF none 0 0 none 0 0 Ab2 (st.take (k + 1)).length cb2)) rfl (by rw [take_getD (d := default) h10] <;> rfl) ?_
    refine k_res 603 (Res.rows Ab2 cb2 36 (hdEn TotalP 51) (st.take (k + 1))) rfl (by rw [take_getD (d := default) h10] <;> rfl) ?_
    refine v_again (st.length - (k + 1)) ⟨k + 1, Ab2, cb2, rfl, rfl, by omega, by omega⟩
  · have e : st.take k = st := List.take_of_length_le (by omega)
    refine k_res 10006 (Res.va g6 122 (bagF none 0 0 none 0 0 Ab st.length cb)) rfl (by rw [e] <;> rfl) ?_
    refine k_res 603 (Res.rows Ab cb 36 (hdEn TotalP 51) st) rfl (by rw [e] <;> rfl) ?_
    refine k_nil 601 23 (hdEn AssetP 51) ?_
    refine k_nil 602 22 (hdEn ValueM 51) ?_
    refine k_empty 611 ?_
    refine k_empty 612 ?_
    refine v_code [] (hk := ?_)
    refine v_call 21000 [(101, 601), (102, 602), (103, 603), (111, 611), (112, 612), (113, 113)] (apart_spec g6 none none Ab 0 0 cb [] [] st (by simp) (by simp) hm (by simp) (by simp) m3) Tryz.func65 (h := ?_)
    rintro _ _ (⟨rfl, rfl⟩)
    refine v_ops [] (hk := ?_)
    refine v_ret rfl [] (.cons (.tmp rfl) .nil) (h := ?_)
    exact ⟨rfl, rfl⟩
end Go.Proofs.YtlnckcgbpilmdaaGreat
/- Bundles that lie apart. -/

set_option linter.unusedVariables false
set_option linter.unusedSimpArgs false
set_option maxRecDepth 100000
set_option maxHeartbeats 8000000
namespace Go.Proofs.YtlnckcgbpilmdaaGreat
open Go Go.RowKit HL
def hds (l : List (Hd ValueM)) : List (Hd AssetP) := (l.flatMap Hd.l).map hdOf
theorem hds_snoc {l : List (Hd ValueM)} {k : Nat} (hk : k < l.length) : hds (l.take (k + 1)) = hds (l.take k) ++ (l.getD k default).l.map hdOf := by
  unfold hds
  rw [take_getD (d := default) hk, List.flatMap_append, List.map_append]
  simp
theorem hds_len {l : List (Hd ValueM)} {k : Nat} : (hds (l.take k)).length ≤ (hds l).length := by
  conv => rhs; rw [← List.take_append_drop k l]
  unfold hds
  rw [List.flatMap_append, List.map_append, List.length_append]
  omega
theorem apartValues_spec (A0 : Option Addr) (c0 : Nat) (sv : List (Hd ValueM)) (hm : sv.length ≤ 1000) (hl : ∀ s ∈ sv, s.l.length ≤ 1000) (hh : (hds sv).length ≤ 1000) (m1 : ∀ s ∈ hds sv, s.l.length ≤ 1048576) : CSpec Tryz.prog 22 [.one (.sl 0 A0 sv.length c0)] [(0, Res.rd A0 (hdEn ValueM 51) sv)] [(111, Res.bag ((hds sv).map (Hd.res 57 assetEn))), (112, Res.bag (sv.map (Hd.res 26 valueEn)))] fun o L => o = .ret (vb true) ∧ L = [] := by
  refine v_enter Tryz.func22 (h := fun w0 => ?_)
  refine v_code [] (hk := ?_)
  refine l_do d_box (fun g6 => ?_)
  refine v_ops [] (hk := ?_)
  refine k_nil 601 23 (hdEn AssetP 51) ?_
  refine k_nil 602 22 (hdEn ValueM 51) ?_
  refine v_loop (fun m E H => ∃ (k : Nat) (A1 : Option Addr) (c1 : Nat) (A2 : Option Addr) (c2 : Nat), E = [(4, vn k)] ∧ H = [(10006, Res.va g6 122 (bagF A1 (hds (sv.take k)).length c1 A2 (sv.take k).length c2 none 0 0)), (601, Res.rows A1 c1 23 (hdEn AssetP 51) (hds (sv.take k))), (602, Res.rows A2 c2 22 (hdEn ValueM 51) (sv.take k))] ∧ m = sv.length - k ∧ k ≤ sv.length) [0, 2, 3, 19, 20] (sv.length) ([(4, vn 0)]) ([(10006, Res.va g6 122 (bagF (none) (hds (sv.take 0)).length (0) (none) (sv.take 0).length (0) none 0 0)), (601, Res.rows (none) (0) 23 (hdEn AssetP 51) (hds (sv.take 0))), (602, Res.rows (none) (0) 22 (hdEn ValueM 51) (sv.take 0))]) (h0 := ⟨0, none, 0, none, 0, rfl, rfl, by omega, by omega⟩) (hr := ?_)
  rintro _ _ _ ⟨k, A1, c1, A2, c2, rfl, rfl, hmk, hk⟩
  refine v_code [] (hk := ?_)
  first | refine c_ifd rfl (fun h10 => ?_) (fun h10 => ?_) | refine c_ifn rfl (fun h10 => ?_) (fun h10 => ?_) | refine c_if rfl (fun h10 => ?_) (fun h10 => ?_)
  · have hlk := hl _ (getD_mem (d := default) h10)
    have hhk := hds_len (l := sv) (k := k)
    refine v_code [] (hk := ?_)
    refine k_val 17 (vsl 1 (sv.getD k default).A (sv.getD k default).l.length (sv.getD k default).c) rfl rfl ?_
    refine v_callD 20900 [(101, 601), (102, 602)] (putValues_spec g6 A1 A2 none c1 c2 0 0 (hds (sv.take k)) (sv.take k) (sv.getD k default) (by omega) (by rw [List.length_take]; omega) hlk) Tryz.func66 (hB := ⟨⟨_, (Der.bag 112 rfl (List.mem_map_of_mem (getD_mem (d := default) h10)) view_rows), rfl⟩, trivial⟩) (h := ?_)
    rintro _ _ (⟨A7, c7, A8, c8, rfl, rfl⟩)
    refine v_ops [] (hk := ?_)
    refine k_ren 20900 10006 rfl ?_
    refine k_ren 20901 601 rfl ?_
    refine k_ren 20902 602 rfl ?_
    refine k_res 10006 (Res.va g6 122 (bagF A7 (hds (sv.take (k + 1))).length c7 A8 (sv.take (k + 1)).length c8 none 0 0)) rfl (by rw [hds_snoc h10, take_getD (d := default) h10] <;> rfl) ?_
    refine k_res 601 (Res.rows A7 c7 23 (hdEn AssetP 51) (hds (sv.take (k + 1)))) rfl (by rw [hds_snoc h10] <;> rfl) ?_
    refine k_res 602 (Res.rows A8 c8 22 (hdEn ValueM 51) (sv.take (k + 1))) rfl (by rw [take_getD (d := default) h10] <;> rfl) ?_
    refine v_again (sv.length - (k + 1)) ⟨k + 1, A7, c7, A8, c8, rfl, rfl, by omega, by omega⟩
  · have e : sv.take k = sv := List.take_of_length_le (by omega)
    refine k_res 10006 (Res.va g6 122 (bagF A1 (hds sv).length c1 A2 sv.length c2 none 0 0)) rfl (by rw [e] <;> rfl) ?_
    refine k_res 601 (Res.rows A1 c1 23 (hdEn AssetP 51) (hds sv)) rfl (by rw [e] <;> rfl) ?_
    refine k_res 602 (Res.rows A2 c2 22 (hdEn ValueM 51) sv) rfl (by rw [e] <;> rfl) ?_
    refine k_nil 603 36 (hdEn TotalP 51) ?_
    refine k_empty 613 ?_
    refine v_code [] (hk := ?_)
    refine v_call 21000 [(101, 601), (102, 602), (103, 603), (111, 111), (112, 112), (113, 613)] (apart_spec g6 A1 A2 none c1 c2 0 (hds sv) sv [] hh hm (by simp) m1 (fun s hs => by have := hl s hs; omega) (by simp)) Tryz.func65 (h := ?_)
    rintro _ _ (⟨rfl, rfl⟩)
    refine v_ops [] (hk := ?_)
    refine v_ret rfl [] (.cons (.tmp rfl) .nil) (h := ?_)
    exact ⟨rfl, rfl⟩
end Go.Proofs.YtlnckcgbpilmdaaGreat
/- Bundles lent to what tells of them: plain. -/

set_option linter.unusedVariables false
namespace Go.Proofs.YtlnckcgbpilmdaaGreat
open Go Go.RowKit HL
theorem lent_each {B L : Hp} {l : List ValueM} (j : Nat) (h : lk2 B L j = some (Res.bag (l.map lentA)) := by rfl) : Each B L [j] (fun v => (valueS v 0).den) l := fun v hv => by
  have hv2 : View (lentA v) (valueS v 0).den := view_pre view_rows
  exact ⟨fun w hf => hv2.h w ((hf j _ h).1 _ (List.mem_map_of_mem hv)), fun b hb => ⟨j, by simp, _, h, lentA v, List.mem_map_of_mem hv, hv2.f b hb⟩⟩
theorem SameVs.mem {l m : List ValueM} (h : SameVs l m) {v : ValueM} (hv : v ∈ l) : ∃ u ∈ m, u.coin = v.coin ∧ u.assets = v.assets := by
  have h1 : (v.coin, v.assets) ∈ m.map (fun v => (v.coin, v.assets)) := by
    rw [← h]
    exact List.mem_map_of_mem (f := fun v => (v.coin, v.assets)) hv
  obtain ⟨u, hu, e⟩ := List.mem_map.1 h1
  simp only [Prod.mk.injEq] at e
  exact ⟨u, hu, e.1, e.2⟩
theorem SameVs.symm {l m : List ValueM} (h : SameVs l m) : SameVs m l := Eq.symm h
theorem SameVs.fitV {l m : List ValueM} (h : SameVs l m) (hf : ∀ v ∈ m, FitV v) : ∀ v ∈ l, FitV v := fun v hv => by
  obtain ⟨u, hu, e1, e2⟩ := h.mem hv
  have := hf u hu
  unfold FitV at *
  rw [← e1, ← e2]
  exact this
theorem SameVs.adds1 {l m : List ValueM} (h : SameVs l m) {co : Int} {p : List AssetP} (ha : Adds l co p) : Adds m co p := by
  obtain ⟨⟨h1, h2, h3⟩, h4, h5, h6⟩ := ha
  refine ⟨⟨fun v hv => ?_, by rw [← h.csum]; exact h2, by rw [← h.AL]; exact h3⟩, by rw [← h.csum]; exact h4, by rw [← h.AL]; exact h5, h6⟩
  obtain ⟨u, hu, e1, e2⟩ := h.symm.mem hv
  rw [← e1, ← e2]
  exact h1 u hu
theorem SameVs.adds {l m : List ValueM} (h : SameVs l m) (co : Int) (p : List AssetP) : Adds l co p ↔ Adds m co p := ⟨h.adds1, h.symm.adds1⟩
theorem SameVs.bal {l m l2 m2 : List ValueM} (h : SameVs l m) (h2 : SameVs l2 m2) {mint : List AssetP} {fee : Int} : Bal l mint l2 fee ↔ Bal m mint m2 fee := by
  unfold Bal
  rw [h.csum, h.AL, h2.csum, h2.AL]
theorem bool_iff {a b : Bool} (h : a = true ↔ b = true) : a = b := by cases a <;> cases b <;> simp_all
structure Two (ok is : Bool) (s t : ValueM) : Prop where
  o : ok = is
  c : s.coin = t.coin
  a : s.assets = t.assets
theorem two_same {l m : List ValueM} (h : SameVs l m) {ok is : Bool} {s t : ValueM} (hs : Told (Adds l) ok s) (ht : Told (Adds m) is t) : Two ok is s t := by
  obtain ⟨h1, h2, h3⟩ := hs.same ht h.adds (fun _ _ _ _ ha hb => ha.unique hb)
  exact ⟨h1, h2, h3⟩
end Go.Proofs.YtlnckcgbpilmdaaGreat
