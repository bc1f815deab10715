import Derived.Test.YtonbgcehgmpnkaaF1
import Derived.Test.YtonbgcehgmpnkaaTp
set_option linter.unusedVariables false
set_option linter.unusedSimpArgs false
set_option maxRecDepth 100000
set_option maxHeartbeats 8000000
namespace Go.Proofs.Ytonbgcehgmpnkaa
open Go Go.RowKit HL
instance : ElT Try.prog 27 leafEn := ⟨⟩
instance : ElT Try.prog 23 hashEn := ⟨⟩
theorem dens_leaf (l : List LeafP) : leafEn.dens l = l.map leafE := by
  unfold En.dens
  refine List.map_congr_left fun x _ => ?_
  unfold leafE
  rfl
theorem dens_hashes (l : List Hash) : hashEn.dens l = l.map hval := rfl
theorem rd_leaf {A : Option Addr} {l : List LeafP} {w : World} (h : (Res.rd A leafEn l).holds w) : RdS w A (flat (l.map leafE)) := by
  rw [← dens_leaf]
  exact rd_reads h
theorem rd_hashes {A : Option Addr} {l : List Hash} {w : World} (h : (Res.rd A hashEn l).holds w) : RdS w A (flat (l.map hval)) := rd_reads h
theorem HL.St.no {w w' : World} {L : List Res} (h : St w w' No L) : St w w' (fun b => ∃ r ∈ live ([] : Hp), r.fp b) L := h.more fun b hb => hb.elim
/-- A contract of the elder form. -/
theorem cspec_of {f : FuncId} {args : List SV} {B : Hp} {post : Out → List Res → Prop} (h : ∀ w, (∀ i r, lk B i = some r → r.holds w) → Calls Try.prog f (args.map SV.den).toArray w fun e w' => ∃ o L, o.den = e ∧ post o L ∧ St w w' No L) : CSpec Try.prog f args B [] post :=
  fun w hB _ _ _ => (h w hB).mono fun e w' ⟨o, L, h1, h2, h3⟩ => ⟨o, L, h1, h2, h3.no⟩
def treeR (g gl gk : Nat) (xs : List (Hash × KV × Nat)) (root : Hash) (h : Int) (l : List LeafP) : Res := Res.bag (treeL g gl gk xs root h l)
theorem treeR_get {g gl gk : Nat} {xs : List (Hash × KV × Nat)} {root : Hash} {h : Int} {l : List LeafP} {w : World} (ht : (treeR g gl gk xs root h l).holds w) : ∀ r ∈ treeL g gl gk xs root h l, r.holds w := ht.1
theorem awake_spec : CSpec Try.prog 6 [] [] [] fun o L => o = .ret (vb true) ∧ L = [] :=
  cspec_of fun w _ => (awake_calls w).mono fun e w' ⟨he, hst⟩ => ⟨.ret (vb true), [], he.symm, ⟨rfl, rfl⟩, hst⟩
theorem new_spec (root : Hash) (h : Int) (A : Option Addr) (l : List LeafP) (c : Nat) (hl : l.length ≤ 1048576) : CSpec Try.prog 7 [.agg [.hash root], .one (.i .i64 h), .one (.sl 2 A l.length c)] [(2, Res.rd A leafEn l)] [] fun o L =>
    (¬ NewOk root h l ∧ o = .ret (.tup [.one .pn, .one (.i .i64 2)]) ∧ L = []) ∨ (NewOk root h l ∧ ∃ g gl gk xs, KidsOf xs l ∧ o = .ret (.tup [.one (.ptr 0 ⟨g, 0, none⟩), .one (.i .i64 0)]) ∧ L = [treeR g gl gk xs root h l]) :=
  cspec_of fun w hB => (new_calls root h A l c w (rd_leaf (hB 2 _ rfl)) hl).mono fun e w' hh => by
    rcases hh with ⟨h1, rfl, h3⟩ | ⟨h1, g, gl, gk, xs, hk, rfl, h3⟩
    · exact ⟨.ret (.tup [.one .pn, .one (.i .i64 2)]), [], rfl, .inl ⟨h1, rfl, rfl⟩, h3⟩
    · exact ⟨.ret (.tup [.one (.ptr 0 ⟨g, 0, none⟩), .one (.i .i64 0)]), [treeR g gl gk xs root h l], rfl, .inr ⟨h1, g, gl, gk, xs, hk, rfl, rfl⟩, St.bag (by simpa using h3)⟩
/-- What Best tells. -/
def BestIs (l : List LeafP) (root : Hash) (h : Int) (b : Hash) (hh : Int) : Prop := ∃ n m rest, lev l root h n = m :: rest ∧ lev l root h (n + 1) = [] ∧ b = hmins m rest ∧ hh = h + n
theorem best_spec (g gl gk : Nat) (xs : List (Hash × KV × Nat)) (root : Hash) (h : Int) (l : List LeafP) (hk : KidsOf xs l) (hok : NewOk root h l) : CSpec Try.prog 8 [.one (.ptr 0 ⟨g, 0, none⟩)] [(0, treeR g gl gk xs root h l)] [] fun o L =>
    ∃ b hh, BestIs l root h b hh ∧ o = .ret (.tup [.agg [.hash b], .one (.i .i64 hh)]) ∧ L = [] :=
  cspec_of fun w hB => (best_calls g gl gk xs root h l w (treeR_get (hB 0 _ rfl)) hk hok.2.2.2.1 hok.1 hok.2.1 hok.2.2.1).mono fun e w' ⟨h1, n, m, rest, h2, h3, h4⟩ =>
    ⟨.ret (.tup [.agg [.hash (hmins m rest)], .one (.i .i64 (h + n))]), [], h4.symm, ⟨_, _, ⟨n, m, rest, h2, h3, rfl, rfl⟩, rfl, rfl⟩, h1⟩
/-- Heights are numbers of 64 bits. -/
def High (l : List LeafP) : Prop := ∀ x ∈ l, x.height ≤ 9223372036854775807
theorem stands_spec (g gl gk : Nat) (xs : List (Hash × KV × Nat)) (root : Hash) (h : Int) (l : List LeafP) (dest : Hash) (hh : High l) (hok : NewOk root h l) : CSpec Try.prog 9 [.one (.ptr 0 ⟨g, 0, none⟩), .agg [.hash dest]] [(0, treeR g gl gk xs root h l)] [] fun o L =>
    o = .ret (vb (wayOf l root h dest).isSome) ∧ L = [] :=
  cspec_of fun w hB => (stands_calls g gl gk xs root h l dest w (treeR_get (hB 0 _ rfl)) hh hok.1 hok.2.1 hok.2.2.1).mono fun e w' ⟨h1, h2⟩ => ⟨.ret (vb (wayOf l root h dest).isSome), [], h1.symm, ⟨rfl, rfl⟩, h2⟩
theorem pick_spec (t n : Int) (hn1 : 1 ≤ n) (hn2 : n ≤ 4611686018427387904) : CSpec Try.prog 10 [.one (.i .i64 t), .one (.i .i64 n)] [] [] fun o L => ∃ r : Nat, (r : Int) < n ∧ o = .ret (vint r) ∧ L = [] :=
  cspec_of fun w _ => (pick_calls t n w hn1 hn2).mono fun e w' ⟨r, h1, h2, h3⟩ => ⟨.ret (vint r), [], h1.symm, ⟨r, h2, rfl, rfl⟩, h3⟩
end Go.Proofs.Ytonbgcehgmpnkaa
