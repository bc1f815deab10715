import Derived.Test.YtonbgcehgmpnkaaTy
import Derived.Test.YtonbgcehgmpnkaaH
set_option linter.unusedVariables false
set_option linter.unusedSimpArgs false
namespace Go.Proofs.Ytonbgcehgmpnkaa
open Go Go.RowKit HL
/-- A result that lies in a variable of its own block. -/
theorem post_cell {fn : Func} {R : Ending → World → Prop} {a : Act} {w w0 : World} {M : Nat → Prop} {L : List Res} {i g : Nat} {t : Tmp} {T : TypeId} {vs : List Value} {v : Value} (hr : fn.results = #[.cell t T]) (ht : opv a (.tmp t) = some (.pointer (some ⟨g, 0, none⟩))) (hd : a.defers = [])
    (hst : St w0 w M L) (hi : L[i]? = some (Res.var g T vs)) (hf : Fits Try.prog T v) (hv : flat vs = v.cells.toList) (hR : R (.returned v) w) : bodyPost Try.prog fn R .ret a w := by
  refine bodyPost_ret (v := v) ?_ hd hR
  have hc := hst.var_cells hi
  rw [hv] at hc
  have hp' : a.tmps[t]?.getD undef = .pointer (some ⟨g, 0, none⟩) := by simpa [Act.eval] using opv_eval ht
  simp [results, hr, hp', asAddr, run_loadVar hf hc]
theorem fits_hash (h : Hash) : Fits Try.prog 23 (hval h) := fits_of ty23 (isAgg_hval h) (size_hval h)
def byteOf (n : Int) : UInt8 := UInt8.ofNat (n % 256).toNat
theorem byteOf_toNat (n : Int) : ((byteOf n).toNat : Int) = n % 256 := by
  unfold byteOf
  have h1 : (n % 256).toNat < 256 := by omega
  rw [UInt8.toNat_ofNat_of_lt' (by simpa using h1)]
  omega
/-- id(n). -/
def idH (n : Int) : Hash := hset hz [(0, byteOf n)]
theorem id_calls (n : Int) (w : World) : Calls Try.prog 17 #[.int .i64 n] w fun e w' => e = .returned (hval (idH n)) ∧ St w w' No [] := by
  have hst := St.start w No
  have hb := byteOf_toNat n
  have HB := Lib.hid hb
  clear hb
  go_enter Try.func17, Try.ntmps17
  go_wp2_with (first
    | (refine o_alloc ty23 rfl (.list rfl) hst ?_; intro w1 g1 hst)
    | (refine o_buildH [(0, byteOf n)] Try.underlying23 ty23 ty5 rfl (.list rfl) (by simp [opv, HB.out]) (by simp) ?_)
    | (refine o_store (i := 0) (k := 0) rfl rfl rfl rfl rfl (.list rfl) hst (fits_hash _) (ok1_hval _) rfl (by simp) ?_; intro w2 hst; dsimp only [List.set] at hst))
  exact post_cell (i := 0) rfl rfl rfl hst rfl (fits_hash _) (flat_single _) ⟨rfl, hst.drop 0⟩
def leafV (i p : Hash) (h m : Int) : Value := mkS [hval i, hval p, .int .i64 h, .int .i64 m]
theorem var_leafV (g e : Nat) (i p : Hash) (h m : Int) : Res.var g e [leafV i p h m] = Res.var g e [hval i, hval p, .int .i64 h, .int .i64 m] := Res.var_mkS g e _
theorem loose_calls (i p : Hash) (h m : Int) (w : World) : Calls Try.prog 24 #[leafV i p h m] w fun e w' => e = .returned (.bool (m == 1 || m == 4)) ∧ St w w' No [] := by
  have hst := St.start w No
  by_cases h1 : (m == 1) = true
  all_goals
    go_enter Try.func24, Try.ntmps24
    go_wp2_with (first
      | (refine o_box (v := leafV i p h m) rfl rfl (.list rfl) hst ?_; intro w1 g1 hst; rw [var_leafV] at hst)
      | (refine o_field rfl rfl (.list rfl) fa27_3 ?_)
      | (refine o_load (v := .int .i64 m) rfl rfl (.list rfl) (fits_of ty25 rfl rfl) (hst.field_cells (i := 0) (k := 3) rfl rfl (by simp [szs])) ?_))
    go_ret
    exact ⟨by simp_all, hst.drop 0⟩
end Go.Proofs.Ytonbgcehgmpnkaa
