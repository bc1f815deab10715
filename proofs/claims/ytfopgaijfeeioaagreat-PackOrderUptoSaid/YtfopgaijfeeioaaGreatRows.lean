/-
  No cell of these rows narrows 'for every input' (looked for: loops, veiled, ifaces, maps, wideKeys, modest, calm, conditions, laid).
  DERIVED. THE GIVEN ROWS OF THIS SEAT. 6 by the template 'for every input the law returns true; each argument reads behind the call as it read before'; 0 by the template 'total and deterministic' (their statements: YtfopgaijfeeioaaGreatTotals.lean).
  GIVEN WITH THE SEED: the statements are not yours to turn. If you find one false, say at which input.
  Laid BY PROGRAM, IN A SANDBOX (cutbox-rows.mjs): the forced cells as the released guide's own fill.sh prints them over the translation cc239292c1f6edd1… (all of the seat's roots in one cut). By AI agents, Wed Nov 11 2026. No macro, syntax, notation, axiom, sorry.
-/
import Derived.Test.YtfopgaijfeeioaaGreatChecked
import GoSem.Claim
import GoSem.ClaimJoined
import GoSem.ClaimMapViews
import Derived.JoinedTies
import Derived.KernelRfl
namespace Go.Proofs.YtfopgaijfeeioaaGreat
/- THE CELL 'sum', in the pinned program and in every row, IS THE sha256 OF THE DUMP (.gsa) THAT YtfopgaijfeeioaaGreatProg.lean LOADS. Nothing in Lean hashes anything: it is a label: what it is worth is what the hold of that sum in a sandbox is worth. -/
noncomputable def Tryz.pinned : Pinned := { name := "ytfopgaijfeeioaagreat", sum := "cc239292c1f6edd15de4ff48b3f124aeae056c1ea9ec44a42945b56d88e586d2", checked := Tryz.checked }
namespace Rows
def none {H : Type} : Left H := { results := [], args := [] }

/-- 'moidorelaw07.PackOrder': WHATEVER THE INPUT: true; the input reads as it did. -/
def packOrderSpec : ChangeSpec := { name := "packOrder", fn := fun _ => fun
  | [d1, d2, d3, d4] => { results := [.lit (.bool true)], args := [d1, d2, d3, d4] }
  | _ => none }
def packOrderRow : OpenClaim := { program := "ytfopgaijfeeioaagreat", sum := "cc239292c1f6edd15de4ff48b3f124aeae056c1ea9ec44a42945b56d88e586d2", func := "moidore/moidorelaw07.PackOrder", spec := "packOrder", inPlace := ["math.Float64frombits", "math.Float64bits", "internal/bytealg.abigen_runtime_cmpstring", "internal/bytealg.Compare"], unfollowed := true, recurses := true, apart := false }
def PackOrderSaid : Prop := packOrderRow.holds Tryz.pinned (OpenSpec.ofChange packOrderSpec)

/-- ITS FALSE NEIGHBOUR: 'it returns false'. Refute it at one input. -/
def packOrderWrong : ChangeSpec := { name := "packOrder", fn := fun _ => fun
  | [d1, d2, d3, d4] => { results := [.lit (.bool false)], args := [d1, d2, d3, d4] }
  | _ => none }
def PackOrderWrongFalsely : Prop := packOrderRow.holds Tryz.pinned (OpenSpec.ofChange packOrderWrong)

/-- 'moidorelaw07.PackPuts': WHATEVER THE INPUT: true; the input reads as it did. -/
def packPutsSpec : ChangeSpec := { name := "packPuts", fn := fun _ => fun
  | [d1, d2] => { results := [.lit (.bool true)], args := [d1, d2] }
  | _ => none }
def packPutsRow : OpenClaim := { program := "ytfopgaijfeeioaagreat", sum := "cc239292c1f6edd15de4ff48b3f124aeae056c1ea9ec44a42945b56d88e586d2", func := "moidore/moidorelaw07.PackPuts", spec := "packPuts", inPlace := ["math.Float64frombits", "math.Float64bits", "internal/bytealg.abigen_runtime_cmpstring", "internal/bytealg.Compare"], unfollowed := true, recurses := true, apart := false }
def PackPutsSaid : Prop := packPutsRow.holds Tryz.pinned (OpenSpec.ofChange packPutsSpec)

/-- ITS FALSE NEIGHBOUR: 'it returns false'. Refute it at one input. -/
def packPutsWrong : ChangeSpec := { name := "packPuts", fn := fun _ => fun
  | [d1, d2] => { results := [.lit (.bool false)], args := [d1, d2] }
  | _ => none }
def PackPutsWrongFalsely : Prop := packPutsRow.holds Tryz.pinned (OpenSpec.ofChange packPutsWrong)

/-- 'moidorelaw07.PackGets': WHATEVER THE INPUT: true; the input reads as it did. -/
def packGetsSpec : ChangeSpec := { name := "packGets", fn := fun _ => fun
  | [d1, d2] => { results := [.lit (.bool true)], args := [d1, d2] }
  | _ => none }
def packGetsRow : OpenClaim := { program := "ytfopgaijfeeioaagreat", sum := "cc239292c1f6edd15de4ff48b3f124aeae056c1ea9ec44a42945b56d88e586d2", func := "moidore/moidorelaw07.PackGets", spec := "packGets", inPlace := ["math.Float64frombits", "math.Float64bits", "internal/bytealg.abigen_runtime_cmpstring", "internal/bytealg.Compare"], unfollowed := true, recurses := true, apart := false }
def PackGetsSaid : Prop := packGetsRow.holds Tryz.pinned (OpenSpec.ofChange packGetsSpec)

/-- ITS FALSE NEIGHBOUR: 'it returns false'. Refute it at one input. -/
def packGetsWrong : ChangeSpec := { name := "packGets", fn := fun _ => fun
  | [d1, d2] => { results := [.lit (.bool false)], args := [d1, d2] }
  | _ => none }
def PackGetsWrongFalsely : Prop := packGetsRow.holds Tryz.pinned (OpenSpec.ofChange packGetsWrong)

/-- 'moidorelaw07.PackBends': WHATEVER THE INPUT: true; the input reads as it did. -/
def packBendsSpec : ChangeSpec := { name := "packBends", fn := fun _ => fun
  | [] => { results := [.lit (.bool true)], args := [] }
  | _ => none }
def packBendsRow : OpenClaim := { program := "ytfopgaijfeeioaagreat", sum := "cc239292c1f6edd15de4ff48b3f124aeae056c1ea9ec44a42945b56d88e586d2", func := "moidore/moidorelaw07.PackBends", spec := "packBends", inPlace := ["math.Float64frombits", "math.Float64bits", "internal/bytealg.abigen_runtime_cmpstring", "internal/bytealg.Compare"], unfollowed := true, recurses := true, apart := false }
def PackBendsSaid : Prop := packBendsRow.holds Tryz.pinned (OpenSpec.ofChange packBendsSpec)

/-- ITS FALSE NEIGHBOUR: 'it returns false'. Refute it at one input. -/
def packBendsWrong : ChangeSpec := { name := "packBends", fn := fun _ => fun
  | [] => { results := [.lit (.bool false)], args := [] }
  | _ => none }
def PackBendsWrongFalsely : Prop := packBendsRow.holds Tryz.pinned (OpenSpec.ofChange packBendsWrong)

/-- 'moidorelaw07.PackRound': WHATEVER THE INPUT: true; the input reads as it did. -/
def packRoundSpec : ChangeSpec := { name := "packRound", fn := fun _ => fun
  | [d1, d2] => { results := [.lit (.bool true)], args := [d1, d2] }
  | _ => none }
def packRoundRow : OpenClaim := { program := "ytfopgaijfeeioaagreat", sum := "cc239292c1f6edd15de4ff48b3f124aeae056c1ea9ec44a42945b56d88e586d2", func := "moidore/moidorelaw07.PackRound", spec := "packRound", inPlace := ["math.Float64frombits", "math.Float64bits", "internal/bytealg.abigen_runtime_cmpstring", "internal/bytealg.Compare"], unfollowed := true, recurses := true, apart := false }
def PackRoundSaid : Prop := packRoundRow.holds Tryz.pinned (OpenSpec.ofChange packRoundSpec)

/-- ITS FALSE NEIGHBOUR: 'it returns false'. Refute it at one input. -/
def packRoundWrong : ChangeSpec := { name := "packRound", fn := fun _ => fun
  | [d1, d2] => { results := [.lit (.bool false)], args := [d1, d2] }
  | _ => none }
def PackRoundWrongFalsely : Prop := packRoundRow.holds Tryz.pinned (OpenSpec.ofChange packRoundWrong)

/-- 'moidorelaw07.PackOne': WHATEVER THE INPUT: true; the input reads as it did. -/
def packOneSpec : ChangeSpec := { name := "packOne", fn := fun _ => fun
  | [d1, d2] => { results := [.lit (.bool true)], args := [d1, d2] }
  | _ => none }
def packOneRow : OpenClaim := { program := "ytfopgaijfeeioaagreat", sum := "cc239292c1f6edd15de4ff48b3f124aeae056c1ea9ec44a42945b56d88e586d2", func := "moidore/moidorelaw07.PackOne", spec := "packOne", inPlace := ["math.Float64frombits", "math.Float64bits", "internal/bytealg.abigen_runtime_cmpstring", "internal/bytealg.Compare"], unfollowed := true, recurses := true, apart := false }
def PackOneSaid : Prop := packOneRow.holds Tryz.pinned (OpenSpec.ofChange packOneSpec)

/-- ITS FALSE NEIGHBOUR: 'it returns false'. Refute it at one input. -/
def packOneWrong : ChangeSpec := { name := "packOne", fn := fun _ => fun
  | [d1, d2] => { results := [.lit (.bool false)], args := [d1, d2] }
  | _ => none }
def PackOneWrongFalsely : Prop := packOneRow.holds Tryz.pinned (OpenSpec.ofChange packOneWrong)

/- THE SECOND FORM. 'bulk': how many values and letters a reading holds, each counted each time it is reached (what is shared counts as often as it is met; a slice's spare places count too). A statement '..UptoSaid' is the law's where the arguments, and the package variables that the reading takes, are together of bulk at most 1048576: NARROWER than '..Said'. Prove '..Said' where nothing that the law and all that it calls make is longer than what came in: it says more and counts as full. Else prove '..UptoSaid'. A law counts once. -/
mutual
def uptoBulk {H : Type} : DataW H → Nat
  | .lit (.string bytes) => bytes.length + 1
  | .lit _ => 1
  | .nil => 1
  | .ptr d => uptoBulk d + 1
  | .slice elems spare => uptoBulkAll elems + uptoBulkAll spare + 1
  | .agg parts => uptoBulkAll parts + 1
  | .iface _ d => uptoBulk d + 1
  | .map entries => uptoBulkEntries entries + 1
  | .held _ => 1
def uptoBulkAll {H : Type} : List (DataW H) → Nat
  | [] => 0
  | d :: r => uptoBulk d + uptoBulkAll r
def uptoBulkEntries {H : Type} : List (Lit × DataW H) → Nat
  | [] => 0
  | x :: r => uptoBulkEntry x + uptoBulkEntries r
def uptoBulkEntry {H : Type} : Lit × DataW H → Nat
  | (.string bytes, d) => bytes.length + uptoBulk d + 1
  | (_, d) => uptoBulk d + 1
 end
def uptoSmall : (H : Type) → List (DataW H) → Bool := fun _ ds => decide (uptoBulkAll ds ≤ 1048576)
def OpenSpec.upto (s : _root_.Go.ChangeSpec) : _root_.Go.OpenSpec := { _root_.Go.OpenSpec.ofChange s with cond := some uptoSmall }

/-- 'moidorelaw07.PackOrder', WHERE WHAT IT READS IS OF BULK AT MOST 1048576: true; the input reads as it did. -/
def packOrderUptoRow : OpenClaim := { program := "ytfopgaijfeeioaagreat", sum := "cc239292c1f6edd15de4ff48b3f124aeae056c1ea9ec44a42945b56d88e586d2", func := "moidore/moidorelaw07.PackOrder", spec := "packOrder", inPlace := ["math.Float64frombits", "math.Float64bits", "internal/bytealg.abigen_runtime_cmpstring", "internal/bytealg.Compare"], unfollowed := true, recurses := true, apart := false, narrowed := true }
def PackOrderUptoSaid : Prop := packOrderUptoRow.holds Tryz.pinned (OpenSpec.upto packOrderSpec)

/-- 'moidorelaw07.PackPuts', WHERE WHAT IT READS IS OF BULK AT MOST 1048576: true; the input reads as it did. -/
def packPutsUptoRow : OpenClaim := { program := "ytfopgaijfeeioaagreat", sum := "cc239292c1f6edd15de4ff48b3f124aeae056c1ea9ec44a42945b56d88e586d2", func := "moidore/moidorelaw07.PackPuts", spec := "packPuts", inPlace := ["math.Float64frombits", "math.Float64bits", "internal/bytealg.abigen_runtime_cmpstring", "internal/bytealg.Compare"], unfollowed := true, recurses := true, apart := false, narrowed := true }
def PackPutsUptoSaid : Prop := packPutsUptoRow.holds Tryz.pinned (OpenSpec.upto packPutsSpec)

/-- 'moidorelaw07.PackGets', WHERE WHAT IT READS IS OF BULK AT MOST 1048576: true; the input reads as it did. -/
def packGetsUptoRow : OpenClaim := { program := "ytfopgaijfeeioaagreat", sum := "cc239292c1f6edd15de4ff48b3f124aeae056c1ea9ec44a42945b56d88e586d2", func := "moidore/moidorelaw07.PackGets", spec := "packGets", inPlace := ["math.Float64frombits", "math.Float64bits", "internal/bytealg.abigen_runtime_cmpstring", "internal/bytealg.Compare"], unfollowed := true, recurses := true, apart := false, narrowed := true }
def PackGetsUptoSaid : Prop := packGetsUptoRow.holds Tryz.pinned (OpenSpec.upto packGetsSpec)

/-- 'moidorelaw07.PackBends', WHERE WHAT IT READS IS OF BULK AT MOST 1048576: true; the input reads as it did. -/
def packBendsUptoRow : OpenClaim := { program := "ytfopgaijfeeioaagreat", sum := "cc239292c1f6edd15de4ff48b3f124aeae056c1ea9ec44a42945b56d88e586d2", func := "moidore/moidorelaw07.PackBends", spec := "packBends", inPlace := ["math.Float64frombits", "math.Float64bits", "internal/bytealg.abigen_runtime_cmpstring", "internal/bytealg.Compare"], unfollowed := true, recurses := true, apart := false, narrowed := true }
def PackBendsUptoSaid : Prop := packBendsUptoRow.holds Tryz.pinned (OpenSpec.upto packBendsSpec)

/-- 'moidorelaw07.PackRound', WHERE WHAT IT READS IS OF BULK AT MOST 1048576: true; the input reads as it did. -/
def packRoundUptoRow : OpenClaim := { program := "ytfopgaijfeeioaagreat", sum := "cc239292c1f6edd15de4ff48b3f124aeae056c1ea9ec44a42945b56d88e586d2", func := "moidore/moidorelaw07.PackRound", spec := "packRound", inPlace := ["math.Float64frombits", "math.Float64bits", "internal/bytealg.abigen_runtime_cmpstring", "internal/bytealg.Compare"], unfollowed := true, recurses := true, apart := false, narrowed := true }
def PackRoundUptoSaid : Prop := packRoundUptoRow.holds Tryz.pinned (OpenSpec.upto packRoundSpec)

/-- 'moidorelaw07.PackOne', WHERE WHAT IT READS IS OF BULK AT MOST 1048576: true; the input reads as it did. -/
def packOneUptoRow : OpenClaim := { program := "ytfopgaijfeeioaagreat", sum := "cc239292c1f6edd15de4ff48b3f124aeae056c1ea9ec44a42945b56d88e586d2", func := "moidore/moidorelaw07.PackOne", spec := "packOne", inPlace := ["math.Float64frombits", "math.Float64bits", "internal/bytealg.abigen_runtime_cmpstring", "internal/bytealg.Compare"], unfollowed := true, recurses := true, apart := false, narrowed := true }
def PackOneUptoSaid : Prop := packOneUptoRow.holds Tryz.pinned (OpenSpec.upto packOneSpec)

end Rows
end Go.Proofs.YtfopgaijfeeioaaGreat
