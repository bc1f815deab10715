/-
  No cell of these rows narrows 'for every input' (looked for: loops, veiled, ifaces, maps, wideKeys, modest, calm, conditions, laid).
  DERIVED. THE GIVEN ROWS OF THIS SEAT. 4 by the template 'for every input the law returns true; each argument reads behind the call as it read before'; 0 by the template 'total and deterministic' (their statements: YtlnckcgbpilmdaaGreatTotals.lean).
  GIVEN WITH THE SEED: the statements are not yours to turn. If you find one false, say at which input.
  Laid BY PROGRAM, IN A SANDBOX (cutbox-rows.mjs): the forced cells as the released guide's own fill.sh prints them over the translation af0ee0dc86f41064… (all of the seat's roots in one cut). By AI agents, Wed Nov 11 2026. No macro, syntax, notation, axiom, sorry.
-/
import Derived.Test.YtlnckcgbpilmdaaGreatChecked
import GoSem.Claim
import GoSem.ClaimJoined
import GoSem.ClaimMapViews
import Derived.JoinedTies
import Derived.KernelRfl
namespace Go.Proofs.YtlnckcgbpilmdaaGreat
/- THE CELL 'sum', in the pinned program and in every row, IS THE sha256 OF THE DUMP (.gsa) THAT YtlnckcgbpilmdaaGreatProg.lean LOADS. Nothing in Lean hashes anything: it is a label: what it is worth is what the hold of that sum in a sandbox is worth. -/
noncomputable def Tryz.pinned : Pinned := { name := "ytlnckcgbpilmdaagreat", sum := "af0ee0dc86f41064b0304743ba40b4d38df81b5d29b6c902ad7c9cbff99bc725", checked := Tryz.checked }
namespace Rows
def none {H : Type} : Left H := { results := [], args := [] }

/-- 'moidorelaw05.ValueSums': WHATEVER THE INPUT: true; the input reads as it did. -/
def valueSumsSpec : ChangeSpec := { name := "valueSums", fn := fun _ => fun
  | [d1, d2, d3, d4] => { results := [.lit (.bool true)], args := [d1, d2, d3, d4] }
  | _ => none }
def valueSumsRow : OpenClaim := { program := "ytlnckcgbpilmdaagreat", sum := "af0ee0dc86f41064b0304743ba40b4d38df81b5d29b6c902ad7c9cbff99bc725", func := "moidore/moidorelaw05.ValueSums", spec := "valueSums", inPlace := ["internal/bytealg.Compare", "internal/bytealg.abigen_runtime_cmpstring", "math/bits.Add64"], unfollowed := true, recurses := true, plainKeys := false, apart := false }
def ValueSumsSaid : Prop := valueSumsRow.holds Tryz.pinned (OpenSpec.ofChange valueSumsSpec)

/-- ITS FALSE NEIGHBOUR: 'it returns false'. Refute it at one input. -/
def valueSumsWrong : ChangeSpec := { name := "valueSums", fn := fun _ => fun
  | [d1, d2, d3, d4] => { results := [.lit (.bool false)], args := [d1, d2, d3, d4] }
  | _ => none }
def ValueSumsWrongFalsely : Prop := valueSumsRow.holds Tryz.pinned (OpenSpec.ofChange valueSumsWrong)

/-- 'moidorelaw05.ValueTells': WHATEVER THE INPUT: true; the input reads as it did. -/
def valueTellsSpec : ChangeSpec := { name := "valueTells", fn := fun _ => fun
  | [d1, d2, d3, d4] => { results := [.lit (.bool true)], args := [d1, d2, d3, d4] }
  | _ => none }
def valueTellsRow : OpenClaim := { program := "ytlnckcgbpilmdaagreat", sum := "af0ee0dc86f41064b0304743ba40b4d38df81b5d29b6c902ad7c9cbff99bc725", func := "moidore/moidorelaw05.ValueTells", spec := "valueTells", inPlace := ["internal/bytealg.Compare", "internal/bytealg.abigen_runtime_cmpstring", "math/bits.Add64"], unfollowed := true, recurses := true, plainKeys := false, apart := false }
def ValueTellsSaid : Prop := valueTellsRow.holds Tryz.pinned (OpenSpec.ofChange valueTellsSpec)

/-- ITS FALSE NEIGHBOUR: 'it returns false'. Refute it at one input. -/
def valueTellsWrong : ChangeSpec := { name := "valueTells", fn := fun _ => fun
  | [d1, d2, d3, d4] => { results := [.lit (.bool false)], args := [d1, d2, d3, d4] }
  | _ => none }
def ValueTellsWrongFalsely : Prop := valueTellsRow.holds Tryz.pinned (OpenSpec.ofChange valueTellsWrong)

/-- 'moidorelaw05.ValueWides': WHATEVER THE INPUT: true; the input reads as it did. -/
def valueWidesSpec : ChangeSpec := { name := "valueWides", fn := fun _ => fun
  | [d1, d2, d3] => { results := [.lit (.bool true)], args := [d1, d2, d3] }
  | _ => none }
def valueWidesRow : OpenClaim := { program := "ytlnckcgbpilmdaagreat", sum := "af0ee0dc86f41064b0304743ba40b4d38df81b5d29b6c902ad7c9cbff99bc725", func := "moidore/moidorelaw05.ValueWides", spec := "valueWides", inPlace := ["internal/bytealg.Compare", "internal/bytealg.abigen_runtime_cmpstring", "math/bits.Add64"], unfollowed := true, recurses := true, plainKeys := false, apart := false }
def ValueWidesSaid : Prop := valueWidesRow.holds Tryz.pinned (OpenSpec.ofChange valueWidesSpec)

/-- ITS FALSE NEIGHBOUR: 'it returns false'. Refute it at one input. -/
def valueWidesWrong : ChangeSpec := { name := "valueWides", fn := fun _ => fun
  | [d1, d2, d3] => { results := [.lit (.bool false)], args := [d1, d2, d3] }
  | _ => none }
def ValueWidesWrongFalsely : Prop := valueWidesRow.holds Tryz.pinned (OpenSpec.ofChange valueWidesWrong)

/-- 'moidorelaw05.ValueEnds': WHATEVER THE INPUT: true; the input reads as it did. -/
def valueEndsSpec : ChangeSpec := { name := "valueEnds", fn := fun _ => fun
  | [] => { results := [.lit (.bool true)], args := [] }
  | _ => none }
def valueEndsRow : OpenClaim := { program := "ytlnckcgbpilmdaagreat", sum := "af0ee0dc86f41064b0304743ba40b4d38df81b5d29b6c902ad7c9cbff99bc725", func := "moidore/moidorelaw05.ValueEnds", spec := "valueEnds", inPlace := ["internal/bytealg.Compare", "internal/bytealg.abigen_runtime_cmpstring", "math/bits.Add64"], unfollowed := true, recurses := true, plainKeys := false, apart := false }
def ValueEndsSaid : Prop := valueEndsRow.holds Tryz.pinned (OpenSpec.ofChange valueEndsSpec)

/-- ITS FALSE NEIGHBOUR: 'it returns false'. Refute it at one input. -/
def valueEndsWrong : ChangeSpec := { name := "valueEnds", fn := fun _ => fun
  | [] => { results := [.lit (.bool false)], args := [] }
  | _ => none }
def ValueEndsWrongFalsely : Prop := valueEndsRow.holds Tryz.pinned (OpenSpec.ofChange valueEndsWrong)

/- THE SECOND FORM. 'bulk': how many values and letters a reading holds, each counted each time it is reached (what is shared counts as often as it is met; a slice's spare places count too). A statement '..UptoSaid' is the law's where the arguments, and the package variables that the reading takes, are together of bulk at most 1048576: NARROWER than '..Said'. Prove '..Said' where nothing that the law and all that it calls make is longer than what came in: it says more and counts as full. Else prove '..UptoSaid'. A law counts once. -/
mutual
def uptoBulk {H : Type} : DataW H → Nat
  | .lit (.string bytes) => bytes.length + 1
  | .lit _ => 1
  | .nil => 1
  | .ptr d => uptoBulk d + 1
  | .slice elems spare => uptoBulkAll elems + uptoBulkAll spare + 1
  | .agg parts => uptoBulkAll parts + 1
  | .iface _ d => uptoBulk d + 1
  | .map entries => uptoBulkEntries entries + 1
  | .held _ => 1
def uptoBulkAll {H : Type} : List (DataW H) → Nat
  | [] => 0
  | d :: r => uptoBulk d + uptoBulkAll r
def uptoBulkEntries {H : Type} : List (Lit × DataW H) → Nat
  | [] => 0
  | x :: r => uptoBulkEntry x + uptoBulkEntries r
def uptoBulkEntry {H : Type} : Lit × DataW H → Nat
  | (.string bytes, d) => bytes.length + uptoBulk d + 1
  | (_, d) => uptoBulk d + 1
 end
def uptoSmall : (H : Type) → List (DataW H) → Bool := fun _ ds => decide (uptoBulkAll ds ≤ 1048576)
def OpenSpec.upto (s : _root_.Go.ChangeSpec) : _root_.Go.OpenSpec := { _root_.Go.OpenSpec.ofChange s with cond := some uptoSmall }

/-- 'moidorelaw05.ValueSums', WHERE WHAT IT READS IS OF BULK AT MOST 1048576: true; the input reads as it did. -/
def valueSumsUptoRow : OpenClaim := { program := "ytlnckcgbpilmdaagreat", sum := "af0ee0dc86f41064b0304743ba40b4d38df81b5d29b6c902ad7c9cbff99bc725", func := "moidore/moidorelaw05.ValueSums", spec := "valueSums", inPlace := ["internal/bytealg.Compare", "internal/bytealg.abigen_runtime_cmpstring", "math/bits.Add64"], unfollowed := true, recurses := true, plainKeys := false, apart := false, narrowed := true }
def ValueSumsUptoSaid : Prop := valueSumsUptoRow.holds Tryz.pinned (OpenSpec.upto valueSumsSpec)

/-- 'moidorelaw05.ValueTells', WHERE WHAT IT READS IS OF BULK AT MOST 1048576: true; the input reads as it did. -/
def valueTellsUptoRow : OpenClaim := { program := "ytlnckcgbpilmdaagreat", sum := "af0ee0dc86f41064b0304743ba40b4d38df81b5d29b6c902ad7c9cbff99bc725", func := "moidore/moidorelaw05.ValueTells", spec := "valueTells", inPlace := ["internal/bytealg.Compare", "internal/bytealg.abigen_runtime_cmpstring", "math/bits.Add64"], unfollowed := true, recurses := true, plainKeys := false, apart := false, narrowed := true }
def ValueTellsUptoSaid : Prop := valueTellsUptoRow.holds Tryz.pinned (OpenSpec.upto valueTellsSpec)

/-- 'moidorelaw05.ValueWides', WHERE WHAT IT READS IS OF BULK AT MOST 1048576: true; the input reads as it did. -/
def valueWidesUptoRow : OpenClaim := { program := "ytlnckcgbpilmdaagreat", sum := "af0ee0dc86f41064b0304743ba40b4d38df81b5d29b6c902ad7c9cbff99bc725", func := "moidore/moidorelaw05.ValueWides", spec := "valueWides", inPlace := ["internal/bytealg.Compare", "internal/bytealg.abigen_runtime_cmpstring", "math/bits.Add64"], unfollowed := true, recurses := true, plainKeys := false, apart := false, narrowed := true }
def ValueWidesUptoSaid : Prop := valueWidesUptoRow.holds Tryz.pinned (OpenSpec.upto valueWidesSpec)

/-- 'moidorelaw05.ValueEnds', WHERE WHAT IT READS IS OF BULK AT MOST 1048576: true; the input reads as it did. -/
def valueEndsUptoRow : OpenClaim := { program := "ytlnckcgbpilmdaagreat", sum := "af0ee0dc86f41064b0304743ba40b4d38df81b5d29b6c902ad7c9cbff99bc725", func := "moidore/moidorelaw05.ValueEnds", spec := "valueEnds", inPlace := ["internal/bytealg.Compare", "internal/bytealg.abigen_runtime_cmpstring", "math/bits.Add64"], unfollowed := true, recurses := true, plainKeys := false, apart := false, narrowed := true }
def ValueEndsUptoSaid : Prop := valueEndsUptoRow.holds Tryz.pinned (OpenSpec.upto valueEndsSpec)

end Rows
end Go.Proofs.YtlnckcgbpilmdaaGreat
