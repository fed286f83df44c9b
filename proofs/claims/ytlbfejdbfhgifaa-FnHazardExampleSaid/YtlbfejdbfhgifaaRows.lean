/-
  No cell of these rows narrows 'for every input' (looked for: loops, veiled, ifaces, maps, wideKeys, modest, calm, conditions, laid).
  DERIVED. THE GIVEN ROWS OF THIS SEAT. 7 by the template 'for every input the law returns true; each argument reads behind the call as it read before'; 0 by the template 'total and deterministic' (their statements: YtlbfejdbfhgifaaTotals.lean).
  GIVEN WITH THE SEED: the statements are not yours to turn. If you find one false, say at which input.
  Laid BY PROGRAM, IN A SANDBOX (cutbox-rows.mjs): the forced cells as the released guide's own fill.sh prints them over the translation d93844b56541dce9… (all of the seat's roots in one cut). By AI agents, Wed Nov 11 2026. No macro, syntax, notation, axiom, sorry.
-/
import Derived.Test.YtlbfejdbfhgifaaChecked
import GoSem.Claim
import GoSem.ClaimJoined
import GoSem.ClaimMapViews
import Derived.JoinedTies
import Derived.KernelRfl
namespace Go.Proofs.Ytlbfejdbfhgifaa
/- THE CELL 'sum', in the pinned program and in every row, IS THE sha256 OF THE DUMP (.gsa) THAT YtlbfejdbfhgifaaProg.lean LOADS. Nothing in Lean hashes anything: it is a label: what it is worth is what the hold of that sum in a sandbox is worth. -/
noncomputable def Try.pinned : Pinned := { name := "ytlbfejdbfhgifaa", sum := "d93844b56541dce9ff619064c2f85f084869da1e0760c843644b90c97b5a8811", checked := Try.checked }
namespace Rows
def none {H : Type} : Left H := { results := [], args := [] }

/-- 'laws.FnExactHazards': WHATEVER THE INPUT: true; the input reads as it did. -/
def fnExactHazardsSpec : ChangeSpec := { name := "fnExactHazards", fn := fun _ => fun
  | [d] => { results := [.lit (.bool true)], args := [d] }
  | _ => none }
def fnExactHazardsRow : OpenClaim := { program := "ytlbfejdbfhgifaa", sum := "d93844b56541dce9ff619064c2f85f084869da1e0760c843644b90c97b5a8811", func := "loop.example/fpgatoolchain/laws.FnExactHazards", spec := "fnExactHazards", plainKeys := false, apart := false }
def FnExactHazardsSaid : Prop := fnExactHazardsRow.holds Try.pinned (OpenSpec.ofChange fnExactHazardsSpec)

/-- ITS FALSE NEIGHBOUR: 'it returns false'. Refute it at one input. -/
def fnExactHazardsWrong : ChangeSpec := { name := "fnExactHazards", fn := fun _ => fun
  | [d] => { results := [.lit (.bool false)], args := [d] }
  | _ => none }
def FnExactHazardsWrongFalsely : Prop := fnExactHazardsRow.holds Try.pinned (OpenSpec.ofChange fnExactHazardsWrong)

/-- 'laws.FnExactHazardFree': WHATEVER THE INPUT: true; the input reads as it did. -/
def fnExactHazardFreeSpec : ChangeSpec := { name := "fnExactHazardFree", fn := fun _ => fun
  | [d] => { results := [.lit (.bool true)], args := [d] }
  | _ => none }
def fnExactHazardFreeRow : OpenClaim := { program := "ytlbfejdbfhgifaa", sum := "d93844b56541dce9ff619064c2f85f084869da1e0760c843644b90c97b5a8811", func := "loop.example/fpgatoolchain/laws.FnExactHazardFree", spec := "fnExactHazardFree", plainKeys := false, apart := false }
def FnExactHazardFreeSaid : Prop := fnExactHazardFreeRow.holds Try.pinned (OpenSpec.ofChange fnExactHazardFreeSpec)

/-- ITS FALSE NEIGHBOUR: 'it returns false'. Refute it at one input. -/
def fnExactHazardFreeWrong : ChangeSpec := { name := "fnExactHazardFree", fn := fun _ => fun
  | [d] => { results := [.lit (.bool false)], args := [d] }
  | _ => none }
def FnExactHazardFreeWrongFalsely : Prop := fnExactHazardFreeRow.holds Try.pinned (OpenSpec.ofChange fnExactHazardFreeWrong)

/-- 'laws.FnExactMinimize': WHATEVER THE INPUT: true; the input reads as it did. -/
def fnExactMinimizeSpec : ChangeSpec := { name := "fnExactMinimize", fn := fun _ => fun
  | [d] => { results := [.lit (.bool true)], args := [d] }
  | _ => none }
def fnExactMinimizeRow : OpenClaim := { program := "ytlbfejdbfhgifaa", sum := "d93844b56541dce9ff619064c2f85f084869da1e0760c843644b90c97b5a8811", func := "loop.example/fpgatoolchain/laws.FnExactMinimize", spec := "fnExactMinimize", unfollowed := true, recurses := true, plainKeys := false, apart := false }
def FnExactMinimizeSaid : Prop := fnExactMinimizeRow.holds Try.pinned (OpenSpec.ofChange fnExactMinimizeSpec)

/-- ITS FALSE NEIGHBOUR: 'it returns false'. Refute it at one input. -/
def fnExactMinimizeWrong : ChangeSpec := { name := "fnExactMinimize", fn := fun _ => fun
  | [d] => { results := [.lit (.bool false)], args := [d] }
  | _ => none }
def FnExactMinimizeWrongFalsely : Prop := fnExactMinimizeRow.holds Try.pinned (OpenSpec.ofChange fnExactMinimizeWrong)

/-- 'laws.FnAdderTable': WHATEVER THE INPUT: true; the input reads as it did. -/
def fnAdderTableSpec : ChangeSpec := { name := "fnAdderTable", fn := fun _ => fun
  | [d] => { results := [.lit (.bool true)], args := [d] }
  | _ => none }
def fnAdderTableRow : OpenClaim := { program := "ytlbfejdbfhgifaa", sum := "d93844b56541dce9ff619064c2f85f084869da1e0760c843644b90c97b5a8811", func := "loop.example/fpgatoolchain/laws.FnAdderTable", spec := "fnAdderTable", unfollowed := true, recurses := true, plainKeys := false, apart := false }
def FnAdderTableSaid : Prop := fnAdderTableRow.holds Try.pinned (OpenSpec.ofChange fnAdderTableSpec)

/-- ITS FALSE NEIGHBOUR: 'it returns false'. Refute it at one input. -/
def fnAdderTableWrong : ChangeSpec := { name := "fnAdderTable", fn := fun _ => fun
  | [d] => { results := [.lit (.bool false)], args := [d] }
  | _ => none }
def FnAdderTableWrongFalsely : Prop := fnAdderTableRow.holds Try.pinned (OpenSpec.ofChange fnAdderTableWrong)

/-- 'laws.FnHazardExample': WHATEVER THE INPUT: true; the input reads as it did. -/
def fnHazardExampleSpec : ChangeSpec := { name := "fnHazardExample", fn := fun _ => fun
  | [d] => { results := [.lit (.bool true)], args := [d] }
  | _ => none }
def fnHazardExampleRow : OpenClaim := { program := "ytlbfejdbfhgifaa", sum := "d93844b56541dce9ff619064c2f85f084869da1e0760c843644b90c97b5a8811", func := "loop.example/fpgatoolchain/laws.FnHazardExample", spec := "fnHazardExample", plainKeys := false, apart := false }
def FnHazardExampleSaid : Prop := fnHazardExampleRow.holds Try.pinned (OpenSpec.ofChange fnHazardExampleSpec)

/-- ITS FALSE NEIGHBOUR: 'it returns false'. Refute it at one input. -/
def fnHazardExampleWrong : ChangeSpec := { name := "fnHazardExample", fn := fun _ => fun
  | [d] => { results := [.lit (.bool false)], args := [d] }
  | _ => none }
def FnHazardExampleWrongFalsely : Prop := fnHazardExampleRow.holds Try.pinned (OpenSpec.ofChange fnHazardExampleWrong)

/-- 'laws.FnMachineExample': WHATEVER THE INPUT: true; the input reads as it did. -/
def fnMachineExampleSpec : ChangeSpec := { name := "fnMachineExample", fn := fun _ => fun
  | [d] => { results := [.lit (.bool true)], args := [d] }
  | _ => none }
def fnMachineExampleRow : OpenClaim := { program := "ytlbfejdbfhgifaa", sum := "d93844b56541dce9ff619064c2f85f084869da1e0760c843644b90c97b5a8811", func := "loop.example/fpgatoolchain/laws.FnMachineExample", spec := "fnMachineExample", unfollowed := true, recurses := true, plainKeys := false, apart := false }
def FnMachineExampleSaid : Prop := fnMachineExampleRow.holds Try.pinned (OpenSpec.ofChange fnMachineExampleSpec)

/-- ITS FALSE NEIGHBOUR: 'it returns false'. Refute it at one input. -/
def fnMachineExampleWrong : ChangeSpec := { name := "fnMachineExample", fn := fun _ => fun
  | [d] => { results := [.lit (.bool false)], args := [d] }
  | _ => none }
def FnMachineExampleWrongFalsely : Prop := fnMachineExampleRow.holds Try.pinned (OpenSpec.ofChange fnMachineExampleWrong)

/-- 'laws.FnSweepHazard': WHATEVER THE INPUT: true; the input reads as it did. -/
def fnSweepHazardSpec : ChangeSpec := { name := "fnSweepHazard", fn := fun _ => fun
  | [d] => { results := [.lit (.bool true)], args := [d] }
  | _ => none }
def fnSweepHazardRow : OpenClaim := { program := "ytlbfejdbfhgifaa", sum := "d93844b56541dce9ff619064c2f85f084869da1e0760c843644b90c97b5a8811", func := "loop.example/fpgatoolchain/laws.FnSweepHazard", spec := "fnSweepHazard", unfollowed := true, recurses := true, plainKeys := false, apart := false }
def FnSweepHazardSaid : Prop := fnSweepHazardRow.holds Try.pinned (OpenSpec.ofChange fnSweepHazardSpec)

/-- ITS FALSE NEIGHBOUR: 'it returns false'. Refute it at one input. -/
def fnSweepHazardWrong : ChangeSpec := { name := "fnSweepHazard", fn := fun _ => fun
  | [d] => { results := [.lit (.bool false)], args := [d] }
  | _ => none }
def FnSweepHazardWrongFalsely : Prop := fnSweepHazardRow.holds Try.pinned (OpenSpec.ofChange fnSweepHazardWrong)

/- THE SECOND FORM. 'bulk': how many values and letters a reading holds, each counted each time it is reached (what is shared counts as often as it is met; a slice's spare places count too). A statement '..UptoSaid' is the law's where the arguments, and the package variables that the reading takes, are together of bulk at most 1048576: NARROWER than '..Said'. Prove '..Said' where nothing that the law and all that it calls make is longer than what came in: it says more and counts as full. Else prove '..UptoSaid'. A law counts once. -/
mutual
def uptoBulk {H : Type} : DataW H → Nat
  | .lit (.string bytes) => bytes.length + 1
  | .lit _ => 1
  | .nil => 1
  | .ptr d => uptoBulk d + 1
  | .slice elems spare => uptoBulkAll elems + uptoBulkAll spare + 1
  | .agg parts => uptoBulkAll parts + 1
  | .iface _ d => uptoBulk d + 1
  | .map entries => uptoBulkEntries entries + 1
  | .held _ => 1
def uptoBulkAll {H : Type} : List (DataW H) → Nat
  | [] => 0
  | d :: r => uptoBulk d + uptoBulkAll r
def uptoBulkEntries {H : Type} : List (Lit × DataW H) → Nat
  | [] => 0
  | x :: r => uptoBulkEntry x + uptoBulkEntries r
def uptoBulkEntry {H : Type} : Lit × DataW H → Nat
  | (.string bytes, d) => bytes.length + uptoBulk d + 1
  | (_, d) => uptoBulk d + 1
 end
def uptoSmall : (H : Type) → List (DataW H) → Bool := fun _ ds => decide (uptoBulkAll ds ≤ 1048576)
def OpenSpec.upto (s : _root_.Go.ChangeSpec) : _root_.Go.OpenSpec := { _root_.Go.OpenSpec.ofChange s with cond := some uptoSmall }

/-- 'laws.FnExactHazards', WHERE WHAT IT READS IS OF BULK AT MOST 1048576: true; the input reads as it did. -/
def fnExactHazardsUptoRow : OpenClaim := { program := "ytlbfejdbfhgifaa", sum := "d93844b56541dce9ff619064c2f85f084869da1e0760c843644b90c97b5a8811", func := "loop.example/fpgatoolchain/laws.FnExactHazards", spec := "fnExactHazards", plainKeys := false, apart := false, narrowed := true }
def FnExactHazardsUptoSaid : Prop := fnExactHazardsUptoRow.holds Try.pinned (OpenSpec.upto fnExactHazardsSpec)

/-- 'laws.FnExactHazardFree', WHERE WHAT IT READS IS OF BULK AT MOST 1048576: true; the input reads as it did. -/
def fnExactHazardFreeUptoRow : OpenClaim := { program := "ytlbfejdbfhgifaa", sum := "d93844b56541dce9ff619064c2f85f084869da1e0760c843644b90c97b5a8811", func := "loop.example/fpgatoolchain/laws.FnExactHazardFree", spec := "fnExactHazardFree", plainKeys := false, apart := false, narrowed := true }
def FnExactHazardFreeUptoSaid : Prop := fnExactHazardFreeUptoRow.holds Try.pinned (OpenSpec.upto fnExactHazardFreeSpec)

/-- 'laws.FnExactMinimize', WHERE WHAT IT READS IS OF BULK AT MOST 1048576: true; the input reads as it did. -/
def fnExactMinimizeUptoRow : OpenClaim := { program := "ytlbfejdbfhgifaa", sum := "d93844b56541dce9ff619064c2f85f084869da1e0760c843644b90c97b5a8811", func := "loop.example/fpgatoolchain/laws.FnExactMinimize", spec := "fnExactMinimize", unfollowed := true, recurses := true, plainKeys := false, apart := false, narrowed := true }
def FnExactMinimizeUptoSaid : Prop := fnExactMinimizeUptoRow.holds Try.pinned (OpenSpec.upto fnExactMinimizeSpec)

/-- 'laws.FnAdderTable', WHERE WHAT IT READS IS OF BULK AT MOST 1048576: true; the input reads as it did. -/
def fnAdderTableUptoRow : OpenClaim := { program := "ytlbfejdbfhgifaa", sum := "d93844b56541dce9ff619064c2f85f084869da1e0760c843644b90c97b5a8811", func := "loop.example/fpgatoolchain/laws.FnAdderTable", spec := "fnAdderTable", unfollowed := true, recurses := true, plainKeys := false, apart := false, narrowed := true }
def FnAdderTableUptoSaid : Prop := fnAdderTableUptoRow.holds Try.pinned (OpenSpec.upto fnAdderTableSpec)

/-- 'laws.FnHazardExample', WHERE WHAT IT READS IS OF BULK AT MOST 1048576: true; the input reads as it did. -/
def fnHazardExampleUptoRow : OpenClaim := { program := "ytlbfejdbfhgifaa", sum := "d93844b56541dce9ff619064c2f85f084869da1e0760c843644b90c97b5a8811", func := "loop.example/fpgatoolchain/laws.FnHazardExample", spec := "fnHazardExample", plainKeys := false, apart := false, narrowed := true }
def FnHazardExampleUptoSaid : Prop := fnHazardExampleUptoRow.holds Try.pinned (OpenSpec.upto fnHazardExampleSpec)

/-- 'laws.FnMachineExample', WHERE WHAT IT READS IS OF BULK AT MOST 1048576: true; the input reads as it did. -/
def fnMachineExampleUptoRow : OpenClaim := { program := "ytlbfejdbfhgifaa", sum := "d93844b56541dce9ff619064c2f85f084869da1e0760c843644b90c97b5a8811", func := "loop.example/fpgatoolchain/laws.FnMachineExample", spec := "fnMachineExample", unfollowed := true, recurses := true, plainKeys := false, apart := false, narrowed := true }
def FnMachineExampleUptoSaid : Prop := fnMachineExampleUptoRow.holds Try.pinned (OpenSpec.upto fnMachineExampleSpec)

/-- 'laws.FnSweepHazard', WHERE WHAT IT READS IS OF BULK AT MOST 1048576: true; the input reads as it did. -/
def fnSweepHazardUptoRow : OpenClaim := { program := "ytlbfejdbfhgifaa", sum := "d93844b56541dce9ff619064c2f85f084869da1e0760c843644b90c97b5a8811", func := "loop.example/fpgatoolchain/laws.FnSweepHazard", spec := "fnSweepHazard", unfollowed := true, recurses := true, plainKeys := false, apart := false, narrowed := true }
def FnSweepHazardUptoSaid : Prop := fnSweepHazardUptoRow.holds Try.pinned (OpenSpec.upto fnSweepHazardSpec)

end Rows
end Go.Proofs.Ytlbfejdbfhgifaa
