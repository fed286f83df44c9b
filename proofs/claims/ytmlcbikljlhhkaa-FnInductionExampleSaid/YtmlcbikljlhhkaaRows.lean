/-
  No cell of these rows narrows 'for every input' (looked for: loops, veiled, ifaces, maps, wideKeys, modest, calm, conditions, laid).
  DERIVED. THE GIVEN ROWS OF THIS SEAT. 12 by the template 'for every input the law returns true; each argument reads behind the call as it read before'; 0 by the template 'total and deterministic' (their statements: YtmlcbikljlhhkaaTotals.lean).
  GIVEN WITH THE SEED: the statements are not yours to turn. If you find one false, say at which input.
  Laid BY PROGRAM, IN A SANDBOX (cutbox-rows.mjs): the forced cells as the released guide's own fill.sh prints them over the translation 0761eccc16b828e0… (all of the seat's roots in one cut). By AI agents, Wed Nov 11 2026. No macro, syntax, notation, axiom, sorry.
-/
import Derived.Test.YtmlcbikljlhhkaaChecked
import GoSem.Claim
import GoSem.ClaimJoined
import GoSem.ClaimMapViews
import Derived.JoinedTies
import Derived.KernelRfl
namespace Go.Proofs.Ytmlcbikljlhhkaa
/- THE CELL 'sum', in the pinned program and in every row, IS THE sha256 OF THE DUMP (.gsa) THAT YtmlcbikljlhhkaaProg.lean LOADS. Nothing in Lean hashes anything: it is a label: what it is worth is what the hold of that sum in a sandbox is worth. -/
noncomputable def Try.pinned : Pinned := { name := "ytmlcbikljlhhkaa", sum := "0761eccc16b828e0914b0c30c67fe31e971b2886f60276b6d9c1f4e45bf821b9", checked := Try.checked }
namespace Rows
def none {H : Type} : Left H := { results := [], args := [] }

/-- 'laws.FnExactTableOf': WHATEVER THE INPUT: true; the input reads as it did. -/
def fnExactTableOfSpec : ChangeSpec := { name := "fnExactTableOf", fn := fun _ => fun
  | [d1, d2] => { results := [.lit (.bool true)], args := [d1, d2] }
  | _ => none }
def fnExactTableOfRow : OpenClaim := { program := "ytmlcbikljlhhkaa", sum := "0761eccc16b828e0914b0c30c67fe31e971b2886f60276b6d9c1f4e45bf821b9", func := "loop.example/fpgatoolchain/laws.FnExactTableOf", spec := "fnExactTableOf", plainKeys := false, apart := false }
def FnExactTableOfSaid : Prop := fnExactTableOfRow.holds Try.pinned (OpenSpec.ofChange fnExactTableOfSpec)

/-- ITS FALSE NEIGHBOUR: 'it returns false'. Refute it at one input. -/
def fnExactTableOfWrong : ChangeSpec := { name := "fnExactTableOf", fn := fun _ => fun
  | [d1, d2] => { results := [.lit (.bool false)], args := [d1, d2] }
  | _ => none }
def FnExactTableOfWrongFalsely : Prop := fnExactTableOfRow.holds Try.pinned (OpenSpec.ofChange fnExactTableOfWrong)

/-- 'laws.FnExactEvalTernary': WHATEVER THE INPUT: true; the input reads as it did. -/
def fnExactEvalTernarySpec : ChangeSpec := { name := "fnExactEvalTernary", fn := fun _ => fun
  | [d1, d2, d3] => { results := [.lit (.bool true)], args := [d1, d2, d3] }
  | _ => none }
def fnExactEvalTernaryRow : OpenClaim := { program := "ytmlcbikljlhhkaa", sum := "0761eccc16b828e0914b0c30c67fe31e971b2886f60276b6d9c1f4e45bf821b9", func := "loop.example/fpgatoolchain/laws.FnExactEvalTernary", spec := "fnExactEvalTernary", plainKeys := false, apart := false }
def FnExactEvalTernarySaid : Prop := fnExactEvalTernaryRow.holds Try.pinned (OpenSpec.ofChange fnExactEvalTernarySpec)

/-- ITS FALSE NEIGHBOUR: 'it returns false'. Refute it at one input. -/
def fnExactEvalTernaryWrong : ChangeSpec := { name := "fnExactEvalTernary", fn := fun _ => fun
  | [d1, d2, d3] => { results := [.lit (.bool false)], args := [d1, d2, d3] }
  | _ => none }
def FnExactEvalTernaryWrongFalsely : Prop := fnExactEvalTernaryRow.holds Try.pinned (OpenSpec.ofChange fnExactEvalTernaryWrong)

/-- 'laws.FnExactResets': WHATEVER THE INPUT: true; the input reads as it did. -/
def fnExactResetsSpec : ChangeSpec := { name := "fnExactResets", fn := fun _ => fun
  | [d1, d2] => { results := [.lit (.bool true)], args := [d1, d2] }
  | _ => none }
def fnExactResetsRow : OpenClaim := { program := "ytmlcbikljlhhkaa", sum := "0761eccc16b828e0914b0c30c67fe31e971b2886f60276b6d9c1f4e45bf821b9", func := "loop.example/fpgatoolchain/laws.FnExactResets", spec := "fnExactResets", plainKeys := false, apart := false }
def FnExactResetsSaid : Prop := fnExactResetsRow.holds Try.pinned (OpenSpec.ofChange fnExactResetsSpec)

/-- ITS FALSE NEIGHBOUR: 'it returns false'. Refute it at one input. -/
def fnExactResetsWrong : ChangeSpec := { name := "fnExactResets", fn := fun _ => fun
  | [d1, d2] => { results := [.lit (.bool false)], args := [d1, d2] }
  | _ => none }
def FnExactResetsWrongFalsely : Prop := fnExactResetsRow.holds Try.pinned (OpenSpec.ofChange fnExactResetsWrong)

/-- 'laws.FnExactHazards': WHATEVER THE INPUT: true; the input reads as it did. -/
def fnExactHazardsSpec : ChangeSpec := { name := "fnExactHazards", fn := fun _ => fun
  | [d] => { results := [.lit (.bool true)], args := [d] }
  | _ => none }
def fnExactHazardsRow : OpenClaim := { program := "ytmlcbikljlhhkaa", sum := "0761eccc16b828e0914b0c30c67fe31e971b2886f60276b6d9c1f4e45bf821b9", func := "loop.example/fpgatoolchain/laws.FnExactHazards", spec := "fnExactHazards", plainKeys := false, apart := false }
def FnExactHazardsSaid : Prop := fnExactHazardsRow.holds Try.pinned (OpenSpec.ofChange fnExactHazardsSpec)

/-- ITS FALSE NEIGHBOUR: 'it returns false'. Refute it at one input. -/
def fnExactHazardsWrong : ChangeSpec := { name := "fnExactHazards", fn := fun _ => fun
  | [d] => { results := [.lit (.bool false)], args := [d] }
  | _ => none }
def FnExactHazardsWrongFalsely : Prop := fnExactHazardsRow.holds Try.pinned (OpenSpec.ofChange fnExactHazardsWrong)

/-- 'laws.FnExactHazardFree': WHATEVER THE INPUT: true; the input reads as it did. -/
def fnExactHazardFreeSpec : ChangeSpec := { name := "fnExactHazardFree", fn := fun _ => fun
  | [d] => { results := [.lit (.bool true)], args := [d] }
  | _ => none }
def fnExactHazardFreeRow : OpenClaim := { program := "ytmlcbikljlhhkaa", sum := "0761eccc16b828e0914b0c30c67fe31e971b2886f60276b6d9c1f4e45bf821b9", func := "loop.example/fpgatoolchain/laws.FnExactHazardFree", spec := "fnExactHazardFree", plainKeys := false, apart := false }
def FnExactHazardFreeSaid : Prop := fnExactHazardFreeRow.holds Try.pinned (OpenSpec.ofChange fnExactHazardFreeSpec)

/-- ITS FALSE NEIGHBOUR: 'it returns false'. Refute it at one input. -/
def fnExactHazardFreeWrong : ChangeSpec := { name := "fnExactHazardFree", fn := fun _ => fun
  | [d] => { results := [.lit (.bool false)], args := [d] }
  | _ => none }
def FnExactHazardFreeWrongFalsely : Prop := fnExactHazardFreeRow.holds Try.pinned (OpenSpec.ofChange fnExactHazardFreeWrong)

/-- 'laws.FnExactInductive': WHATEVER THE INPUT: true; the input reads as it did. -/
def fnExactInductiveSpec : ChangeSpec := { name := "fnExactInductive", fn := fun _ => fun
  | [d1, d2, d3] => { results := [.lit (.bool true)], args := [d1, d2, d3] }
  | _ => none }
def fnExactInductiveRow : OpenClaim := { program := "ytmlcbikljlhhkaa", sum := "0761eccc16b828e0914b0c30c67fe31e971b2886f60276b6d9c1f4e45bf821b9", func := "loop.example/fpgatoolchain/laws.FnExactInductive", spec := "fnExactInductive", recurses := true, plainKeys := false, apart := false }
def FnExactInductiveSaid : Prop := fnExactInductiveRow.holds Try.pinned (OpenSpec.ofChange fnExactInductiveSpec)

/-- ITS FALSE NEIGHBOUR: 'it returns false'. Refute it at one input. -/
def fnExactInductiveWrong : ChangeSpec := { name := "fnExactInductive", fn := fun _ => fun
  | [d1, d2, d3] => { results := [.lit (.bool false)], args := [d1, d2, d3] }
  | _ => none }
def FnExactInductiveWrongFalsely : Prop := fnExactInductiveRow.holds Try.pinned (OpenSpec.ofChange fnExactInductiveWrong)

/-- 'laws.FnExactInvariant': WHATEVER THE INPUT: true; the input reads as it did. -/
def fnExactInvariantSpec : ChangeSpec := { name := "fnExactInvariant", fn := fun _ => fun
  | [d1, d2] => { results := [.lit (.bool true)], args := [d1, d2] }
  | _ => none }
def fnExactInvariantRow : OpenClaim := { program := "ytmlcbikljlhhkaa", sum := "0761eccc16b828e0914b0c30c67fe31e971b2886f60276b6d9c1f4e45bf821b9", func := "loop.example/fpgatoolchain/laws.FnExactInvariant", spec := "fnExactInvariant", unfollowed := true, recurses := true, plainKeys := false, apart := false }
def FnExactInvariantSaid : Prop := fnExactInvariantRow.holds Try.pinned (OpenSpec.ofChange fnExactInvariantSpec)

/-- ITS FALSE NEIGHBOUR: 'it returns false'. Refute it at one input. -/
def fnExactInvariantWrong : ChangeSpec := { name := "fnExactInvariant", fn := fun _ => fun
  | [d1, d2] => { results := [.lit (.bool false)], args := [d1, d2] }
  | _ => none }
def FnExactInvariantWrongFalsely : Prop := fnExactInvariantRow.holds Try.pinned (OpenSpec.ofChange fnExactInvariantWrong)

/-- 'laws.FnExactFindViolation': WHATEVER THE INPUT: true; the input reads as it did. -/
def fnExactFindViolationSpec : ChangeSpec := { name := "fnExactFindViolation", fn := fun _ => fun
  | [d1, d2] => { results := [.lit (.bool true)], args := [d1, d2] }
  | _ => none }
def fnExactFindViolationRow : OpenClaim := { program := "ytmlcbikljlhhkaa", sum := "0761eccc16b828e0914b0c30c67fe31e971b2886f60276b6d9c1f4e45bf821b9", func := "loop.example/fpgatoolchain/laws.FnExactFindViolation", spec := "fnExactFindViolation", unfollowed := true, recurses := true, plainKeys := false, apart := false }
def FnExactFindViolationSaid : Prop := fnExactFindViolationRow.holds Try.pinned (OpenSpec.ofChange fnExactFindViolationSpec)

/-- ITS FALSE NEIGHBOUR: 'it returns false'. Refute it at one input. -/
def fnExactFindViolationWrong : ChangeSpec := { name := "fnExactFindViolation", fn := fun _ => fun
  | [d1, d2] => { results := [.lit (.bool false)], args := [d1, d2] }
  | _ => none }
def FnExactFindViolationWrongFalsely : Prop := fnExactFindViolationRow.holds Try.pinned (OpenSpec.ofChange fnExactFindViolationWrong)

/-- 'laws.FnExactMachineOf': WHATEVER THE INPUT: true; the input reads as it did. -/
def fnExactMachineOfSpec : ChangeSpec := { name := "fnExactMachineOf", fn := fun _ => fun
  | [d] => { results := [.lit (.bool true)], args := [d] }
  | _ => none }
def fnExactMachineOfRow : OpenClaim := { program := "ytmlcbikljlhhkaa", sum := "0761eccc16b828e0914b0c30c67fe31e971b2886f60276b6d9c1f4e45bf821b9", func := "loop.example/fpgatoolchain/laws.FnExactMachineOf", spec := "fnExactMachineOf", plainKeys := false, apart := false }
def FnExactMachineOfSaid : Prop := fnExactMachineOfRow.holds Try.pinned (OpenSpec.ofChange fnExactMachineOfSpec)

/-- ITS FALSE NEIGHBOUR: 'it returns false'. Refute it at one input. -/
def fnExactMachineOfWrong : ChangeSpec := { name := "fnExactMachineOf", fn := fun _ => fun
  | [d] => { results := [.lit (.bool false)], args := [d] }
  | _ => none }
def FnExactMachineOfWrongFalsely : Prop := fnExactMachineOfRow.holds Try.pinned (OpenSpec.ofChange fnExactMachineOfWrong)

/-- 'laws.FnAdderTable': WHATEVER THE INPUT: true; the input reads as it did. -/
def fnAdderTableSpec : ChangeSpec := { name := "fnAdderTable", fn := fun _ => fun
  | [d] => { results := [.lit (.bool true)], args := [d] }
  | _ => none }
def fnAdderTableRow : OpenClaim := { program := "ytmlcbikljlhhkaa", sum := "0761eccc16b828e0914b0c30c67fe31e971b2886f60276b6d9c1f4e45bf821b9", func := "loop.example/fpgatoolchain/laws.FnAdderTable", spec := "fnAdderTable", unfollowed := true, recurses := true, plainKeys := false, apart := false }
def FnAdderTableSaid : Prop := fnAdderTableRow.holds Try.pinned (OpenSpec.ofChange fnAdderTableSpec)

/-- ITS FALSE NEIGHBOUR: 'it returns false'. Refute it at one input. -/
def fnAdderTableWrong : ChangeSpec := { name := "fnAdderTable", fn := fun _ => fun
  | [d] => { results := [.lit (.bool false)], args := [d] }
  | _ => none }
def FnAdderTableWrongFalsely : Prop := fnAdderTableRow.holds Try.pinned (OpenSpec.ofChange fnAdderTableWrong)

/-- 'laws.FnInductionExample': WHATEVER THE INPUT: true; the input reads as it did. -/
def fnInductionExampleSpec : ChangeSpec := { name := "fnInductionExample", fn := fun _ => fun
  | [d] => { results := [.lit (.bool true)], args := [d] }
  | _ => none }
def fnInductionExampleRow : OpenClaim := { program := "ytmlcbikljlhhkaa", sum := "0761eccc16b828e0914b0c30c67fe31e971b2886f60276b6d9c1f4e45bf821b9", func := "loop.example/fpgatoolchain/laws.FnInductionExample", spec := "fnInductionExample", unfollowed := true, recurses := true, plainKeys := false, apart := false }
def FnInductionExampleSaid : Prop := fnInductionExampleRow.holds Try.pinned (OpenSpec.ofChange fnInductionExampleSpec)

/-- ITS FALSE NEIGHBOUR: 'it returns false'. Refute it at one input. -/
def fnInductionExampleWrong : ChangeSpec := { name := "fnInductionExample", fn := fun _ => fun
  | [d] => { results := [.lit (.bool false)], args := [d] }
  | _ => none }
def FnInductionExampleWrongFalsely : Prop := fnInductionExampleRow.holds Try.pinned (OpenSpec.ofChange fnInductionExampleWrong)

/-- 'laws.FnHazardExample': WHATEVER THE INPUT: true; the input reads as it did. -/
def fnHazardExampleSpec : ChangeSpec := { name := "fnHazardExample", fn := fun _ => fun
  | [d] => { results := [.lit (.bool true)], args := [d] }
  | _ => none }
def fnHazardExampleRow : OpenClaim := { program := "ytmlcbikljlhhkaa", sum := "0761eccc16b828e0914b0c30c67fe31e971b2886f60276b6d9c1f4e45bf821b9", func := "loop.example/fpgatoolchain/laws.FnHazardExample", spec := "fnHazardExample", plainKeys := false, apart := false }
def FnHazardExampleSaid : Prop := fnHazardExampleRow.holds Try.pinned (OpenSpec.ofChange fnHazardExampleSpec)

/-- ITS FALSE NEIGHBOUR: 'it returns false'. Refute it at one input. -/
def fnHazardExampleWrong : ChangeSpec := { name := "fnHazardExample", fn := fun _ => fun
  | [d] => { results := [.lit (.bool false)], args := [d] }
  | _ => none }
def FnHazardExampleWrongFalsely : Prop := fnHazardExampleRow.holds Try.pinned (OpenSpec.ofChange fnHazardExampleWrong)

/- THE SECOND FORM. 'bulk': how many values and letters a reading holds, each counted each time it is reached (what is shared counts as often as it is met; a slice's spare places count too). A statement '..UptoSaid' is the law's where the arguments, and the package variables that the reading takes, are together of bulk at most 1048576: NARROWER than '..Said'. Prove '..Said' where nothing that the law and all that it calls make is longer than what came in: it says more and counts as full. Else prove '..UptoSaid'. A law counts once. -/
mutual
def uptoBulk {H : Type} : DataW H → Nat
  | .lit (.string bytes) => bytes.length + 1
  | .lit _ => 1
  | .nil => 1
  | .ptr d => uptoBulk d + 1
  | .slice elems spare => uptoBulkAll elems + uptoBulkAll spare + 1
  | .agg parts => uptoBulkAll parts + 1
  | .iface _ d => uptoBulk d + 1
  | .map entries => uptoBulkEntries entries + 1
  | .held _ => 1
def uptoBulkAll {H : Type} : List (DataW H) → Nat
  | [] => 0
  | d :: r => uptoBulk d + uptoBulkAll r
def uptoBulkEntries {H : Type} : List (Lit × DataW H) → Nat
  | [] => 0
  | x :: r => uptoBulkEntry x + uptoBulkEntries r
def uptoBulkEntry {H : Type} : Lit × DataW H → Nat
  | (.string bytes, d) => bytes.length + uptoBulk d + 1
  | (_, d) => uptoBulk d + 1
 end
def uptoSmall : (H : Type) → List (DataW H) → Bool := fun _ ds => decide (uptoBulkAll ds ≤ 1048576)
def OpenSpec.upto (s : _root_.Go.ChangeSpec) : _root_.Go.OpenSpec := { _root_.Go.OpenSpec.ofChange s with cond := some uptoSmall }

/-- 'laws.FnExactTableOf', WHERE WHAT IT READS IS OF BULK AT MOST 1048576: true; the input reads as it did. -/
def fnExactTableOfUptoRow : OpenClaim := { program := "ytmlcbikljlhhkaa", sum := "0761eccc16b828e0914b0c30c67fe31e971b2886f60276b6d9c1f4e45bf821b9", func := "loop.example/fpgatoolchain/laws.FnExactTableOf", spec := "fnExactTableOf", plainKeys := false, apart := false, narrowed := true }
def FnExactTableOfUptoSaid : Prop := fnExactTableOfUptoRow.holds Try.pinned (OpenSpec.upto fnExactTableOfSpec)

/-- 'laws.FnExactEvalTernary', WHERE WHAT IT READS IS OF BULK AT MOST 1048576: true; the input reads as it did. -/
def fnExactEvalTernaryUptoRow : OpenClaim := { program := "ytmlcbikljlhhkaa", sum := "0761eccc16b828e0914b0c30c67fe31e971b2886f60276b6d9c1f4e45bf821b9", func := "loop.example/fpgatoolchain/laws.FnExactEvalTernary", spec := "fnExactEvalTernary", plainKeys := false, apart := false, narrowed := true }
def FnExactEvalTernaryUptoSaid : Prop := fnExactEvalTernaryUptoRow.holds Try.pinned (OpenSpec.upto fnExactEvalTernarySpec)

/-- 'laws.FnExactResets', WHERE WHAT IT READS IS OF BULK AT MOST 1048576: true; the input reads as it did. -/
def fnExactResetsUptoRow : OpenClaim := { program := "ytmlcbikljlhhkaa", sum := "0761eccc16b828e0914b0c30c67fe31e971b2886f60276b6d9c1f4e45bf821b9", func := "loop.example/fpgatoolchain/laws.FnExactResets", spec := "fnExactResets", plainKeys := false, apart := false, narrowed := true }
def FnExactResetsUptoSaid : Prop := fnExactResetsUptoRow.holds Try.pinned (OpenSpec.upto fnExactResetsSpec)

/-- 'laws.FnExactHazards', WHERE WHAT IT READS IS OF BULK AT MOST 1048576: true; the input reads as it did. -/
def fnExactHazardsUptoRow : OpenClaim := { program := "ytmlcbikljlhhkaa", sum := "0761eccc16b828e0914b0c30c67fe31e971b2886f60276b6d9c1f4e45bf821b9", func := "loop.example/fpgatoolchain/laws.FnExactHazards", spec := "fnExactHazards", plainKeys := false, apart := false, narrowed := true }
def FnExactHazardsUptoSaid : Prop := fnExactHazardsUptoRow.holds Try.pinned (OpenSpec.upto fnExactHazardsSpec)

/-- 'laws.FnExactHazardFree', WHERE WHAT IT READS IS OF BULK AT MOST 1048576: true; the input reads as it did. -/
def fnExactHazardFreeUptoRow : OpenClaim := { program := "ytmlcbikljlhhkaa", sum := "0761eccc16b828e0914b0c30c67fe31e971b2886f60276b6d9c1f4e45bf821b9", func := "loop.example/fpgatoolchain/laws.FnExactHazardFree", spec := "fnExactHazardFree", plainKeys := false, apart := false, narrowed := true }
def FnExactHazardFreeUptoSaid : Prop := fnExactHazardFreeUptoRow.holds Try.pinned (OpenSpec.upto fnExactHazardFreeSpec)

/-- 'laws.FnExactInductive', WHERE WHAT IT READS IS OF BULK AT MOST 1048576: true; the input reads as it did. -/
def fnExactInductiveUptoRow : OpenClaim := { program := "ytmlcbikljlhhkaa", sum := "0761eccc16b828e0914b0c30c67fe31e971b2886f60276b6d9c1f4e45bf821b9", func := "loop.example/fpgatoolchain/laws.FnExactInductive", spec := "fnExactInductive", recurses := true, plainKeys := false, apart := false, narrowed := true }
def FnExactInductiveUptoSaid : Prop := fnExactInductiveUptoRow.holds Try.pinned (OpenSpec.upto fnExactInductiveSpec)

/-- 'laws.FnExactInvariant', WHERE WHAT IT READS IS OF BULK AT MOST 1048576: true; the input reads as it did. -/
def fnExactInvariantUptoRow : OpenClaim := { program := "ytmlcbikljlhhkaa", sum := "0761eccc16b828e0914b0c30c67fe31e971b2886f60276b6d9c1f4e45bf821b9", func := "loop.example/fpgatoolchain/laws.FnExactInvariant", spec := "fnExactInvariant", unfollowed := true, recurses := true, plainKeys := false, apart := false, narrowed := true }
def FnExactInvariantUptoSaid : Prop := fnExactInvariantUptoRow.holds Try.pinned (OpenSpec.upto fnExactInvariantSpec)

/-- 'laws.FnExactFindViolation', WHERE WHAT IT READS IS OF BULK AT MOST 1048576: true; the input reads as it did. -/
def fnExactFindViolationUptoRow : OpenClaim := { program := "ytmlcbikljlhhkaa", sum := "0761eccc16b828e0914b0c30c67fe31e971b2886f60276b6d9c1f4e45bf821b9", func := "loop.example/fpgatoolchain/laws.FnExactFindViolation", spec := "fnExactFindViolation", unfollowed := true, recurses := true, plainKeys := false, apart := false, narrowed := true }
def FnExactFindViolationUptoSaid : Prop := fnExactFindViolationUptoRow.holds Try.pinned (OpenSpec.upto fnExactFindViolationSpec)

/-- 'laws.FnExactMachineOf', WHERE WHAT IT READS IS OF BULK AT MOST 1048576: true; the input reads as it did. -/
def fnExactMachineOfUptoRow : OpenClaim := { program := "ytmlcbikljlhhkaa", sum := "0761eccc16b828e0914b0c30c67fe31e971b2886f60276b6d9c1f4e45bf821b9", func := "loop.example/fpgatoolchain/laws.FnExactMachineOf", spec := "fnExactMachineOf", plainKeys := false, apart := false, narrowed := true }
def FnExactMachineOfUptoSaid : Prop := fnExactMachineOfUptoRow.holds Try.pinned (OpenSpec.upto fnExactMachineOfSpec)

/-- 'laws.FnAdderTable', WHERE WHAT IT READS IS OF BULK AT MOST 1048576: true; the input reads as it did. -/
def fnAdderTableUptoRow : OpenClaim := { program := "ytmlcbikljlhhkaa", sum := "0761eccc16b828e0914b0c30c67fe31e971b2886f60276b6d9c1f4e45bf821b9", func := "loop.example/fpgatoolchain/laws.FnAdderTable", spec := "fnAdderTable", unfollowed := true, recurses := true, plainKeys := false, apart := false, narrowed := true }
def FnAdderTableUptoSaid : Prop := fnAdderTableUptoRow.holds Try.pinned (OpenSpec.upto fnAdderTableSpec)

/-- 'laws.FnInductionExample', WHERE WHAT IT READS IS OF BULK AT MOST 1048576: true; the input reads as it did. -/
def fnInductionExampleUptoRow : OpenClaim := { program := "ytmlcbikljlhhkaa", sum := "0761eccc16b828e0914b0c30c67fe31e971b2886f60276b6d9c1f4e45bf821b9", func := "loop.example/fpgatoolchain/laws.FnInductionExample", spec := "fnInductionExample", unfollowed := true, recurses := true, plainKeys := false, apart := false, narrowed := true }
def FnInductionExampleUptoSaid : Prop := fnInductionExampleUptoRow.holds Try.pinned (OpenSpec.upto fnInductionExampleSpec)

/-- 'laws.FnHazardExample', WHERE WHAT IT READS IS OF BULK AT MOST 1048576: true; the input reads as it did. -/
def fnHazardExampleUptoRow : OpenClaim := { program := "ytmlcbikljlhhkaa", sum := "0761eccc16b828e0914b0c30c67fe31e971b2886f60276b6d9c1f4e45bf821b9", func := "loop.example/fpgatoolchain/laws.FnHazardExample", spec := "fnHazardExample", plainKeys := false, apart := false, narrowed := true }
def FnHazardExampleUptoSaid : Prop := fnHazardExampleUptoRow.holds Try.pinned (OpenSpec.upto fnHazardExampleSpec)

end Rows
end Go.Proofs.Ytmlcbikljlhhkaa
