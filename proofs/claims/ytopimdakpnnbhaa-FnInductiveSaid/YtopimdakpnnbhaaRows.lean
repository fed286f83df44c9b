/-
  No cell of these rows narrows 'for every input' (looked for: loops, veiled, ifaces, maps, wideKeys, modest, calm, conditions, laid).
  DERIVED. THE GIVEN ROWS OF THIS SEAT. 12 by the template 'for every input the law returns true; each argument reads behind the call as it read before'; 0 by the template 'total and deterministic' (their statements: YtopimdakpnnbhaaTotals.lean).
  GIVEN WITH THE SEED: the statements are not yours to turn. If you find one false, say at which input.
  Laid BY PROGRAM, IN A SANDBOX (cutbox-rows.mjs): the forced cells as the released guide's own fill.sh prints them over the translation b20e8aefad3d678a… (all of the seat's roots in one cut). By AI agents, Wed Nov 11 2026. No macro, syntax, notation, axiom, sorry.
-/
import Derived.Test.YtopimdakpnnbhaaChecked
import GoSem.Claim
import GoSem.ClaimJoined
import GoSem.ClaimMapViews
import Derived.JoinedTies
import Derived.KernelRfl
namespace Go.Proofs.Ytopimdakpnnbhaa
/- THE CELL 'sum', in the pinned program and in every row, IS THE sha256 OF THE DUMP (.gsa) THAT YtopimdakpnnbhaaProg.lean LOADS. Nothing in Lean hashes anything: it is a label: what it is worth is what the hold of that sum in a sandbox is worth. -/
noncomputable def Try.pinned : Pinned := { name := "ytopimdakpnnbhaa", sum := "b20e8aefad3d678a362ac8e9239e724de8ef0d86278a65825beaef2fe31781bb", checked := Try.checked }
namespace Rows
def none {H : Type} : Left H := { results := [], args := [] }

/-- 'laws.FnTernarySound': WHATEVER THE INPUT: true; the input reads as it did. -/
def fnTernarySoundSpec : ChangeSpec := { name := "fnTernarySound", fn := fun _ => fun
  | [d] => { results := [.lit (.bool true)], args := [d] }
  | _ => none }
def fnTernarySoundRow : OpenClaim := { program := "ytopimdakpnnbhaa", sum := "b20e8aefad3d678a362ac8e9239e724de8ef0d86278a65825beaef2fe31781bb", func := "loop.example/fpgatoolchain/laws.FnTernarySound", spec := "fnTernarySound", apart := false }
def FnTernarySoundSaid : Prop := fnTernarySoundRow.holds Try.pinned (OpenSpec.ofChange fnTernarySoundSpec)

/-- ITS FALSE NEIGHBOUR: 'it returns false'. Refute it at one input. -/
def fnTernarySoundWrong : ChangeSpec := { name := "fnTernarySound", fn := fun _ => fun
  | [d] => { results := [.lit (.bool false)], args := [d] }
  | _ => none }
def FnTernarySoundWrongFalsely : Prop := fnTernarySoundRow.holds Try.pinned (OpenSpec.ofChange fnTernarySoundWrong)

/-- 'laws.FnMachineValid': WHATEVER THE INPUT: true; the input reads as it did. -/
def fnMachineValidSpec : ChangeSpec := { name := "fnMachineValid", fn := fun _ => fun
  | [d] => { results := [.lit (.bool true)], args := [d] }
  | _ => none }
def fnMachineValidRow : OpenClaim := { program := "ytopimdakpnnbhaa", sum := "b20e8aefad3d678a362ac8e9239e724de8ef0d86278a65825beaef2fe31781bb", func := "loop.example/fpgatoolchain/laws.FnMachineValid", spec := "fnMachineValid", apart := false }
def FnMachineValidSaid : Prop := fnMachineValidRow.holds Try.pinned (OpenSpec.ofChange fnMachineValidSpec)

/-- ITS FALSE NEIGHBOUR: 'it returns false'. Refute it at one input. -/
def fnMachineValidWrong : ChangeSpec := { name := "fnMachineValid", fn := fun _ => fun
  | [d] => { results := [.lit (.bool false)], args := [d] }
  | _ => none }
def FnMachineValidWrongFalsely : Prop := fnMachineValidRow.holds Try.pinned (OpenSpec.ofChange fnMachineValidWrong)

/-- 'laws.FnHazardFree': WHATEVER THE INPUT: true; the input reads as it did. -/
def fnHazardFreeSpec : ChangeSpec := { name := "fnHazardFree", fn := fun _ => fun
  | [d] => { results := [.lit (.bool true)], args := [d] }
  | _ => none }
def fnHazardFreeRow : OpenClaim := { program := "ytopimdakpnnbhaa", sum := "b20e8aefad3d678a362ac8e9239e724de8ef0d86278a65825beaef2fe31781bb", func := "loop.example/fpgatoolchain/laws.FnHazardFree", spec := "fnHazardFree", apart := false }
def FnHazardFreeSaid : Prop := fnHazardFreeRow.holds Try.pinned (OpenSpec.ofChange fnHazardFreeSpec)

/-- ITS FALSE NEIGHBOUR: 'it returns false'. Refute it at one input. -/
def fnHazardFreeWrong : ChangeSpec := { name := "fnHazardFree", fn := fun _ => fun
  | [d] => { results := [.lit (.bool false)], args := [d] }
  | _ => none }
def FnHazardFreeWrongFalsely : Prop := fnHazardFreeRow.holds Try.pinned (OpenSpec.ofChange fnHazardFreeWrong)

/-- 'laws.FnRunMachine': WHATEVER THE INPUT: true; the input reads as it did. -/
def fnRunMachineSpec : ChangeSpec := { name := "fnRunMachine", fn := fun _ => fun
  | [d] => { results := [.lit (.bool true)], args := [d] }
  | _ => none }
def fnRunMachineRow : OpenClaim := { program := "ytopimdakpnnbhaa", sum := "b20e8aefad3d678a362ac8e9239e724de8ef0d86278a65825beaef2fe31781bb", func := "loop.example/fpgatoolchain/laws.FnRunMachine", spec := "fnRunMachine", apart := false }
def FnRunMachineSaid : Prop := fnRunMachineRow.holds Try.pinned (OpenSpec.ofChange fnRunMachineSpec)

/-- ITS FALSE NEIGHBOUR: 'it returns false'. Refute it at one input. -/
def fnRunMachineWrong : ChangeSpec := { name := "fnRunMachine", fn := fun _ => fun
  | [d] => { results := [.lit (.bool false)], args := [d] }
  | _ => none }
def FnRunMachineWrongFalsely : Prop := fnRunMachineRow.holds Try.pinned (OpenSpec.ofChange fnRunMachineWrong)

/-- 'laws.FnInvariant': WHATEVER THE INPUT: true; the input reads as it did. -/
def fnInvariantSpec : ChangeSpec := { name := "fnInvariant", fn := fun _ => fun
  | [d] => { results := [.lit (.bool true)], args := [d] }
  | _ => none }
def fnInvariantRow : OpenClaim := { program := "ytopimdakpnnbhaa", sum := "b20e8aefad3d678a362ac8e9239e724de8ef0d86278a65825beaef2fe31781bb", func := "loop.example/fpgatoolchain/laws.FnInvariant", spec := "fnInvariant", unfollowed := true, recurses := true, apart := false }
def FnInvariantSaid : Prop := fnInvariantRow.holds Try.pinned (OpenSpec.ofChange fnInvariantSpec)

/-- ITS FALSE NEIGHBOUR: 'it returns false'. Refute it at one input. -/
def fnInvariantWrong : ChangeSpec := { name := "fnInvariant", fn := fun _ => fun
  | [d] => { results := [.lit (.bool false)], args := [d] }
  | _ => none }
def FnInvariantWrongFalsely : Prop := fnInvariantRow.holds Try.pinned (OpenSpec.ofChange fnInvariantWrong)

/-- 'laws.FnHazards': WHATEVER THE INPUT: true; the input reads as it did. -/
def fnHazardsSpec : ChangeSpec := { name := "fnHazards", fn := fun _ => fun
  | [d] => { results := [.lit (.bool true)], args := [d] }
  | _ => none }
def fnHazardsRow : OpenClaim := { program := "ytopimdakpnnbhaa", sum := "b20e8aefad3d678a362ac8e9239e724de8ef0d86278a65825beaef2fe31781bb", func := "loop.example/fpgatoolchain/laws.FnHazards", spec := "fnHazards", apart := false }
def FnHazardsSaid : Prop := fnHazardsRow.holds Try.pinned (OpenSpec.ofChange fnHazardsSpec)

/-- ITS FALSE NEIGHBOUR: 'it returns false'. Refute it at one input. -/
def fnHazardsWrong : ChangeSpec := { name := "fnHazards", fn := fun _ => fun
  | [d] => { results := [.lit (.bool false)], args := [d] }
  | _ => none }
def FnHazardsWrongFalsely : Prop := fnHazardsRow.holds Try.pinned (OpenSpec.ofChange fnHazardsWrong)

/-- 'laws.FnResets': WHATEVER THE INPUT: true; the input reads as it did. -/
def fnResetsSpec : ChangeSpec := { name := "fnResets", fn := fun _ => fun
  | [d] => { results := [.lit (.bool true)], args := [d] }
  | _ => none }
def fnResetsRow : OpenClaim := { program := "ytopimdakpnnbhaa", sum := "b20e8aefad3d678a362ac8e9239e724de8ef0d86278a65825beaef2fe31781bb", func := "loop.example/fpgatoolchain/laws.FnResets", spec := "fnResets", apart := false }
def FnResetsSaid : Prop := fnResetsRow.holds Try.pinned (OpenSpec.ofChange fnResetsSpec)

/-- ITS FALSE NEIGHBOUR: 'it returns false'. Refute it at one input. -/
def fnResetsWrong : ChangeSpec := { name := "fnResets", fn := fun _ => fun
  | [d] => { results := [.lit (.bool false)], args := [d] }
  | _ => none }
def FnResetsWrongFalsely : Prop := fnResetsRow.holds Try.pinned (OpenSpec.ofChange fnResetsWrong)

/-- 'laws.FnFindViolation': WHATEVER THE INPUT: true; the input reads as it did. -/
def fnFindViolationSpec : ChangeSpec := { name := "fnFindViolation", fn := fun _ => fun
  | [d] => { results := [.lit (.bool true)], args := [d] }
  | _ => none }
def fnFindViolationRow : OpenClaim := { program := "ytopimdakpnnbhaa", sum := "b20e8aefad3d678a362ac8e9239e724de8ef0d86278a65825beaef2fe31781bb", func := "loop.example/fpgatoolchain/laws.FnFindViolation", spec := "fnFindViolation", unfollowed := true, recurses := true, apart := false }
def FnFindViolationSaid : Prop := fnFindViolationRow.holds Try.pinned (OpenSpec.ofChange fnFindViolationSpec)

/-- ITS FALSE NEIGHBOUR: 'it returns false'. Refute it at one input. -/
def fnFindViolationWrong : ChangeSpec := { name := "fnFindViolation", fn := fun _ => fun
  | [d] => { results := [.lit (.bool false)], args := [d] }
  | _ => none }
def FnFindViolationWrongFalsely : Prop := fnFindViolationRow.holds Try.pinned (OpenSpec.ofChange fnFindViolationWrong)

/-- 'laws.FnInductive': WHATEVER THE INPUT: true; the input reads as it did. -/
def fnInductiveSpec : ChangeSpec := { name := "fnInductive", fn := fun _ => fun
  | [d] => { results := [.lit (.bool true)], args := [d] }
  | _ => none }
def fnInductiveRow : OpenClaim := { program := "ytopimdakpnnbhaa", sum := "b20e8aefad3d678a362ac8e9239e724de8ef0d86278a65825beaef2fe31781bb", func := "loop.example/fpgatoolchain/laws.FnInductive", spec := "fnInductive", unfollowed := true, recurses := true, apart := false }
def FnInductiveSaid : Prop := fnInductiveRow.holds Try.pinned (OpenSpec.ofChange fnInductiveSpec)

/-- ITS FALSE NEIGHBOUR: 'it returns false'. Refute it at one input. -/
def fnInductiveWrong : ChangeSpec := { name := "fnInductive", fn := fun _ => fun
  | [d] => { results := [.lit (.bool false)], args := [d] }
  | _ => none }
def FnInductiveWrongFalsely : Prop := fnInductiveRow.holds Try.pinned (OpenSpec.ofChange fnInductiveWrong)

/-- 'laws.FnMachineStateless': WHATEVER THE INPUT: true; the input reads as it did. -/
def fnMachineStatelessSpec : ChangeSpec := { name := "fnMachineStateless", fn := fun _ => fun
  | [d] => { results := [.lit (.bool true)], args := [d] }
  | _ => none }
def fnMachineStatelessRow : OpenClaim := { program := "ytopimdakpnnbhaa", sum := "b20e8aefad3d678a362ac8e9239e724de8ef0d86278a65825beaef2fe31781bb", func := "loop.example/fpgatoolchain/laws.FnMachineStateless", spec := "fnMachineStateless", apart := false }
def FnMachineStatelessSaid : Prop := fnMachineStatelessRow.holds Try.pinned (OpenSpec.ofChange fnMachineStatelessSpec)

/-- ITS FALSE NEIGHBOUR: 'it returns false'. Refute it at one input. -/
def fnMachineStatelessWrong : ChangeSpec := { name := "fnMachineStateless", fn := fun _ => fun
  | [d] => { results := [.lit (.bool false)], args := [d] }
  | _ => none }
def FnMachineStatelessWrongFalsely : Prop := fnMachineStatelessRow.holds Try.pinned (OpenSpec.ofChange fnMachineStatelessWrong)

/-- 'laws.FnResetsReach': WHATEVER THE INPUT: true; the input reads as it did. -/
def fnResetsReachSpec : ChangeSpec := { name := "fnResetsReach", fn := fun _ => fun
  | [d] => { results := [.lit (.bool true)], args := [d] }
  | _ => none }
def fnResetsReachRow : OpenClaim := { program := "ytopimdakpnnbhaa", sum := "b20e8aefad3d678a362ac8e9239e724de8ef0d86278a65825beaef2fe31781bb", func := "loop.example/fpgatoolchain/laws.FnResetsReach", spec := "fnResetsReach", apart := false }
def FnResetsReachSaid : Prop := fnResetsReachRow.holds Try.pinned (OpenSpec.ofChange fnResetsReachSpec)

/-- ITS FALSE NEIGHBOUR: 'it returns false'. Refute it at one input. -/
def fnResetsReachWrong : ChangeSpec := { name := "fnResetsReach", fn := fun _ => fun
  | [d] => { results := [.lit (.bool false)], args := [d] }
  | _ => none }
def FnResetsReachWrongFalsely : Prop := fnResetsReachRow.holds Try.pinned (OpenSpec.ofChange fnResetsReachWrong)

/-- 'laws.FnMachineOf': WHATEVER THE INPUT: true; the input reads as it did. -/
def fnMachineOfSpec : ChangeSpec := { name := "fnMachineOf", fn := fun _ => fun
  | [d1, d2] => { results := [.lit (.bool true)], args := [d1, d2] }
  | _ => none }
def fnMachineOfRow : OpenClaim := { program := "ytopimdakpnnbhaa", sum := "b20e8aefad3d678a362ac8e9239e724de8ef0d86278a65825beaef2fe31781bb", func := "loop.example/fpgatoolchain/laws.FnMachineOf", spec := "fnMachineOf", apart := false }
def FnMachineOfSaid : Prop := fnMachineOfRow.holds Try.pinned (OpenSpec.ofChange fnMachineOfSpec)

/-- ITS FALSE NEIGHBOUR: 'it returns false'. Refute it at one input. -/
def fnMachineOfWrong : ChangeSpec := { name := "fnMachineOf", fn := fun _ => fun
  | [d1, d2] => { results := [.lit (.bool false)], args := [d1, d2] }
  | _ => none }
def FnMachineOfWrongFalsely : Prop := fnMachineOfRow.holds Try.pinned (OpenSpec.ofChange fnMachineOfWrong)

/- THE SECOND FORM. 'bulk': how many values and letters a reading holds, each counted each time it is reached (what is shared counts as often as it is met; a slice's spare places count too). A statement '..UptoSaid' is the law's where the arguments, and the package variables that the reading takes, are together of bulk at most 1048576: NARROWER than '..Said'. Prove '..Said' where nothing that the law and all that it calls make is longer than what came in: it says more and counts as full. Else prove '..UptoSaid'. A law counts once. -/
mutual
def uptoBulk {H : Type} : DataW H → Nat
  | .lit (.string bytes) => bytes.length + 1
  | .lit _ => 1
  | .nil => 1
  | .ptr d => uptoBulk d + 1
  | .slice elems spare => uptoBulkAll elems + uptoBulkAll spare + 1
  | .agg parts => uptoBulkAll parts + 1
  | .iface _ d => uptoBulk d + 1
  | .map entries => uptoBulkEntries entries + 1
  | .held _ => 1
def uptoBulkAll {H : Type} : List (DataW H) → Nat
  | [] => 0
  | d :: r => uptoBulk d + uptoBulkAll r
def uptoBulkEntries {H : Type} : List (Lit × DataW H) → Nat
  | [] => 0
  | x :: r => uptoBulkEntry x + uptoBulkEntries r
def uptoBulkEntry {H : Type} : Lit × DataW H → Nat
  | (.string bytes, d) => bytes.length + uptoBulk d + 1
  | (_, d) => uptoBulk d + 1
 end
def uptoSmall : (H : Type) → List (DataW H) → Bool := fun _ ds => decide (uptoBulkAll ds ≤ 1048576)
def OpenSpec.upto (s : _root_.Go.ChangeSpec) : _root_.Go.OpenSpec := { _root_.Go.OpenSpec.ofChange s with cond := some uptoSmall }

/-- 'laws.FnTernarySound', WHERE WHAT IT READS IS OF BULK AT MOST 1048576: true; the input reads as it did. -/
def fnTernarySoundUptoRow : OpenClaim := { program := "ytopimdakpnnbhaa", sum := "b20e8aefad3d678a362ac8e9239e724de8ef0d86278a65825beaef2fe31781bb", func := "loop.example/fpgatoolchain/laws.FnTernarySound", spec := "fnTernarySound", apart := false, narrowed := true }
def FnTernarySoundUptoSaid : Prop := fnTernarySoundUptoRow.holds Try.pinned (OpenSpec.upto fnTernarySoundSpec)

/-- 'laws.FnMachineValid', WHERE WHAT IT READS IS OF BULK AT MOST 1048576: true; the input reads as it did. -/
def fnMachineValidUptoRow : OpenClaim := { program := "ytopimdakpnnbhaa", sum := "b20e8aefad3d678a362ac8e9239e724de8ef0d86278a65825beaef2fe31781bb", func := "loop.example/fpgatoolchain/laws.FnMachineValid", spec := "fnMachineValid", apart := false, narrowed := true }
def FnMachineValidUptoSaid : Prop := fnMachineValidUptoRow.holds Try.pinned (OpenSpec.upto fnMachineValidSpec)

/-- 'laws.FnHazardFree', WHERE WHAT IT READS IS OF BULK AT MOST 1048576: true; the input reads as it did. -/
def fnHazardFreeUptoRow : OpenClaim := { program := "ytopimdakpnnbhaa", sum := "b20e8aefad3d678a362ac8e9239e724de8ef0d86278a65825beaef2fe31781bb", func := "loop.example/fpgatoolchain/laws.FnHazardFree", spec := "fnHazardFree", apart := false, narrowed := true }
def FnHazardFreeUptoSaid : Prop := fnHazardFreeUptoRow.holds Try.pinned (OpenSpec.upto fnHazardFreeSpec)

/-- 'laws.FnRunMachine', WHERE WHAT IT READS IS OF BULK AT MOST 1048576: true; the input reads as it did. -/
def fnRunMachineUptoRow : OpenClaim := { program := "ytopimdakpnnbhaa", sum := "b20e8aefad3d678a362ac8e9239e724de8ef0d86278a65825beaef2fe31781bb", func := "loop.example/fpgatoolchain/laws.FnRunMachine", spec := "fnRunMachine", apart := false, narrowed := true }
def FnRunMachineUptoSaid : Prop := fnRunMachineUptoRow.holds Try.pinned (OpenSpec.upto fnRunMachineSpec)

/-- 'laws.FnInvariant', WHERE WHAT IT READS IS OF BULK AT MOST 1048576: true; the input reads as it did. -/
def fnInvariantUptoRow : OpenClaim := { program := "ytopimdakpnnbhaa", sum := "b20e8aefad3d678a362ac8e9239e724de8ef0d86278a65825beaef2fe31781bb", func := "loop.example/fpgatoolchain/laws.FnInvariant", spec := "fnInvariant", unfollowed := true, recurses := true, apart := false, narrowed := true }
def FnInvariantUptoSaid : Prop := fnInvariantUptoRow.holds Try.pinned (OpenSpec.upto fnInvariantSpec)

/-- 'laws.FnHazards', WHERE WHAT IT READS IS OF BULK AT MOST 1048576: true; the input reads as it did. -/
def fnHazardsUptoRow : OpenClaim := { program := "ytopimdakpnnbhaa", sum := "b20e8aefad3d678a362ac8e9239e724de8ef0d86278a65825beaef2fe31781bb", func := "loop.example/fpgatoolchain/laws.FnHazards", spec := "fnHazards", apart := false, narrowed := true }
def FnHazardsUptoSaid : Prop := fnHazardsUptoRow.holds Try.pinned (OpenSpec.upto fnHazardsSpec)

/-- 'laws.FnResets', WHERE WHAT IT READS IS OF BULK AT MOST 1048576: true; the input reads as it did. -/
def fnResetsUptoRow : OpenClaim := { program := "ytopimdakpnnbhaa", sum := "b20e8aefad3d678a362ac8e9239e724de8ef0d86278a65825beaef2fe31781bb", func := "loop.example/fpgatoolchain/laws.FnResets", spec := "fnResets", apart := false, narrowed := true }
def FnResetsUptoSaid : Prop := fnResetsUptoRow.holds Try.pinned (OpenSpec.upto fnResetsSpec)

/-- 'laws.FnFindViolation', WHERE WHAT IT READS IS OF BULK AT MOST 1048576: true; the input reads as it did. -/
def fnFindViolationUptoRow : OpenClaim := { program := "ytopimdakpnnbhaa", sum := "b20e8aefad3d678a362ac8e9239e724de8ef0d86278a65825beaef2fe31781bb", func := "loop.example/fpgatoolchain/laws.FnFindViolation", spec := "fnFindViolation", unfollowed := true, recurses := true, apart := false, narrowed := true }
def FnFindViolationUptoSaid : Prop := fnFindViolationUptoRow.holds Try.pinned (OpenSpec.upto fnFindViolationSpec)

/-- 'laws.FnInductive', WHERE WHAT IT READS IS OF BULK AT MOST 1048576: true; the input reads as it did. -/
def fnInductiveUptoRow : OpenClaim := { program := "ytopimdakpnnbhaa", sum := "b20e8aefad3d678a362ac8e9239e724de8ef0d86278a65825beaef2fe31781bb", func := "loop.example/fpgatoolchain/laws.FnInductive", spec := "fnInductive", unfollowed := true, recurses := true, apart := false, narrowed := true }
def FnInductiveUptoSaid : Prop := fnInductiveUptoRow.holds Try.pinned (OpenSpec.upto fnInductiveSpec)

/-- 'laws.FnMachineStateless', WHERE WHAT IT READS IS OF BULK AT MOST 1048576: true; the input reads as it did. -/
def fnMachineStatelessUptoRow : OpenClaim := { program := "ytopimdakpnnbhaa", sum := "b20e8aefad3d678a362ac8e9239e724de8ef0d86278a65825beaef2fe31781bb", func := "loop.example/fpgatoolchain/laws.FnMachineStateless", spec := "fnMachineStateless", apart := false, narrowed := true }
def FnMachineStatelessUptoSaid : Prop := fnMachineStatelessUptoRow.holds Try.pinned (OpenSpec.upto fnMachineStatelessSpec)

/-- 'laws.FnResetsReach', WHERE WHAT IT READS IS OF BULK AT MOST 1048576: true; the input reads as it did. -/
def fnResetsReachUptoRow : OpenClaim := { program := "ytopimdakpnnbhaa", sum := "b20e8aefad3d678a362ac8e9239e724de8ef0d86278a65825beaef2fe31781bb", func := "loop.example/fpgatoolchain/laws.FnResetsReach", spec := "fnResetsReach", apart := false, narrowed := true }
def FnResetsReachUptoSaid : Prop := fnResetsReachUptoRow.holds Try.pinned (OpenSpec.upto fnResetsReachSpec)

/-- 'laws.FnMachineOf', WHERE WHAT IT READS IS OF BULK AT MOST 1048576: true; the input reads as it did. -/
def fnMachineOfUptoRow : OpenClaim := { program := "ytopimdakpnnbhaa", sum := "b20e8aefad3d678a362ac8e9239e724de8ef0d86278a65825beaef2fe31781bb", func := "loop.example/fpgatoolchain/laws.FnMachineOf", spec := "fnMachineOf", apart := false, narrowed := true }
def FnMachineOfUptoSaid : Prop := fnMachineOfUptoRow.holds Try.pinned (OpenSpec.upto fnMachineOfSpec)

end Rows
end Go.Proofs.Ytopimdakpnnbhaa
