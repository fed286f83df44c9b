/-
  No cell of these rows narrows 'for every input' (looked for: loops, veiled, ifaces, maps, wideKeys, modest, calm, conditions, laid).
  DERIVED. THE GIVEN ROWS OF THIS SEAT. 4 by the template 'for every input the law returns true; each argument reads behind the call as it read before'; 0 by the template 'total and deterministic' (their statements: YtdgminjbgjbamaaTotals.lean).
  GIVEN WITH THE SEED: the statements are not yours to turn. If you find one false, say at which input.
  Laid BY PROGRAM, IN A SANDBOX (cutbox-rows.mjs): the forced cells as the released guide's own fill.sh prints them over the translation f8fa94c4b2d56acb… (all of the seat's roots in one cut). By AI agents, Wed Nov 11 2026. No macro, syntax, notation, axiom, sorry.
-/
import Derived.Test.YtdgminjbgjbamaaChecked
import GoSem.Claim
import GoSem.ClaimJoined
import GoSem.ClaimMapViews
import Derived.JoinedTies
import Derived.KernelRfl
namespace Go.Proofs.Ytdgminjbgjbamaa
/- THE CELL 'sum', in the pinned program and in every row, IS THE sha256 OF THE DUMP (.gsa) THAT YtdgminjbgjbamaaProg.lean LOADS. Nothing in Lean hashes anything: it is a label: what it is worth is what the hold of that sum in a sandbox is worth. -/
noncomputable def Try.pinned : Pinned := { name := "ytdgminjbgjbamaa", sum := "f8fa94c4b2d56acb74e16e808e9447335d0ab89b7917698c18ecab8c248fd242", checked := Try.checked }
namespace Rows
def none {H : Type} : Left H := { results := [], args := [] }

/-- 'laws.FnViolationLength': WHATEVER THE INPUT: true; the input reads as it did. -/
def fnViolationLengthSpec : ChangeSpec := { name := "fnViolationLength", fn := fun _ => fun
  | [d] => { results := [.lit (.bool true)], args := [d] }
  | _ => none }
def fnViolationLengthRow : OpenClaim := { program := "ytdgminjbgjbamaa", sum := "f8fa94c4b2d56acb74e16e808e9447335d0ab89b7917698c18ecab8c248fd242", func := "loop.example/fpgatoolchain/laws.FnViolationLength", spec := "fnViolationLength", unfollowed := true, recurses := true, plainKeys := false, apart := false }
def FnViolationLengthSaid : Prop := fnViolationLengthRow.holds Try.pinned (OpenSpec.ofChange fnViolationLengthSpec)

/-- ITS FALSE NEIGHBOUR: 'it returns false'. Refute it at one input. -/
def fnViolationLengthWrong : ChangeSpec := { name := "fnViolationLength", fn := fun _ => fun
  | [d] => { results := [.lit (.bool false)], args := [d] }
  | _ => none }
def FnViolationLengthWrongFalsely : Prop := fnViolationLengthRow.holds Try.pinned (OpenSpec.ofChange fnViolationLengthWrong)

/-- 'laws.FnOptimizeMachine': WHATEVER THE INPUT: true; the input reads as it did. -/
def fnOptimizeMachineSpec : ChangeSpec := { name := "fnOptimizeMachine", fn := fun _ => fun
  | [d] => { results := [.lit (.bool true)], args := [d] }
  | _ => none }
def fnOptimizeMachineRow : OpenClaim := { program := "ytdgminjbgjbamaa", sum := "f8fa94c4b2d56acb74e16e808e9447335d0ab89b7917698c18ecab8c248fd242", func := "loop.example/fpgatoolchain/laws.FnOptimizeMachine", spec := "fnOptimizeMachine", unfollowed := true, recurses := true, plainKeys := false, apart := false }
def FnOptimizeMachineSaid : Prop := fnOptimizeMachineRow.holds Try.pinned (OpenSpec.ofChange fnOptimizeMachineSpec)

/-- ITS FALSE NEIGHBOUR: 'it returns false'. Refute it at one input. -/
def fnOptimizeMachineWrong : ChangeSpec := { name := "fnOptimizeMachine", fn := fun _ => fun
  | [d] => { results := [.lit (.bool false)], args := [d] }
  | _ => none }
def FnOptimizeMachineWrongFalsely : Prop := fnOptimizeMachineRow.holds Try.pinned (OpenSpec.ofChange fnOptimizeMachineWrong)

/-- 'laws.FnRetimeInvariant': WHATEVER THE INPUT: true; the input reads as it did. -/
def fnRetimeInvariantSpec : ChangeSpec := { name := "fnRetimeInvariant", fn := fun _ => fun
  | [d] => { results := [.lit (.bool true)], args := [d] }
  | _ => none }
def fnRetimeInvariantRow : OpenClaim := { program := "ytdgminjbgjbamaa", sum := "f8fa94c4b2d56acb74e16e808e9447335d0ab89b7917698c18ecab8c248fd242", func := "loop.example/fpgatoolchain/laws.FnRetimeInvariant", spec := "fnRetimeInvariant", unfollowed := true, recurses := true, plainKeys := false, apart := false }
def FnRetimeInvariantSaid : Prop := fnRetimeInvariantRow.holds Try.pinned (OpenSpec.ofChange fnRetimeInvariantSpec)

/-- ITS FALSE NEIGHBOUR: 'it returns false'. Refute it at one input. -/
def fnRetimeInvariantWrong : ChangeSpec := { name := "fnRetimeInvariant", fn := fun _ => fun
  | [d] => { results := [.lit (.bool false)], args := [d] }
  | _ => none }
def FnRetimeInvariantWrongFalsely : Prop := fnRetimeInvariantRow.holds Try.pinned (OpenSpec.ofChange fnRetimeInvariantWrong)

/-- 'laws.FnDecoderTable': WHATEVER THE INPUT: true; the input reads as it did. -/
def fnDecoderTableSpec : ChangeSpec := { name := "fnDecoderTable", fn := fun _ => fun
  | [d] => { results := [.lit (.bool true)], args := [d] }
  | _ => none }
def fnDecoderTableRow : OpenClaim := { program := "ytdgminjbgjbamaa", sum := "f8fa94c4b2d56acb74e16e808e9447335d0ab89b7917698c18ecab8c248fd242", func := "loop.example/fpgatoolchain/laws.FnDecoderTable", spec := "fnDecoderTable", unfollowed := true, recurses := true, plainKeys := false, apart := false }
def FnDecoderTableSaid : Prop := fnDecoderTableRow.holds Try.pinned (OpenSpec.ofChange fnDecoderTableSpec)

/-- ITS FALSE NEIGHBOUR: 'it returns false'. Refute it at one input. -/
def fnDecoderTableWrong : ChangeSpec := { name := "fnDecoderTable", fn := fun _ => fun
  | [d] => { results := [.lit (.bool false)], args := [d] }
  | _ => none }
def FnDecoderTableWrongFalsely : Prop := fnDecoderTableRow.holds Try.pinned (OpenSpec.ofChange fnDecoderTableWrong)

/- THE SECOND FORM. 'bulk': how many values and letters a reading holds, each counted each time it is reached (what is shared counts as often as it is met; a slice's spare places count too). A statement '..UptoSaid' is the law's where the arguments, and the package variables that the reading takes, are together of bulk at most 1048576: NARROWER than '..Said'. Prove '..Said' where nothing that the law and all that it calls make is longer than what came in: it says more and counts as full. Else prove '..UptoSaid'. A law counts once. -/
mutual
def uptoBulk {H : Type} : DataW H → Nat
  | .lit (.string bytes) => bytes.length + 1
  | .lit _ => 1
  | .nil => 1
  | .ptr d => uptoBulk d + 1
  | .slice elems spare => uptoBulkAll elems + uptoBulkAll spare + 1
  | .agg parts => uptoBulkAll parts + 1
  | .iface _ d => uptoBulk d + 1
  | .map entries => uptoBulkEntries entries + 1
  | .held _ => 1
def uptoBulkAll {H : Type} : List (DataW H) → Nat
  | [] => 0
  | d :: r => uptoBulk d + uptoBulkAll r
def uptoBulkEntries {H : Type} : List (Lit × DataW H) → Nat
  | [] => 0
  | x :: r => uptoBulkEntry x + uptoBulkEntries r
def uptoBulkEntry {H : Type} : Lit × DataW H → Nat
  | (.string bytes, d) => bytes.length + uptoBulk d + 1
  | (_, d) => uptoBulk d + 1
 end
def uptoSmall : (H : Type) → List (DataW H) → Bool := fun _ ds => decide (uptoBulkAll ds ≤ 1048576)
def OpenSpec.upto (s : _root_.Go.ChangeSpec) : _root_.Go.OpenSpec := { _root_.Go.OpenSpec.ofChange s with cond := some uptoSmall }

/-- 'laws.FnViolationLength', WHERE WHAT IT READS IS OF BULK AT MOST 1048576: true; the input reads as it did. -/
def fnViolationLengthUptoRow : OpenClaim := { program := "ytdgminjbgjbamaa", sum := "f8fa94c4b2d56acb74e16e808e9447335d0ab89b7917698c18ecab8c248fd242", func := "loop.example/fpgatoolchain/laws.FnViolationLength", spec := "fnViolationLength", unfollowed := true, recurses := true, plainKeys := false, apart := false, narrowed := true }
def FnViolationLengthUptoSaid : Prop := fnViolationLengthUptoRow.holds Try.pinned (OpenSpec.upto fnViolationLengthSpec)

/-- 'laws.FnOptimizeMachine', WHERE WHAT IT READS IS OF BULK AT MOST 1048576: true; the input reads as it did. -/
def fnOptimizeMachineUptoRow : OpenClaim := { program := "ytdgminjbgjbamaa", sum := "f8fa94c4b2d56acb74e16e808e9447335d0ab89b7917698c18ecab8c248fd242", func := "loop.example/fpgatoolchain/laws.FnOptimizeMachine", spec := "fnOptimizeMachine", unfollowed := true, recurses := true, plainKeys := false, apart := false, narrowed := true }
def FnOptimizeMachineUptoSaid : Prop := fnOptimizeMachineUptoRow.holds Try.pinned (OpenSpec.upto fnOptimizeMachineSpec)

/-- 'laws.FnRetimeInvariant', WHERE WHAT IT READS IS OF BULK AT MOST 1048576: true; the input reads as it did. -/
def fnRetimeInvariantUptoRow : OpenClaim := { program := "ytdgminjbgjbamaa", sum := "f8fa94c4b2d56acb74e16e808e9447335d0ab89b7917698c18ecab8c248fd242", func := "loop.example/fpgatoolchain/laws.FnRetimeInvariant", spec := "fnRetimeInvariant", unfollowed := true, recurses := true, plainKeys := false, apart := false, narrowed := true }
def FnRetimeInvariantUptoSaid : Prop := fnRetimeInvariantUptoRow.holds Try.pinned (OpenSpec.upto fnRetimeInvariantSpec)

/-- 'laws.FnDecoderTable', WHERE WHAT IT READS IS OF BULK AT MOST 1048576: true; the input reads as it did. -/
def fnDecoderTableUptoRow : OpenClaim := { program := "ytdgminjbgjbamaa", sum := "f8fa94c4b2d56acb74e16e808e9447335d0ab89b7917698c18ecab8c248fd242", func := "loop.example/fpgatoolchain/laws.FnDecoderTable", spec := "fnDecoderTable", unfollowed := true, recurses := true, plainKeys := false, apart := false, narrowed := true }
def FnDecoderTableUptoSaid : Prop := fnDecoderTableUptoRow.holds Try.pinned (OpenSpec.upto fnDecoderTableSpec)

end Rows
end Go.Proofs.Ytdgminjbgjbamaa
