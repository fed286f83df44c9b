/-
  No cell of these rows narrows 'for every input' (looked for: loops, veiled, ifaces, maps, wideKeys, modest, calm, conditions, laid).
  DERIVED. THE GIVEN ROWS OF THIS SEAT. 12 by the template 'for every input the law returns true; each argument reads behind the call as it read before'; 0 by the template 'total and deterministic' (their statements: YtafckmknjddfhaaTotals.lean).
  GIVEN WITH THE SEED: the statements are not yours to turn. If you find one false, say at which input.
  Laid BY PROGRAM, IN A SANDBOX (cutbox-rows.mjs): the forced cells as the released guide's own fill.sh prints them over the translation d167ee9db901d271… (all of the seat's roots in one cut). By AI agents, Wed Nov 11 2026. No macro, syntax, notation, axiom, sorry.
-/
import Derived.Test.YtafckmknjddfhaaChecked
import GoSem.Claim
import GoSem.ClaimJoined
import GoSem.ClaimMapViews
import Derived.JoinedTies
import Derived.KernelRfl
namespace Go.Proofs.Ytafckmknjddfhaa
/- THE CELL 'sum', in the pinned program and in every row, IS THE sha256 OF THE DUMP (.gsa) THAT YtafckmknjddfhaaProg.lean LOADS. Nothing in Lean hashes anything: it is a label: what it is worth is what the hold of that sum in a sandbox is worth. -/
noncomputable def Try.pinned : Pinned := { name := "ytafckmknjddfhaa", sum := "d167ee9db901d271d68f4f3d9b2adfc47793a409aee80821e806d0cb321dd18b", checked := Try.checked }
namespace Rows
def none {H : Type} : Left H := { results := [], args := [] }

/-- 'laws.FnMachineValid': WHATEVER THE INPUT: true; the input reads as it did. -/
def fnMachineValidSpec : ChangeSpec := { name := "fnMachineValid", fn := fun _ => fun
  | [d] => { results := [.lit (.bool true)], args := [d] }
  | _ => none }
def fnMachineValidRow : OpenClaim := { program := "ytafckmknjddfhaa", sum := "d167ee9db901d271d68f4f3d9b2adfc47793a409aee80821e806d0cb321dd18b", func := "loop.example/fpgatoolchain/laws.FnMachineValid", spec := "fnMachineValid", plainKeys := false, apart := false }
def FnMachineValidSaid : Prop := fnMachineValidRow.holds Try.pinned (OpenSpec.ofChange fnMachineValidSpec)

/-- ITS FALSE NEIGHBOUR: 'it returns false'. Refute it at one input. -/
def fnMachineValidWrong : ChangeSpec := { name := "fnMachineValid", fn := fun _ => fun
  | [d] => { results := [.lit (.bool false)], args := [d] }
  | _ => none }
def FnMachineValidWrongFalsely : Prop := fnMachineValidRow.holds Try.pinned (OpenSpec.ofChange fnMachineValidWrong)

/-- 'laws.FnRunMachine': WHATEVER THE INPUT: true; the input reads as it did. -/
def fnRunMachineSpec : ChangeSpec := { name := "fnRunMachine", fn := fun _ => fun
  | [d] => { results := [.lit (.bool true)], args := [d] }
  | _ => none }
def fnRunMachineRow : OpenClaim := { program := "ytafckmknjddfhaa", sum := "d167ee9db901d271d68f4f3d9b2adfc47793a409aee80821e806d0cb321dd18b", func := "loop.example/fpgatoolchain/laws.FnRunMachine", spec := "fnRunMachine", plainKeys := false, apart := false }
def FnRunMachineSaid : Prop := fnRunMachineRow.holds Try.pinned (OpenSpec.ofChange fnRunMachineSpec)

/-- ITS FALSE NEIGHBOUR: 'it returns false'. Refute it at one input. -/
def fnRunMachineWrong : ChangeSpec := { name := "fnRunMachine", fn := fun _ => fun
  | [d] => { results := [.lit (.bool false)], args := [d] }
  | _ => none }
def FnRunMachineWrongFalsely : Prop := fnRunMachineRow.holds Try.pinned (OpenSpec.ofChange fnRunMachineWrong)

/-- 'laws.FnMinimize': WHATEVER THE INPUT: true; the input reads as it did. -/
def fnMinimizeSpec : ChangeSpec := { name := "fnMinimize", fn := fun _ => fun
  | [d1, d2] => { results := [.lit (.bool true)], args := [d1, d2] }
  | _ => none }
def fnMinimizeRow : OpenClaim := { program := "ytafckmknjddfhaa", sum := "d167ee9db901d271d68f4f3d9b2adfc47793a409aee80821e806d0cb321dd18b", func := "loop.example/fpgatoolchain/laws.FnMinimize", spec := "fnMinimize", unfollowed := true, recurses := true, plainKeys := false, apart := false }
def FnMinimizeSaid : Prop := fnMinimizeRow.holds Try.pinned (OpenSpec.ofChange fnMinimizeSpec)

/-- ITS FALSE NEIGHBOUR: 'it returns false'. Refute it at one input. -/
def fnMinimizeWrong : ChangeSpec := { name := "fnMinimize", fn := fun _ => fun
  | [d1, d2] => { results := [.lit (.bool false)], args := [d1, d2] }
  | _ => none }
def FnMinimizeWrongFalsely : Prop := fnMinimizeRow.holds Try.pinned (OpenSpec.ofChange fnMinimizeWrong)

/-- 'laws.FnMinimizeAgain': WHATEVER THE INPUT: true; the input reads as it did. -/
def fnMinimizeAgainSpec : ChangeSpec := { name := "fnMinimizeAgain", fn := fun _ => fun
  | [d] => { results := [.lit (.bool true)], args := [d] }
  | _ => none }
def fnMinimizeAgainRow : OpenClaim := { program := "ytafckmknjddfhaa", sum := "d167ee9db901d271d68f4f3d9b2adfc47793a409aee80821e806d0cb321dd18b", func := "loop.example/fpgatoolchain/laws.FnMinimizeAgain", spec := "fnMinimizeAgain", unfollowed := true, recurses := true, plainKeys := false, apart := false }
def FnMinimizeAgainSaid : Prop := fnMinimizeAgainRow.holds Try.pinned (OpenSpec.ofChange fnMinimizeAgainSpec)

/-- ITS FALSE NEIGHBOUR: 'it returns false'. Refute it at one input. -/
def fnMinimizeAgainWrong : ChangeSpec := { name := "fnMinimizeAgain", fn := fun _ => fun
  | [d] => { results := [.lit (.bool false)], args := [d] }
  | _ => none }
def FnMinimizeAgainWrongFalsely : Prop := fnMinimizeAgainRow.holds Try.pinned (OpenSpec.ofChange fnMinimizeAgainWrong)

/-- 'laws.FnInvariantConstant': WHATEVER THE INPUT: true; the input reads as it did. -/
def fnInvariantConstantSpec : ChangeSpec := { name := "fnInvariantConstant", fn := fun _ => fun
  | [d] => { results := [.lit (.bool true)], args := [d] }
  | _ => none }
def fnInvariantConstantRow : OpenClaim := { program := "ytafckmknjddfhaa", sum := "d167ee9db901d271d68f4f3d9b2adfc47793a409aee80821e806d0cb321dd18b", func := "loop.example/fpgatoolchain/laws.FnInvariantConstant", spec := "fnInvariantConstant", unfollowed := true, recurses := true, plainKeys := false, apart := false }
def FnInvariantConstantSaid : Prop := fnInvariantConstantRow.holds Try.pinned (OpenSpec.ofChange fnInvariantConstantSpec)

/-- ITS FALSE NEIGHBOUR: 'it returns false'. Refute it at one input. -/
def fnInvariantConstantWrong : ChangeSpec := { name := "fnInvariantConstant", fn := fun _ => fun
  | [d] => { results := [.lit (.bool false)], args := [d] }
  | _ => none }
def FnInvariantConstantWrongFalsely : Prop := fnInvariantConstantRow.holds Try.pinned (OpenSpec.ofChange fnInvariantConstantWrong)

/-- 'laws.FnTableOf': WHATEVER THE INPUT: true; the input reads as it did. -/
def fnTableOfSpec : ChangeSpec := { name := "fnTableOf", fn := fun _ => fun
  | [d] => { results := [.lit (.bool true)], args := [d] }
  | _ => none }
def fnTableOfRow : OpenClaim := { program := "ytafckmknjddfhaa", sum := "d167ee9db901d271d68f4f3d9b2adfc47793a409aee80821e806d0cb321dd18b", func := "loop.example/fpgatoolchain/laws.FnTableOf", spec := "fnTableOf", recurses := true, plainKeys := false, apart := false }
def FnTableOfSaid : Prop := fnTableOfRow.holds Try.pinned (OpenSpec.ofChange fnTableOfSpec)

/-- ITS FALSE NEIGHBOUR: 'it returns false'. Refute it at one input. -/
def fnTableOfWrong : ChangeSpec := { name := "fnTableOf", fn := fun _ => fun
  | [d] => { results := [.lit (.bool false)], args := [d] }
  | _ => none }
def FnTableOfWrongFalsely : Prop := fnTableOfRow.holds Try.pinned (OpenSpec.ofChange fnTableOfWrong)

/-- 'laws.FnTableMinimized': WHATEVER THE INPUT: true; the input reads as it did. -/
def fnTableMinimizedSpec : ChangeSpec := { name := "fnTableMinimized", fn := fun _ => fun
  | [d] => { results := [.lit (.bool true)], args := [d] }
  | _ => none }
def fnTableMinimizedRow : OpenClaim := { program := "ytafckmknjddfhaa", sum := "d167ee9db901d271d68f4f3d9b2adfc47793a409aee80821e806d0cb321dd18b", func := "loop.example/fpgatoolchain/laws.FnTableMinimized", spec := "fnTableMinimized", unfollowed := true, recurses := true, plainKeys := false, apart := false }
def FnTableMinimizedSaid : Prop := fnTableMinimizedRow.holds Try.pinned (OpenSpec.ofChange fnTableMinimizedSpec)

/-- ITS FALSE NEIGHBOUR: 'it returns false'. Refute it at one input. -/
def fnTableMinimizedWrong : ChangeSpec := { name := "fnTableMinimized", fn := fun _ => fun
  | [d] => { results := [.lit (.bool false)], args := [d] }
  | _ => none }
def FnTableMinimizedWrongFalsely : Prop := fnTableMinimizedRow.holds Try.pinned (OpenSpec.ofChange fnTableMinimizedWrong)

/-- 'laws.FnDecoderTable': WHATEVER THE INPUT: true; the input reads as it did. -/
def fnDecoderTableSpec : ChangeSpec := { name := "fnDecoderTable", fn := fun _ => fun
  | [d] => { results := [.lit (.bool true)], args := [d] }
  | _ => none }
def fnDecoderTableRow : OpenClaim := { program := "ytafckmknjddfhaa", sum := "d167ee9db901d271d68f4f3d9b2adfc47793a409aee80821e806d0cb321dd18b", func := "loop.example/fpgatoolchain/laws.FnDecoderTable", spec := "fnDecoderTable", unfollowed := true, recurses := true, plainKeys := false, apart := false }
def FnDecoderTableSaid : Prop := fnDecoderTableRow.holds Try.pinned (OpenSpec.ofChange fnDecoderTableSpec)

/-- ITS FALSE NEIGHBOUR: 'it returns false'. Refute it at one input. -/
def fnDecoderTableWrong : ChangeSpec := { name := "fnDecoderTable", fn := fun _ => fun
  | [d] => { results := [.lit (.bool false)], args := [d] }
  | _ => none }
def FnDecoderTableWrongFalsely : Prop := fnDecoderTableRow.holds Try.pinned (OpenSpec.ofChange fnDecoderTableWrong)

/-- 'laws.FnViolationLength': WHATEVER THE INPUT: true; the input reads as it did. -/
def fnViolationLengthSpec : ChangeSpec := { name := "fnViolationLength", fn := fun _ => fun
  | [d] => { results := [.lit (.bool true)], args := [d] }
  | _ => none }
def fnViolationLengthRow : OpenClaim := { program := "ytafckmknjddfhaa", sum := "d167ee9db901d271d68f4f3d9b2adfc47793a409aee80821e806d0cb321dd18b", func := "loop.example/fpgatoolchain/laws.FnViolationLength", spec := "fnViolationLength", unfollowed := true, recurses := true, plainKeys := false, apart := false }
def FnViolationLengthSaid : Prop := fnViolationLengthRow.holds Try.pinned (OpenSpec.ofChange fnViolationLengthSpec)

/-- ITS FALSE NEIGHBOUR: 'it returns false'. Refute it at one input. -/
def fnViolationLengthWrong : ChangeSpec := { name := "fnViolationLength", fn := fun _ => fun
  | [d] => { results := [.lit (.bool false)], args := [d] }
  | _ => none }
def FnViolationLengthWrongFalsely : Prop := fnViolationLengthRow.holds Try.pinned (OpenSpec.ofChange fnViolationLengthWrong)

/-- 'laws.FnRetimeInvariant': WHATEVER THE INPUT: true; the input reads as it did. -/
def fnRetimeInvariantSpec : ChangeSpec := { name := "fnRetimeInvariant", fn := fun _ => fun
  | [d] => { results := [.lit (.bool true)], args := [d] }
  | _ => none }
def fnRetimeInvariantRow : OpenClaim := { program := "ytafckmknjddfhaa", sum := "d167ee9db901d271d68f4f3d9b2adfc47793a409aee80821e806d0cb321dd18b", func := "loop.example/fpgatoolchain/laws.FnRetimeInvariant", spec := "fnRetimeInvariant", unfollowed := true, recurses := true, plainKeys := false, apart := false }
def FnRetimeInvariantSaid : Prop := fnRetimeInvariantRow.holds Try.pinned (OpenSpec.ofChange fnRetimeInvariantSpec)

/-- ITS FALSE NEIGHBOUR: 'it returns false'. Refute it at one input. -/
def fnRetimeInvariantWrong : ChangeSpec := { name := "fnRetimeInvariant", fn := fun _ => fun
  | [d] => { results := [.lit (.bool false)], args := [d] }
  | _ => none }
def FnRetimeInvariantWrongFalsely : Prop := fnRetimeInvariantRow.holds Try.pinned (OpenSpec.ofChange fnRetimeInvariantWrong)

/-- 'laws.FnOptimizeMachine': WHATEVER THE INPUT: true; the input reads as it did. -/
def fnOptimizeMachineSpec : ChangeSpec := { name := "fnOptimizeMachine", fn := fun _ => fun
  | [d] => { results := [.lit (.bool true)], args := [d] }
  | _ => none }
def fnOptimizeMachineRow : OpenClaim := { program := "ytafckmknjddfhaa", sum := "d167ee9db901d271d68f4f3d9b2adfc47793a409aee80821e806d0cb321dd18b", func := "loop.example/fpgatoolchain/laws.FnOptimizeMachine", spec := "fnOptimizeMachine", unfollowed := true, recurses := true, plainKeys := false, apart := false }
def FnOptimizeMachineSaid : Prop := fnOptimizeMachineRow.holds Try.pinned (OpenSpec.ofChange fnOptimizeMachineSpec)

/-- ITS FALSE NEIGHBOUR: 'it returns false'. Refute it at one input. -/
def fnOptimizeMachineWrong : ChangeSpec := { name := "fnOptimizeMachine", fn := fun _ => fun
  | [d] => { results := [.lit (.bool false)], args := [d] }
  | _ => none }
def FnOptimizeMachineWrongFalsely : Prop := fnOptimizeMachineRow.holds Try.pinned (OpenSpec.ofChange fnOptimizeMachineWrong)

/-- 'laws.FnMinimizeClasses': WHATEVER THE INPUT: true; the input reads as it did. -/
def fnMinimizeClassesSpec : ChangeSpec := { name := "fnMinimizeClasses", fn := fun _ => fun
  | [d] => { results := [.lit (.bool true)], args := [d] }
  | _ => none }
def fnMinimizeClassesRow : OpenClaim := { program := "ytafckmknjddfhaa", sum := "d167ee9db901d271d68f4f3d9b2adfc47793a409aee80821e806d0cb321dd18b", func := "loop.example/fpgatoolchain/laws.FnMinimizeClasses", spec := "fnMinimizeClasses", unfollowed := true, recurses := true, plainKeys := false, apart := false }
def FnMinimizeClassesSaid : Prop := fnMinimizeClassesRow.holds Try.pinned (OpenSpec.ofChange fnMinimizeClassesSpec)

/-- ITS FALSE NEIGHBOUR: 'it returns false'. Refute it at one input. -/
def fnMinimizeClassesWrong : ChangeSpec := { name := "fnMinimizeClasses", fn := fun _ => fun
  | [d] => { results := [.lit (.bool false)], args := [d] }
  | _ => none }
def FnMinimizeClassesWrongFalsely : Prop := fnMinimizeClassesRow.holds Try.pinned (OpenSpec.ofChange fnMinimizeClassesWrong)

/- THE SECOND FORM. 'bulk': how many values and letters a reading holds, each counted each time it is reached (what is shared counts as often as it is met; a slice's spare places count too). A statement '..UptoSaid' is the law's where the arguments, and the package variables that the reading takes, are together of bulk at most 1048576: NARROWER than '..Said'. Prove '..Said' where nothing that the law and all that it calls make is longer than what came in: it says more and counts as full. Else prove '..UptoSaid'. A law counts once. -/
mutual
def uptoBulk {H : Type} : DataW H → Nat
  | .lit (.string bytes) => bytes.length + 1
  | .lit _ => 1
  | .nil => 1
  | .ptr d => uptoBulk d + 1
  | .slice elems spare => uptoBulkAll elems + uptoBulkAll spare + 1
  | .agg parts => uptoBulkAll parts + 1
  | .iface _ d => uptoBulk d + 1
  | .map entries => uptoBulkEntries entries + 1
  | .held _ => 1
def uptoBulkAll {H : Type} : List (DataW H) → Nat
  | [] => 0
  | d :: r => uptoBulk d + uptoBulkAll r
def uptoBulkEntries {H : Type} : List (Lit × DataW H) → Nat
  | [] => 0
  | x :: r => uptoBulkEntry x + uptoBulkEntries r
def uptoBulkEntry {H : Type} : Lit × DataW H → Nat
  | (.string bytes, d) => bytes.length + uptoBulk d + 1
  | (_, d) => uptoBulk d + 1
 end
def uptoSmall : (H : Type) → List (DataW H) → Bool := fun _ ds => decide (uptoBulkAll ds ≤ 1048576)
def OpenSpec.upto (s : _root_.Go.ChangeSpec) : _root_.Go.OpenSpec := { _root_.Go.OpenSpec.ofChange s with cond := some uptoSmall }

/-- 'laws.FnMachineValid', WHERE WHAT IT READS IS OF BULK AT MOST 1048576: true; the input reads as it did. -/
def fnMachineValidUptoRow : OpenClaim := { program := "ytafckmknjddfhaa", sum := "d167ee9db901d271d68f4f3d9b2adfc47793a409aee80821e806d0cb321dd18b", func := "loop.example/fpgatoolchain/laws.FnMachineValid", spec := "fnMachineValid", plainKeys := false, apart := false, narrowed := true }
def FnMachineValidUptoSaid : Prop := fnMachineValidUptoRow.holds Try.pinned (OpenSpec.upto fnMachineValidSpec)

/-- 'laws.FnRunMachine', WHERE WHAT IT READS IS OF BULK AT MOST 1048576: true; the input reads as it did. -/
def fnRunMachineUptoRow : OpenClaim := { program := "ytafckmknjddfhaa", sum := "d167ee9db901d271d68f4f3d9b2adfc47793a409aee80821e806d0cb321dd18b", func := "loop.example/fpgatoolchain/laws.FnRunMachine", spec := "fnRunMachine", plainKeys := false, apart := false, narrowed := true }
def FnRunMachineUptoSaid : Prop := fnRunMachineUptoRow.holds Try.pinned (OpenSpec.upto fnRunMachineSpec)

/-- 'laws.FnMinimize', WHERE WHAT IT READS IS OF BULK AT MOST 1048576: true; the input reads as it did. -/
def fnMinimizeUptoRow : OpenClaim := { program := "ytafckmknjddfhaa", sum := "d167ee9db901d271d68f4f3d9b2adfc47793a409aee80821e806d0cb321dd18b", func := "loop.example/fpgatoolchain/laws.FnMinimize", spec := "fnMinimize", unfollowed := true, recurses := true, plainKeys := false, apart := false, narrowed := true }
def FnMinimizeUptoSaid : Prop := fnMinimizeUptoRow.holds Try.pinned (OpenSpec.upto fnMinimizeSpec)

/-- 'laws.FnMinimizeAgain', WHERE WHAT IT READS IS OF BULK AT MOST 1048576: true; the input reads as it did. -/
def fnMinimizeAgainUptoRow : OpenClaim := { program := "ytafckmknjddfhaa", sum := "d167ee9db901d271d68f4f3d9b2adfc47793a409aee80821e806d0cb321dd18b", func := "loop.example/fpgatoolchain/laws.FnMinimizeAgain", spec := "fnMinimizeAgain", unfollowed := true, recurses := true, plainKeys := false, apart := false, narrowed := true }
def FnMinimizeAgainUptoSaid : Prop := fnMinimizeAgainUptoRow.holds Try.pinned (OpenSpec.upto fnMinimizeAgainSpec)

/-- 'laws.FnInvariantConstant', WHERE WHAT IT READS IS OF BULK AT MOST 1048576: true; the input reads as it did. -/
def fnInvariantConstantUptoRow : OpenClaim := { program := "ytafckmknjddfhaa", sum := "d167ee9db901d271d68f4f3d9b2adfc47793a409aee80821e806d0cb321dd18b", func := "loop.example/fpgatoolchain/laws.FnInvariantConstant", spec := "fnInvariantConstant", unfollowed := true, recurses := true, plainKeys := false, apart := false, narrowed := true }
def FnInvariantConstantUptoSaid : Prop := fnInvariantConstantUptoRow.holds Try.pinned (OpenSpec.upto fnInvariantConstantSpec)

/-- 'laws.FnTableOf', WHERE WHAT IT READS IS OF BULK AT MOST 1048576: true; the input reads as it did. -/
def fnTableOfUptoRow : OpenClaim := { program := "ytafckmknjddfhaa", sum := "d167ee9db901d271d68f4f3d9b2adfc47793a409aee80821e806d0cb321dd18b", func := "loop.example/fpgatoolchain/laws.FnTableOf", spec := "fnTableOf", recurses := true, plainKeys := false, apart := false, narrowed := true }
def FnTableOfUptoSaid : Prop := fnTableOfUptoRow.holds Try.pinned (OpenSpec.upto fnTableOfSpec)

/-- 'laws.FnTableMinimized', WHERE WHAT IT READS IS OF BULK AT MOST 1048576: true; the input reads as it did. -/
def fnTableMinimizedUptoRow : OpenClaim := { program := "ytafckmknjddfhaa", sum := "d167ee9db901d271d68f4f3d9b2adfc47793a409aee80821e806d0cb321dd18b", func := "loop.example/fpgatoolchain/laws.FnTableMinimized", spec := "fnTableMinimized", unfollowed := true, recurses := true, plainKeys := false, apart := false, narrowed := true }
def FnTableMinimizedUptoSaid : Prop := fnTableMinimizedUptoRow.holds Try.pinned (OpenSpec.upto fnTableMinimizedSpec)

/-- 'laws.FnDecoderTable', WHERE WHAT IT READS IS OF BULK AT MOST 1048576: true; the input reads as it did. -/
def fnDecoderTableUptoRow : OpenClaim := { program := "ytafckmknjddfhaa", sum := "d167ee9db901d271d68f4f3d9b2adfc47793a409aee80821e806d0cb321dd18b", func := "loop.example/fpgatoolchain/laws.FnDecoderTable", spec := "fnDecoderTable", unfollowed := true, recurses := true, plainKeys := false, apart := false, narrowed := true }
def FnDecoderTableUptoSaid : Prop := fnDecoderTableUptoRow.holds Try.pinned (OpenSpec.upto fnDecoderTableSpec)

/-- 'laws.FnViolationLength', WHERE WHAT IT READS IS OF BULK AT MOST 1048576: true; the input reads as it did. -/
def fnViolationLengthUptoRow : OpenClaim := { program := "ytafckmknjddfhaa", sum := "d167ee9db901d271d68f4f3d9b2adfc47793a409aee80821e806d0cb321dd18b", func := "loop.example/fpgatoolchain/laws.FnViolationLength", spec := "fnViolationLength", unfollowed := true, recurses := true, plainKeys := false, apart := false, narrowed := true }
def FnViolationLengthUptoSaid : Prop := fnViolationLengthUptoRow.holds Try.pinned (OpenSpec.upto fnViolationLengthSpec)

/-- 'laws.FnRetimeInvariant', WHERE WHAT IT READS IS OF BULK AT MOST 1048576: true; the input reads as it did. -/
def fnRetimeInvariantUptoRow : OpenClaim := { program := "ytafckmknjddfhaa", sum := "d167ee9db901d271d68f4f3d9b2adfc47793a409aee80821e806d0cb321dd18b", func := "loop.example/fpgatoolchain/laws.FnRetimeInvariant", spec := "fnRetimeInvariant", unfollowed := true, recurses := true, plainKeys := false, apart := false, narrowed := true }
def FnRetimeInvariantUptoSaid : Prop := fnRetimeInvariantUptoRow.holds Try.pinned (OpenSpec.upto fnRetimeInvariantSpec)

/-- 'laws.FnOptimizeMachine', WHERE WHAT IT READS IS OF BULK AT MOST 1048576: true; the input reads as it did. -/
def fnOptimizeMachineUptoRow : OpenClaim := { program := "ytafckmknjddfhaa", sum := "d167ee9db901d271d68f4f3d9b2adfc47793a409aee80821e806d0cb321dd18b", func := "loop.example/fpgatoolchain/laws.FnOptimizeMachine", spec := "fnOptimizeMachine", unfollowed := true, recurses := true, plainKeys := false, apart := false, narrowed := true }
def FnOptimizeMachineUptoSaid : Prop := fnOptimizeMachineUptoRow.holds Try.pinned (OpenSpec.upto fnOptimizeMachineSpec)

/-- 'laws.FnMinimizeClasses', WHERE WHAT IT READS IS OF BULK AT MOST 1048576: true; the input reads as it did. -/
def fnMinimizeClassesUptoRow : OpenClaim := { program := "ytafckmknjddfhaa", sum := "d167ee9db901d271d68f4f3d9b2adfc47793a409aee80821e806d0cb321dd18b", func := "loop.example/fpgatoolchain/laws.FnMinimizeClasses", spec := "fnMinimizeClasses", unfollowed := true, recurses := true, plainKeys := false, apart := false, narrowed := true }
def FnMinimizeClassesUptoSaid : Prop := fnMinimizeClassesUptoRow.holds Try.pinned (OpenSpec.upto fnMinimizeClassesSpec)

end Rows
end Go.Proofs.Ytafckmknjddfhaa
