/-
  No cell of these rows narrows 'for every input' (looked for: loops, veiled, ifaces, maps, wideKeys, modest, calm, conditions, laid).
  DERIVED. THE GIVEN ROWS OF THIS SEAT. 9 by the template 'for every input the law returns true; each argument reads behind the call as it read before'; 0 by the template 'total and deterministic' (their statements: YtpbgfhlhpinkeaaTotals.lean).
  GIVEN WITH THE SEED: the statements are not yours to turn. If you find one false, say at which input.
  Laid BY PROGRAM, IN A SANDBOX (cutbox-rows.mjs): the forced cells as the released guide's own fill.sh prints them over the translation 27f51023fe811e9e… (all of the seat's roots in one cut). By AI agents, Wed Nov 11 2026. No macro, syntax, notation, axiom, sorry.
-/
import Derived.Test.YtpbgfhlhpinkeaaChecked
import GoSem.Claim
import GoSem.ClaimJoined
import GoSem.ClaimMapViews
import Derived.JoinedTies
import Derived.KernelRfl
namespace Go.Proofs.Ytpbgfhlhpinkeaa
/- THE CELL 'sum', in the pinned program and in every row, IS THE sha256 OF THE DUMP (.gsa) THAT YtpbgfhlhpinkeaaProg.lean LOADS. Nothing in Lean hashes anything: it is a label: what it is worth is what the hold of that sum in a sandbox is worth. -/
noncomputable def Try.pinned : Pinned := { name := "ytpbgfhlhpinkeaa", sum := "27f51023fe811e9e19b992f66b23cc1145ca7dff944b4e903fe7369137040665", checked := Try.checked }
namespace Rows
def none {H : Type} : Left H := { results := [], args := [] }

/-- 'laws.FnMaximalPeriod': WHATEVER THE INPUT: true; the input reads as it did. -/
def fnMaximalPeriodSpec : ChangeSpec := { name := "fnMaximalPeriod", fn := fun _ => fun
  | [d] => { results := [.lit (.bool true)], args := [d] }
  | _ => none }
def fnMaximalPeriodRow : OpenClaim := { program := "ytpbgfhlhpinkeaa", sum := "27f51023fe811e9e19b992f66b23cc1145ca7dff944b4e903fe7369137040665", func := "loop.example/fpgatoolchain/laws.FnMaximalPeriod", spec := "fnMaximalPeriod", apart := false }
def FnMaximalPeriodSaid : Prop := fnMaximalPeriodRow.holds Try.pinned (OpenSpec.ofChange fnMaximalPeriodSpec)

/-- ITS FALSE NEIGHBOUR: 'it returns false'. Refute it at one input. -/
def fnMaximalPeriodWrong : ChangeSpec := { name := "fnMaximalPeriod", fn := fun _ => fun
  | [d] => { results := [.lit (.bool false)], args := [d] }
  | _ => none }
def FnMaximalPeriodWrongFalsely : Prop := fnMaximalPeriodRow.holds Try.pinned (OpenSpec.ofChange fnMaximalPeriodWrong)

/-- 'laws.FnExactShiftNext': WHATEVER THE INPUT: true; the input reads as it did. -/
def fnExactShiftNextSpec : ChangeSpec := { name := "fnExactShiftNext", fn := fun _ => fun
  | [d1, d2, d3] => { results := [.lit (.bool true)], args := [d1, d2, d3] }
  | _ => none }
def fnExactShiftNextRow : OpenClaim := { program := "ytpbgfhlhpinkeaa", sum := "27f51023fe811e9e19b992f66b23cc1145ca7dff944b4e903fe7369137040665", func := "loop.example/fpgatoolchain/laws.FnExactShiftNext", spec := "fnExactShiftNext", apart := false }
def FnExactShiftNextSaid : Prop := fnExactShiftNextRow.holds Try.pinned (OpenSpec.ofChange fnExactShiftNextSpec)

/-- ITS FALSE NEIGHBOUR: 'it returns false'. Refute it at one input. -/
def fnExactShiftNextWrong : ChangeSpec := { name := "fnExactShiftNext", fn := fun _ => fun
  | [d1, d2, d3] => { results := [.lit (.bool false)], args := [d1, d2, d3] }
  | _ => none }
def FnExactShiftNextWrongFalsely : Prop := fnExactShiftNextRow.holds Try.pinned (OpenSpec.ofChange fnExactShiftNextWrong)

/-- 'laws.FnExactPeriod': WHATEVER THE INPUT: true; the input reads as it did. -/
def fnExactPeriodSpec : ChangeSpec := { name := "fnExactPeriod", fn := fun _ => fun
  | [d1, d2, d3] => { results := [.lit (.bool true)], args := [d1, d2, d3] }
  | _ => none }
def fnExactPeriodRow : OpenClaim := { program := "ytpbgfhlhpinkeaa", sum := "27f51023fe811e9e19b992f66b23cc1145ca7dff944b4e903fe7369137040665", func := "loop.example/fpgatoolchain/laws.FnExactPeriod", spec := "fnExactPeriod", apart := false }
def FnExactPeriodSaid : Prop := fnExactPeriodRow.holds Try.pinned (OpenSpec.ofChange fnExactPeriodSpec)

/-- ITS FALSE NEIGHBOUR: 'it returns false'. Refute it at one input. -/
def fnExactPeriodWrong : ChangeSpec := { name := "fnExactPeriod", fn := fun _ => fun
  | [d1, d2, d3] => { results := [.lit (.bool false)], args := [d1, d2, d3] }
  | _ => none }
def FnExactPeriodWrongFalsely : Prop := fnExactPeriodRow.holds Try.pinned (OpenSpec.ofChange fnExactPeriodWrong)

/-- 'laws.FnExactSignature': WHATEVER THE INPUT: true; the input reads as it did. -/
def fnExactSignatureSpec : ChangeSpec := { name := "fnExactSignature", fn := fun _ => fun
  | [d1, d2, d3] => { results := [.lit (.bool true)], args := [d1, d2, d3] }
  | _ => none }
def fnExactSignatureRow : OpenClaim := { program := "ytpbgfhlhpinkeaa", sum := "27f51023fe811e9e19b992f66b23cc1145ca7dff944b4e903fe7369137040665", func := "loop.example/fpgatoolchain/laws.FnExactSignature", spec := "fnExactSignature", apart := false }
def FnExactSignatureSaid : Prop := fnExactSignatureRow.holds Try.pinned (OpenSpec.ofChange fnExactSignatureSpec)

/-- ITS FALSE NEIGHBOUR: 'it returns false'. Refute it at one input. -/
def fnExactSignatureWrong : ChangeSpec := { name := "fnExactSignature", fn := fun _ => fun
  | [d1, d2, d3] => { results := [.lit (.bool false)], args := [d1, d2, d3] }
  | _ => none }
def FnExactSignatureWrongFalsely : Prop := fnExactSignatureRow.holds Try.pinned (OpenSpec.ofChange fnExactSignatureWrong)

/-- 'laws.FnShiftNext': WHATEVER THE INPUT: true; the input reads as it did. -/
def fnShiftNextSpec : ChangeSpec := { name := "fnShiftNext", fn := fun _ => fun
  | [d1, d2] => { results := [.lit (.bool true)], args := [d1, d2] }
  | _ => none }
def fnShiftNextRow : OpenClaim := { program := "ytpbgfhlhpinkeaa", sum := "27f51023fe811e9e19b992f66b23cc1145ca7dff944b4e903fe7369137040665", func := "loop.example/fpgatoolchain/laws.FnShiftNext", spec := "fnShiftNext", apart := false }
def FnShiftNextSaid : Prop := fnShiftNextRow.holds Try.pinned (OpenSpec.ofChange fnShiftNextSpec)

/-- ITS FALSE NEIGHBOUR: 'it returns false'. Refute it at one input. -/
def fnShiftNextWrong : ChangeSpec := { name := "fnShiftNext", fn := fun _ => fun
  | [d1, d2] => { results := [.lit (.bool false)], args := [d1, d2] }
  | _ => none }
def FnShiftNextWrongFalsely : Prop := fnShiftNextRow.holds Try.pinned (OpenSpec.ofChange fnShiftNextWrong)

/-- 'laws.FnShiftPermutes': WHATEVER THE INPUT: true; the input reads as it did. -/
def fnShiftPermutesSpec : ChangeSpec := { name := "fnShiftPermutes", fn := fun _ => fun
  | [d] => { results := [.lit (.bool true)], args := [d] }
  | _ => none }
def fnShiftPermutesRow : OpenClaim := { program := "ytpbgfhlhpinkeaa", sum := "27f51023fe811e9e19b992f66b23cc1145ca7dff944b4e903fe7369137040665", func := "loop.example/fpgatoolchain/laws.FnShiftPermutes", spec := "fnShiftPermutes", apart := false }
def FnShiftPermutesSaid : Prop := fnShiftPermutesRow.holds Try.pinned (OpenSpec.ofChange fnShiftPermutesSpec)

/-- ITS FALSE NEIGHBOUR: 'it returns false'. Refute it at one input. -/
def fnShiftPermutesWrong : ChangeSpec := { name := "fnShiftPermutes", fn := fun _ => fun
  | [d] => { results := [.lit (.bool false)], args := [d] }
  | _ => none }
def FnShiftPermutesWrongFalsely : Prop := fnShiftPermutesRow.holds Try.pinned (OpenSpec.ofChange fnShiftPermutesWrong)

/-- 'laws.FnPeriod': WHATEVER THE INPUT: true; the input reads as it did. -/
def fnPeriodSpec : ChangeSpec := { name := "fnPeriod", fn := fun _ => fun
  | [d] => { results := [.lit (.bool true)], args := [d] }
  | _ => none }
def fnPeriodRow : OpenClaim := { program := "ytpbgfhlhpinkeaa", sum := "27f51023fe811e9e19b992f66b23cc1145ca7dff944b4e903fe7369137040665", func := "loop.example/fpgatoolchain/laws.FnPeriod", spec := "fnPeriod", apart := false }
def FnPeriodSaid : Prop := fnPeriodRow.holds Try.pinned (OpenSpec.ofChange fnPeriodSpec)

/-- ITS FALSE NEIGHBOUR: 'it returns false'. Refute it at one input. -/
def fnPeriodWrong : ChangeSpec := { name := "fnPeriod", fn := fun _ => fun
  | [d] => { results := [.lit (.bool false)], args := [d] }
  | _ => none }
def FnPeriodWrongFalsely : Prop := fnPeriodRow.holds Try.pinned (OpenSpec.ofChange fnPeriodWrong)

/-- 'laws.FnSignature': WHATEVER THE INPUT: true; the input reads as it did. -/
def fnSignatureSpec : ChangeSpec := { name := "fnSignature", fn := fun _ => fun
  | [d1, d2] => { results := [.lit (.bool true)], args := [d1, d2] }
  | _ => none }
def fnSignatureRow : OpenClaim := { program := "ytpbgfhlhpinkeaa", sum := "27f51023fe811e9e19b992f66b23cc1145ca7dff944b4e903fe7369137040665", func := "loop.example/fpgatoolchain/laws.FnSignature", spec := "fnSignature", apart := false }
def FnSignatureSaid : Prop := fnSignatureRow.holds Try.pinned (OpenSpec.ofChange fnSignatureSpec)

/-- ITS FALSE NEIGHBOUR: 'it returns false'. Refute it at one input. -/
def fnSignatureWrong : ChangeSpec := { name := "fnSignature", fn := fun _ => fun
  | [d1, d2] => { results := [.lit (.bool false)], args := [d1, d2] }
  | _ => none }
def FnSignatureWrongFalsely : Prop := fnSignatureRow.holds Try.pinned (OpenSpec.ofChange fnSignatureWrong)

/-- 'laws.FnSignatureZero': WHATEVER THE INPUT: true; the input reads as it did. -/
def fnSignatureZeroSpec : ChangeSpec := { name := "fnSignatureZero", fn := fun _ => fun
  | [d] => { results := [.lit (.bool true)], args := [d] }
  | _ => none }
def fnSignatureZeroRow : OpenClaim := { program := "ytpbgfhlhpinkeaa", sum := "27f51023fe811e9e19b992f66b23cc1145ca7dff944b4e903fe7369137040665", func := "loop.example/fpgatoolchain/laws.FnSignatureZero", spec := "fnSignatureZero", apart := false }
def FnSignatureZeroSaid : Prop := fnSignatureZeroRow.holds Try.pinned (OpenSpec.ofChange fnSignatureZeroSpec)

/-- ITS FALSE NEIGHBOUR: 'it returns false'. Refute it at one input. -/
def fnSignatureZeroWrong : ChangeSpec := { name := "fnSignatureZero", fn := fun _ => fun
  | [d] => { results := [.lit (.bool false)], args := [d] }
  | _ => none }
def FnSignatureZeroWrongFalsely : Prop := fnSignatureZeroRow.holds Try.pinned (OpenSpec.ofChange fnSignatureZeroWrong)

/- THE SECOND FORM. 'bulk': how many values and letters a reading holds, each counted each time it is reached (what is shared counts as often as it is met; a slice's spare places count too). A statement '..UptoSaid' is the law's where the arguments, and the package variables that the reading takes, are together of bulk at most 1048576: NARROWER than '..Said'. Prove '..Said' where nothing that the law and all that it calls make is longer than what came in: it says more and counts as full. Else prove '..UptoSaid'. A law counts once. -/
mutual
def uptoBulk {H : Type} : DataW H → Nat
  | .lit (.string bytes) => bytes.length + 1
  | .lit _ => 1
  | .nil => 1
  | .ptr d => uptoBulk d + 1
  | .slice elems spare => uptoBulkAll elems + uptoBulkAll spare + 1
  | .agg parts => uptoBulkAll parts + 1
  | .iface _ d => uptoBulk d + 1
  | .map entries => uptoBulkEntries entries + 1
  | .held _ => 1
def uptoBulkAll {H : Type} : List (DataW H) → Nat
  | [] => 0
  | d :: r => uptoBulk d + uptoBulkAll r
def uptoBulkEntries {H : Type} : List (Lit × DataW H) → Nat
  | [] => 0
  | x :: r => uptoBulkEntry x + uptoBulkEntries r
def uptoBulkEntry {H : Type} : Lit × DataW H → Nat
  | (.string bytes, d) => bytes.length + uptoBulk d + 1
  | (_, d) => uptoBulk d + 1
 end
def uptoSmall : (H : Type) → List (DataW H) → Bool := fun _ ds => decide (uptoBulkAll ds ≤ 1048576)
def OpenSpec.upto (s : _root_.Go.ChangeSpec) : _root_.Go.OpenSpec := { _root_.Go.OpenSpec.ofChange s with cond := some uptoSmall }

/-- 'laws.FnMaximalPeriod', WHERE WHAT IT READS IS OF BULK AT MOST 1048576: true; the input reads as it did. -/
def fnMaximalPeriodUptoRow : OpenClaim := { program := "ytpbgfhlhpinkeaa", sum := "27f51023fe811e9e19b992f66b23cc1145ca7dff944b4e903fe7369137040665", func := "loop.example/fpgatoolchain/laws.FnMaximalPeriod", spec := "fnMaximalPeriod", apart := false, narrowed := true }
def FnMaximalPeriodUptoSaid : Prop := fnMaximalPeriodUptoRow.holds Try.pinned (OpenSpec.upto fnMaximalPeriodSpec)

/-- 'laws.FnExactShiftNext', WHERE WHAT IT READS IS OF BULK AT MOST 1048576: true; the input reads as it did. -/
def fnExactShiftNextUptoRow : OpenClaim := { program := "ytpbgfhlhpinkeaa", sum := "27f51023fe811e9e19b992f66b23cc1145ca7dff944b4e903fe7369137040665", func := "loop.example/fpgatoolchain/laws.FnExactShiftNext", spec := "fnExactShiftNext", apart := false, narrowed := true }
def FnExactShiftNextUptoSaid : Prop := fnExactShiftNextUptoRow.holds Try.pinned (OpenSpec.upto fnExactShiftNextSpec)

/-- 'laws.FnExactPeriod', WHERE WHAT IT READS IS OF BULK AT MOST 1048576: true; the input reads as it did. -/
def fnExactPeriodUptoRow : OpenClaim := { program := "ytpbgfhlhpinkeaa", sum := "27f51023fe811e9e19b992f66b23cc1145ca7dff944b4e903fe7369137040665", func := "loop.example/fpgatoolchain/laws.FnExactPeriod", spec := "fnExactPeriod", apart := false, narrowed := true }
def FnExactPeriodUptoSaid : Prop := fnExactPeriodUptoRow.holds Try.pinned (OpenSpec.upto fnExactPeriodSpec)

/-- 'laws.FnExactSignature', WHERE WHAT IT READS IS OF BULK AT MOST 1048576: true; the input reads as it did. -/
def fnExactSignatureUptoRow : OpenClaim := { program := "ytpbgfhlhpinkeaa", sum := "27f51023fe811e9e19b992f66b23cc1145ca7dff944b4e903fe7369137040665", func := "loop.example/fpgatoolchain/laws.FnExactSignature", spec := "fnExactSignature", apart := false, narrowed := true }
def FnExactSignatureUptoSaid : Prop := fnExactSignatureUptoRow.holds Try.pinned (OpenSpec.upto fnExactSignatureSpec)

/-- 'laws.FnShiftNext', WHERE WHAT IT READS IS OF BULK AT MOST 1048576: true; the input reads as it did. -/
def fnShiftNextUptoRow : OpenClaim := { program := "ytpbgfhlhpinkeaa", sum := "27f51023fe811e9e19b992f66b23cc1145ca7dff944b4e903fe7369137040665", func := "loop.example/fpgatoolchain/laws.FnShiftNext", spec := "fnShiftNext", apart := false, narrowed := true }
def FnShiftNextUptoSaid : Prop := fnShiftNextUptoRow.holds Try.pinned (OpenSpec.upto fnShiftNextSpec)

/-- 'laws.FnShiftPermutes', WHERE WHAT IT READS IS OF BULK AT MOST 1048576: true; the input reads as it did. -/
def fnShiftPermutesUptoRow : OpenClaim := { program := "ytpbgfhlhpinkeaa", sum := "27f51023fe811e9e19b992f66b23cc1145ca7dff944b4e903fe7369137040665", func := "loop.example/fpgatoolchain/laws.FnShiftPermutes", spec := "fnShiftPermutes", apart := false, narrowed := true }
def FnShiftPermutesUptoSaid : Prop := fnShiftPermutesUptoRow.holds Try.pinned (OpenSpec.upto fnShiftPermutesSpec)

/-- 'laws.FnPeriod', WHERE WHAT IT READS IS OF BULK AT MOST 1048576: true; the input reads as it did. -/
def fnPeriodUptoRow : OpenClaim := { program := "ytpbgfhlhpinkeaa", sum := "27f51023fe811e9e19b992f66b23cc1145ca7dff944b4e903fe7369137040665", func := "loop.example/fpgatoolchain/laws.FnPeriod", spec := "fnPeriod", apart := false, narrowed := true }
def FnPeriodUptoSaid : Prop := fnPeriodUptoRow.holds Try.pinned (OpenSpec.upto fnPeriodSpec)

/-- 'laws.FnSignature', WHERE WHAT IT READS IS OF BULK AT MOST 1048576: true; the input reads as it did. -/
def fnSignatureUptoRow : OpenClaim := { program := "ytpbgfhlhpinkeaa", sum := "27f51023fe811e9e19b992f66b23cc1145ca7dff944b4e903fe7369137040665", func := "loop.example/fpgatoolchain/laws.FnSignature", spec := "fnSignature", apart := false, narrowed := true }
def FnSignatureUptoSaid : Prop := fnSignatureUptoRow.holds Try.pinned (OpenSpec.upto fnSignatureSpec)

/-- 'laws.FnSignatureZero', WHERE WHAT IT READS IS OF BULK AT MOST 1048576: true; the input reads as it did. -/
def fnSignatureZeroUptoRow : OpenClaim := { program := "ytpbgfhlhpinkeaa", sum := "27f51023fe811e9e19b992f66b23cc1145ca7dff944b4e903fe7369137040665", func := "loop.example/fpgatoolchain/laws.FnSignatureZero", spec := "fnSignatureZero", apart := false, narrowed := true }
def FnSignatureZeroUptoSaid : Prop := fnSignatureZeroUptoRow.holds Try.pinned (OpenSpec.upto fnSignatureZeroSpec)

end Rows
end Go.Proofs.Ytpbgfhlhpinkeaa
