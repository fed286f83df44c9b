/-
  No cell of these rows narrows 'for every input' (looked for: loops, veiled, ifaces, maps, wideKeys, modest, calm, conditions, laid).
  DERIVED. THE GIVEN ROWS OF THIS SEAT. 4 by the template 'for every input the law returns true; each argument reads behind the call as it read before'; 0 by the template 'total and deterministic' (their statements: YtmlmnelbphjfbaaTotals.lean).
  GIVEN WITH THE SEED: the statements are not yours to turn. If you find one false, say at which input.
  Laid BY PROGRAM, IN A SANDBOX (cutbox-rows.mjs): the forced cells as the released guide's own fill.sh prints them over the translation 7487e933bd8a812a… (all of the seat's roots in one cut). By AI agents, Wed Nov 11 2026. No macro, syntax, notation, axiom, sorry.
-/
import Derived.Test.YtmlmnelbphjfbaaChecked
import GoSem.Claim
import GoSem.ClaimJoined
import GoSem.ClaimMapViews
import Derived.JoinedTies
import Derived.KernelRfl
namespace Go.Proofs.Ytmlmnelbphjfbaa
/- THE CELL 'sum', in the pinned program and in every row, IS THE sha256 OF THE DUMP (.gsa) THAT YtmlmnelbphjfbaaProg.lean LOADS. Nothing in Lean hashes anything: it is a label: what it is worth is what the hold of that sum in a sandbox is worth. -/
noncomputable def Try.pinned : Pinned := { name := "ytmlmnelbphjfbaa", sum := "7487e933bd8a812abc912be33ffb289dc81e96246be49a1ed63c2a277e971716", checked := Try.checked }
namespace Rows
def none {H : Type} : Left H := { results := [], args := [] }

/-- 'laws.FnMachineValid': WHATEVER THE INPUT: true; the input reads as it did. -/
def fnMachineValidSpec : ChangeSpec := { name := "fnMachineValid", fn := fun _ => fun
  | [d] => { results := [.lit (.bool true)], args := [d] }
  | _ => none }
def fnMachineValidRow : OpenClaim := { program := "ytmlmnelbphjfbaa", sum := "7487e933bd8a812abc912be33ffb289dc81e96246be49a1ed63c2a277e971716", func := "loop.example/fpgatoolchain/laws.FnMachineValid", spec := "fnMachineValid", apart := false }
def FnMachineValidSaid : Prop := fnMachineValidRow.holds Try.pinned (OpenSpec.ofChange fnMachineValidSpec)

/-- ITS FALSE NEIGHBOUR: 'it returns false'. Refute it at one input. -/
def fnMachineValidWrong : ChangeSpec := { name := "fnMachineValid", fn := fun _ => fun
  | [d] => { results := [.lit (.bool false)], args := [d] }
  | _ => none }
def FnMachineValidWrongFalsely : Prop := fnMachineValidRow.holds Try.pinned (OpenSpec.ofChange fnMachineValidWrong)

/-- 'laws.FnRunMachine': WHATEVER THE INPUT: true; the input reads as it did. -/
def fnRunMachineSpec : ChangeSpec := { name := "fnRunMachine", fn := fun _ => fun
  | [d] => { results := [.lit (.bool true)], args := [d] }
  | _ => none }
def fnRunMachineRow : OpenClaim := { program := "ytmlmnelbphjfbaa", sum := "7487e933bd8a812abc912be33ffb289dc81e96246be49a1ed63c2a277e971716", func := "loop.example/fpgatoolchain/laws.FnRunMachine", spec := "fnRunMachine", apart := false }
def FnRunMachineSaid : Prop := fnRunMachineRow.holds Try.pinned (OpenSpec.ofChange fnRunMachineSpec)

/-- ITS FALSE NEIGHBOUR: 'it returns false'. Refute it at one input. -/
def fnRunMachineWrong : ChangeSpec := { name := "fnRunMachine", fn := fun _ => fun
  | [d] => { results := [.lit (.bool false)], args := [d] }
  | _ => none }
def FnRunMachineWrongFalsely : Prop := fnRunMachineRow.holds Try.pinned (OpenSpec.ofChange fnRunMachineWrong)

/-- 'laws.FnMinimize': WHATEVER THE INPUT: true; the input reads as it did. -/
def fnMinimizeSpec : ChangeSpec := { name := "fnMinimize", fn := fun _ => fun
  | [d1, d2] => { results := [.lit (.bool true)], args := [d1, d2] }
  | _ => none }
def fnMinimizeRow : OpenClaim := { program := "ytmlmnelbphjfbaa", sum := "7487e933bd8a812abc912be33ffb289dc81e96246be49a1ed63c2a277e971716", func := "loop.example/fpgatoolchain/laws.FnMinimize", spec := "fnMinimize", unfollowed := true, recurses := true, apart := false }
def FnMinimizeSaid : Prop := fnMinimizeRow.holds Try.pinned (OpenSpec.ofChange fnMinimizeSpec)

/-- ITS FALSE NEIGHBOUR: 'it returns false'. Refute it at one input. -/
def fnMinimizeWrong : ChangeSpec := { name := "fnMinimize", fn := fun _ => fun
  | [d1, d2] => { results := [.lit (.bool false)], args := [d1, d2] }
  | _ => none }
def FnMinimizeWrongFalsely : Prop := fnMinimizeRow.holds Try.pinned (OpenSpec.ofChange fnMinimizeWrong)

/-- 'laws.FnMinimizeAgain': WHATEVER THE INPUT: true; the input reads as it did. -/
def fnMinimizeAgainSpec : ChangeSpec := { name := "fnMinimizeAgain", fn := fun _ => fun
  | [d] => { results := [.lit (.bool true)], args := [d] }
  | _ => none }
def fnMinimizeAgainRow : OpenClaim := { program := "ytmlmnelbphjfbaa", sum := "7487e933bd8a812abc912be33ffb289dc81e96246be49a1ed63c2a277e971716", func := "loop.example/fpgatoolchain/laws.FnMinimizeAgain", spec := "fnMinimizeAgain", unfollowed := true, recurses := true, apart := false }
def FnMinimizeAgainSaid : Prop := fnMinimizeAgainRow.holds Try.pinned (OpenSpec.ofChange fnMinimizeAgainSpec)

/-- ITS FALSE NEIGHBOUR: 'it returns false'. Refute it at one input. -/
def fnMinimizeAgainWrong : ChangeSpec := { name := "fnMinimizeAgain", fn := fun _ => fun
  | [d] => { results := [.lit (.bool false)], args := [d] }
  | _ => none }
def FnMinimizeAgainWrongFalsely : Prop := fnMinimizeAgainRow.holds Try.pinned (OpenSpec.ofChange fnMinimizeAgainWrong)

/- THE SECOND FORM. 'bulk': how many values and letters a reading holds, each counted each time it is reached (what is shared counts as often as it is met; a slice's spare places count too). A statement '..UptoSaid' is the law's where the arguments, and the package variables that the reading takes, are together of bulk at most 1048576: NARROWER than '..Said'. Prove '..Said' where nothing that the law and all that it calls make is longer than what came in: it says more and counts as full. Else prove '..UptoSaid'. A law counts once. -/
mutual
def uptoBulk {H : Type} : DataW H → Nat
  | .lit (.string bytes) => bytes.length + 1
  | .lit _ => 1
  | .nil => 1
  | .ptr d => uptoBulk d + 1
  | .slice elems spare => uptoBulkAll elems + uptoBulkAll spare + 1
  | .agg parts => uptoBulkAll parts + 1
  | .iface _ d => uptoBulk d + 1
  | .map entries => uptoBulkEntries entries + 1
  | .held _ => 1
def uptoBulkAll {H : Type} : List (DataW H) → Nat
  | [] => 0
  | d :: r => uptoBulk d + uptoBulkAll r
def uptoBulkEntries {H : Type} : List (Lit × DataW H) → Nat
  | [] => 0
  | x :: r => uptoBulkEntry x + uptoBulkEntries r
def uptoBulkEntry {H : Type} : Lit × DataW H → Nat
  | (.string bytes, d) => bytes.length + uptoBulk d + 1
  | (_, d) => uptoBulk d + 1
 end
def uptoSmall : (H : Type) → List (DataW H) → Bool := fun _ ds => decide (uptoBulkAll ds ≤ 1048576)
def OpenSpec.upto (s : _root_.Go.ChangeSpec) : _root_.Go.OpenSpec := { _root_.Go.OpenSpec.ofChange s with cond := some uptoSmall }

/-- 'laws.FnMachineValid', WHERE WHAT IT READS IS OF BULK AT MOST 1048576: true; the input reads as it did. -/
def fnMachineValidUptoRow : OpenClaim := { program := "ytmlmnelbphjfbaa", sum := "7487e933bd8a812abc912be33ffb289dc81e96246be49a1ed63c2a277e971716", func := "loop.example/fpgatoolchain/laws.FnMachineValid", spec := "fnMachineValid", apart := false, narrowed := true }
def FnMachineValidUptoSaid : Prop := fnMachineValidUptoRow.holds Try.pinned (OpenSpec.upto fnMachineValidSpec)

/-- 'laws.FnRunMachine', WHERE WHAT IT READS IS OF BULK AT MOST 1048576: true; the input reads as it did. -/
def fnRunMachineUptoRow : OpenClaim := { program := "ytmlmnelbphjfbaa", sum := "7487e933bd8a812abc912be33ffb289dc81e96246be49a1ed63c2a277e971716", func := "loop.example/fpgatoolchain/laws.FnRunMachine", spec := "fnRunMachine", apart := false, narrowed := true }
def FnRunMachineUptoSaid : Prop := fnRunMachineUptoRow.holds Try.pinned (OpenSpec.upto fnRunMachineSpec)

/-- 'laws.FnMinimize', WHERE WHAT IT READS IS OF BULK AT MOST 1048576: true; the input reads as it did. -/
def fnMinimizeUptoRow : OpenClaim := { program := "ytmlmnelbphjfbaa", sum := "7487e933bd8a812abc912be33ffb289dc81e96246be49a1ed63c2a277e971716", func := "loop.example/fpgatoolchain/laws.FnMinimize", spec := "fnMinimize", unfollowed := true, recurses := true, apart := false, narrowed := true }
def FnMinimizeUptoSaid : Prop := fnMinimizeUptoRow.holds Try.pinned (OpenSpec.upto fnMinimizeSpec)

/-- 'laws.FnMinimizeAgain', WHERE WHAT IT READS IS OF BULK AT MOST 1048576: true; the input reads as it did. -/
def fnMinimizeAgainUptoRow : OpenClaim := { program := "ytmlmnelbphjfbaa", sum := "7487e933bd8a812abc912be33ffb289dc81e96246be49a1ed63c2a277e971716", func := "loop.example/fpgatoolchain/laws.FnMinimizeAgain", spec := "fnMinimizeAgain", unfollowed := true, recurses := true, apart := false, narrowed := true }
def FnMinimizeAgainUptoSaid : Prop := fnMinimizeAgainUptoRow.holds Try.pinned (OpenSpec.upto fnMinimizeAgainSpec)

end Rows
end Go.Proofs.Ytmlmnelbphjfbaa
