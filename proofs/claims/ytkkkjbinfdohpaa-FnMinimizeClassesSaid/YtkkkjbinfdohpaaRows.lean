/-
  No cell of these rows narrows 'for every input' (looked for: loops, veiled, ifaces, maps, wideKeys, modest, calm, conditions, laid).
  DERIVED. THE GIVEN ROWS OF THIS SEAT. 4 by the template 'for every input the law returns true; each argument reads behind the call as it read before'; 0 by the template 'total and deterministic' (their statements: YtkkkjbinfdohpaaTotals.lean).
  GIVEN WITH THE SEED: the statements are not yours to turn. If you find one false, say at which input.
  Laid BY PROGRAM, IN A SANDBOX (cutbox-rows.mjs): the forced cells as the released guide's own fill.sh prints them over the translation 83ee5b590212702d… (all of the seat's roots in one cut). By AI agents, Wed Nov 11 2026. No macro, syntax, notation, axiom, sorry.
-/
import Derived.Test.YtkkkjbinfdohpaaChecked
import GoSem.Claim
import GoSem.ClaimJoined
import GoSem.ClaimMapViews
import Derived.JoinedTies
import Derived.KernelRfl
namespace Go.Proofs.Ytkkkjbinfdohpaa
/- THE CELL 'sum', in the pinned program and in every row, IS THE sha256 OF THE DUMP (.gsa) THAT YtkkkjbinfdohpaaProg.lean LOADS. Nothing in Lean hashes anything: it is a label: what it is worth is what the hold of that sum in a sandbox is worth. -/
noncomputable def Try.pinned : Pinned := { name := "ytkkkjbinfdohpaa", sum := "83ee5b590212702d9bc4a580b7b463ba8157b6c5029b888eadf55197e00158c4", checked := Try.checked }
namespace Rows
def none {H : Type} : Left H := { results := [], args := [] }

/-- 'laws.FnTableMinimized': WHATEVER THE INPUT: true; the input reads as it did. -/
def fnTableMinimizedSpec : ChangeSpec := { name := "fnTableMinimized", fn := fun _ => fun
  | [d] => { results := [.lit (.bool true)], args := [d] }
  | _ => none }
def fnTableMinimizedRow : OpenClaim := { program := "ytkkkjbinfdohpaa", sum := "83ee5b590212702d9bc4a580b7b463ba8157b6c5029b888eadf55197e00158c4", func := "loop.example/fpgatoolchain/laws.FnTableMinimized", spec := "fnTableMinimized", unfollowed := true, recurses := true, plainKeys := false, apart := false }
def FnTableMinimizedSaid : Prop := fnTableMinimizedRow.holds Try.pinned (OpenSpec.ofChange fnTableMinimizedSpec)

/-- ITS FALSE NEIGHBOUR: 'it returns false'. Refute it at one input. -/
def fnTableMinimizedWrong : ChangeSpec := { name := "fnTableMinimized", fn := fun _ => fun
  | [d] => { results := [.lit (.bool false)], args := [d] }
  | _ => none }
def FnTableMinimizedWrongFalsely : Prop := fnTableMinimizedRow.holds Try.pinned (OpenSpec.ofChange fnTableMinimizedWrong)

/-- 'laws.FnTableOf': WHATEVER THE INPUT: true; the input reads as it did. -/
def fnTableOfSpec : ChangeSpec := { name := "fnTableOf", fn := fun _ => fun
  | [d] => { results := [.lit (.bool true)], args := [d] }
  | _ => none }
def fnTableOfRow : OpenClaim := { program := "ytkkkjbinfdohpaa", sum := "83ee5b590212702d9bc4a580b7b463ba8157b6c5029b888eadf55197e00158c4", func := "loop.example/fpgatoolchain/laws.FnTableOf", spec := "fnTableOf", recurses := true, plainKeys := false, apart := false }
def FnTableOfSaid : Prop := fnTableOfRow.holds Try.pinned (OpenSpec.ofChange fnTableOfSpec)

/-- ITS FALSE NEIGHBOUR: 'it returns false'. Refute it at one input. -/
def fnTableOfWrong : ChangeSpec := { name := "fnTableOf", fn := fun _ => fun
  | [d] => { results := [.lit (.bool false)], args := [d] }
  | _ => none }
def FnTableOfWrongFalsely : Prop := fnTableOfRow.holds Try.pinned (OpenSpec.ofChange fnTableOfWrong)

/-- 'laws.FnInvariantConstant': WHATEVER THE INPUT: true; the input reads as it did. -/
def fnInvariantConstantSpec : ChangeSpec := { name := "fnInvariantConstant", fn := fun _ => fun
  | [d] => { results := [.lit (.bool true)], args := [d] }
  | _ => none }
def fnInvariantConstantRow : OpenClaim := { program := "ytkkkjbinfdohpaa", sum := "83ee5b590212702d9bc4a580b7b463ba8157b6c5029b888eadf55197e00158c4", func := "loop.example/fpgatoolchain/laws.FnInvariantConstant", spec := "fnInvariantConstant", unfollowed := true, recurses := true, plainKeys := false, apart := false }
def FnInvariantConstantSaid : Prop := fnInvariantConstantRow.holds Try.pinned (OpenSpec.ofChange fnInvariantConstantSpec)

/-- ITS FALSE NEIGHBOUR: 'it returns false'. Refute it at one input. -/
def fnInvariantConstantWrong : ChangeSpec := { name := "fnInvariantConstant", fn := fun _ => fun
  | [d] => { results := [.lit (.bool false)], args := [d] }
  | _ => none }
def FnInvariantConstantWrongFalsely : Prop := fnInvariantConstantRow.holds Try.pinned (OpenSpec.ofChange fnInvariantConstantWrong)

/-- 'laws.FnMinimizeClasses': WHATEVER THE INPUT: true; the input reads as it did. -/
def fnMinimizeClassesSpec : ChangeSpec := { name := "fnMinimizeClasses", fn := fun _ => fun
  | [d] => { results := [.lit (.bool true)], args := [d] }
  | _ => none }
def fnMinimizeClassesRow : OpenClaim := { program := "ytkkkjbinfdohpaa", sum := "83ee5b590212702d9bc4a580b7b463ba8157b6c5029b888eadf55197e00158c4", func := "loop.example/fpgatoolchain/laws.FnMinimizeClasses", spec := "fnMinimizeClasses", unfollowed := true, recurses := true, plainKeys := false, apart := false }
def FnMinimizeClassesSaid : Prop := fnMinimizeClassesRow.holds Try.pinned (OpenSpec.ofChange fnMinimizeClassesSpec)

/-- ITS FALSE NEIGHBOUR: 'it returns false'. Refute it at one input. -/
def fnMinimizeClassesWrong : ChangeSpec := { name := "fnMinimizeClasses", fn := fun _ => fun
  | [d] => { results := [.lit (.bool false)], args := [d] }
  | _ => none }
def FnMinimizeClassesWrongFalsely : Prop := fnMinimizeClassesRow.holds Try.pinned (OpenSpec.ofChange fnMinimizeClassesWrong)

/- THE SECOND FORM. 'bulk': how many values and letters a reading holds, each counted each time it is reached (what is shared counts as often as it is met; a slice's spare places count too). A statement '..UptoSaid' is the law's where the arguments, and the package variables that the reading takes, are together of bulk at most 1048576: NARROWER than '..Said'. Prove '..Said' where nothing that the law and all that it calls make is longer than what came in: it says more and counts as full. Else prove '..UptoSaid'. A law counts once. -/
mutual
def uptoBulk {H : Type} : DataW H → Nat
  | .lit (.string bytes) => bytes.length + 1
  | .lit _ => 1
  | .nil => 1
  | .ptr d => uptoBulk d + 1
  | .slice elems spare => uptoBulkAll elems + uptoBulkAll spare + 1
  | .agg parts => uptoBulkAll parts + 1
  | .iface _ d => uptoBulk d + 1
  | .map entries => uptoBulkEntries entries + 1
  | .held _ => 1
def uptoBulkAll {H : Type} : List (DataW H) → Nat
  | [] => 0
  | d :: r => uptoBulk d + uptoBulkAll r
def uptoBulkEntries {H : Type} : List (Lit × DataW H) → Nat
  | [] => 0
  | x :: r => uptoBulkEntry x + uptoBulkEntries r
def uptoBulkEntry {H : Type} : Lit × DataW H → Nat
  | (.string bytes, d) => bytes.length + uptoBulk d + 1
  | (_, d) => uptoBulk d + 1
 end
def uptoSmall : (H : Type) → List (DataW H) → Bool := fun _ ds => decide (uptoBulkAll ds ≤ 1048576)
def OpenSpec.upto (s : _root_.Go.ChangeSpec) : _root_.Go.OpenSpec := { _root_.Go.OpenSpec.ofChange s with cond := some uptoSmall }

/-- 'laws.FnTableMinimized', WHERE WHAT IT READS IS OF BULK AT MOST 1048576: true; the input reads as it did. -/
def fnTableMinimizedUptoRow : OpenClaim := { program := "ytkkkjbinfdohpaa", sum := "83ee5b590212702d9bc4a580b7b463ba8157b6c5029b888eadf55197e00158c4", func := "loop.example/fpgatoolchain/laws.FnTableMinimized", spec := "fnTableMinimized", unfollowed := true, recurses := true, plainKeys := false, apart := false, narrowed := true }
def FnTableMinimizedUptoSaid : Prop := fnTableMinimizedUptoRow.holds Try.pinned (OpenSpec.upto fnTableMinimizedSpec)

/-- 'laws.FnTableOf', WHERE WHAT IT READS IS OF BULK AT MOST 1048576: true; the input reads as it did. -/
def fnTableOfUptoRow : OpenClaim := { program := "ytkkkjbinfdohpaa", sum := "83ee5b590212702d9bc4a580b7b463ba8157b6c5029b888eadf55197e00158c4", func := "loop.example/fpgatoolchain/laws.FnTableOf", spec := "fnTableOf", recurses := true, plainKeys := false, apart := false, narrowed := true }
def FnTableOfUptoSaid : Prop := fnTableOfUptoRow.holds Try.pinned (OpenSpec.upto fnTableOfSpec)

/-- 'laws.FnInvariantConstant', WHERE WHAT IT READS IS OF BULK AT MOST 1048576: true; the input reads as it did. -/
def fnInvariantConstantUptoRow : OpenClaim := { program := "ytkkkjbinfdohpaa", sum := "83ee5b590212702d9bc4a580b7b463ba8157b6c5029b888eadf55197e00158c4", func := "loop.example/fpgatoolchain/laws.FnInvariantConstant", spec := "fnInvariantConstant", unfollowed := true, recurses := true, plainKeys := false, apart := false, narrowed := true }
def FnInvariantConstantUptoSaid : Prop := fnInvariantConstantUptoRow.holds Try.pinned (OpenSpec.upto fnInvariantConstantSpec)

/-- 'laws.FnMinimizeClasses', WHERE WHAT IT READS IS OF BULK AT MOST 1048576: true; the input reads as it did. -/
def fnMinimizeClassesUptoRow : OpenClaim := { program := "ytkkkjbinfdohpaa", sum := "83ee5b590212702d9bc4a580b7b463ba8157b6c5029b888eadf55197e00158c4", func := "loop.example/fpgatoolchain/laws.FnMinimizeClasses", spec := "fnMinimizeClasses", unfollowed := true, recurses := true, plainKeys := false, apart := false, narrowed := true }
def FnMinimizeClassesUptoSaid : Prop := fnMinimizeClassesUptoRow.holds Try.pinned (OpenSpec.upto fnMinimizeClassesSpec)

end Rows
end Go.Proofs.Ytkkkjbinfdohpaa
