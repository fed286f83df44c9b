/-
  No cell of these rows narrows 'for every input' (looked for: loops, veiled, ifaces, maps, wideKeys, modest, calm, conditions, laid).
  DERIVED. THE GIVEN ROWS OF THIS SEAT. 10 by the template 'for every input the law returns true; each argument reads behind the call as it read before'; 0 by the template 'total and deterministic' (their statements: YtlpellciiiflkaaTotals.lean).
  GIVEN WITH THE SEED: the statements are not yours to turn. If you find one false, say at which input.
  Laid BY PROGRAM, IN A SANDBOX (cutbox-rows.mjs): the forced cells as the released guide's own fill.sh prints them over the translation 881f8cf21b90b057… (all of the seat's roots in one cut). By AI agents, Wed Nov 11 2026. No macro, syntax, notation, axiom, sorry.
-/
import Derived.Test.YtlpellciiiflkaaChecked
import GoSem.Claim
import GoSem.ClaimJoined
import GoSem.ClaimMapViews
import Derived.JoinedTies
import Derived.KernelRfl
namespace Go.Proofs.Ytlpellciiiflkaa
/- THE CELL 'sum', in the pinned program and in every row, IS THE sha256 OF THE DUMP (.gsa) THAT YtlpellciiiflkaaProg.lean LOADS. Nothing in Lean hashes anything: it is a label: what it is worth is what the hold of that sum in a sandbox is worth. -/
noncomputable def Try.pinned : Pinned := { name := "ytlpellciiiflkaa", sum := "881f8cf21b90b05760f1ffe21b9fe153a10ce6fe9cc3a6f5fc6aac9a8177e6dd", checked := Try.checked }
namespace Rows
def none {H : Type} : Left H := { results := [], args := [] }

/-- 'laws.FnExactCubeHas': WHATEVER THE INPUT: true; the input reads as it did. -/
def fnExactCubeHasSpec : ChangeSpec := { name := "fnExactCubeHas", fn := fun _ => fun
  | [d1, d2] => { results := [.lit (.bool true)], args := [d1, d2] }
  | _ => none }
def fnExactCubeHasRow : OpenClaim := { program := "ytlpellciiiflkaa", sum := "881f8cf21b90b05760f1ffe21b9fe153a10ce6fe9cc3a6f5fc6aac9a8177e6dd", func := "loop.example/fpgatoolchain/laws.FnExactCubeHas", spec := "fnExactCubeHas", apart := false }
def FnExactCubeHasSaid : Prop := fnExactCubeHasRow.holds Try.pinned (OpenSpec.ofChange fnExactCubeHasSpec)

/-- ITS FALSE NEIGHBOUR: 'it returns false'. Refute it at one input. -/
def fnExactCubeHasWrong : ChangeSpec := { name := "fnExactCubeHas", fn := fun _ => fun
  | [d1, d2] => { results := [.lit (.bool false)], args := [d1, d2] }
  | _ => none }
def FnExactCubeHasWrongFalsely : Prop := fnExactCubeHasRow.holds Try.pinned (OpenSpec.ofChange fnExactCubeHasWrong)

/-- 'laws.FnCubeHas': WHATEVER THE INPUT: true; the input reads as it did. -/
def fnCubeHasSpec : ChangeSpec := { name := "fnCubeHas", fn := fun _ => fun
  | [d] => { results := [.lit (.bool true)], args := [d] }
  | _ => none }
def fnCubeHasRow : OpenClaim := { program := "ytlpellciiiflkaa", sum := "881f8cf21b90b05760f1ffe21b9fe153a10ce6fe9cc3a6f5fc6aac9a8177e6dd", func := "loop.example/fpgatoolchain/laws.FnCubeHas", spec := "fnCubeHas", apart := false }
def FnCubeHasSaid : Prop := fnCubeHasRow.holds Try.pinned (OpenSpec.ofChange fnCubeHasSpec)

/-- ITS FALSE NEIGHBOUR: 'it returns false'. Refute it at one input. -/
def fnCubeHasWrong : ChangeSpec := { name := "fnCubeHas", fn := fun _ => fun
  | [d] => { results := [.lit (.bool false)], args := [d] }
  | _ => none }
def FnCubeHasWrongFalsely : Prop := fnCubeHasRow.holds Try.pinned (OpenSpec.ofChange fnCubeHasWrong)

/-- 'laws.FnExactCoverTable': WHATEVER THE INPUT: true; the input reads as it did. -/
def fnExactCoverTableSpec : ChangeSpec := { name := "fnExactCoverTable", fn := fun _ => fun
  | [d1, d2] => { results := [.lit (.bool true)], args := [d1, d2] }
  | _ => none }
def fnExactCoverTableRow : OpenClaim := { program := "ytlpellciiiflkaa", sum := "881f8cf21b90b05760f1ffe21b9fe153a10ce6fe9cc3a6f5fc6aac9a8177e6dd", func := "loop.example/fpgatoolchain/laws.FnExactCoverTable", spec := "fnExactCoverTable", apart := false }
def FnExactCoverTableSaid : Prop := fnExactCoverTableRow.holds Try.pinned (OpenSpec.ofChange fnExactCoverTableSpec)

/-- ITS FALSE NEIGHBOUR: 'it returns false'. Refute it at one input. -/
def fnExactCoverTableWrong : ChangeSpec := { name := "fnExactCoverTable", fn := fun _ => fun
  | [d1, d2] => { results := [.lit (.bool false)], args := [d1, d2] }
  | _ => none }
def FnExactCoverTableWrongFalsely : Prop := fnExactCoverTableRow.holds Try.pinned (OpenSpec.ofChange fnExactCoverTableWrong)

/-- 'laws.FnTableExample': WHATEVER THE INPUT: true; the input reads as it did. -/
def fnTableExampleSpec : ChangeSpec := { name := "fnTableExample", fn := fun _ => fun
  | [d] => { results := [.lit (.bool true)], args := [d] }
  | _ => none }
def fnTableExampleRow : OpenClaim := { program := "ytlpellciiiflkaa", sum := "881f8cf21b90b05760f1ffe21b9fe153a10ce6fe9cc3a6f5fc6aac9a8177e6dd", func := "loop.example/fpgatoolchain/laws.FnTableExample", spec := "fnTableExample", unfollowed := true, recurses := true, apart := false }
def FnTableExampleSaid : Prop := fnTableExampleRow.holds Try.pinned (OpenSpec.ofChange fnTableExampleSpec)

/-- ITS FALSE NEIGHBOUR: 'it returns false'. Refute it at one input. -/
def fnTableExampleWrong : ChangeSpec := { name := "fnTableExample", fn := fun _ => fun
  | [d] => { results := [.lit (.bool false)], args := [d] }
  | _ => none }
def FnTableExampleWrongFalsely : Prop := fnTableExampleRow.holds Try.pinned (OpenSpec.ofChange fnTableExampleWrong)

/-- 'laws.FnCoverTable': WHATEVER THE INPUT: true; the input reads as it did. -/
def fnCoverTableSpec : ChangeSpec := { name := "fnCoverTable", fn := fun _ => fun
  | [d] => { results := [.lit (.bool true)], args := [d] }
  | _ => none }
def fnCoverTableRow : OpenClaim := { program := "ytlpellciiiflkaa", sum := "881f8cf21b90b05760f1ffe21b9fe153a10ce6fe9cc3a6f5fc6aac9a8177e6dd", func := "loop.example/fpgatoolchain/laws.FnCoverTable", spec := "fnCoverTable", apart := false }
def FnCoverTableSaid : Prop := fnCoverTableRow.holds Try.pinned (OpenSpec.ofChange fnCoverTableSpec)

/-- ITS FALSE NEIGHBOUR: 'it returns false'. Refute it at one input. -/
def fnCoverTableWrong : ChangeSpec := { name := "fnCoverTable", fn := fun _ => fun
  | [d] => { results := [.lit (.bool false)], args := [d] }
  | _ => none }
def FnCoverTableWrongFalsely : Prop := fnCoverTableRow.holds Try.pinned (OpenSpec.ofChange fnCoverTableWrong)

/-- 'laws.FnExactPrimes': WHATEVER THE INPUT: true; the input reads as it did. -/
def fnExactPrimesSpec : ChangeSpec := { name := "fnExactPrimes", fn := fun _ => fun
  | [d1, d2] => { results := [.lit (.bool true)], args := [d1, d2] }
  | _ => none }
def fnExactPrimesRow : OpenClaim := { program := "ytlpellciiiflkaa", sum := "881f8cf21b90b05760f1ffe21b9fe153a10ce6fe9cc3a6f5fc6aac9a8177e6dd", func := "loop.example/fpgatoolchain/laws.FnExactPrimes", spec := "fnExactPrimes", unfollowed := true, recurses := true, apart := false }
def FnExactPrimesSaid : Prop := fnExactPrimesRow.holds Try.pinned (OpenSpec.ofChange fnExactPrimesSpec)

/-- ITS FALSE NEIGHBOUR: 'it returns false'. Refute it at one input. -/
def fnExactPrimesWrong : ChangeSpec := { name := "fnExactPrimes", fn := fun _ => fun
  | [d1, d2] => { results := [.lit (.bool false)], args := [d1, d2] }
  | _ => none }
def FnExactPrimesWrongFalsely : Prop := fnExactPrimesRow.holds Try.pinned (OpenSpec.ofChange fnExactPrimesWrong)

/-- 'laws.FnPrimeIdentity': WHATEVER THE INPUT: true; the input reads as it did. -/
def fnPrimeIdentitySpec : ChangeSpec := { name := "fnPrimeIdentity", fn := fun _ => fun
  | [d] => { results := [.lit (.bool true)], args := [d] }
  | _ => none }
def fnPrimeIdentityRow : OpenClaim := { program := "ytlpellciiiflkaa", sum := "881f8cf21b90b05760f1ffe21b9fe153a10ce6fe9cc3a6f5fc6aac9a8177e6dd", func := "loop.example/fpgatoolchain/laws.FnPrimeIdentity", spec := "fnPrimeIdentity", unfollowed := true, recurses := true, apart := false }
def FnPrimeIdentitySaid : Prop := fnPrimeIdentityRow.holds Try.pinned (OpenSpec.ofChange fnPrimeIdentitySpec)

/-- ITS FALSE NEIGHBOUR: 'it returns false'. Refute it at one input. -/
def fnPrimeIdentityWrong : ChangeSpec := { name := "fnPrimeIdentity", fn := fun _ => fun
  | [d] => { results := [.lit (.bool false)], args := [d] }
  | _ => none }
def FnPrimeIdentityWrongFalsely : Prop := fnPrimeIdentityRow.holds Try.pinned (OpenSpec.ofChange fnPrimeIdentityWrong)

/-- 'laws.FnPrimes': WHATEVER THE INPUT: true; the input reads as it did. -/
def fnPrimesSpec : ChangeSpec := { name := "fnPrimes", fn := fun _ => fun
  | [d] => { results := [.lit (.bool true)], args := [d] }
  | _ => none }
def fnPrimesRow : OpenClaim := { program := "ytlpellciiiflkaa", sum := "881f8cf21b90b05760f1ffe21b9fe153a10ce6fe9cc3a6f5fc6aac9a8177e6dd", func := "loop.example/fpgatoolchain/laws.FnPrimes", spec := "fnPrimes", unfollowed := true, recurses := true, apart := false }
def FnPrimesSaid : Prop := fnPrimesRow.holds Try.pinned (OpenSpec.ofChange fnPrimesSpec)

/-- ITS FALSE NEIGHBOUR: 'it returns false'. Refute it at one input. -/
def fnPrimesWrong : ChangeSpec := { name := "fnPrimes", fn := fun _ => fun
  | [d] => { results := [.lit (.bool false)], args := [d] }
  | _ => none }
def FnPrimesWrongFalsely : Prop := fnPrimesRow.holds Try.pinned (OpenSpec.ofChange fnPrimesWrong)

/-- 'laws.FnExactMinimizeTable': WHATEVER THE INPUT: true; the input reads as it did. -/
def fnExactMinimizeTableSpec : ChangeSpec := { name := "fnExactMinimizeTable", fn := fun _ => fun
  | [d1, d2] => { results := [.lit (.bool true)], args := [d1, d2] }
  | _ => none }
def fnExactMinimizeTableRow : OpenClaim := { program := "ytlpellciiiflkaa", sum := "881f8cf21b90b05760f1ffe21b9fe153a10ce6fe9cc3a6f5fc6aac9a8177e6dd", func := "loop.example/fpgatoolchain/laws.FnExactMinimizeTable", spec := "fnExactMinimizeTable", unfollowed := true, recurses := true, apart := false }
def FnExactMinimizeTableSaid : Prop := fnExactMinimizeTableRow.holds Try.pinned (OpenSpec.ofChange fnExactMinimizeTableSpec)

/-- ITS FALSE NEIGHBOUR: 'it returns false'. Refute it at one input. -/
def fnExactMinimizeTableWrong : ChangeSpec := { name := "fnExactMinimizeTable", fn := fun _ => fun
  | [d1, d2] => { results := [.lit (.bool false)], args := [d1, d2] }
  | _ => none }
def FnExactMinimizeTableWrongFalsely : Prop := fnExactMinimizeTableRow.holds Try.pinned (OpenSpec.ofChange fnExactMinimizeTableWrong)

/-- 'laws.FnMinimizeTable': WHATEVER THE INPUT: true; the input reads as it did. -/
def fnMinimizeTableSpec : ChangeSpec := { name := "fnMinimizeTable", fn := fun _ => fun
  | [d] => { results := [.lit (.bool true)], args := [d] }
  | _ => none }
def fnMinimizeTableRow : OpenClaim := { program := "ytlpellciiiflkaa", sum := "881f8cf21b90b05760f1ffe21b9fe153a10ce6fe9cc3a6f5fc6aac9a8177e6dd", func := "loop.example/fpgatoolchain/laws.FnMinimizeTable", spec := "fnMinimizeTable", unfollowed := true, recurses := true, apart := false }
def FnMinimizeTableSaid : Prop := fnMinimizeTableRow.holds Try.pinned (OpenSpec.ofChange fnMinimizeTableSpec)

/-- ITS FALSE NEIGHBOUR: 'it returns false'. Refute it at one input. -/
def fnMinimizeTableWrong : ChangeSpec := { name := "fnMinimizeTable", fn := fun _ => fun
  | [d] => { results := [.lit (.bool false)], args := [d] }
  | _ => none }
def FnMinimizeTableWrongFalsely : Prop := fnMinimizeTableRow.holds Try.pinned (OpenSpec.ofChange fnMinimizeTableWrong)

/- THE SECOND FORM. 'bulk': how many values and letters a reading holds, each counted each time it is reached (what is shared counts as often as it is met; a slice's spare places count too). A statement '..UptoSaid' is the law's where the arguments, and the package variables that the reading takes, are together of bulk at most 1048576: NARROWER than '..Said'. Prove '..Said' where nothing that the law and all that it calls make is longer than what came in: it says more and counts as full. Else prove '..UptoSaid'. A law counts once. -/
mutual
def uptoBulk {H : Type} : DataW H → Nat
  | .lit (.string bytes) => bytes.length + 1
  | .lit _ => 1
  | .nil => 1
  | .ptr d => uptoBulk d + 1
  | .slice elems spare => uptoBulkAll elems + uptoBulkAll spare + 1
  | .agg parts => uptoBulkAll parts + 1
  | .iface _ d => uptoBulk d + 1
  | .map entries => uptoBulkEntries entries + 1
  | .held _ => 1
def uptoBulkAll {H : Type} : List (DataW H) → Nat
  | [] => 0
  | d :: r => uptoBulk d + uptoBulkAll r
def uptoBulkEntries {H : Type} : List (Lit × DataW H) → Nat
  | [] => 0
  | x :: r => uptoBulkEntry x + uptoBulkEntries r
def uptoBulkEntry {H : Type} : Lit × DataW H → Nat
  | (.string bytes, d) => bytes.length + uptoBulk d + 1
  | (_, d) => uptoBulk d + 1
 end
def uptoSmall : (H : Type) → List (DataW H) → Bool := fun _ ds => decide (uptoBulkAll ds ≤ 1048576)
def OpenSpec.upto (s : _root_.Go.ChangeSpec) : _root_.Go.OpenSpec := { _root_.Go.OpenSpec.ofChange s with cond := some uptoSmall }

/-- 'laws.FnExactCubeHas', WHERE WHAT IT READS IS OF BULK AT MOST 1048576: true; the input reads as it did. -/
def fnExactCubeHasUptoRow : OpenClaim := { program := "ytlpellciiiflkaa", sum := "881f8cf21b90b05760f1ffe21b9fe153a10ce6fe9cc3a6f5fc6aac9a8177e6dd", func := "loop.example/fpgatoolchain/laws.FnExactCubeHas", spec := "fnExactCubeHas", apart := false, narrowed := true }
def FnExactCubeHasUptoSaid : Prop := fnExactCubeHasUptoRow.holds Try.pinned (OpenSpec.upto fnExactCubeHasSpec)

/-- 'laws.FnCubeHas', WHERE WHAT IT READS IS OF BULK AT MOST 1048576: true; the input reads as it did. -/
def fnCubeHasUptoRow : OpenClaim := { program := "ytlpellciiiflkaa", sum := "881f8cf21b90b05760f1ffe21b9fe153a10ce6fe9cc3a6f5fc6aac9a8177e6dd", func := "loop.example/fpgatoolchain/laws.FnCubeHas", spec := "fnCubeHas", apart := false, narrowed := true }
def FnCubeHasUptoSaid : Prop := fnCubeHasUptoRow.holds Try.pinned (OpenSpec.upto fnCubeHasSpec)

/-- 'laws.FnExactCoverTable', WHERE WHAT IT READS IS OF BULK AT MOST 1048576: true; the input reads as it did. -/
def fnExactCoverTableUptoRow : OpenClaim := { program := "ytlpellciiiflkaa", sum := "881f8cf21b90b05760f1ffe21b9fe153a10ce6fe9cc3a6f5fc6aac9a8177e6dd", func := "loop.example/fpgatoolchain/laws.FnExactCoverTable", spec := "fnExactCoverTable", apart := false, narrowed := true }
def FnExactCoverTableUptoSaid : Prop := fnExactCoverTableUptoRow.holds Try.pinned (OpenSpec.upto fnExactCoverTableSpec)

/-- 'laws.FnTableExample', WHERE WHAT IT READS IS OF BULK AT MOST 1048576: true; the input reads as it did. -/
def fnTableExampleUptoRow : OpenClaim := { program := "ytlpellciiiflkaa", sum := "881f8cf21b90b05760f1ffe21b9fe153a10ce6fe9cc3a6f5fc6aac9a8177e6dd", func := "loop.example/fpgatoolchain/laws.FnTableExample", spec := "fnTableExample", unfollowed := true, recurses := true, apart := false, narrowed := true }
def FnTableExampleUptoSaid : Prop := fnTableExampleUptoRow.holds Try.pinned (OpenSpec.upto fnTableExampleSpec)

/-- 'laws.FnCoverTable', WHERE WHAT IT READS IS OF BULK AT MOST 1048576: true; the input reads as it did. -/
def fnCoverTableUptoRow : OpenClaim := { program := "ytlpellciiiflkaa", sum := "881f8cf21b90b05760f1ffe21b9fe153a10ce6fe9cc3a6f5fc6aac9a8177e6dd", func := "loop.example/fpgatoolchain/laws.FnCoverTable", spec := "fnCoverTable", apart := false, narrowed := true }
def FnCoverTableUptoSaid : Prop := fnCoverTableUptoRow.holds Try.pinned (OpenSpec.upto fnCoverTableSpec)

/-- 'laws.FnExactPrimes', WHERE WHAT IT READS IS OF BULK AT MOST 1048576: true; the input reads as it did. -/
def fnExactPrimesUptoRow : OpenClaim := { program := "ytlpellciiiflkaa", sum := "881f8cf21b90b05760f1ffe21b9fe153a10ce6fe9cc3a6f5fc6aac9a8177e6dd", func := "loop.example/fpgatoolchain/laws.FnExactPrimes", spec := "fnExactPrimes", unfollowed := true, recurses := true, apart := false, narrowed := true }
def FnExactPrimesUptoSaid : Prop := fnExactPrimesUptoRow.holds Try.pinned (OpenSpec.upto fnExactPrimesSpec)

/-- 'laws.FnPrimeIdentity', WHERE WHAT IT READS IS OF BULK AT MOST 1048576: true; the input reads as it did. -/
def fnPrimeIdentityUptoRow : OpenClaim := { program := "ytlpellciiiflkaa", sum := "881f8cf21b90b05760f1ffe21b9fe153a10ce6fe9cc3a6f5fc6aac9a8177e6dd", func := "loop.example/fpgatoolchain/laws.FnPrimeIdentity", spec := "fnPrimeIdentity", unfollowed := true, recurses := true, apart := false, narrowed := true }
def FnPrimeIdentityUptoSaid : Prop := fnPrimeIdentityUptoRow.holds Try.pinned (OpenSpec.upto fnPrimeIdentitySpec)

/-- 'laws.FnPrimes', WHERE WHAT IT READS IS OF BULK AT MOST 1048576: true; the input reads as it did. -/
def fnPrimesUptoRow : OpenClaim := { program := "ytlpellciiiflkaa", sum := "881f8cf21b90b05760f1ffe21b9fe153a10ce6fe9cc3a6f5fc6aac9a8177e6dd", func := "loop.example/fpgatoolchain/laws.FnPrimes", spec := "fnPrimes", unfollowed := true, recurses := true, apart := false, narrowed := true }
def FnPrimesUptoSaid : Prop := fnPrimesUptoRow.holds Try.pinned (OpenSpec.upto fnPrimesSpec)

/-- 'laws.FnExactMinimizeTable', WHERE WHAT IT READS IS OF BULK AT MOST 1048576: true; the input reads as it did. -/
def fnExactMinimizeTableUptoRow : OpenClaim := { program := "ytlpellciiiflkaa", sum := "881f8cf21b90b05760f1ffe21b9fe153a10ce6fe9cc3a6f5fc6aac9a8177e6dd", func := "loop.example/fpgatoolchain/laws.FnExactMinimizeTable", spec := "fnExactMinimizeTable", unfollowed := true, recurses := true, apart := false, narrowed := true }
def FnExactMinimizeTableUptoSaid : Prop := fnExactMinimizeTableUptoRow.holds Try.pinned (OpenSpec.upto fnExactMinimizeTableSpec)

/-- 'laws.FnMinimizeTable', WHERE WHAT IT READS IS OF BULK AT MOST 1048576: true; the input reads as it did. -/
def fnMinimizeTableUptoRow : OpenClaim := { program := "ytlpellciiiflkaa", sum := "881f8cf21b90b05760f1ffe21b9fe153a10ce6fe9cc3a6f5fc6aac9a8177e6dd", func := "loop.example/fpgatoolchain/laws.FnMinimizeTable", spec := "fnMinimizeTable", unfollowed := true, recurses := true, apart := false, narrowed := true }
def FnMinimizeTableUptoSaid : Prop := fnMinimizeTableUptoRow.holds Try.pinned (OpenSpec.upto fnMinimizeTableSpec)

end Rows
end Go.Proofs.Ytlpellciiiflkaa
