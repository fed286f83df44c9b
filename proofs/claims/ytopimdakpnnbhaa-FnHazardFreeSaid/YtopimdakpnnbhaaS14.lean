import Derived.Test.YtopimdakpnnbhaaS11
set_option linter.unusedVariables false
set_option linter.unusedSimpArgs false
namespace Go.Proofs.Ytopimdakpnnbhaa
open Go.RowKit
set_option maxRecDepth 100000
/-! A circuit whose outputs are constants and an input has no hazards. -/
def Cir.wire (i : Nat) : Cz := { ins := i, next := [], gates := [], outs := [0, 1, 2 * (i : Int) + 1] }
theorem wire_free : ∀ i : Nat, i ≤ 4 → Cir.hazF (Cir.wire i) = true
  | 0, _ => by decide +kernel
  | 1, _ => by decide +kernel
  | 2, _ => by decide +kernel
  | 3, _ => by decide +kernel
  | 4, _ => by decide +kernel
  | n + 5, h => absurd h (by omega)
end Go.Proofs.Ytopimdakpnnbhaa
