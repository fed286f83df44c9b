import Derived.Test.YtlbfejdbfhgifaaS11
import Derived.Test.YtlbfejdbfhgifaaS02
set_option linter.unusedVariables false
set_option linter.unusedSimpArgs false
namespace Go.Proofs.Ytlbfejdbfhgifaa
open Go.RowKit
set_option maxRecDepth 100000
/-! Inductive, by the reference: the step of the induction, and the whole. -/
end Go.Proofs.Ytlbfejdbfhgifaa
