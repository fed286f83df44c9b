import Derived.Test.YthnfbjjnabohoaaSE
import Derived.Test.YthnfbjjnabohoaaIntMark
import Derived.Test.YthnfbjjnabohoaaGrow
namespace Go.Proofs.Ythnfbjjnabohoaa
open Go.RowKit
set_option maxRecDepth 100000
/-! Slices of slices of ints. -/
theorem info_ints : (Try.prog.info? 31).map (fun i => (i.zero, i.size, i.bytes)) = some (some (.slice none 0 0), 1, 24) := by kernel_rfl
def OwnIntSS (B T : Nat) (w : World) (v : Value) (xss : List (List Int)) : Prop := OwnSS ints 31 3 B T w v xss
end Go.Proofs.Ythnfbjjnabohoaa
