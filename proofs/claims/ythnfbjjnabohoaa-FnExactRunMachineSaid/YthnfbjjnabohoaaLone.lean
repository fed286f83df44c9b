import Derived.Test.YthnfbjjnabohoaaProg
import Derived.Test.YthnfbjjnabohoaaBits
import Derived.Test.YthnfbjjnabohoaaMem
namespace Go.Proofs.Ythnfbjjnabohoaa
open Go.RowKit
theorem l1In_any (n lo hi : Int) (w : World) :
    Calls Try.prog 35 #[.int .i64 n, .int .i64 lo, .int .i64 hi] w
      fun e w' => e = .returned (.bool (decide (lo ≤ n ∧ n ≤ hi))) ∧ w = w' := by
  go_enter Try.func35, Try.ntmps35
  go_wp2
  all_goals
    go_ret
    refine ⟨ret_bool ?_, rfl⟩
    simp
    try omega
end Go.Proofs.Ythnfbjjnabohoaa
