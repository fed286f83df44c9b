import Derived.Test.YtlpellciiiflkaaProg
import Derived.Test.YtlpellciiiflkaaMem
import Derived.RegionTactic
namespace Go.Proofs.Ytlpellciiiflkaa
open Go.RowKit
/-! alive: the circuit without anything is valid. -/

theorem append_nil_nil (w : World) : (Builtin.append_ #[59, 59] 59 #[.slice none 0 0, .slice none 0 0]).run Try.prog w = .ok (.slice none 0 0) w := by kernel_rfl

theorem roots_zero (g : Nat) (w : World) (h1 : w.cell? ⟨g, 1, none⟩ = some (.slice none 0 0)) (h3 : w.cell? ⟨g, 3, none⟩ = some (.slice none 0 0)) :
    Calls Try.prog 53 #[.pointer (some ⟨g, 0, none⟩)] w fun e w' => e = .returned (.slice none 0 0) ∧ Drew w w' := by
  have hap := append_nil_nil
  go_enter Try.func53, Try.ntmps53
  go_wp2_with fail
  go_quiet (fail)
  go_wp2_with fail
  go_ret
  exact ⟨rfl, Drew.by _ _⟩

theorem valid_zero (w : World) : Calls Try.prog 44 #[.agg #[.int .i64 0, .slice none 0 0, .slice none 0 0, .slice none 0 0]] w fun e w' => e = .returned (.bool true) ∧ Below w.heap.size w w' := by
  go_enter Try.func44, Try.ntmps44
  go_wp2
  go_loop [44] (fun i => i = .int .i64 0) (fun _ => 0)
  case atStart => rfl
  case round =>
    obtain rfl := hrel
    go_wp2_with fail
    refine (roots_zero w.heap.size _ ?_ ?_).mono ?_
    · simp [World.cell?_alloc_new]
    · simp [World.cell?_alloc_new]
    rintro e w' ⟨rfl, hd⟩
    go_wp2
    go_loop [68] (fun i => i = .int .i64 0) (fun _ => 0)
    case atStart => rfl
    case round =>
      obtain rfl := hrel
      go_wp2
      go_ret
      exact ⟨rfl, ((Below.refl _ _).alloc (Nat.le_refl _) _).trans (hd.below _)⟩

theorem alive_any (w : World) : Calls Try.prog 25 #[] w fun e w' => e = .returned (.bool true) ∧ Below w.heap.size w w' := by
  go_enter Try.func25, Try.ntmps25
  go_wp2_with (go_at_call 44; refine (valid_zero _).mono ?_; rintro e w' ⟨rfl, hb⟩)
  go_ret
  exact ⟨rfl, hb⟩
end Go.Proofs.Ytlpellciiiflkaa
