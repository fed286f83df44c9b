import Derived.Test.YtopimdakpnnbhaaS02
import Derived.Test.YtopimdakpnnbhaaProg
import Derived.Test.YtopimdakpnnbhaaS01
import Derived.RegionTactic
set_option linter.unusedVariables false
set_option linter.unusedSimpArgs false
namespace Go.Proofs.Ytopimdakpnnbhaa
open Go.RowKit
/-- A value of an own row of booleans, as it lies in memory. -/
theorem bools_at_own {w : World} {B n : Nat} {v : Value} {xs : List Bool} (h : w.ownsRow B 4 1 v n (bools xs)) (hn : xs.length = n) : BoolsAt w v xs := by subst hn; exact Row.of_own h
theorem boolsAt_cell {w : World} {u : Value} {xs : List Bool} {i : Nat} {b : Bool} (h : BoolsAt w u xs) (hx : xs[i]? = some b) : ∃ bb oo c, u = .slice (some ⟨bb, oo, none⟩) xs.length c ∧ bb < w.heap.size ∧ w.cell? ⟨bb, oo + i, none⟩ = some (.bool b) := by
  have hi := (List.getElem?_eq_some_iff.1 hx).1
  obtain ⟨A, c, rfl, -, -⟩ := Row.shape h
  obtain ⟨b', o', x, hA, hbl, hxx, hcell⟩ := bools_open (w := w) (wr := w) h (Below.refl _ _) (i := i) rfl hi
  subst hA
  obtain rfl : x = b := Option.some.inj (hxx.out.symm.trans hx)
  exact ⟨b', o', c, rfl, hbl, hcell⟩
end Go.Proofs.Ytopimdakpnnbhaa

namespace Go.Proofs.Ytopimdakpnnbhaa
open Go.RowKit
/-! alive: the circuit without anything is valid. -/

theorem append_nil_nil (w : World) : (Builtin.append_ #[23, 23] 23 #[.slice none 0 0, .slice none 0 0]).run Try.prog w = .ok (.slice none 0 0) w := by kernel_rfl

theorem roots_zero (g : Nat) (w : World) (h1 : w.cell? ⟨g, 1, none⟩ = some (.slice none 0 0)) (h3 : w.cell? ⟨g, 3, none⟩ = some (.slice none 0 0)) :
    Calls Try.prog 113 #[.pointer (some ⟨g, 0, none⟩)] w fun e w' => e = .returned (.slice none 0 0) ∧ Drew w w' := by
  have hap := append_nil_nil
  go_enter Try.func113, Try.ntmps113
  go_wp2_with fail
  go_quiet (fail)
  go_wp2_with fail
  go_ret
  exact ⟨rfl, Drew.by _ _⟩

theorem valid_zero (w : World) : Calls Try.prog 64 #[.agg #[.int .i64 0, .slice none 0 0, .slice none 0 0, .slice none 0 0]] w fun e w' => e = .returned (.bool true) ∧ Below w.heap.size w w' := by
  go_enter Try.func64, Try.ntmps64
  go_wp2
  go_loop [44] (fun i => i = .int .i64 0) (fun _ => 0)
  case atStart => rfl
  case round =>
    obtain rfl := hrel
    go_wp2_with fail
    refine (roots_zero w.heap.size _ ?_ ?_).mono ?_
    · simp [World.cell?_alloc_new]
    · simp [World.cell?_alloc_new]
    rintro e w' ⟨rfl, hd⟩
    go_wp2
    go_loop [68] (fun i => i = .int .i64 0) (fun _ => 0)
    case atStart => rfl
    case round =>
      obtain rfl := hrel
      go_wp2
      go_ret
      exact ⟨rfl, ((Below.refl _ _).alloc (Nat.le_refl _) _).trans (hd.below _)⟩

theorem alive_any (w : World) : Calls Try.prog 19 #[] w fun e w' => e = .returned (.bool true) ∧ Below w.heap.size w w' := by
  go_enter Try.func19, Try.ntmps19
  go_wp2_with (go_at_call 64; refine (valid_zero _).mono ?_; rintro e w' ⟨rfl, hb⟩)
  go_ret
  exact ⟨rfl, hb⟩
end Go.Proofs.Ytopimdakpnnbhaa
