import Derived.Test.YthnfbjjnabohoaaHas
import Derived.Test.YthnfbjjnabohoaaIntMark
import Derived.Test.YthnfbjjnabohoaaPair
namespace Go.Proofs.Ythnfbjjnabohoaa
open Go.RowKit
set_option maxRecDepth 100000
theorem Kept.atN {v : Value} {xs : List Int} {T : Nat} {w : World} (h : Kept (fun w' => IntsAt w' v xs) T w) : IntsAt w v xs := by
  obtain ⟨w0, h, _, hb⟩ := h
  exact Row.below h hb
theorem Kept.atB {v : Value} {xs : List Bool} {T : Nat} {w : World} (h : Kept (fun w' => BoolsAt w' v xs) T w) : BoolsAt w v xs := by
  obtain ⟨w0, h, _, hb⟩ := h
  exact Row.below h hb
theorem ints_of_row {B T : Nat} {e : TypeId} {v : Value} {xs : List Int} {w : World} (h : RowT B T e 1 v xs.length (ints xs) w) : IntsAt w v xs := Row.of_own h.1
theorem bools_of_row {B T : Nat} {e : TypeId} {v : Value} {xs : List Bool} {w : World} (h : RowT B T e 1 v xs.length (bools xs) w) : BoolsAt w v xs := Row.of_own h.1
theorem has_true (w : World) : Has 0 0 (fun _ => True) w := ⟨trivial, Nat.zero_le _, fun _ _ _ _ _ _ _ => trivial⟩
theorem markIntS_only (B T : Nat) (v : Value) (n k : Nat) (cs : List Value) (w : World) (h : RowT B T 3 1 v n cs w) (hn : n ≤ 1048576) (hk : k ≤ 100000000) :
    Calls Try.prog 21 #[v, .int .i64 k] w fun e w' => (∃ k' : Nat, e = .returned (.int .i64 (k' : Nat)) ∧ k' ≤ k + 1048576) ∧ Only (fun g => B ≤ g ∧ g < T) w w' :=
  (markIntS_any B v n k cs w h.1 hn hk).mono fun _ _ ⟨h1, _, h3⟩ => ⟨⟨_, h1, by omega⟩, Only.grown h3 fun g hg => ⟨(h.1.lt g hg).1, h.2 g hg⟩⟩
theorem markIntS_own (B T : Nat) (v : Value) (n k : Nat) (cs : List Value) (w : World) (h : RowT B T 3 1 v n cs w) (hn : n ≤ 1048576) (hk : k ≤ 100000000) :
    Calls Try.prog 21 #[v, .int .i64 k] w fun e w' => e = .returned (.int .i64 ((k + n : Nat) : Int)) ∧ Only (fun g => B ≤ g ∧ g < T) w w' ∧ Has B w'.heap.size (RowT B w'.heap.size 3 1 v n (runI k n)) w' :=
  (markIntS_any B v n k cs w h.1 hn hk).mono fun _ _ ⟨h1, h2, h3⟩ => ⟨h1, Only.grown h3 fun g hg => ⟨(h.1.lt g hg).1, h.2 g hg⟩, has_row h2⟩
end Go.Proofs.Ythnfbjjnabohoaa
