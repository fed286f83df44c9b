import Derived.Test.YthnfbjjnabohoaaMem
namespace Go.Proofs.Ythnfbjjnabohoaa
open Go.RowKit
/-- The numbers from k on, as cells. -/
def runI (k m : Nat) : List Value := (List.range m).map fun i => Value.int .i64 ((k + i : Nat) : Int)
theorem runI_length (k m : Nat) : (runI k m).length = m := by simp [runI]
theorem runI_get {k m i : Nat} (h : i < m) : (runI k m)[i]? = some (.int .i64 ((k + i : Nat) : Int)) := by simp [runI, h]
theorem runI_take {k m j : Nat} (h : j ≤ m) : (runI k m).take j = runI k j := by
  unfold runI
  rw [← List.map_take, List.take_range, Nat.min_eq_left h]
theorem set_run {cs : List Value} {k m j : Nat} (hl : cs.length = m) (hj : j < m) (h : cs.take j = runI k j) : (cs.set j (.int .i64 ((k + j : Nat) : Int))).take (j + 1) = runI k (j + 1) := by
  rw [← runI_take (m := m) (show j + 1 ≤ m by omega)]
  exact take_set_succ (by omega) (by rw [h, runI_take (by omega)]) (runI_get hj)
theorem set_run_at {cs : List Value} {k m j : Nat} {x : Int} (hx : x = ((k + j : Nat) : Int)) (hl : cs.length = m) (hj : j < m) (h : cs.take j = runI k j) : (cs.set j (.int .i64 x)).take (j + 1) = runI k (j + 1) := by
  subst hx
  exact set_run hl hj h
theorem grownBy_comp {a b c : World} {r : Option Nat} (h : a.grownBy b r) (h' : b.grownBy c r) : a.grownBy c r :=
  ⟨h'.os.trans h.os, h'.tape.trans h.tape, h'.output.trans h.output, Nat.le_trans h.size h'.size,
    fun k hk hr => (h'.block k (Nat.lt_of_lt_of_le hk h.size) hr).trans (h.block k hk hr)⟩
theorem own_of_take {w : World} {B n size : Nat} {e : TypeId} {v : Value} {cs : List Value} {k : Nat} (h : w.ownsRow B e size v n cs) (ht : cs.take (n * size) = runI k (n * size)) : w.ownsRow B e size v n (runI k (n * size)) := by
  rw [← ht, List.take_of_length_le (by rw [h.1]; exact Nat.le_refl _)]
  exact h
end Go.Proofs.Ythnfbjjnabohoaa
