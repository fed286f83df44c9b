import Derived.Test.YtmlcbikljlhhkaaMark
import Derived.Test.YtmlcbikljlhhkaaProg
namespace Go.Proofs.Ytmlcbikljlhhkaa
open Go.RowKit
/-- What marking a slice comes to. -/
def MarkedGates (B : Nat) (v : Value) (n k : Nat) (w : World) (e : Ending) (w' : World) : Prop :=
  e = .returned (.int .i64 ((k + n * 2 : Nat) : Int)) ∧ w'.ownsRow B 71 2 v n (runI k (n * 2)) ∧ w.grownBy w' v.ownBlock
theorem markGateS_any (B : Nat) (v : Value) (n k : Nat) (cs : List Value) (w : World) (h : w.ownsRow B 71 2 v n cs) (hn : n ≤ 1048576) (hk : k ≤ 100000000) :
    Calls Try.prog 76 #[v, .int .i64 k] w (MarkedGates B v n k w) := by
  have hlc := h.1
  obtain ⟨A, c, hv, hc, hcm⟩ := (Row.of_own h).shape
  subst hv
  have H := Lib.hid h
  clear h
  go_enter Try.func76, Try.ntmps76
  go_wp2_with fail
  go_loopw [1, 5] (fun q i wr => ∃ (j : Nat) (ds : List Value), j ≤ n ∧ i = .int .i64 j ∧ q = .int .i64 ((k + j * 2 : Nat) : Int) ∧ wr.ownsRow B 71 2 (.slice A n c) n ds ∧ ds.take (j * 2) = runI k (j * 2) ∧ w.grownBy wr (Value.slice A n c).ownBlock) (fun _ i _ => n - (intOf i).toNat)
  case atStart => exact ⟨0, cs, Nat.zero_le _, rfl, rfl, H.out, rfl, World.grownBy.refl w _⟩
  case round =>
    obtain ⟨j, ds, hj, rfl, rfl, hown, htk, hg⟩ := hrel
    by_cases hlt : j < n
    · obtain ⟨g, c', hv, _, hgl, _⟩ := own_open hown (by omega)
      injection hv with hA _ hcc
      subst hA hcc
      have hl := hown.1
      obtain ⟨u0, _, hd0, hf0⟩ := own_slot hown (j := j * 2) (by omega)
      obtain ⟨u1, _, hd1, hf1⟩ := own_slot hown (j := j * 2 + 1) (by omega)
      have s1 := hown.stored (j * 2) (.int .i64 ((k : Int) + (j : Int) * 2))
      have s2 := Lib.hid (s1.1.stored (j * 2 + 1) (.int .i64 ((k : Int) + (j : Int) * 2 + 1)))
      have t1 := set_run_at (m := n * 2) (x := (k : Int) + (j : Int) * 2) (by omega) hl (by omega) htk
      have t2 := Lib.hid (set_run_at (m := n * 2) (j := j * 2 + 1) (x := (k : Int) + (j : Int) * 2 + 1) (by omega) (by simp [hl]) (by omega) t1)
      have G := Lib.hid (grownBy_comp hg s1.2)
      clear hown htk hl hg s1 t1 H
      go_wp2_with fail
      go_roundw
      case rel => exact ⟨j + 1, _, by omega, by go_num, by rw [show k + (j + 1) * 2 = k + j * 2 + 2 from by omega]; go_num, s2.out.1, by rw [show (j + 1) * 2 = j * 2 + 1 + 1 from by omega]; exact t2.out, grownBy_comp G.out s2.out.2⟩
      case measure => simp [intOf]; omega
    · obtain rfl : j = n := by omega
      go_wp2
      go_ret
      exact ⟨rfl, own_of_take hown htk, hg⟩
end Go.Proofs.Ytmlcbikljlhhkaa
