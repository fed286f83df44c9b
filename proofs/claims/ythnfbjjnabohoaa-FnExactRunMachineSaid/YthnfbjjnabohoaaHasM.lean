import Derived.Test.YthnfbjjnabohoaaHasI
import Derived.Test.YthnfbjjnabohoaaMacO
namespace Go.Proofs.Ythnfbjjnabohoaa
open Go.RowKit
set_option maxRecDepth 100000
theorem Kept.atM {v : Value} {m : Mz} {T : Nat} {w : World} (h : Kept (fun w' => MachAt w' v m) T w) : MachAt w v m := by
  obtain ⟨w0, h, _, hb⟩ := h
  exact MachAt.below h hb
theorem Kept.boxM {g : Nat} {vn vo : Value} {m : Mz} {T : Nat} {w : World} (h : Kept (fun w' => BoxM w' g m vn vo) T w) : BoxM w g m vn vo := by
  obtain ⟨w0, h, _, hb⟩ := h
  exact BoxM.below h hb
theorem hasMT {B : Nat} {v : Value} {m : Mz} {w : World} (h : OwnMach B w.heap.size v m w) : Has B w.heap.size (OwnMachE B w.heap.size v m) w := ⟨h.e, Nat.le_refl _, fun _ _ _ h _ ho hE => h.only ho hE⟩
theorem markMachine_only (B T : Nat) (v : Value) (m : Mz) (k : Nat) (w : World) (h : OwnMachE B T v m w) (hT : T ≤ w.heap.size) (hl : m.next.length + total m.next + m.out.length + total m.out ≤ 1048576) (hk : k ≤ 1000000) :
    Calls Try.prog 20 #[v, .int .i64 k] w fun e w' => (∃ k' : Nat, e = .returned (.int .i64 (k' : Nat)) ∧ k' ≤ k + 5000000) ∧ Only (fun g => B ≤ g ∧ g < T) w w' :=
  (markMachine_any B T v m k w h hl hk hT).mono fun _ _ ⟨h1, _, h3⟩ => ⟨⟨_, h1, by omega⟩, h3⟩
end Go.Proofs.Ythnfbjjnabohoaa
