import Derived.Test.YtmlcbikljlhhkaaGb
import Derived.Test.YtmlcbikljlhhkaaCirK
import Derived.Test.YtmlcbikljlhhkaaGe
namespace Go.Proofs.Ytmlcbikljlhhkaa
open Go.RowKit
set_option maxRecDepth 100000
theorem Kept.atC {v : Value} {c : Cz} {T : Nat} {w : World} (h : Kept (fun w' => CircAt w' v c) T w) : CircAt w v c := by
  obtain ⟨w0, h, _, hb⟩ := h
  exact CircAt.below h hb
theorem Kept.boxC {g : Nat} {vn vg vo : Value} {c : Cz} {T : Nat} {w : World} (h : Kept (fun w' => BoxC w' g c vn vg vo) T w) : BoxC w g c vn vg vo := by
  obtain ⟨w0, h, _, hb⟩ := h
  exact BoxC.below h hb
theorem hasCT {B : Nat} {v : Value} {c : Cz} {w : World} (h : OwnCT B w.heap.size v c w) : Has B w.heap.size (OwnCT B w.heap.size v c) w := ⟨h, Nat.le_refl _, fun _ _ _ h _ ho hE => h.only ho hE⟩
end Go.Proofs.Ytmlcbikljlhhkaa
