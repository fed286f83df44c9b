import Derived.Test.YtmlcbikljlhhkaaCirO
import Derived.Test.YtmlcbikljlhhkaaGb
import Derived.Test.YtmlcbikljlhhkaaGa
namespace Go.Proofs.Ytmlcbikljlhhkaa
open Go.RowKit
set_option maxRecDepth 100000
theorem bel_ck (w : World) (o : Obj) : Below w.heap.size w (w.alloc o) := (Below.refl _ _).alloc (Nat.le_refl _) o
/-- A circuit of the call's own, in blocks between B and T. -/
def OwnCT (B T : Nat) (v : Value) (c : Cz) (w : World) : Prop :=
  ∃ vn vg vo b2 b3, v = .agg #[.int .i64 c.ins, vn, vg, vo] ∧ B ≤ b2 ∧ b2 ≤ b3 ∧ b3 ≤ T ∧ (∀ g, vn.ownBlock = some g → g < b2) ∧ (∀ g, vg.ownBlock = some g → g < b3) ∧ (∀ g, vo.ownBlock = some g → g < T) ∧
    w.ownsRow B 3 1 vn c.next.length (ints c.next) ∧ w.ownsRow b2 71 2 vg c.gates.length (cubes c.gates) ∧ w.ownsRow b3 3 1 vo c.outs.length (ints c.outs)
theorem OwnCirc.ct {b T : Nat} {v : Value} {c : Cz} {w : World} (h : OwnCirc b v c w) (hT : w.heap.size ≤ T) (hb : b ≤ w.heap.size) : OwnCT b T v c w := by
  obtain ⟨vn, vg, vo, b2, b3, hv, e1, e2, e3, e4, h1, h2, h3⟩ := h
  refine ⟨vn, vg, vo, min b2 w.heap.size, min b3 w.heap.size, hv, by omega, by omega, by omega, fun g hg => ?_, fun g hg => ?_, fun g hg => ?_, h1, own_mono h2 (by omega), own_mono h3 (by omega)⟩
  · have := (h1.lt g hg).2; have := e3 g hg; omega
  · have := (h2.lt g hg).2; have := e4 g hg; omega
  · have := (h3.lt g hg).2; omega
theorem OwnCT.below {B T : Nat} {v : Value} {c : Cz} {w w' : World} (h : OwnCT B T v c w) (hb : Below w.heap.size w w') : OwnCT B T v c w' := by
  obtain ⟨vn, vg, vo, b2, b3, hv, e1, e2, e3, f1, f2, f3, h1, h2, h3⟩ := h
  exact ⟨vn, vg, vo, b2, b3, hv, e1, e2, e3, f1, f2, f3, own_below h1 hb, own_below h2 hb, own_below h3 hb⟩
theorem OwnCT.only {E : Nat → Prop} {B T : Nat} {v : Value} {c : Cz} {w w' : World} (h : OwnCT B T v c w) (ho : Only E w w') (hE : ∀ g, B ≤ g → g < T → ¬ E g) : OwnCT B T v c w' := by
  obtain ⟨vn, vg, vo, b2, b3, hv, e1, e2, e3, f1, f2, f3, h1, h2, h3⟩ := h
  exact ⟨vn, vg, vo, b2, b3, hv, e1, e2, e3, f1, f2, f3, own_only h1 ho (fun g hg => hE g (h1.lt g hg).1 (by have := f1 g hg; omega)), own_only h2 ho (fun g hg => hE g (by have := (h2.lt g hg).1; omega) (by have := f2 g hg; omega)), own_only h3 ho (fun g hg => hE g (by have := (h3.lt g hg).1; omega) (f3 g hg))⟩
theorem OwnCT.at {B T : Nat} {v : Value} {c : Cz} {w : World} (h : OwnCT B T v c w) : CircAt w v c := by
  obtain ⟨vn, vg, vo, b2, b3, hv, _, _, _, _, _, _, h1, h2, h3⟩ := h
  exact ⟨vn, vg, vo, hv, Row.of_own h1, Row.of_own h2, Row.of_own h3⟩
set_option maxHeartbeats 4000000 in
theorem markCircuit_any (B T : Nat) (v : Value) (c : Cz) (k : Nat) (w : World) (h : OwnCT B T v c w) (hT : T ≤ w.heap.size) (l1 : c.next.length ≤ 1048576) (l2 : c.gates.length ≤ 1048576) (l3 : c.outs.length ≤ 1048576) (hk : k ≤ 1000000) :
    Calls Try.prog 24 #[v, .int .i64 k] w fun e w' => (∃ k' : Nat, e = .returned (.int .i64 (k' : Nat)) ∧ k' ≤ k + 5000000) ∧ Only (fun g => B ≤ g ∧ g < T) w w' := by
  obtain ⟨vn, vg, vo, b2, b3, rfl, e1, e2, e3, f1, f2, f3, h1, h2, h3⟩ := h
  have hb0 := bel_ck w (.cells #[.int .i64 c.ins, vn, vg, vo] 30)
  have H1 := Lib.hid (own_below h1 hb0)
  have H2 := Lib.hid (own_below h2 hb0)
  have H3 := Lib.hid (own_below h3 hb0)
  have F1 := Lib.hid f1
  have F2 := Lib.hid f2
  have F3 := Lib.hid f3
  have B0 := Lib.hid hb0
  have hz : (w.alloc (.cells #[.int .i64 c.ins, vn, vg, vo] 30)).heap.size = w.heap.size + 1 := by simp
  obtain ⟨z, p0, p1, p2, p3⟩ := PCells.boxed w c.ins vn vg vo 30
  clear h1 h2 h3 f1 f2 f3 hb0
  go_enter Try.func24, Try.ntmps24
  go_wp2_with fail
  generalize w.alloc (.cells #[.int .i64 c.ins, vn, vg, vo] 30) = W at *
  refine (markIntS_any B vn _ k _ _ H1.out l1 (by omega)).mono ?_
  rintro e w1 ⟨rfl, ho1, hg1⟩
  have hon1 : Only (fun g => B ≤ g ∧ g < b2) W w1 := Only.grown hg1 (fun g hg => ⟨(H1.out.lt g hg).1, F1.out g hg⟩)
  have Hon1 := Lib.hid hon1
  have H2 := Lib.hid (own_only H2.out hon1 (fun g hg h => by have := (H2.out.lt g hg).1; omega))
  have H3 := Lib.hid (own_only H3.out hon1 (fun g hg h => by have := (H3.out.lt g hg).1; omega))
  have q2 := cell_on hon1 (by omega) z p2
  have q3 := cell_on hon1 (by omega) z p3
  have z1 := Nat.lt_of_lt_of_le z hon1.size
  clear ho1 hg1 hon1 p0 p1 p2 p3
  go_wp2_with fail
  refine (markGateS_any b2 vg _ (k + c.next.length) _ _ H2.out l2 (by omega)).mono ?_
  rintro e w2 ⟨rfl, ho2, hg2⟩
  have hon2 : Only (fun g => b2 ≤ g ∧ g < b3) w1 w2 := Only.grown hg2 (fun g hg => ⟨(H2.out.lt g hg).1, F2.out g hg⟩)
  have Hon2 := Lib.hid hon2
  have H3 := Lib.hid (own_only H3.out hon2 (fun g hg h => by have := (H3.out.lt g hg).1; omega))
  have r3 := cell_on hon2 (by omega) z1 q3
  clear ho2 hg2 hon2 q2 q3
  go_wp2_with fail
  refine (markIntS_any b3 vo _ (k + c.next.length + c.gates.length * 2) _ _ H3.out l3 (by omega)).mono ?_
  rintro e w3 ⟨rfl, ho3, hg3⟩
  have hon3 : Only (fun g => b3 ≤ g ∧ g < T) w2 w3 := Only.grown hg3 (fun g hg => ⟨(H3.out.lt g hg).1, F3.out g hg⟩)
  have Hon3 := Lib.hid hon3
  clear ho3 hg3 hon3
  go_wp2_with fail
  go_ret
  refine ⟨⟨k + c.next.length + c.gates.length * 2 + c.outs.length, rfl, by omega⟩, ?_⟩
  exact (Only.of_below _ B0.out).trans ((Hon1.out.mono fun g h => ⟨h.1, by omega⟩).trans ((Hon2.out.mono fun g h => ⟨by omega, by omega⟩).trans (Hon3.out.mono fun g h => ⟨by omega, h.2⟩)))
end Go.Proofs.Ytmlcbikljlhhkaa
