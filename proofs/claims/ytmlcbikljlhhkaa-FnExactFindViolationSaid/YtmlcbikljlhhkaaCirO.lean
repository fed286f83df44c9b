import Derived.Test.YtmlcbikljlhhkaaRead
import Derived.Test.YtmlcbikljlhhkaaGe
import Derived.Test.YtmlcbikljlhhkaaGc
namespace Go.Proofs.Ytmlcbikljlhhkaa
set_option maxRecDepth 100000
open Go.RowKit Go.Joins Go.ChangeShapes Go.WideShapes Go.ChangeAt Go.Deep
section
variable {H : Type} {enc : TypeId × Value → H} {w : World} {r : Reach} {b0 base : Nat} {spare : Nat → Bool} {held : Bool} {v : Value} {d : DataW H} {p : List MemPlace}
theorem rd_gates {n : Nat} {cs : List Value} {y : DataW H × List MemPlace} (h : DataW.trod enc Try.prog w base spare held n 23 cs = some y) : GPairs w cs :=
  rd_pairs Try.underlying23 Try.underlying141 rfl rfl (by kernel_rfl) (by kernel_rfl) h
/-- A circuit, as an argument. -/
def ACirc (w : World) (v : Value) : Prop := ∃ c : Cz, CircAt w v c ∧ WfI c.ins ∧ (∀ x ∈ c.next, WfI x) ∧ (∀ x ∈ c.gates, WfI x.1 ∧ WfI x.2) ∧ (∀ x ∈ c.outs, WfI x)
theorem open_acirc (hv : Value.okWide Try.prog w r b0 25 v) (h : DataW.Trod enc Try.prog w base spare held 25 v d p) : ACirc w v := by
  obtain ⟨v0, v1, v2, v3, y0, y1, y2, y3, n, rfl, rfl, rfl, h0, h1, h2, h3⟩ := open_agg4 Try.underlying25 (by kernel_rfl) (by kernel_rfl) hv h
  obtain ⟨x, e0, w0⟩ := rd_int h0
  obtain ⟨A1, n1, c1, xs, e1, i1, l1, w1⟩ := rd_ints h1
  obtain ⟨A2, n2, c2, gs, e2, i2, l2, w2⟩ := rd_gates h2
  obtain ⟨A3, n3, c3, os, e3, i3, l3, w3⟩ := rd_ints h3
  simp only [List.cons.injEq, and_true] at e0 e1 e2 e3
  subst e0 e1 e2 e3
  exact ⟨{ ins := x, next := xs, gates := gs, outs := os }, ⟨_, _, _, rfl, i1, i2, i3⟩, w0, w1, w2, w3⟩
end
theorem CircAt.shape {w : World} {v : Value} {c : Cz} (h : CircAt w v c) : ∃ An cn Ag cg Ao co, v = .agg #[.int .i64 c.ins, .slice An c.next.length cn, .slice Ag c.gates.length cg, .slice Ao c.outs.length co] := by
  obtain ⟨vn, vg, vo, rfl, r1, r2, r3⟩ := h
  obtain ⟨An, cn, rfl, -⟩ := Row.shape r1
  obtain ⟨Ag, cg, rfl, -⟩ := Row.shape r2
  obtain ⟨Ao, co, rfl, -⟩ := Row.shape r3
  exact ⟨An, cn, Ag, cg, Ao, co, rfl⟩
def TCirc (c : Cz) : Ty := fun w v => CircAt w v c
theorem stb_circ (c : Cz) : Stb (fun _ => False) (TCirc c) := fun _ _ _ h ho => h.below (only_below ho)
/-- A circuit in a box of the law's. -/
structure BoxC (w : World) (g : Nat) (c : Cz) (vn vg vo : Value) : Prop where
  pc : PCells w g c.ins vn vg vo
  at_ : CircAt w (.agg #[.int .i64 c.ins, vn, vg, vo]) c
theorem BoxC.below {w w' : World} {g : Nat} {c : Cz} {vn vg vo : Value} (h : BoxC w g c vn vg vo) (hb : Below w.heap.size w w') : BoxC w' g c vn vg vo := ⟨h.pc.below hb, h.at_.below hb⟩
theorem BoxC.made {w : World} {c : Cz} {vn vg vo : Value} (t : TypeId) (h : CircAt w (.agg #[.int .i64 c.ins, vn, vg, vo]) c) : BoxC (w.alloc (.cells #[.int .i64 c.ins, vn, vg, vo] t)) w.heap.size c vn vg vo :=
  ⟨PCells.boxed _ _ _ _ _ _, h.below ((Below.refl _ _).alloc (Nat.le_refl _) _)⟩
end Go.Proofs.Ytmlcbikljlhhkaa
