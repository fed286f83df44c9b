import Derived.Test.YtlpellciiiflkaaProg
import Derived.Test.YtlpellciiiflkaaMem
import Derived.Lib.SmallJoins
import Derived.ProofKit
namespace Go.Proofs.Ytlpellciiiflkaa
open Go.RowKit Go.Joins Go.ChangeShapes Go.WideShapes Go.ChangeAt
/-! What a law is told of its arguments, from their readings. -/
section
variable {H : Type} {enc : TypeId × Value → H} {w : World} {r : Reach} {b0 base : Nat} {spare : Nat → Bool} {held : Bool} {v : Value} {d : DataW H} {p : List MemPlace}
/-- An int. -/
def AnInt (_ : World) (v : Value) : Prop := ∃ x : Int, v = .int .i64 x ∧ -9223372036854775808 ≤ x ∧ x ≤ 9223372036854775807
theorem open_an_int (hv : Value.okWide Try.prog w r b0 3 v) (h : DataW.Trod enc Try.prog w base spare held 3 v d p) : AnInt w v := by
  obtain ⟨x, rfl, rfl, rfl, hw⟩ := open_int Try.underlying3 hv h
  have := Go.bounds_i64 hw
  exact ⟨x, rfl, by omega, by omega⟩
/-- A cube by value. -/
def ACube (_ : World) (v : Value) : Prop := ∃ x y : Int, v = .agg #[.int .i64 x, .int .i64 y]
theorem open_cube (hv : Value.okWide Try.prog w r b0 23 v) (h : DataW.Trod enc Try.prog w base spare held 23 v d p) : ACube w v := by
  obtain ⟨c0, c1, y0, y1, m, rfl, rfl, rfl, hy0, hy1⟩ := open_agg2 Try.underlying23 (by kernel_rfl) (by kernel_rfl) hv h
  obtain ⟨x, e0, _, _⟩ := DataW.trod_int Try.underlying3 hy0
  obtain ⟨y, e1, _, _⟩ := DataW.trod_int Try.underlying3 hy1
  simp at e0 e1
  subst e0 e1
  exact ⟨x, y, rfl⟩
end
end Go.Proofs.Ytlpellciiiflkaa
