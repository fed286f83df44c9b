import Derived.Test.YthnfbjjnabohoaaRs
import Derived.Test.YthnfbjjnabohoaaPair
namespace Go.Proofs.Ythnfbjjnabohoaa
open Go.RowKit
/-! Drawn regions that make memory alone, with slices of booleans. -/
theorem only_below {w w' : World} (h : Only (fun _ => False) w w') : Below w.heap.size w w' := ⟨h.os, h.tape, h.output, h.size, fun k hk => h.block k hk id⟩
def TBools (xs : List Bool) : Ty := fun w v => BoolsAt w v xs
theorem stb_bools (xs : List Bool) : Stb (fun _ => False) (TBools xs) := fun _ _ _ h ho => Row.below h (only_below ho)
def TInts (xs : List Int) : Ty := fun w v => IntsAt w v xs
theorem stb_ints (xs : List Int) : Stb (fun _ => False) (TInts xs) := fun _ _ _ h ho => Row.below h (only_below ho)
def JNo : Option Value → World → Prop := fun _ _ => True
@[reducible] def quietRS (Pg : Program) (ops : Array Oper) (w : World) (a : Act) : RS := { P := Pg, ops := ops, E := fun _ => False, F := fun _ => False, rd := none, w0 := w, J := JNo, d := 0, a0 := a }
theorem quietRS_ok {Pg : Program} {ops : Array Oper} {w : World} {a : Act} : (quietRS Pg ops w a).Ok :=
  ⟨fun _ h => h, fun _ _ _ _ _ => trivial, fun _ _ e => (by cases e), fun _ e => e.elim⟩
theorem quiet_any {Pg : Program} {ops : Array Oper} {w : World} {a : Act} {i : Nat} : i ≠ (quietRS Pg ops w a).d ∨ ∀ ov w', (quietRS Pg ops w a).J ov w' := .inr fun _ _ => trivial
section
variable {S : RS} {Fin : List Ty → Prop} {o : Oper} {l : List Oper} {i : Nat} {τs : List Ty}
/-- A step that leaves the world alone and may read it. -/
theorem rs_look (hO : S.Ok) (hid : i ≠ S.d ∨ ∀ ov w, S.J ov w) (T : Ty) (hT : Stb S.E T)
    (h : ∀ ρ w, Only S.E S.w0 w → Known S.ops (tys τs) S.a0 ρ w i o.op.operands.toList → ∃ v, (execOp ρ o).run S.P w = .ok (.value v) w ∧ T w v)
    (rest : RSeq S Fin l (i + 1) (T :: τs)) : RSeq S Fin (o :: l) i τs := by
  refine rs_plain hO hid T hT (fun k ρ w _ hr ho hK => ?_) rest
  obtain ⟨v, h1, h2⟩ := h ρ w ho hK
  unfold Good
  rw [h1]
  exact ⟨h2, rdO_more hr, Only.refl _ _⟩
/-- A step that lays a block. -/
theorem rs_alloc (hO : S.Ok) (hid : i ≠ S.d ∨ ∀ ov w, S.J ov w) (T : Ty) (hT : Stb S.E T)
    (h : ∀ ρ w, Only S.E S.w0 w → Known S.ops (tys τs) S.a0 ρ w i o.op.operands.toList → ∃ v c, (execOp ρ o).run S.P w = .ok (.value v) (w.alloc c) ∧ T (w.alloc c) v)
    (rest : RSeq S Fin l (i + 1) (T :: τs)) : RSeq S Fin (o :: l) i τs := by
  refine rs_plain hO hid T hT (fun k ρ w _ hr ho hK => ?_) rest
  obtain ⟨v, c, h1, h2⟩ := h ρ w ho hK
  unfold Good
  rw [h1]
  refine ⟨h2, ?_, Only.of_below _ ((Below.refl _ _).alloc (Nat.le_refl _) c)⟩
  have hr' := rdO_more hr
  cases hrd : S.rd with
  | none => trivial
  | some x =>
    rw [hrd] at hr'
    exact Rd.alloc hr' _
end
end Go.Proofs.Ythnfbjjnabohoaa
