import Derived.Test.YthnfbjjnabohoaaRsC
import Derived.Test.YthnfbjjnabohoaaSS
namespace Go.Proofs.Ythnfbjjnabohoaa
open Go.RowKit
/-! Drawn regions with one step that writes. -/
def JStep (R0 R1 : World → Prop) : Option Value → World → Prop
  | none, w => R0 w
  | some _, w => R1 w
@[reducible] def stepRS (Pg : Program) (ops : Array Oper) (w : World) (a : Act) (E : Nat → Prop) (R0 R1 : World → Prop) (d : Nat) : RS :=
  { P := Pg, ops := ops, E := E, F := fun _ => False, rd := none, w0 := w, J := JStep R0 R1, d := d, a0 := a }
theorem stepRS_ok {Pg : Program} {ops : Array Oper} {w : World} {a : Act} {E : Nat → Prop} {R0 R1 : World → Prop} {d : Nat} (hE : ∀ g, E g → g < w.heap.size) (h0 : ∀ w1 w2, R0 w1 → Below w1.heap.size w1 w2 → R0 w2) (h1 : ∀ w1 w2, R1 w1 → Below w1.heap.size w1 w2 → R1 w2) : (stepRS Pg ops w a E R0 R1 d).Ok :=
  ⟨fun _ h => h.elim, fun ov w1 w2 hj ho => by
    cases ov with
    | none => exact h0 _ _ hj (only_below ho)
    | some v => exact h1 _ _ hj (only_below ho),
    fun _ _ e => (by cases e), hE⟩
/-- A row of the call's own. -/
def TOwn (B : Nat) (e : TypeId) (size n : Nat) (cs : List Value) : Ty := fun w v => w.ownsRow B e size v n cs
theorem stb_own {E : Nat → Prop} {B : Nat} (hE : ∀ g, E g → g < B) (e : TypeId) (size n : Nat) (cs : List Value) : Stb E (TOwn B e size n cs) := fun v w w' h ho =>
  own_only h ho fun g hg he => by have h1 := (h.lt g hg).1; have h2 := hE g he; omega
/-- Two of them, in a struct. -/
def TOwn2 (B : Nat) (e : TypeId) (n : Nat) (cs : List Value) (e' : TypeId) (n' : Nat) (cs' : List Value) : Ty := fun w v => ∃ a b, v = .agg #[a, b] ∧ w.ownsRow B e 1 a n cs ∧ w.ownsRow B e' 1 b n' cs'
theorem stb_own2 {E : Nat → Prop} {B : Nat} (hE : ∀ g, E g → g < B) (e : TypeId) (n : Nat) (cs : List Value) (e' : TypeId) (n' : Nat) (cs' : List Value) : Stb E (TOwn2 B e n cs e' n' cs') := by
  rintro v w w' ⟨a, b, rfl, h1, h2⟩ ho
  exact ⟨a, b, rfl, stb_own hE _ _ _ _ _ _ _ h1 ho, stb_own hE _ _ _ _ _ _ _ h2 ho⟩
section
variable {S : RS} {Fin : List Ty → Prop} {o : Oper} {l : List Oper} {i : Nat} {τs : List Ty}
/-- The step that writes. -/
theorem rs_do (hd : i = S.d) {R0 R1 : World → Prop} (hJ : S.J = JStep R0 R1) (hrd : S.rd = none)
    (h : ∀ ρ w, Only S.E S.w0 w → R0 w → Known S.ops (tys τs) S.a0 ρ w i o.op.operands.toList → ∃ w', (execOp ρ o).run S.P w = .ok .skip w' ∧ R1 w' ∧ Only S.E w w')
    (rest : RSeq S Fin l (i + 1) (TAny :: τs)) : RSeq S Fin (o :: l) i τs := by
  intro _
  refine ⟨TAny, stb_any _, fun k ov ρ w hk hI hov hK => ?_, rest⟩
  obtain rfl := hov (by rw [hd]; exact ancB_self _ _ _)
  have h0 : R0 w := by have := hI.2.2; rw [hJ] at this; exact this
  obtain ⟨w', hrun, h1, hon⟩ := h ρ w hI.2.1 h0 hK
  unfold Good
  rw [hrun]
  refine ⟨trivial, ⟨?_, hI.2.1.trans hon, ?_⟩, hon⟩
  · rw [hrd]; trivial
  · rw [if_pos hd, hJ]
    exact h1
end
end Go.Proofs.Ythnfbjjnabohoaa
