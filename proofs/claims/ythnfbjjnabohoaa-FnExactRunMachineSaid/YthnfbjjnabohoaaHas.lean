import Derived.Test.YthnfbjjnabohoaaOnly
import Derived.Test.YthnfbjjnabohoaaSS
namespace Go.Proofs.Ythnfbjjnabohoaa
open Go.RowKit
/-! Things of a law in memory, and the blocks that they lie in. -/
/-- A thing that lies in the blocks from B up to T. -/
def Lives (B T : Nat) (K : World → Prop) : Prop := ∀ (E : Nat → Prop) (w w' : World), K w → T ≤ w.heap.size → Only E w w' → (∀ g, B ≤ g → g < T → ¬ E g) → K w'
structure Has (B T : Nat) (K : World → Prop) (w : World) : Prop where
  k : K w
  t : T ≤ w.heap.size
  l : Lives B T K
section
variable {B T : Nat} {K : World → Prop} {w w' : World}
theorem Has.only {E : Nat → Prop} (h : Has B T K w) (ho : Only E w w') (hE : ∀ g, B ≤ g → g < T → ¬ E g) : Has B T K w' := ⟨h.l E w w' h.k h.t ho hE, Nat.le_trans h.t ho.size, h.l⟩
theorem Has.below (h : Has B T K w) (hb : Below w.heap.size w w') : Has B T K w' := h.only (E := fun _ => False) ⟨hb.os, hb.tape, hb.output, hb.size, fun k hk _ => hb.block k hk⟩ (fun _ _ _ e => e)
theorem Has.apart {B' T' : Nat} (h : Has B T K w) (ho : Only (fun g => B' ≤ g ∧ g < T') w w') (hd : T ≤ B' ∨ T' ≤ B) : Has B T K w' := h.only ho (fun g h1 h2 h3 => by obtain ⟨h4, h5⟩ := h3; omega)
theorem Has.grown {r : Option Nat} {B' : Nat} (h : Has B T K w) (ho : w.grownBy w' r) (hr : ∀ g, r = some g → B' ≤ g) (hd : T ≤ B') : Has B T K w' := h.only (E := fun g => B' ≤ g) (Only.grown ho hr) (fun g h1 h2 h3 => by have h4 : B' ≤ g := h3; omega)
end
/-- What was so in a world of T blocks, and still is. -/
def Kept (A : World → Prop) (T : Nat) (w' : World) : Prop := ∃ w0, A w0 ∧ w0.heap.size = T ∧ Below w0.heap.size w0 w'
theorem lives_kept (A : World → Prop) (T : Nat) : Lives 0 T (Kept A T) := by
  rintro E w w' ⟨w0, hA, rfl, hb⟩ ht ho hE
  exact ⟨w0, hA, rfl, ho.os.trans hb.os, ho.tape.trans hb.tape, ho.output.trans hb.output, Nat.le_trans hb.size ho.size, fun k hk => (ho.block k (Nat.lt_of_lt_of_le hk ht) (hE k (Nat.zero_le _) hk)).trans (hb.block k hk)⟩
theorem has_kept {A : World → Prop} {w : World} (h : A w) : Has 0 w.heap.size (Kept A w.heap.size) w := ⟨⟨w, h, rfl, Below.refl _ _⟩, Nat.le_refl _, lives_kept _ _⟩
/-- A row of the call's own, below T. -/
def RowT (B T : Nat) (e : TypeId) (size : Nat) (v : Value) (n : Nat) (cs : List Value) (w : World) : Prop := w.ownsRow B e size v n cs ∧ ∀ g, v.ownBlock = some g → g < T
theorem lives_rowT (B T : Nat) (e : TypeId) (size : Nat) (v : Value) (n : Nat) (cs : List Value) : Lives B T (RowT B T e size v n cs) := by
  rintro E w w' ⟨h, hl⟩ ht ho hE
  exact ⟨own_only h ho fun g hg => hE g (h.lt g hg).1 (hl g hg), hl⟩
theorem has_row {B : Nat} {e : TypeId} {size n : Nat} {v : Value} {cs : List Value} {w : World} (h : w.ownsRow B e size v n cs) : Has B w.heap.size (RowT B w.heap.size e size v n cs) w :=
  ⟨⟨h, fun g hg => (h.lt g hg).2⟩, Nat.le_refl _, lives_rowT _ _ _ _ _ _ _⟩
theorem lives_ss {α : Type} (enc : List α → List Value) (to ti : TypeId) (B T : Nat) (v : Value) (xss : List (List α)) : Lives B T (fun w => OwnSS enc to ti B T w v xss) := fun _ _ _ h _ ho hE => OwnSS.only h ho hE
end Go.Proofs.Ythnfbjjnabohoaa
