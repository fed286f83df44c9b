import Derived.Test.YtmlcbikljlhhkaaProg
import Derived.Test.YtmlcbikljlhhkaaMem
namespace Go.Proofs.Ytmlcbikljlhhkaa
open Go.RowKit
/-! No reader: for programs without draws. -/
structure Rd (w : World) (R P : Nat) : Prop where
  no : False
theorem Rd.lt {w : World} {R P : Nat} (h : Rd w R P) : R < w.heap.size := h.no.elim
theorem Rd.more {w : World} {R P Q : Nat} (h : Rd w R P) (_ : P ≤ Q) : Rd w R Q := h.no.elim
theorem Rd.below {w w' : World} {R P B : Nat} (h : Rd w R P) (_ : Below B w w') (_ : R < B) : Rd w' R P := h.no.elim
theorem Rd.grown {w w' : World} {R P : Nat} {row : Option Nat} (h : Rd w R P) (_ : w.grownBy w' row) (_ : ∀ k, row = some k → R < k) : Rd w' R P := h.no.elim
theorem Rd.alloc {w : World} {R P : Nat} (h : Rd w R P) (o : Obj) : Rd (w.alloc o) R P := h.no.elim
theorem Rd.drew1 {w : World} {R P : Nat} (h : Rd w R P) : Rd w.drew R P := h.no.elim
end Go.Proofs.Ytmlcbikljlhhkaa
