import Derived.Test.YtpbgfhlhpinkeaaRg
import Derived.Test.YtpbgfhlhpinkeaaDraw
namespace Go.Proofs.Ytpbgfhlhpinkeaa
open Go.RowKit
/-! What the operations of a drawn region yield, for regions that draw numbers out of a reader at block R. -/
abbrev Ty := World → Value → Prop
def TEq (c : Value) : Ty := fun _ v => v = c
def TInt (lo hi : Int) : Ty := fun _ v => ∃ x, v = .int .i64 x ∧ lo ≤ x ∧ x ≤ hi
/-- A slice of n numbers between lo and hi, in a block of its own that is not the reader's. -/
def TLit (R n : Nat) (lo hi : Int) : Ty := fun w v => ∃ g, v = .slice (some ⟨g, 0, none⟩) n n ∧ g ≠ R ∧ g < w.heap.size ∧ ∀ i, i < n → ∃ x, w.cell? ⟨g, i, none⟩ = some (.int .i64 x) ∧ lo ≤ x ∧ x ≤ hi
def TPtr (R : Nat) (lo hi : Int) : Ty := fun w v => ∃ g i x, v = .pointer (some ⟨g, i, none⟩) ∧ g ≠ R ∧ g < w.heap.size ∧ w.cell? ⟨g, i, none⟩ = some (.int .i64 x) ∧ lo ≤ x ∧ x ≤ hi
def Stb (R : Nat) (T : Ty) : Prop := ∀ v w w', T w v → w.grownBy w' (some R) → T w' v
theorem stb_eq (R : Nat) (c : Value) : Stb R (TEq c) := fun _ _ _ h _ => h
theorem stb_int (R : Nat) (lo hi : Int) : Stb R (TInt lo hi) := fun _ _ _ h _ => h
theorem cell_on {w w' : World} {R g i : Nat} {u : Value} (hg : w.grownBy w' (some R)) (hn : g ≠ R) (h : w.cell? ⟨g, i, none⟩ = some u) : w'.cell? ⟨g, i, none⟩ = some u :=
  World.grownBy.cell hg h (by simp [hn])
theorem stb_lit (R n : Nat) (lo hi : Int) : Stb R (TLit R n lo hi) := by
  rintro v w w' ⟨g, hv, hn, hl, hc⟩ hg
  refine ⟨g, hv, hn, Nat.lt_of_lt_of_le hl hg.size, fun i hi => ?_⟩
  obtain ⟨x, hx, hb⟩ := hc i hi
  exact ⟨x, cell_on hg hn hx, hb⟩
theorem stb_ptr (R : Nat) (lo hi : Int) : Stb R (TPtr R lo hi) := by
  rintro v w w' ⟨g, i, x, hv, hn, hl, hc, hb⟩ hg
  exact ⟨g, i, x, hv, hn, Nat.lt_of_lt_of_le hl hg.size, cell_on hg hn hc, hb⟩
def tys (l : List Ty) (i : Nat) : Ty := l.getD i (TEq undef)
theorem tys_stb {R : Nat} {l : List Ty} (h : ∀ T ∈ l, Stb R T) (i : Nat) : Stb R (tys l i) := by
  unfold tys
  rw [List.getD_eq_getElem?_getD]
  cases hi : l[i]? with
  | none => exact stb_eq R undef
  | some T => exact h T (List.mem_of_getElem? hi)
/-- The reader lies at R; the world has grown out of w0. -/
def RdI (R P : Nat) (w0 : World) (k : Nat) (w : World) : Prop := Rd w R (P + k) ∧ w0.grownBy w (some R)
/-- What a step must leave. -/
def Post (R P : Nat) (w0 : World) (T : Ty) (k : Nat) (w : World) (v : Value) (w' : World) : Prop := T w' v ∧ RdI R P w0 (k + 1) w' ∧ w.grownBy w' (some R)
section
variable {P' : Program} {o : Oper} {ρ : Operand → Value} {w w0 : World} {R P k : Nat} {T : Ty}
theorem good_pure {v : Value} (hI : RdI R P w0 k w) (hr : (execOp ρ o).run P' w = .ok (.value v) w) (hT : T w v) : Good P' o ρ w (Post R P w0 T k w) := by
  unfold Good
  rw [hr]
  exact ⟨hT, ⟨hI.1.more (by omega), hI.2⟩, World.grownBy.refl w _⟩
theorem good_move {x : Operand} (hI : RdI R P w0 k w) (ho : o.op = .move x) (hT : T w (ρ x)) : Good P' o ρ w (Post R P w0 T k w) :=
  good_pure hI (by simp [execOp, ho, go_sem]) hT
theorem good_assign {x : Operand} (hI : RdI R P w0 k w) (ho : o.op = .assign x) (hT : T w (ρ x)) : Good P' o ρ w (Post R P w0 T k w) :=
  good_pure hI (by simp [execOp, ho, go_sem]) hT
theorem good_load {x : Operand} {t : TypeId} {lo hi : Int} (hI : RdI R P w0 k w) (ho : o.op = .load t x) (ht : ∀ w, (isAgg t).run P' w = .ok false w) (hT : TPtr R lo hi w (ρ x)) : Good P' o ρ w (Post R P w0 (TInt lo hi) k w) := by
  obtain ⟨g, i, x, hv, hn, hl, hc, h1, h2⟩ := hT
  refine good_pure (v := .int .i64 x) hI ?_ ⟨x, rfl, h1, h2⟩
  simp [execOp, ho, hv, go_sem, hc, ht, Result.andThen]
def IxOk (P' : Program) (t : TypeId) : Prop := ∀ (w : World) (g n j : Nat), j < n → n ≤ 1000 → (Instr.indexAt t (.slice (some ⟨g, 0, none⟩) n n) (.int .i64 (j : Int))).run P' w = .ok (.pointer (some ⟨g, j, none⟩)) w
theorem good_index {x y : Operand} {t : TypeId} {n : Nat} {lo hi : Int} (hI : RdI R P w0 k w) (ho : o.op = .indexAddr t x y) (hT : TLit R n lo hi w (ρ x)) (hy : TInt 0 (n - 1) w (ρ y)) (hn : n ≤ 1000) (hix : IxOk P' t) : Good P' o ρ w (Post R P w0 (TPtr R lo hi) k w) := by
  obtain ⟨g, hv, hg, hl, hc⟩ := hT
  obtain ⟨j, hj, h0, h1⟩ := hy
  obtain ⟨J, rfl⟩ := Int.eq_ofNat_of_zero_le h0
  obtain ⟨z, hz, hb⟩ := hc J (by omega)
  refine good_pure (v := .pointer (some ⟨g, J, none⟩)) hI ?_ ⟨g, J, z, rfl, hg, hl, hz, hb⟩
  have : J < n := by omega
  have hr := hix w g n J this hn
  simp [execOp, ho, hv, hj, Result.andThen, hr]
def FnOk (P' : Program) (f : FuncId) : Prop := ∀ (args : Array Value) (w : World), (callFunc f args).run P' w = .ok (.enter f args) w
theorem good_call {f : FuncId} {x : Operand} {n : Int} {at_ : Array TypeId} (hI : RdI R P w0 k w) (ho : o.op = .call { callee := .value (.func f), args := #[x, .const (.int .i64 n)], argTypes := at_ })
    (hcf : FnOk P' f) (hf : ρ (.func f) = .func (.func f) #[] #[]) (hx : ρ x = .pointer (some ⟨R, 0, none⟩)) (hn : ρ (.const (.int .i64 n)) = .int .i64 n)
    (hc : Calls P' f #[.pointer (some ⟨R, 0, none⟩), .int .i64 n] w (Picked n R (P + k) w)) : Good P' o ρ w (Post R P w0 (TInt 0 (n - 1)) k w) := by
  have hr : (execOp ρ o).run P' w = .ok (.enter f #[.pointer (some ⟨R, 0, none⟩), .int .i64 n]) w := by
    simp [execOp, ho, hf, hx, hn, go_sem, Result.andThen]
    exact hcf _ _
  unfold Good
  rw [hr]
  refine hc.mono ?_
  rintro e w' ⟨y, h0, h1, rfl, hr, hg⟩
  exact ⟨⟨y, rfl, h0, by omega⟩, ⟨hr, grownBy_trans hI.2 hg⟩, hg⟩
theorem good_build {e : TypeId} (cs : List Int) {lo hi : Int} (hI : RdI R P w0 k w) (hr : (execOp ρ o).run P' w = .ok (.value (.slice (some ⟨w.heap.size, 0, none⟩) cs.length cs.length)) (w.alloc (.cells (cs.map (Value.int .i64)).toArray e)))
    (hL : ∀ x ∈ cs, lo ≤ x ∧ x ≤ hi) : Good P' o ρ w (Post R P w0 (TLit R cs.length lo hi) k w) := by
  unfold Good
  rw [hr]
  have hg := World.grownBy_alloc w (.cells (cs.map (Value.int .i64)).toArray e) (some R)
  refine ⟨⟨w.heap.size, rfl, by have := hI.1.lt; omega, by simp, fun i hi' => ?_⟩, ⟨(hI.1.alloc _).more (by omega), grownBy_trans hI.2 hg⟩, hg⟩
  obtain ⟨v, h1, h2, h3⟩ := lit_cell w cs e lo hi hL i hi'
  exact ⟨v, h3, h1, h2⟩
end
end Go.Proofs.Ytpbgfhlhpinkeaa
