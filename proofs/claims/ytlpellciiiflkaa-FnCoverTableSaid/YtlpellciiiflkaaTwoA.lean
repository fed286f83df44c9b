import Derived.Test.YtlpellciiiflkaaProg
import Derived.Test.YtlpellciiiflkaaBits
import Derived.Test.YtlpellciiiflkaaMem
import Derived.Test.YtlpellciiiflkaaTwoM
namespace Go.Proofs.Ytlpellciiiflkaa
open Go.RowKit

theorem ofInt_wrap (b : BitVec 64) : BitVec.ofInt 64 (IntKind.i64.wrap (b.toNat : Int)) = b := by
  apply BitVec.eq_of_toNat_eq
  rw [BitVec.toNat_ofInt, IntKind.wrap_i64]
  have := b.isLt
  omega
/-- What a cube has lies within its care. -/
theorem andNot_of_and {x c v : Int} (h : bits .and .i64 x c = v) : bits .andNot .i64 v c = 0 := by
  subst h
  show IntKind.i64.wrap (((BitVec.ofInt 64 (IntKind.i64.wrap ((BitVec.ofInt 64 x &&& BitVec.ofInt 64 c).toNat : Int)) &&& ~~~(BitVec.ofInt 64 c)).toNat : Nat) : Int) = 0
  rw [ofInt_wrap]
  have : BitVec.ofInt 64 x &&& BitVec.ofInt 64 c &&& ~~~(BitVec.ofInt 64 c) = 0#64 := by
    apply BitVec.eq_of_getLsbD_eq
    intro i hi
    simp
    intro _ h _
    exact h
  rw [this]
  rfl
/-- A cube is true for x. -/
def hasI (c v x : Int) : Bool := decide (0 ≤ x) && (bits .and .i64 x c == v)
def cubeV (c v : Int) : Value := .agg #[.int .i64 c, .int .i64 v]

theorem specHas_any (c v x : Int) (w : World) :
    Calls Try.prog 13 #[.agg #[.int .i64 c, .int .i64 v], .int .i64 x] w
      fun e w' => e = .returned (.bool (hasI c v x)) ∧ Below w.heap.size w w' := by
  by_cases hx : 0 ≤ x
  · cases hb : (bits .and .i64 x c == v)
    all_goals
      go_enter Try.func13, Try.ntmps13
      go_wp2
      go_ret
      exact ⟨ret_bool (by simp [hasI, hx, hb]), (Below.refl _ _).alloc (Nat.le_refl _) _⟩
  · go_enter Try.func13, Try.ntmps13
    go_wp2
    go_ret
    exact ⟨ret_bool (by simp [hasI]; intro h0; omega), (Below.refl _ _).alloc (Nat.le_refl _) _⟩
theorem implHas_any (c v x : Int) (w : World) :
    Calls Try.prog 15 #[.agg #[.int .i64 c, .int .i64 v], .int .i64 x] w
      fun e w' => e = .returned (.bool (hasI c v x)) ∧ Below w.heap.size w w' := by
  by_cases hx : 0 ≤ x
  · cases hb : (bits .and .i64 x c == v)
    · cases hn : (bits .andNot .i64 v c == 0)
      all_goals
        go_enter Try.func15, Try.ntmps15
        go_wp2
        go_ret
        exact ⟨ret_bool (by simp [hasI, hx, hb]), (Below.refl _ _).alloc (Nat.le_refl _) _⟩
    · have hn : (bits .andNot .i64 v c == 0) = true := beq_iff_eq.2 (andNot_of_and (beq_iff_eq.1 hb))
      go_enter Try.func15, Try.ntmps15
      go_wp2
      go_ret
      exact ⟨ret_bool (by simp [hasI, hx, hb]), (Below.refl _ _).alloc (Nat.le_refl _) _⟩
  · go_enter Try.func15, Try.ntmps15
    go_wp2
    go_ret
    exact ⟨ret_bool (by simp [hasI]; intro h0; omega), (Below.refl _ _).alloc (Nat.le_refl _) _⟩
theorem toCube_any (c v : Int) (w : World) :
    Calls Try.prog 14 #[.agg #[.int .i64 c, .int .i64 v]] w
      fun e w' => e = .returned (.agg #[.int .i64 c, .int .i64 v]) ∧ Below w.heap.size w w' := by
  go_enter Try.func14, Try.ntmps14
  go_wp2
  refine bodyPost_ret (v := .agg #[.int .i64 c, .int .i64 v]) (by simp [results, Try.results14, go_sem]) rfl ⟨rfl, ?_⟩
  exact (((Below.refl _ _).alloc (Nat.le_refl _) _).alloc (by simp) _).alloc (by simp; omega) _
end Go.Proofs.Ytlpellciiiflkaa
