import Derived.Test.YtlpellciiiflkaaMinM
import Derived.Test.YtlpellciiiflkaaShr
namespace Go.Proofs.Ytlpellciiiflkaa
namespace Two
theorem one_bit (k : Nat × Nat) (n x : Nat) : (tableOf [k] n).testBit x = (decide (x < 2 ^ n) && has k x) := by
  rw [tableOf_bit]; simp
/-- One cube's table within a table. -/
theorem one_within {k : Nat × Nat} {t n : Nat} : (tableOf [k] n &&& t = tableOf [k] n) ↔ within k t n = true := by
  rw [within_iff]
  constructor
  · intro h x hx hk
    have := congrArg (fun a => a.testBit x) h
    simp only [Nat.testBit_and, one_bit, hk, decide_eq_true hx, Bool.true_and] at this
    exact this
  · intro h
    apply Nat.eq_of_testBit_eq
    intro x
    rw [Nat.testBit_and, one_bit]
    by_cases hx : x < 2 ^ n
    · cases hk : has k x
      · simp
      · simp [hx, h x hx hk]
    · simp [hx]
/-- A number without one bit. -/
def clr (a v : Nat) : Nat := a ^^^ (a &&& 2 ^ v)
theorem clr_bit (a v i : Nat) : (clr a v).testBit i = (a.testBit i && !decide (v = i)) := by
  unfold clr
  rw [Nat.testBit_xor, Nat.testBit_and, Nat.testBit_two_pow]
  cases a.testBit i <;> cases decide (v = i) <;> rfl
theorem clr_le (a v : Nat) : clr a v ≤ a := by
  have h : clr a v &&& a = clr a v := by
    apply Nat.eq_of_testBit_eq
    intro i
    rw [Nat.testBit_and, clr_bit]
    cases a.testBit i <;> simp
  rw [← h]
  exact Nat.and_le_right
theorem clr_gen {k : Nat × Nat} (hk : fine k = true) (v : Nat) : gen k (clr k.1 v, clr k.2 v) = true := by
  rw [gen_iff]
  refine ⟨fun i hi => ?_, fun i => ?_⟩
  · simp only [clr_bit, Bool.and_eq_true] at hi
    exact hi.1
  · simp only [clr_bit]
    have := (fine_iff k).1 hk i
    cases h2 : k.2.testBit i
    · simp
    · simp [this h2]
theorem clr_prime {t n v : Nat} {k : Nat × Nat} (hk : k ∈ primes t n) (hv : k.1.testBit v = true) : within (clr k.1 v, clr k.2 v) t n = false := by
  cases hw : within (clr k.1 v, clr k.2 v) t n
  · rfl
  · obtain ⟨h1, h2⟩ := mem_primes.1 hk
    obtain ⟨h3, h4, h5, _⟩ := mem_implicants.1 h1
    have hg := clr_gen h5 v
    have hm : (clr k.1 v, clr k.2 v) ∈ implicants t n := mem_implicants.2 ⟨Nat.lt_of_le_of_lt (clr_le _ _) h3, Nat.lt_of_le_of_lt (clr_le _ _) h4, gen_fine hg, hw⟩
    have he := prime_iff.1 h2 _ hm hg
    have := congrArg (fun q : Nat × Nat => q.1.testBit v) he
    simp [clr_bit, hv] at this
/-- What implies the table of one cube is below the cube. -/
theorem gen_of_one {b k : Nat × Nat} {n : Nat} (hb : fine b = true) (hb2 : b.2 < 2 ^ n) (hk : fine k = true) (hk1 : k.1 < 2 ^ n) (h : within b (tableOf [k] n) n = true) : gen b k = true := by
  rw [within_iff] at h
  have hfb := (fine_iff b).1 hb
  have hfk := (fine_iff k).1 hk
  have hsub : ∀ i, k.1.testBit i = true → b.1.testBit i = true := by
    intro i hi
    cases hbi : b.1.testBit i
    · exfalso
      have hin : i < n := by
        rcases Nat.lt_or_ge i n with h1 | h1
        · exact h1
        · rw [Nat.testBit_lt_two_pow (Nat.lt_of_lt_of_le hk1 (Nat.pow_le_pow_right (by decide) h1))] at hi
          cases hi
      -- an assignment of b that differs from k at i
      have key : ∀ c : Bool, ∃ x, x < 2 ^ n ∧ has b x = true ∧ x.testBit i = c := by
        intro c
        cases c
        · refine ⟨b.2, hb2, (has_iff b _).2 fun j => ?_, ?_⟩
          · cases h2 : b.2.testBit j
            · simp
            · simp [hfb j h2]
          · cases h2 : b.2.testBit i
            · rfl
            · rw [hfb i h2] at hbi; cases hbi
        · refine ⟨b.2 ||| 2 ^ i, Nat.or_lt_two_pow hb2 (Nat.pow_lt_pow_right (by decide) hin), (has_iff b _).2 fun j => ?_, ?_⟩
          · rw [Nat.testBit_or, Nat.testBit_two_pow]
            by_cases e : i = j
            · subst e
              cases h2 : b.2.testBit i
              · simp [hbi]
              · rw [hfb i h2] at hbi; cases hbi
            · cases h2 : b.2.testBit j
              · simp [e]
              · simp [hfb j h2]
          · rw [Nat.testBit_or, Nat.testBit_two_pow]; simp
      obtain ⟨x, hx, hbx, hxi⟩ := key (!k.2.testBit i)
      have hkx := h x hx hbx
      rw [one_bit, Bool.and_eq_true] at hkx
      have := (has_iff k x).1 hkx.2 i
      rw [hxi, hi] at this
      cases h2 : k.2.testBit i <;> rw [h2] at this <;> cases this
    · rfl
  rw [gen_iff]
  refine ⟨hsub, fun i => ?_⟩
  have hb0 : has b b.2 = true := (has_iff b _).2 fun j => by
    cases h2 : b.2.testBit j
    · simp
    · simp [hfb j h2]
  have hk0 := h b.2 hb2 hb0
  rw [one_bit, Bool.and_eq_true] at hk0
  exact (has_iff k _).1 hk0.2 i
theorem gen_antisymm {a b : Nat × Nat} (hb : fine b = true) (h : gen a b = true) (h' : gen b a = true) : a = b := gen_eq hb h' (Nat.le_antisymm (gen_le h') (gen_le h))
/-- A fine cube's table has that one prime implicant. -/
theorem primes_one {k : Nat × Nat} {n : Nat} (hk : fine k = true) (h1 : k.1 < 2 ^ n) (h2 : k.2 < 2 ^ n) : primes (tableOf [k] n) n = [k] := by
  have hm : k ∈ implicants (tableOf [k] n) n := mem_implicants.2 ⟨h1, h2, hk, one_within.1 (Nat.and_self _)⟩
  have hall : ∀ b ∈ implicants (tableOf [k] n) n, gen b k = true := fun b hb => by
    obtain ⟨_, h4, h5, h6⟩ := mem_implicants.1 hb
    exact gen_of_one h5 h4 hk h1 h6
  have hp : ∀ b ∈ implicants (tableOf [k] n) n, prime (tableOf [k] n) n b = (b == k) := fun b hb => by
    rw [Bool.eq_iff_iff, beq_iff_eq, prime_iff]
    constructor
    · intro h; exact h k hm (hall b hb)
    · intro h c hc hg
      subst h
      exact gen_antisymm (mem_implicants.1 hc).2.2.1 hg (hall c hc)
  unfold primes
  rw [List.filter_congr hp]
  have hnd : (implicants (tableOf [k] n) n).Nodup := (pairwise_implicants _ _).imp fun h => h.1
  have : (implicants (tableOf [k] n) n).filter (· == k) = [k] := by
    rw [List.filter_beq, hnd.count, if_pos hm]
    rfl
  exact this
/-! The disjunction of the single tables, the turned list. -/
theorem tableOf_append (a b : List (Nat × Nat)) (n : Nat) : tableOf (a ++ b) n = tableOf a n ||| tableOf b n := by
  apply Nat.eq_of_testBit_eq
  intro x
  rw [Nat.testBit_or, tableOf_bit, tableOf_bit, tableOf_bit, List.any_append]
  cases decide (x < 2 ^ n) <;> simp
theorem tableOf_reverse (a : List (Nat × Nat)) (n : Nat) : tableOf a.reverse n = tableOf a n := by
  apply Nat.eq_of_testBit_eq
  intro x
  rw [tableOf_bit, tableOf_bit, List.any_reverse]
end Two
theorem andNot_clr (a b : Nat) (ha : a < 9223372036854775808) (hb : b < 9223372036854775808) : bits .andNot .i64 (a : Int) (b : Int) = ((a ^^^ (a &&& b) : Nat) : Int) := by
  show IntKind.i64.wrap ((BitVec.ofInt 64 (a : Int) &&& ~~~(BitVec.ofInt 64 (b : Int))).toNat : Int) = _
  have e : (BitVec.ofInt 64 (a : Int) &&& ~~~(BitVec.ofInt 64 (b : Int))).toNat = a ^^^ (a &&& b) := by
    apply Nat.eq_of_testBit_eq
    intro i
    have h1 : (BitVec.ofInt 64 (a : Int)).toNat = a := ofInt64 a (by omega)
    have h2 : (BitVec.ofInt 64 (b : Int)).toNat = b := ofInt64 b (by omega)
    rw [Nat.testBit_xor, Nat.testBit_and, BitVec.testBit_toNat, BitVec.getLsbD_and, BitVec.getLsbD_not, ← BitVec.testBit_toNat, ← BitVec.testBit_toNat, h1, h2]
    by_cases hi : i < 64
    · simp [hi]
      cases a.testBit i <;> cases b.testBit i <;> rfl
    · have : a.testBit i = false := Nat.testBit_lt_two_pow (Nat.lt_of_lt_of_le (show a < 2 ^ 63 by omega) (Nat.pow_le_pow_right (by decide) (by omega)))
      simp [this]
  rw [e, IntKind.wrap_i64]
  have : a ^^^ (a &&& b) < 2 ^ 63 := Nat.xor_lt_two_pow (by omega) (Nat.lt_of_le_of_lt Nat.and_le_left (by omega))
  omega
end Go.Proofs.Ytlpellciiiflkaa
