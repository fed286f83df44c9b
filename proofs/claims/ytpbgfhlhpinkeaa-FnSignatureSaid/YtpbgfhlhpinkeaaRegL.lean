import Derived.Test.YtpbgfhlhpinkeaaRegM
namespace Go.Proofs.Ytpbgfhlhpinkeaa
namespace Reg
/-! Plain laws of the registers. -/

theorem high {n s : Nat} (h1 : 1 ≤ n) (hs : s < 2 ^ n) : s / 2 ^ (n - 1) < 2 := by
  have : 2 ^ n = 2 * 2 ^ (n - 1) := by
    obtain ⟨m, rfl⟩ : ∃ m, n = m + 1 := ⟨n - 1, by omega⟩
    simp [Nat.pow_succ]; omega
  rw [Nat.div_lt_iff_lt_mul (Nat.two_pow_pos _)]
  omega
theorem high_bit (n s : Nat) : (s / 2 ^ (n - 1) % 2 = 1) ↔ s.testBit (n - 1) = true := by
  rw [Nat.testBit_eq_decide_div_mod_eq]; simp
/-- The next state, bit by bit. -/
theorem nextN_eq (n t s : Nat) : nextN n t s = (s * 2 % 2 ^ n) ^^^ (if s.testBit (n - 1) then t else 0) := by
  unfold nextN
  by_cases h : s.testBit (n - 1) = true
  · rw [if_pos ((high_bit n s).2 h), if_pos h]
  · rw [if_neg (fun h' => h ((high_bit n s).1 h')), if_neg h, Nat.xor_zero]
theorem nextN_zero (n t : Nat) : nextN n t 0 = 0 := by
  rw [nextN_eq]; simp
theorem dbl_xor (n a b : Nat) : (a ^^^ b) * 2 % 2 ^ n = (a * 2 % 2 ^ n) ^^^ (b * 2 % 2 ^ n) := by
  apply Nat.eq_of_testBit_eq
  intro i
  rw [Nat.testBit_xor, Nat.testBit_mod_two_pow, Nat.testBit_mod_two_pow, Nat.testBit_mod_two_pow]
  rw [show (a ^^^ b) * 2 = (a ^^^ b) <<< 1 from by rw [Nat.shiftLeft_eq], show a * 2 = a <<< 1 from by rw [Nat.shiftLeft_eq], show b * 2 = b <<< 1 from by rw [Nat.shiftLeft_eq]]
  rw [Nat.testBit_shiftLeft, Nat.testBit_shiftLeft, Nat.testBit_shiftLeft, Nat.testBit_xor]
  cases decide (i < n) <;> cases decide (1 ≤ i) <;> simp
theorem xor_four (A B T : Nat) (p q : Bool) : A ^^^ B ^^^ (if (p != q) = true then T else 0) = A ^^^ (if p = true then T else 0) ^^^ (B ^^^ (if q = true then T else 0)) := by
  apply Nat.eq_of_testBit_eq
  intro i
  cases p <;> cases q <;> simp only [Nat.testBit_xor, if_true, if_false, Nat.zero_testBit, bne_self_eq_false, Bool.true_bne, Bool.false_bne, Bool.not_false, Bool.not_true, Bool.false_eq_true] <;>
    (generalize A.testBit i = x; generalize B.testBit i = y; generalize T.testBit i = z; revert x y z; decide)
theorem nextN_xor (n t a b : Nat) : nextN n t (a ^^^ b) = nextN n t a ^^^ nextN n t b := by
  rw [nextN_eq, nextN_eq, nextN_eq, dbl_xor, Nat.testBit_xor]
  exact xor_four _ _ _ _ _
/-- Where the taps are odd, only 0 leads to 0. -/
theorem nextN_ker {n t s : Nat} (h1 : 1 ≤ n) (ht : t % 2 = 1) (hs : s < 2 ^ n) (h : nextN n t s = 0) : s = 0 := by
  have hp : 2 ^ n = 2 * 2 ^ (n - 1) := by
    obtain ⟨m, rfl⟩ : ∃ m, n = m + 1 := ⟨n - 1, by omega⟩
    simp [Nat.pow_succ]; omega
  have hpos := Nat.two_pow_pos (n - 1)
  unfold nextN at h
  split at h
  · rename_i hb
    exfalso
    have h0 := congrArg (fun x => x.testBit 0) h
    simp only [Nat.testBit_xor, Nat.zero_testBit] at h0
    have e1 : (s * 2 % 2 ^ n).testBit 0 = false := by
      rw [Nat.testBit_zero, hp, Nat.mul_comm s 2, Nat.mul_mod_mul_left]; simp
    have e2 : t.testBit 0 = true := by rw [Nat.testBit_zero]; simp [ht]
    rw [e1, e2] at h0
    cases h0
  · rename_i hb
    have hlt : s / 2 ^ (n - 1) < 2 := high h1 hs
    have hs' : s < 2 ^ (n - 1) := by
      rcases Nat.lt_or_ge s (2 ^ (n - 1)) with hl | hl
      · exact hl
      · have h3 := Nat.div_pos hl hpos
        generalize s / 2 ^ (n - 1) = q at *
        omega
    rw [Nat.mod_eq_of_lt (by omega)] at h
    omega
theorem xor_eq_zero {a b : Nat} (h : a ^^^ b = 0) : a = b := by
  apply Nat.eq_of_testBit_eq
  intro i
  have := congrArg (fun x => x.testBit i) h
  simp only [Nat.testBit_xor, Nat.zero_testBit] at this
  revert this
  cases a.testBit i <;> cases b.testBit i <;> simp
theorem nextN_inj {n t a b : Nat} (h1 : 1 ≤ n) (ht : t % 2 = 1) (ha : a < 2 ^ n) (hb : b < 2 ^ n) (h : nextN n t a = nextN n t b) : a = b :=
  xor_eq_zero (nextN_ker h1 ht (Nat.xor_lt_two_pow ha hb) (by rw [nextN_xor, h, Nat.xor_self]))

/-- k different numbers below m: k is at most m. -/
theorem pigeon : ∀ (m k : Nat) (f : Nat → Nat), (∀ i, i < k → f i < m) → (∀ i j, i < k → j < k → f i = f j → i = j) → k ≤ m
  | 0, k, f, h, _ => by
    rcases Nat.eq_zero_or_pos k with h0 | h0
    · omega
    · have := h 0 h0; omega
  | m + 1, 0, f, _, _ => by omega
  | m + 1, k + 1, f, h, hi => by
    -- the last value goes; who has m takes its place
    have := pigeon m k (fun i => if f i = m then f k else f i) (fun i hik => by
      have h1 := h i (by omega)
      have h2 := h k (by omega)
      by_cases e : f i = m
      · have : f k ≠ m := fun e' => by have := hi i k (by omega) (by omega) (e.trans e'.symm); omega
        simp only [e, if_true]; omega
      · simp only [e, if_false]; omega) (fun i j hik hjk hij => by
      by_cases e : f i = m <;> by_cases e' : f j = m
      · exact hi i j (by omega) (by omega) (e.trans e'.symm)
      · simp only [e, e', if_true, if_false] at hij
        have := hi k j (by omega) (by omega) hij; omega
      · simp only [e, e', if_true, if_false] at hij
        have := hi i k (by omega) (by omega) hij; omega
      · simp only [e, e', if_false] at hij
        exact hi i j (by omega) (by omega) hij)
    omega

theorem iter_back {n t s : Nat} (h1 : 1 ≤ n) (ht : t % 2 = 1) (htl : t < 2 ^ n) (hs : s < 2 ^ n) : ∀ (i d : Nat), iterN n t s (i + d) = iterN n t s i → iterN n t s d = s
  | 0, d, h => by rw [Nat.zero_add] at h; exact h
  | i + 1, d, h => by
    rw [show i + 1 + d = (i + d) + 1 from by omega] at h
    exact iter_back h1 ht htl hs i d (nextN_inj h1 ht (iterN_lt htl hs _) (iterN_lt htl hs _) h)
/-- Where the taps are odd, every state returns within 2^n steps. -/
theorem returns {n t s : Nat} (h1 : 1 ≤ n) (ht : t % 2 = 1) (htl : t < 2 ^ n) (hs : s < 2 ^ n) : ¬ NoBack n t s (2 ^ n + 1) := by
  intro hn
  have := pigeon (2 ^ n) (2 ^ n + 1) (iterN n t s) (fun i _ => iterN_lt htl hs i) (fun i j hi hj hij => by
    rcases Nat.lt_trichotomy i j with hl | he | hl
    · exfalso
      exact hn (j - i) (by omega) (by omega) (iter_back h1 ht htl hs i (j - i) (by rw [show i + (j - i) = j from by omega]; exact hij.symm))
    · exact he
    · exfalso
      exact hn (i - j) (by omega) (by omega) (iter_back h1 ht htl hs j (i - j) (by rw [show j + (i - j) = i from by omega]; exact hij)))
  omega
/-- What perN is: the first return, or 0. -/
theorem perN_spec (n t s : Nat) : (∃ k, 1 ≤ k ∧ k ≤ 2 ^ n ∧ NoBack n t s k ∧ iterN n t s k = s ∧ perN n t s = k) ∨ (NoBack n t s (2 ^ n + 1) ∧ perN n t s = 0) := by
  have key : ∀ m, NoBack n t s (m + 1) ∨ ∃ k, 1 ≤ k ∧ k ≤ m ∧ NoBack n t s k ∧ iterN n t s k = s := by
    intro m
    induction m with
    | zero => exact .inl (NoBack.one n t s)
    | succ m ih =>
      rcases ih with h | ⟨k, h1, h2, h3⟩
      · by_cases e : iterN n t s (m + 1) = s
        · exact .inr ⟨m + 1, by omega, by omega, h, e⟩
        · exact .inl (h.more e)
      · exact .inr ⟨k, h1, by omega, h3⟩
  rcases key (2 ^ n) with h | ⟨k, h1, h2, h3, h4⟩
  · exact .inr ⟨h, perN_none h⟩
  · exact .inl ⟨k, h1, h2, h3, h4, perN_back h1 h2 h3 h4⟩
theorem perN_zero (n t : Nat) : perN n t 0 = 1 :=
  perN_back (by omega) Nat.one_le_two_pow (NoBack.one _ _ _) (nextN_zero n t)
end Reg
end Go.Proofs.Ytpbgfhlhpinkeaa
