import Derived.Test.YtlpellciiiflkaaPrimeM
namespace Go.Proofs.Ytlpellciiiflkaa
namespace Two
/-- Every assignment of the table has a cube. -/
def covers (l : List (Nat × Nat)) (t n : Nat) : Bool := (List.range (2 ^ n)).all fun x => !t.testBit x || l.any (has · x)
theorem covers_iff {l : List (Nat × Nat)} {t n : Nat} : covers l t n = true ↔ ∀ x, x < 2 ^ n → t.testBit x = true → l.any (has · x) = true := by
  rw [covers, List.all_eq_true]
  constructor
  · intro h x hx ht
    have := h x (List.mem_range.2 hx)
    rw [ht] at this
    simpa using this
  · intro h x hx
    cases ht : t.testBit x
    · simp
    · simp [h x (List.mem_range.1 hx) ht]
def allWithin (l : List (Nat × Nat)) (t n : Nat) : Prop := ∀ k ∈ l, within k t n = true
/-- Of implicants: the table is theirs exactly if they cover. -/
theorem table_covers {l : List (Nat × Nat)} {t n : Nat} (ht : t < 2 ^ 2 ^ n) (hw : allWithin l t n) : (tableOf l n = t) ↔ covers l t n = true := by
  rw [covers_iff]
  constructor
  · intro h x hx htx
    rw [← h, tableOf_bit] at htx
    exact (Bool.and_eq_true _ _ ▸ htx).2
  · intro h
    refine table_ext (tableOf_lt l n) ht fun x hx => ?_
    rw [tableOf_bit, decide_eq_true hx, Bool.true_and]
    cases htx : t.testBit x
    · rw [List.any_eq_false]
      intro k hk hh
      have := (within_iff k t n).1 (hw k hk) x hx hh
      rw [htx] at this
      cases this
    · exact h x hx htx
/-- From the last to the first, what is not needed is left out. -/
def minF (t n : Nat) (l : List (Nat × Nat)) : Nat → List (Nat × Nat)
  | 0 => l
  | i + 1 => minF t n (if covers (l.eraseIdx i) t n then l.eraseIdx i else l) i
def minimal (t n : Nat) : List (Nat × Nat) := minF t n (primes t n) (primes t n).length
theorem covers_mono {l l' : List (Nat × Nat)} {t n : Nat} (h : ∀ k ∈ l, k ∈ l') (hc : covers l t n = true) : covers l' t n = true := by
  rw [covers_iff] at *
  intro x hx ht
  obtain ⟨k, hk, hh⟩ := List.any_eq_true.1 (hc x hx ht)
  exact List.any_eq_true.2 ⟨k, h k hk, hh⟩
theorem minF_sub {t n : Nat} : ∀ (i : Nat) (l : List (Nat × Nat)), ∀ k ∈ minF t n l i, k ∈ l
  | 0, l, k, h => h
  | i + 1, l, k, h => by
    rw [minF] at h
    have := minF_sub i _ k h
    split at this
    · exact List.mem_of_mem_eraseIdx this
    · exact this
theorem minF_covers {t n : Nat} : ∀ (i : Nat) (l : List (Nat × Nat)), covers l t n = true → covers (minF t n l i) t n = true
  | 0, l, h => h
  | i + 1, l, h => by
    rw [minF]
    refine minF_covers i _ ?_
    split
    · assumption
    · exact h
theorem erase_erase {α : Type} (l : List α) {i j : Nat} (h : i ≤ j) : (l.eraseIdx i).eraseIdx j = (l.eraseIdx (j + 1)).eraseIdx i := by
  induction l generalizing i j with
  | nil => simp
  | cons a l ih =>
    cases i with
    | zero => rfl
    | succ i =>
      cases j with
      | zero => omega
      | succ j => simp [List.eraseIdx_cons_succ, ih (show i ≤ j by omega)]
theorem erase_ge {α : Type} (l : List α) {i : Nat} (h : l.length ≤ i) : l.eraseIdx i = l := List.eraseIdx_of_length_le h
/-- Nothing that is left can be left out. -/
theorem minF_need {t n : Nat} : ∀ (i : Nat) (l : List (Nat × Nat)), (∀ j, i ≤ j → j < l.length → covers (l.eraseIdx j) t n = false) → ∀ j, j < (minF t n l i).length → covers ((minF t n l i).eraseIdx j) t n = false
  | 0, l, h, j, hj => h j (Nat.zero_le _) hj
  | i + 1, l, h, j, hj => by
    rw [minF] at hj ⊢
    revert hj
    cases hc : covers (l.eraseIdx i) t n
    · simp only [Bool.false_eq_true, if_false]
      intro hj
      refine minF_need i l (fun k hk hkl => ?_) j hj
      rcases Nat.lt_or_ge k (i + 1) with hlt | hge
      · obtain rfl : k = i := by omega
        exact hc
      · exact h k hge hkl
    · simp only [if_true]
      intro hj
      refine minF_need i (l.eraseIdx i) (fun k hk hkl => ?_) j hj
      rw [erase_erase l hk]
      have hl : k + 1 < l.length := by
        rcases Nat.lt_or_ge i l.length with h1 | h1
        · rw [List.length_eraseIdx_of_lt h1] at hkl; omega
        · rw [erase_ge l h1] at hkl; omega
      have := h (k + 1) (by omega) hl
      cases hcc : covers ((l.eraseIdx (k + 1)).eraseIdx i) t n
      · rfl
      · rw [covers_mono (fun x hx => List.mem_of_mem_eraseIdx hx) hcc] at this
        cases this
theorem minF_length {t n : Nat} : ∀ (i : Nat) (l : List (Nat × Nat)), (minF t n l i).length ≤ l.length
  | 0, l => Nat.le_refl _
  | i + 1, l => by
    rw [minF]
    refine Nat.le_trans (minF_length i _) ?_
    split
    · exact List.length_eraseIdx_le _ _
    · exact Nat.le_refl _
theorem primes_within (t n : Nat) : allWithin (primes t n) t n := fun _ hk => (mem_implicants.1 (mem_primes.1 hk).1).2.2.2
theorem fine_minterm {m x : Nat} (hx : x < 2 ^ m) : fine (2 ^ m - 1, x) = true := by
  rw [fine_iff]
  intro i hi
  simp only at hi ⊢
  rw [Nat.testBit_two_pow_sub_one]
  refine decide_eq_true ?_
  rcases Nat.lt_or_ge i m with h | h
  · exact h
  · rw [Nat.testBit_lt_two_pow (Nat.lt_of_lt_of_le hx (Nat.pow_le_pow_right (by decide) h))] at hi
    cases hi
theorem has_minterm {m x y : Nat} (hx : x < 2 ^ m) (hy : y < 2 ^ m) : has (2 ^ m - 1, x) y = decide (y = x) := by
  unfold has
  simp only
  rw [Nat.and_two_pow_sub_one_eq_mod, Nat.mod_eq_of_lt hy, Bool.eq_iff_iff, beq_iff_eq, decide_eq_true_eq]
/-- The primes cover the table. -/
theorem primes_cover {t n : Nat} (hn : n ≤ 4) : covers (primes t n) t n = true := by
  rw [covers_iff]
  intro x hx ht
  -- the minterm of x in all variables, of which there are n
  have hk : (2 ^ n - 1, x) ∈ implicants t n := by
    refine mem_implicants.2 ⟨by have := Nat.two_pow_pos n; simp only; omega, hx, fine_minterm hx, (within_iff _ _ _).2 fun y hy hh => ?_⟩
    rw [has_minterm hx hy, decide_eq_true_eq] at hh
    rw [hh]; exact ht
  obtain ⟨b, hb, hp, hg⟩ := exists_prime _ _ (Nat.le_refl _) hk
  refine List.any_eq_true.2 ⟨b, mem_primes.2 ⟨hb, hp⟩, gen_has hg ?_⟩
  rw [has_minterm hx hx]; simp
theorem primes_table {t n : Nat} (hn : n ≤ 4) (ht : t < 2 ^ 2 ^ n) : tableOf (primes t n) n = t := (table_covers ht (primes_within t n)).2 (primes_cover hn)
end Two
end Go.Proofs.Ytlpellciiiflkaa
