import Derived.Test.YtlpellciiiflkaaBits
namespace Go.Proofs.Ytlpellciiiflkaa
theorem shr_nat (C V : Nat) : (C : Int) / 2 ^ V = ((C / 2 ^ V : Nat) : Int) := by rw [two_pow]; rfl
theorem shr_odd (C V : Nat) : (((C : Int) / 2 ^ V).tmod 2 == 1) = C.testBit V := by
  rw [shr_nat, Nat.testBit_eq_decide_div_mod_eq]
  generalize C / 2 ^ V = q
  rw [Int.tmod_eq_emod_of_nonneg (by omega), Bool.eq_iff_iff, beq_iff_eq, decide_eq_true_eq]
  omega
theorem shr_even (C V : Nat) : (((C : Int) / 2 ^ V).tmod 2 == 0) = !C.testBit V := by
  rw [shr_nat, Nat.testBit_eq_decide_div_mod_eq]
  generalize C / 2 ^ V = q
  rw [Int.tmod_eq_emod_of_nonneg (by omega), Bool.eq_iff_iff, beq_iff_eq, Bool.not_eq_true', decide_eq_false_iff_not]
  omega
theorem shr_and (C V : Nat) (h : C < 9223372036854775808) : bits .and .i64 ((C : Int) / 2 ^ V) 1 = if C.testBit V then 1 else 0 := by
  have hd : C / 2 ^ V ≤ C := Nat.div_le_self _ _
  rw [shr_nat, Nat.testBit_eq_decide_div_mod_eq]
  generalize C / 2 ^ V = q at *
  rw [i64_and_one _ (by omega) (by omega)]
  split <;> rename_i hh <;> simp at hh <;> omega
end Go.Proofs.Ytlpellciiiflkaa
