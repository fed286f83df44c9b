import Derived.Test.YtpbgfhlhpinkeaaBits
namespace Go.Proofs.Ytpbgfhlhpinkeaa
namespace Reg

/-- The register's arguments are valid. -/
def fits (n t s : Int) : Bool := decide (1 ≤ n ∧ n ≤ 10 ∧ 0 ≤ t ∧ t < 2 ^ n.toNat ∧ 0 ≤ s ∧ s < 2 ^ n.toNat)

theorem fits_iff {n t s : Int} : fits n t s = true ↔ 1 ≤ n ∧ n ≤ 10 ∧ 0 ≤ t ∧ t < 2 ^ n.toNat ∧ 0 ≤ s ∧ s < 2 ^ n.toNat :=
  decide_eq_true_iff

theorem fits_of {n t s : Int} (h1 : 1 ≤ n) (h2 : n ≤ 10) (h3 : 0 ≤ t) (h4 : t < 2 ^ n.toNat) (h5 : 0 ≤ s) (h6 : s < 2 ^ n.toNat) : fits n t s = true :=
  fits_iff.2 ⟨h1, h2, h3, h4, h5, h6⟩

theorem fits_not {n t s : Int} (h : ¬ (1 ≤ n ∧ n ≤ 10 ∧ 0 ≤ t ∧ t < 2 ^ n.toNat ∧ 0 ≤ s ∧ s < 2 ^ n.toNat)) : fits n t s = false :=
  decide_eq_false h

theorem pow_le_nat {n : Nat} (h : n ≤ 10) : 2 ^ n ≤ 1024 := Nat.pow_le_pow_right (n := 2) (by decide) h
theorem pow_le {n : Int} (h2 : n ≤ 10) : (2 : Int) ^ n.toNat ≤ 1024 := by
  have h' := pow_le_nat (n := n.toNat) (by omega)
  rw [two_pow]; omega

theorem pow_ge (n : Int) : 1 ≤ (2 : Int) ^ n.toNat := by
  have := Nat.one_le_two_pow (n := n.toNat)
  rw [two_pow]; omega

/-- The three numbers as natural numbers. -/
theorem fits_nat {n t s : Int} (h : fits n t s = true) : ∃ N T S : Nat, n = N ∧ t = T ∧ s = S ∧ 1 ≤ N ∧ N ≤ 10 ∧ T < 2 ^ N ∧ S < 2 ^ N := by
  obtain ⟨h1, h2, h3, h4, h5, h6⟩ := fits_iff.1 h
  obtain ⟨N, rfl⟩ := Int.eq_ofNat_of_zero_le (show 0 ≤ n by omega)
  obtain ⟨T, rfl⟩ := Int.eq_ofNat_of_zero_le h3
  obtain ⟨S, rfl⟩ := Int.eq_ofNat_of_zero_le h5
  rw [Int.toNat_natCast, two_pow] at h4 h6
  exact ⟨N, T, S, rfl, rfl, rfl, by omega, by omega, by omega, by omega⟩

theorem fits_mk {N T S : Nat} (h1 : 1 ≤ N) (h2 : N ≤ 10) (h3 : T < 2 ^ N) (h4 : S < 2 ^ N) : fits N T S = true := by
  have e := two_pow N
  refine fits_of (by omega) (by omega) (by omega) ?_ (by omega) ?_ <;> rw [Int.toNat_natCast, e] <;> omega

/-- The next state. -/
def nextN (n t s : Nat) : Nat := if s / 2 ^ (n - 1) % 2 = 1 then s * 2 % 2 ^ n ^^^ t else s * 2 % 2 ^ n

def next (n t s : Int) : Int := if fits n t s then (nextN n.toNat t.toNat s.toNat : Int) else -1

theorem nextN_lt (n t s : Nat) (ht : t < 2 ^ n) : nextN n t s < 2 ^ n := by
  have h : s * 2 % 2 ^ n < 2 ^ n := Nat.mod_lt _ (Nat.two_pow_pos n)
  unfold nextN
  split
  · exact Nat.xor_lt_two_pow h ht
  · exact h

theorem divC (S k : Nat) : (S : Int) / 2 ^ k = ((S / 2 ^ k : Nat) : Int) := by rw [two_pow]; rfl
theorem modC (S k : Nat) : (S : Int) * 2 % 2 ^ k = ((S * 2 % 2 ^ k : Nat) : Int) := by rw [two_pow]; rfl
section
variable {N T S : Nat} (h2 : N ≤ 10) (h3 : T < 2 ^ N) (h4 : S < 2 ^ N)
include h2 h3 h4
theorem small : S < 1024 ∧ T < 1024 ∧ 2 ^ N ≤ 1024 ∧ S * 2 % 2 ^ N < 1024 ∧ S / 2 ^ (N - 1) < 1024 := by
  have := pow_le_nat h2
  have h5 : S * 2 % 2 ^ N < 2 ^ N := Nat.mod_lt _ (Nat.two_pow_pos N)
  have h6 : S / 2 ^ (N - 1) ≤ S := Nat.div_le_self _ _
  omega
theorem spec_yes (h : (((S : Int) / 2 ^ (N - 1)).tmod 2 == 1) = true) : bits .xor .i64 ((S : Int) * 2 % 2 ^ N) (T : Int) = ((nextN N T S : Nat) : Int) := by
  obtain ⟨a1, a2, a3, a4, a5⟩ := small h2 h3 h4
  rw [divC] at h
  unfold nextN
  generalize S / 2 ^ (N - 1) = q at *
  rw [Int.tmod_eq_emod_of_nonneg (by omega)] at h
  have h' : q % 2 = 1 := by have := beq_iff_eq.1 h; omega
  rw [modC, i64_xor_nat _ _ (by omega) (by omega), if_pos h']
theorem spec_no (h : (((S : Int) / 2 ^ (N - 1)).tmod 2 == 1) = false) : (S : Int) * 2 % 2 ^ N = ((nextN N T S : Nat) : Int) := by
  obtain ⟨a1, a2, a3, a4, a5⟩ := small h2 h3 h4
  rw [divC] at h
  unfold nextN
  generalize S / 2 ^ (N - 1) = q at *
  rw [Int.tmod_eq_emod_of_nonneg (by omega)] at h
  have h' : ¬ q % 2 = 1 := by have := beq_eq_false_iff_ne.1 h; omega
  rw [modC, if_neg h']
theorem impl_yes (h : (bits .and .i64 ((S : Int) / 2 ^ (N - 1)) 1 == 1) = true) : bits .xor .i64 (bits .and .i64 ((S : Int) * 2) (2 ^ N - 1)) (T : Int) = ((nextN N T S : Nat) : Int) := by
  obtain ⟨a1, a2, a3, a4, a5⟩ := small h2 h3 h4
  rw [divC] at h
  unfold nextN
  generalize S / 2 ^ (N - 1) = q at *
  rw [i64_and_one _ (by omega) (by omega)] at h
  have h' : q % 2 = 1 := by have := beq_iff_eq.1 h; omega
  have e := i64_and_mask (S * 2) N (by omega) (by omega)
  rw [show ((S : Int) * 2) = ((S * 2 : Nat) : Int) from by omega, e, i64_xor_nat _ _ (by omega) (by omega), if_pos h']
theorem impl_no (h : (bits .and .i64 ((S : Int) / 2 ^ (N - 1)) 1 == 1) = false) : bits .and .i64 ((S : Int) * 2) (2 ^ N - 1) = ((nextN N T S : Nat) : Int) := by
  obtain ⟨a1, a2, a3, a4, a5⟩ := small h2 h3 h4
  rw [divC] at h
  unfold nextN
  generalize S / 2 ^ (N - 1) = q at *
  rw [i64_and_one _ (by omega) (by omega)] at h
  have h' : ¬ q % 2 = 1 := by have := beq_eq_false_iff_ne.1 h; omega
  have e := i64_and_mask (S * 2) N (by omega) (by omega)
  rw [show ((S : Int) * 2) = ((S * 2 : Nat) : Int) from by omega, e, if_neg h']
end
theorem next_fit {n t s : Int} (h : fits n t s = true) : next n t s = (nextN n.toNat t.toNat s.toNat : Int) := by rw [next, if_pos h]
theorem next_unfit {n t s : Int} (h : fits n t s = false) : next n t s = -1 := by rw [next, if_neg (by simp [h])]

/-- The state after k steps. -/
def iterN (n t s : Nat) : Nat → Nat
  | 0 => s
  | k + 1 => nextN n t (iterN n t s k)
theorem iterN_lt {n t s : Nat} (ht : t < 2 ^ n) (hs : s < 2 ^ n) : ∀ k, iterN n t s k < 2 ^ n
  | 0 => hs
  | _ + 1 => nextN_lt _ _ _ ht
/-- The register was not back in the state s after 1, .., k - 1 steps. -/
def NoBack (n t s k : Nat) : Prop := ∀ j, 1 ≤ j → j < k → iterN n t s j ≠ s
theorem NoBack.one (n t s : Nat) : NoBack n t s 1 := fun j h1 h2 => by omega
theorem NoBack.more {n t s k : Nat} (h : NoBack n t s k) (hk : iterN n t s k ≠ s) : NoBack n t s (k + 1) := fun j h1 h2 => by
  by_cases e : j = k
  · subst e; exact hk
  · exact h j h1 (by omega)
/-- The first return within 2^n steps, or 0. -/
def perN (n t s : Nat) : Nat := ((List.range' 1 (2 ^ n)).find? fun k => iterN n t s k == s).getD 0
theorem find_range {p : Nat → Bool} {k : Nat} : ∀ {m a : Nat}, a ≤ k → k < a + m → p k = true → (∀ j, a ≤ j → j < k → p j = false) → (List.range' a m).find? p = some k
  | 0, a, h1, h2, _, _ => by omega
  | m + 1, a, h1, h2, hp, hn => by
    rw [List.range'_succ, List.find?_cons]
    by_cases e : a = k
    · subst e; rw [hp]
    · rw [hn a (Nat.le_refl _) (by omega)]
      exact find_range (by omega) (by omega) hp fun j h3 h4 => hn j (by omega) h4
theorem perN_back {n t s k : Nat} (h1 : 1 ≤ k) (h2 : k ≤ 2 ^ n) (h : NoBack n t s k) (hk : iterN n t s k = s) : perN n t s = k := by
  unfold perN
  rw [find_range (k := k) h1 (by omega) (by simp [hk]) fun j h3 h4 => by simpa using h j h3 h4]
  rfl
theorem perN_none {n t s : Nat} (h : NoBack n t s (2 ^ n + 1)) : perN n t s = 0 := by
  unfold perN
  rw [List.find?_eq_none.2 fun j hj => by
    rw [List.mem_range'_1] at hj
    simpa using h j hj.1 (by omega)]
  rfl
def period (n t s : Int) : Int := if fits n t s then (perN n.toNat t.toNat s.toNat : Int) else -1
theorem period_fit {N T S : Nat} (h : fits N T S = true) : period N T S = (perN N T S : Int) := by rw [period, if_pos h]; rfl
theorem period_unfit {n t s : Int} (h : fits n t s = false) : period n t s = -1 := by rw [period, if_neg (by simp [h])]

/-- The state after some words; nothing if one is out of range. -/
def sigFold (n t : Nat) : Nat → List Int → Option Nat
  | s, [] => some s
  | s, w :: ws => if 0 ≤ w ∧ w < 2 ^ n then sigFold n t (nextN n t s ^^^ w.toNat) ws else none
def sigOut (r : Option Nat) : Int := match r with | some s => (s : Int) | none => -1
def signature (n t : Int) (ws : List Int) : Int := if fits n t 0 = true ∧ ws.length ≤ 1000 then sigOut (sigFold n.toNat t.toNat 0 ws) else -1
theorem signature_fit {N T : Nat} {ws : List Int} (h : fits N T 0 = true) (hl : ws.length ≤ 1000) : signature N T ws = sigOut (sigFold N T 0 ws) := by rw [signature, if_pos ⟨h, hl⟩]; rfl
theorem signature_unfit {n t : Int} {ws : List Int} (h : fits n t 0 = false) : signature n t ws = -1 := by rw [signature, if_neg (by simp [h])]
theorem signature_long {n t : Int} {ws : List Int} (h : 1000 < ws.length) : signature n t ws = -1 := by rw [signature, if_neg (by omega)]
/-- From the state s and the word k on, the result is r. -/
def SigAt (n t s k : Nat) (ws : List Int) (r : Option Nat) : Prop := sigFold n t s (ws.drop k) = r
theorem SigAt.start (n t : Nat) (ws : List Int) : SigAt n t 0 0 ws (sigFold n t 0 ws) := rfl
theorem SigAt.step {n t s k X : Nat} {ws : List Int} {r : Option Nat} (h : SigAt n t s k ws r) (hx : ws[k]? = some (X : Int)) (hr : X < 2 ^ n) : SigAt n t (nextN n t s ^^^ X) (k + 1) ws r := by
  obtain ⟨hk, hx'⟩ := List.getElem?_eq_some_iff.1 hx
  unfold SigAt at h ⊢
  rw [List.drop_eq_getElem_cons hk, hx', sigFold, if_pos ⟨by omega, by rw [two_pow]; omega⟩] at h
  exact h
theorem SigAt.bad {n t s k : Nat} {x : Int} {ws : List Int} {r : Option Nat} (h : SigAt n t s k ws r) (hx : ws[k]? = some x) (hr : ¬ (0 ≤ x ∧ x < 2 ^ n)) : sigOut r = -1 := by
  obtain ⟨hk, hx'⟩ := List.getElem?_eq_some_iff.1 hx
  unfold SigAt at h
  rw [List.drop_eq_getElem_cons hk, hx', sigFold, if_neg hr] at h
  rw [← h]; rfl
theorem SigAt.done {n t s k : Nat} {ws : List Int} {r : Option Nat} (h : SigAt n t s k ws r) (hk : ws.length ≤ k) : sigOut r = (s : Int) := by
  unfold SigAt at h
  rw [List.drop_eq_nil_of_le hk, sigFold] at h
  rw [← h]; rfl
end Reg
end Go.Proofs.Ytpbgfhlhpinkeaa
