import Derived.Test.YtpbgfhlhpinkeaaProg
import Derived.Test.YtpbgfhlhpinkeaaRegM
import Derived.WalkKit
import Derived.WalkSpells
import Derived.BigQuiet
import Derived.Outline
import Derived.Lib.Hide
namespace Go.Proofs.Ytpbgfhlhpinkeaa
open Go.RowKit Reg

theorem l1In_any (n lo hi : Int) (w : World) :
    Calls Try.prog 27 #[.int .i64 n, .int .i64 lo, .int .i64 hi] w
      fun e w' => e = .returned (.bool (decide (lo ≤ n ∧ n ≤ hi))) ∧ w = w' := by
  go_enter Try.func27, Try.ntmps27
  go_wp2
  all_goals
    go_ret
    refine ⟨ret_bool ?_, rfl⟩
    simp
    try omega

theorem fits_any (n t s : Int) (w : World) :
    Calls Try.prog 24 #[.int .i64 n, .int .i64 t, .int .i64 s] w
      fun e w' => e = .returned (.bool (fits n t s)) ∧ w = w' := by
  have hp0 := pow_ge n
  by_cases h1 : 1 ≤ n
  · by_cases h2 : n ≤ 10
    · have hp := pow_le h2
      by_cases h3 : 0 ≤ t
      · by_cases h4 : t < 2 ^ n.toNat
        · by_cases h5 : 0 ≤ s
          · by_cases h6 : s < 2 ^ n.toNat
            · have hf := Lib.hid (fits_of h1 h2 h3 h4 h5 h6)
              go_enter Try.func24, Try.ntmps24
              go_wp2
              go_ret
              exact ⟨ret_bool (by rw [hf.out]), rfl⟩
            · have hf := Lib.hid (fits_not (n := n) (t := t) (s := s) (by omega))
              go_enter Try.func24, Try.ntmps24
              go_wp2
              go_ret
              exact ⟨ret_bool (by rw [hf.out]), rfl⟩
          · have hf := Lib.hid (fits_not (n := n) (t := t) (s := s) (by omega))
            go_enter Try.func24, Try.ntmps24
            go_wp2
            go_ret
            exact ⟨ret_bool (by rw [hf.out]), rfl⟩
        · have hf := Lib.hid (fits_not (n := n) (t := t) (s := s) (by omega))
          go_enter Try.func24, Try.ntmps24
          go_wp2
          go_ret
          exact ⟨ret_bool (by rw [hf.out]), rfl⟩
      · have hf := Lib.hid (fits_not (n := n) (t := t) (s := s) (by omega))
        go_enter Try.func24, Try.ntmps24
        go_wp2
        go_ret
        exact ⟨ret_bool (by rw [hf.out]), rfl⟩
    · have hf := Lib.hid (fits_not (n := n) (t := t) (s := s) (by omega))
      go_enter Try.func24, Try.ntmps24
      go_wp2
      go_ret
      exact ⟨ret_bool (by rw [hf.out]), rfl⟩
  · have hf := Lib.hid (fits_not (n := n) (t := t) (s := s) (by omega))
    go_enter Try.func24, Try.ntmps24
    go_wp2
    go_ret
    exact ⟨ret_bool (by rw [hf.out]), rfl⟩

theorem l32Ok_any (n t s : Int) (w : World) :
    Calls Try.prog 25 #[.int .i64 n, .int .i64 t, .int .i64 s] w
      fun e w' => e = .returned (.bool (fits n t s)) ∧ w = w' := by
  have hp0 := pow_ge n
  by_cases h1 : 1 ≤ n ∧ n ≤ 10
  · have hp := pow_le h1.2
    have d1 : decide (1 ≤ n ∧ n ≤ 10) = true := decide_eq_true h1
    by_cases h3 : 0 ≤ t ∧ t ≤ 2 ^ n.toNat - 1
    · have d2 : decide (0 ≤ t ∧ t ≤ 2 ^ n.toNat - 1) = true := decide_eq_true h3
      by_cases h5 : 0 ≤ s ∧ s ≤ 2 ^ n.toNat - 1
      · have d3 : decide (0 ≤ s ∧ s ≤ 2 ^ n.toNat - 1) = true := decide_eq_true h5
        have hf := Lib.hid (fits_of (n := n) (t := t) (s := s) h1.1 h1.2 h3.1 (by omega) h5.1 (by omega))
        obtain ⟨h1, h2⟩ := h1
        go_enter Try.func25, Try.ntmps25
        go_wp2_with (go_at_call 27; refine (l1In_any _ _ _ _).mono ?_; rintro e w' ⟨rfl, rfl⟩)
        go_ret
        exact ⟨ret_bool (by rw [hf.out]), rfl⟩
      · have d3 : decide (0 ≤ s ∧ s ≤ 2 ^ n.toNat - 1) = false := decide_eq_false h5
        have hf := Lib.hid (fits_not (n := n) (t := t) (s := s) (by omega))
        obtain ⟨h1, h2⟩ := h1
        go_enter Try.func25, Try.ntmps25
        go_wp2_with (go_at_call 27; refine (l1In_any _ _ _ _).mono ?_; rintro e w' ⟨rfl, rfl⟩)
        go_ret
        exact ⟨ret_bool (by rw [hf.out]), rfl⟩
    · have d2 : decide (0 ≤ t ∧ t ≤ 2 ^ n.toNat - 1) = false := decide_eq_false h3
      have hf := Lib.hid (fits_not (n := n) (t := t) (s := s) (by omega))
      obtain ⟨h1, h2⟩ := h1
      go_enter Try.func25, Try.ntmps25
      go_wp2_with (go_at_call 27; refine (l1In_any _ _ _ _).mono ?_; rintro e w' ⟨rfl, rfl⟩)
      go_ret
      exact ⟨ret_bool (by rw [hf.out]), rfl⟩
  · have d1 : decide (1 ≤ n ∧ n ≤ 10) = false := decide_eq_false h1
    have hf := Lib.hid (fits_not (n := n) (t := t) (s := s) (by omega))
    clear h1
    go_enter Try.func25, Try.ntmps25
    go_wp2_with (go_at_call 27; refine (l1In_any _ _ _ _).mono ?_; rintro e w' ⟨rfl, rfl⟩)
    go_ret
    exact ⟨ret_bool (by rw [hf.out]), rfl⟩

theorem l32Next_any (n t s : Int) (w : World) (h : fits n t s = true) :
    Calls Try.prog 26 #[.int .i64 n, .int .i64 t, .int .i64 s] w
      fun e w' => e = .returned (.int .i64 (next n t s)) ∧ w = w' := by
  rw [next_fit h]
  obtain ⟨N, T, S, rfl, rfl, rfl, h1, h2, h3, h4⟩ := fits_nat h
  have hp := pow_le_nat h2
  have e := two_pow N
  have hp1 : (2 : Int) ^ N ≤ 1024 := by omega
  have hp2 : (1 : Int) ≤ 2 ^ N := by omega
  clear e h
  go_enter Try.func26, Try.ntmps26
  go_wp2
  · go_ret
    exact ⟨ret_int (spec_yes h2 h3 h4 (by assumption)), rfl⟩
  · go_ret
    exact ⟨ret_int (spec_no h2 h3 h4 (by assumption)), rfl⟩

theorem implNext_any (n t s : Int) (w : World) :
    Calls Try.prog 14 #[.int .i64 n, .int .i64 t, .int .i64 s] w
      fun e w' => e = .returned (.int .i64 (next n t s)) ∧ w = w' := by
  cases h : fits n t s
  · rw [next_unfit h]
    go_enter Try.func14, Try.ntmps14
    go_wp2_with (go_at_call 24; refine (fits_any _ _ _ _).mono ?_; rintro e w' ⟨rfl, rfl⟩)
    go_ret
    exact ⟨rfl, rfl⟩
  · rw [next_fit h]
    obtain ⟨N, T, S, rfl, rfl, rfl, h1, h2, h3, h4⟩ := fits_nat h
    have hp := pow_le_nat h2
    have e := two_pow N
    have hp1 : (2 : Int) ^ N ≤ 1024 := by omega
    have hp2 : (1 : Int) ≤ 2 ^ N := by omega
    clear e
    go_enter Try.func14, Try.ntmps14
    go_wp2_with (go_at_call 24; refine (fits_any _ _ _ _).mono ?_; rintro e w' ⟨rfl, rfl⟩)
    · go_ret
      exact ⟨ret_int (impl_yes h2 h3 h4 (by assumption)), rfl⟩
    · go_ret
      exact ⟨ret_int (impl_no h2 h3 h4 (by assumption)), rfl⟩

theorem specNext_any (n t s : Int) (w : World) :
    Calls Try.prog 13 #[.int .i64 n, .int .i64 t, .int .i64 s] w
      fun e w' => e = .returned (.int .i64 (next n t s)) ∧ w = w' := by
  cases h : fits n t s
  · rw [next_unfit h]
    go_enter Try.func13, Try.ntmps13
    go_wp2_with (go_at_call 25; refine (l32Ok_any _ _ _ _).mono ?_; rintro e w' ⟨rfl, rfl⟩)
    go_ret
    exact ⟨rfl, rfl⟩
  · have H := Lib.hid h
    go_enter Try.func13, Try.ntmps13
    go_wp2_with (first | (go_at_call 25; refine (l32Ok_any _ _ _ _).mono ?_; rintro e w' ⟨rfl, rfl⟩) | (go_at_call 26; refine (l32Next_any _ _ _ _ H.out).mono ?_; rintro e w' ⟨rfl, rfl⟩))
    go_ret
    exact ⟨rfl, rfl⟩
end Go.Proofs.Ytpbgfhlhpinkeaa
