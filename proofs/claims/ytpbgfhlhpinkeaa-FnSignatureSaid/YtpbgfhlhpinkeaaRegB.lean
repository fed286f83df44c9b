import Derived.Test.YtpbgfhlhpinkeaaRegA
namespace Go.Proofs.Ytpbgfhlhpinkeaa
open Go.RowKit Reg

theorem implNext_nat (N T S : Nat) (w : World) (h1 : 1 ≤ N) (h2 : N ≤ 10) (h3 : T < 2 ^ N) (h4 : S < 2 ^ N) :
    Calls Try.prog 14 #[.int .i64 N, .int .i64 T, .int .i64 S] w
      fun e w' => e = .returned (.int .i64 (nextN N T S)) ∧ w = w' := by
  have h := implNext_any N T S w
  rw [next_fit (fits_mk h1 h2 h3 h4)] at h
  exact h
theorem l32Next_nat (N T S : Nat) (w : World) (h1 : 1 ≤ N) (h2 : N ≤ 10) (h3 : T < 2 ^ N) (h4 : S < 2 ^ N) :
    Calls Try.prog 26 #[.int .i64 N, .int .i64 T, .int .i64 S] w
      fun e w' => e = .returned (.int .i64 (nextN N T S)) ∧ w = w' := by
  have h := l32Next_any N T S w (fits_mk h1 h2 h3 h4)
  rw [next_fit (fits_mk h1 h2 h3 h4)] at h
  exact h

theorem implPeriod_any (n t s : Int) (w : World) :
    Calls Try.prog 12 #[.int .i64 n, .int .i64 t, .int .i64 s] w
      fun e w' => e = .returned (.int .i64 (period n t s)) ∧ w = w' := by
  cases h : fits n t s
  · rw [period_unfit h]
    go_enter Try.func12, Try.ntmps12
    go_wp2_with (go_at_call 24; refine (fits_any _ _ _ _).mono ?_; rintro e w' ⟨rfl, rfl⟩)
    go_ret
    exact ⟨rfl, rfl⟩
  · obtain ⟨N, T, S, rfl, rfl, rfl, h1, h2, h3, h4⟩ := fits_nat h
    rw [period_fit h]
    obtain ⟨M, hM, e, hp⟩ : ∃ M : Nat, Hid (2 ^ N = M) ∧ (2 : Int) ^ N = (M : Int) ∧ M ≤ 1024 := ⟨2 ^ N, Lib.hid rfl, two_pow N, pow_le_nat h2⟩
    have H3 := Lib.hid h3
    have H4 := Lib.hid h4
    clear h3 h4
    go_enter Try.func12, Try.ntmps12
    go_wp2_with (go_at_call 24; refine (fits_any _ _ _ _).mono ?_; rintro e w' ⟨rfl, rfl⟩)
    go_loop [7, 8] (fun a i => ∃ k : Nat, k ≤ M ∧ i = .int .i64 (k + 1) ∧ a = .int .i64 (iterN N T S k) ∧ NoBack N T S (k + 1)) (fun _ i => M + 1 - (intOf i).toNat)
    case atStart => exact ⟨0, Nat.zero_le _, rfl, rfl, NoBack.one _ _ _⟩
    case round =>
      obtain ⟨k, hk, rfl, rfl, hn⟩ := hrel
      have hlt := Lib.hid (iterN_lt (s := S) H3.out H4.out k)
      by_cases hle : k < M
      · go_wp2_with (go_at_call 14; refine (implNext_nat _ _ _ _ h1 h2 H3.out hlt.out).mono ?_; rintro e w' ⟨rfl, rfl⟩)
        · go_ret
          have hb : iterN N T S (k + 1) = S := by
            have hx : ((nextN N T (iterN N T S k) : Nat) : Int) = S := beq_iff_eq.1 (by assumption)
            exact Int.ofNat.inj hx
          exact ⟨ret_int (by rw [perN_back (by omega) (by rw [hM.out]; omega) hn hb]; rfl), rfl⟩
        · go_round
          case rel =>
            have hb : iterN N T S (k + 1) ≠ S := by
              have hx : ((nextN N T (iterN N T S k) : Nat) : Int) ≠ S := beq_eq_false_iff_ne.1 (by assumption)
              exact fun hy => hx (congrArg _ hy)
            exact ⟨k + 1, by omega, by go_num, rfl, hn.more hb⟩
          case measure => simp [intOf]; omega
      · go_wp2
        go_ret
        exact ⟨ret_int (by rw [perN_none (by rw [hM.out, show M + 1 = k + 1 from by omega]; exact hn)]; rfl), rfl⟩
theorem specPeriod_any (n t s : Int) (w : World) :
    Calls Try.prog 15 #[.int .i64 n, .int .i64 t, .int .i64 s] w
      fun e w' => e = .returned (.int .i64 (period n t s)) ∧ w = w' := by
  cases h : fits n t s
  · rw [period_unfit h]
    go_enter Try.func15, Try.ntmps15
    go_wp2_with (go_at_call 25; refine (l32Ok_any _ _ _ _).mono ?_; rintro e w' ⟨rfl, rfl⟩)
    go_ret
    exact ⟨rfl, rfl⟩
  · obtain ⟨N, T, S, rfl, rfl, rfl, h1, h2, h3, h4⟩ := fits_nat h
    rw [period_fit h]
    obtain ⟨M, hM, e, hp⟩ : ∃ M : Nat, Hid (2 ^ N = M) ∧ (2 : Int) ^ N = (M : Int) ∧ M ≤ 1024 := ⟨2 ^ N, Lib.hid rfl, two_pow N, pow_le_nat h2⟩
    have H3 := Lib.hid h3
    have H4 := Lib.hid h4
    clear h3 h4
    go_enter Try.func15, Try.ntmps15
    go_wp2_with (go_at_call 25; refine (l32Ok_any _ _ _ _).mono ?_; rintro e w' ⟨rfl, rfl⟩)
    go_loop [7, 8] (fun a i => ∃ k : Nat, k ≤ M ∧ i = .int .i64 (k + 1) ∧ a = .int .i64 (iterN N T S k) ∧ NoBack N T S (k + 1)) (fun _ i => M + 1 - (intOf i).toNat)
    case atStart => exact ⟨0, Nat.zero_le _, rfl, rfl, NoBack.one _ _ _⟩
    case round =>
      obtain ⟨k, hk, rfl, rfl, hn⟩ := hrel
      have hlt := Lib.hid (iterN_lt (s := S) H3.out H4.out k)
      by_cases hle : k < M
      · go_wp2_with (go_at_call 26; refine (l32Next_nat _ _ _ _ h1 h2 H3.out hlt.out).mono ?_; rintro e w' ⟨rfl, rfl⟩)
        · go_ret
          have hb : iterN N T S (k + 1) = S := by
            have hx : ((nextN N T (iterN N T S k) : Nat) : Int) = S := beq_iff_eq.1 (by assumption)
            exact Int.ofNat.inj hx
          exact ⟨ret_int (by rw [perN_back (by omega) (by rw [hM.out]; omega) hn hb]; rfl), rfl⟩
        · go_round
          case rel =>
            have hb : iterN N T S (k + 1) ≠ S := by
              have hx : ((nextN N T (iterN N T S k) : Nat) : Int) ≠ S := beq_eq_false_iff_ne.1 (by assumption)
              exact fun hy => hx (congrArg _ hy)
            exact ⟨k + 1, by omega, by go_num, rfl, hn.more hb⟩
          case measure => simp [intOf]; omega
      · go_wp2
        go_ret
        exact ⟨ret_int (by rw [perN_none (by rw [hM.out, show M + 1 = k + 1 from by omega]; exact hn)]; rfl), rfl⟩
end Go.Proofs.Ytpbgfhlhpinkeaa
