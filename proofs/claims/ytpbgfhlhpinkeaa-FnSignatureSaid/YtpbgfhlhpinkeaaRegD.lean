import Derived.Test.YtpbgfhlhpinkeaaRegC
namespace Go.Proofs.Ytpbgfhlhpinkeaa
open Go.RowKit Reg

theorem implSignature_any (n t : Int) (v : Value) (ws : List Int) (w : World) (hr : IntsAt w v ws) :
    Calls Try.prog 18 #[.int .i64 n, .int .i64 t, v] w
      fun e w' => e = .returned (.int .i64 (signature n t ws)) ∧ Drew w w' := by
  obtain ⟨A, c, hv, hc, hcm⟩ := hr.shape
  subst hv
  unfold maxLen at hcm
  cases h : fits n t 0
  · rw [signature_unfit h]
    go_enter Try.func18, Try.ntmps18
    go_wp2_with (go_at_call 24; refine (fits_any _ _ _ _).mono ?_; rintro e w' ⟨rfl, rfl⟩)
    go_ret
    exact ⟨rfl, Drew.refl _⟩
  · by_cases hl : ws.length ≤ 1000
    · obtain ⟨N, T, S, rfl, rfl, hS, h1, h2, h3, h4⟩ := fits_nat h
      rw [signature_fit h hl]
      clear hS h4
      obtain ⟨M, hM, e, hp, hp0⟩ : ∃ M : Nat, Hid (2 ^ N = M) ∧ (2 : Int) ^ N = (M : Int) ∧ M ≤ 1024 ∧ 1 ≤ M := ⟨2 ^ N, Lib.hid rfl, two_pow N, pow_le_nat h2, Nat.one_le_two_pow⟩
      have E := Lib.hid e
      have H3 := Lib.hid h3
      clear h3
      have hst := SigAt.start N T ws
      generalize hres : sigFold N T 0 ws = res at hst ⊢
      clear hres
      go_enter Try.func18, Try.ntmps18
      go_wp2_with (go_at_call 24; refine (fits_any _ _ _ _).mono ?_; rintro e w' ⟨rfl, rfl⟩)
      go_loop [7, 21] (fun a i => ∃ k S : Nat, k ≤ ws.length ∧ i = .int .i64 k ∧ a = .int .i64 S ∧ Hid (S < 2 ^ N) ∧ SigAt N T S k ws res) (fun _ i => ws.length - (intOf i).toNat)
      case atStart => exact ⟨0, 0, Nat.zero_le _, rfl, rfl, Lib.hid (Nat.two_pow_pos N), hst⟩
      case round =>
        obtain ⟨k, S, hk, rfl, rfl, hS, hat⟩ := hrel
        clear hst
        by_cases hlt : k < ws.length
        · obtain ⟨b, o, c', hv, _, _, hbl, hcell⟩ := hr.open (by omega)
          obtain ⟨rfl, _⟩ : A = some ⟨b, o, none⟩ ∧ True := by injection hv with e1; exact ⟨e1, trivial⟩
          obtain ⟨x, hx, hs⟩ := ints_at hlt
          have hsrc : w.cell? ⟨b, o + k, none⟩ = some (.int .i64 x) := hcell k _ hs
          have Hx := Lib.hid hx
          clear hcell hv hs hx hr
          by_cases hx0 : x < 0
          · go_wp2
            go_ret
            exact ⟨ret_int (hat.bad Hx.out (by omega)).symm, Drew.refl _⟩
          · by_cases hx1 : x < M
            · obtain ⟨X, rfl⟩ := Int.eq_ofNat_of_zero_le (show 0 ≤ x by omega)
              go_wp2_with (go_at_call 14; refine (implNext_nat _ _ _ _ h1 h2 H3.out hS.out).mono ?_; rintro e w' ⟨rfl, rfl⟩)
              go_round
              case rel =>
                have hn := nextN_lt N T S H3.out
                have hM' := hM.out
                exact ⟨k + 1, nextN N T S ^^^ X, by omega, by go_num, by rw [i64_xor_nat _ _ (by omega) (by omega)], Lib.hid (Nat.xor_lt_two_pow hn (by omega)), hat.step Hx.out (by omega)⟩
              case measure => simp [intOf]; omega
            · go_wp2
              go_ret
              exact ⟨ret_int (hat.bad Hx.out (by rw [E.out]; omega)).symm, Drew.refl _⟩
        · go_wp2
          go_ret
          exact ⟨ret_int (hat.done (by omega)).symm, Drew.refl _⟩
    · rw [signature_long (by omega)]
      go_enter Try.func18, Try.ntmps18
      go_wp2_with (go_at_call 24; refine (fits_any _ _ _ _).mono ?_; rintro e w' ⟨rfl, rfl⟩)
      go_ret
      exact ⟨rfl, Drew.refl _⟩
theorem specSignature_any (n t : Int) (v : Value) (ws : List Int) (w : World) (hr : IntsAt w v ws) :
    Calls Try.prog 16 #[.int .i64 n, .int .i64 t, v] w
      fun e w' => e = .returned (.int .i64 (signature n t ws)) ∧ Drew w w' := by
  obtain ⟨A, c, hv, hc, hcm⟩ := hr.shape
  subst hv
  unfold maxLen at hcm
  cases h : fits n t 0
  · rw [signature_unfit h]
    go_enter Try.func16, Try.ntmps16
    go_wp2_with (go_at_call 25; refine (l32Ok_any _ _ _ _).mono ?_; rintro e w' ⟨rfl, rfl⟩)
    go_ret
    exact ⟨rfl, Drew.refl _⟩
  · by_cases hl : ws.length ≤ 1000
    · obtain ⟨N, T, S, rfl, rfl, hS, h1, h2, h3, h4⟩ := fits_nat h
      rw [signature_fit h hl]
      clear hS h4
      obtain ⟨M, hM, e, hp, hp0⟩ : ∃ M : Nat, Hid (2 ^ N = M) ∧ (2 : Int) ^ N = (M : Int) ∧ M ≤ 1024 ∧ 1 ≤ M := ⟨2 ^ N, Lib.hid rfl, two_pow N, pow_le_nat h2, Nat.one_le_two_pow⟩
      have E := Lib.hid e
      have H3 := Lib.hid h3
      clear h3
      have hst := SigAt.start N T ws
      generalize hres : sigFold N T 0 ws = res at hst ⊢
      clear hres
      go_enter Try.func16, Try.ntmps16
      go_wp2_with (go_at_call 25; refine (l32Ok_any _ _ _ _).mono ?_; rintro e w' ⟨rfl, rfl⟩)
      go_loopw [7, 8] (fun a i wr => ∃ k S : Nat, k ≤ ws.length ∧ i = .int .i64 k ∧ a = .int .i64 S ∧ Hid (S < 2 ^ N) ∧ SigAt N T S k ws res ∧ Drew w wr) (fun _ i _ => ws.length - (intOf i).toNat)
      case atStart => exact ⟨0, 0, Nat.zero_le _, rfl, rfl, Lib.hid (Nat.two_pow_pos N), hst, Drew.refl _⟩
      case round =>
        obtain ⟨k, S, hk, rfl, rfl, hS, hat, hd⟩ := hrel
        clear hst
        by_cases hlt : k < ws.length
        · obtain ⟨b, o, c', hv, _, _, hbl, hcell⟩ := hr.open (by omega)
          obtain ⟨rfl, _⟩ : A = some ⟨b, o, none⟩ ∧ True := by injection hv with e1; exact ⟨e1, trivial⟩
          obtain ⟨x, hx, hs⟩ := ints_at hlt
          have hsrc : wr.cell? ⟨b, o + k, none⟩ = some (.int .i64 x) := (hd.cell _).trans (hcell k _ hs)
          have Hx := Lib.hid hx
          clear hcell hv hs hx hr
          by_cases hx1 : 0 ≤ x ∧ x ≤ M - 1
          · have d1 : decide (0 ≤ x ∧ x ≤ (M : Int) - 1) = true := decide_eq_true hx1
            obtain ⟨hx0, hx1⟩ := hx1
            obtain ⟨X, rfl⟩ := Int.eq_ofNat_of_zero_le (show 0 ≤ x by omega)
            go_wp2
            have wr1 : IntKind.i64.wrap (M : Int) = M := IntWalk.i64_in _ (by omega)
            have wr2 : IntKind.i64.wrap ((M : Int) - 1) = M - 1 := IntWalk.i64_in _ (by omega)
            go_quiet ((go_at_call 27; exact quietS (l1In_any _ _ _ _)))
            clear wr1 wr2
            go_wp2
            generalize hw2 : wr.drewN nq = w2 at *
            have hd2 : Drew w w2 := hw2 ▸ hd.more nq
            have hsrc2 : w2.cell? ⟨b, o + k, none⟩ = some (.int .i64 (X : Int)) := hw2 ▸ hsrc
            clear hw2 hsrc hd
            go_quiet ((go_at_call 26; exact quietS (l32Next_nat _ _ _ _ h1 h2 H3.out hS.out)))
            go_wp2
            go_roundw
            case rel =>
              have hn := nextN_lt N T S H3.out
              have hM' := hM.out
              exact ⟨k + 1, nextN N T S ^^^ X, by omega, by go_num, by rw [i64_xor_nat _ _ (by omega) (by omega)], Lib.hid (Nat.xor_lt_two_pow hn (by omega)), hat.step Hx.out (by omega), hd2.more _⟩
            case measure => simp [intOf]; omega
          · have d1 : decide (0 ≤ x ∧ x ≤ (M : Int) - 1) = false := decide_eq_false hx1
            go_wp2
            have wr1 : IntKind.i64.wrap (M : Int) = M := IntWalk.i64_in _ (by omega)
            have wr2 : IntKind.i64.wrap ((M : Int) - 1) = M - 1 := IntWalk.i64_in _ (by omega)
            go_quiet ((go_at_call 27; exact quietS (l1In_any _ _ _ _)))
            clear wr1 wr2
            go_wp2
            go_ret
            exact ⟨ret_int (hat.bad Hx.out (by rw [E.out]; omega)).symm, hd.more _⟩
        · go_wp2
          go_ret
          exact ⟨ret_int (hat.done (by omega)).symm, hd⟩
    · rw [signature_long (by omega)]
      go_enter Try.func16, Try.ntmps16
      go_wp2_with (go_at_call 25; refine (l32Ok_any _ _ _ _).mono ?_; rintro e w' ⟨rfl, rfl⟩)
      go_ret
      exact ⟨rfl, Drew.refl _⟩
end Go.Proofs.Ytpbgfhlhpinkeaa
