import Derived.Test.YtlpellciiiflkaaTwoD
import Derived.Test.YtlpellciiiflkaaGrow
import Derived.Test.YtlpellciiiflkaaShr
import Derived.Test.YtlpellciiiflkaaMinM
namespace Go.Proofs.Ytlpellciiiflkaa
open Go.RowKit
theorem pow4 {N : Nat} (h : N ≤ 4) : ∃ M : Nat, Hid (2 ^ N = M) ∧ (2 : Int) ^ N = (M : Int) ∧ M ≤ 16 ∧ 1 ≤ M :=
  ⟨2 ^ N, Lib.hid rfl, two_pow N, Nat.pow_le_pow_right (show 0 < 2 by decide) h, Nat.one_le_two_pow⟩
def fitsT (t n : Int) : Bool := decide (0 ≤ n ∧ n ≤ 4 ∧ 0 ≤ t ∧ t < 2 ^ 2 ^ n.toNat)
theorem fitsT_nat {t n : Int} (h : fitsT t n = true) : ∃ T N : Nat, t = T ∧ n = N ∧ N ≤ 4 ∧ T < 2 ^ 2 ^ N ∧ T < 65536 := by
  unfold fitsT at h
  rw [decide_eq_true_eq] at h
  obtain ⟨h1, h2, h3, h4⟩ := h
  obtain ⟨N, rfl⟩ := Int.eq_ofNat_of_zero_le h1
  obtain ⟨T, rfl⟩ := Int.eq_ofNat_of_zero_le h3
  have hN : N ≤ 4 := by omega
  have h5 : T < 2 ^ 2 ^ N := by
    have := two_pow (2 ^ N)
    rw [show ((N : Int).toNat) = N from rfl, this] at h4
    omega
  have h6 : 2 ^ 2 ^ N ≤ 65536 := Nat.pow_le_pow_right (show 0 < 2 by decide) (Nat.pow_le_pow_right (show 0 < 2 by decide) hN)
  exact ⟨T, N, rfl, rfl, hN, h5, by omega⟩
theorem tableFits_any (t n : Int) (w : World) :
    Calls Try.prog 37 #[.int .i64 t, .int .i64 n] w fun e w' => e = .returned (.bool (fitsT t n)) ∧ w = w' := by
  by_cases h : 0 ≤ n ∧ n ≤ 4
  · have hn : n = 0 ∨ n = 1 ∨ n = 2 ∨ n = 3 ∨ n = 4 := by omega
    rcases hn with rfl | rfl | rfl | rfl | rfl
    all_goals
      go_enter Try.func37, Try.ntmps37
      go_wp2
      all_goals
        go_ret
        refine ⟨ret_bool ?_, rfl⟩
        simp [fitsT]
        try omega
  · have hf : fitsT t n = false := decide_eq_false (by omega)
    rw [hf]
    have hn : n < 0 ∨ (0 ≤ n ∧ 4 < n) := by omega
    clear hf h
    rcases hn with g | ⟨g0, g1⟩
    all_goals
      go_enter Try.func37, Try.ntmps37
      go_wp2
      go_ret
      exact ⟨rfl, rfl⟩
theorem implies_any (C V T N : Nat) (w : World) (hN : N ≤ 4) (hC : C < 65536) (hT : T < 65536) :
    Calls Try.prog 38 #[.agg #[.int .i64 C, .int .i64 V], .int .i64 T, .int .i64 N] w
      fun e w' => e = .returned (.bool (Two.within (C, V) T N)) ∧ Below w.heap.size w w' := by
  obtain ⟨M, hM, e, hp, hp0⟩ := pow4 hN
  have hiff := Lib.hid (Two.within_iff (C, V) T N)
  generalize Two.within (C, V) T N = res at hiff ⊢
  have b0 : Below w.heap.size w (w.alloc (.cells #[.int .i64 C, .int .i64 V] 25)) := (Below.refl _ _).alloc (Nat.le_refl _) _
  have B0 := Lib.hid b0
  clear b0
  go_enter Try.func38, Try.ntmps38
  go_wp2_with fail
  have c0 : (w.alloc (.cells #[.int .i64 C, .int .i64 V] 25)).cell? ⟨w.heap.size, 0, none⟩ = some (.int .i64 C) := World.cell?_alloc_new _ _ _ 0
  have c1 : (w.alloc (.cells #[.int .i64 C, .int .i64 V] 25)).cell? ⟨w.heap.size, 1, none⟩ = some (.int .i64 V) := World.cell?_alloc_new _ _ _ 1
  have cz : w.heap.size < (w.alloc (.cells #[.int .i64 C, .int .i64 V] 25)).heap.size := by simp
  generalize w.alloc (.cells #[.int .i64 C, .int .i64 V] 25) = W1 at *
  go_loopw [10] (fun x wr => ∃ X : Nat, X ≤ M ∧ x = .int .i64 X ∧ Hid (∀ x, x < X → Two.has (C, V) x = true → T.testBit x = true) ∧ Below W1.heap.size W1 wr) (fun x _ => M - (intOf x).toNat)
  case atStart => exact ⟨0, by omega, rfl, Lib.hid (fun _ h => by omega), Below.refl _ _⟩
  case round =>
    obtain ⟨X, hX, rfl, hall, hb⟩ := hrel
    have q0 := (hb.cell (p := ⟨w.heap.size, 0, none⟩) cz).trans c0
    have q1 := (hb.cell (p := ⟨w.heap.size, 1, none⟩) cz).trans c1
    have Hb := Lib.hid hb
    have hz := B0.out.size
    clear hb c0 c1
    by_cases hlt : X < M
    · have hh := hasI_nat C V X (by omega) (by omega)
      have hs := shr_and T X (by omega)
      have Hh := Lib.hid hh
      clear hh
      cases hhas : Two.has (C, V) X
      · have Hc := Lib.hid hhas
        clear hhas hs
        go_wp2_with (go_at_call 15; refine (implHas_any _ _ _ _).mono ?_; rintro e w' ⟨rfl, hb'⟩; rw [Hh.out, Hc.out])
        go_roundw
        case rel => exact ⟨X + 1, by omega, by go_num, Lib.hid (fun x hx hx1 => by
          by_cases e : x = X
          · subst e; rw [Hc.out] at hx1; cases hx1
          · exact hall.out x (by omega) hx1), Hb.out.trans (hb'.mono Hb.out.size)⟩
        case measure => simp [intOf]; omega
      · have Hc := Lib.hid hhas
        clear hhas
        cases hbit : T.testBit X
        · rw [hbit, if_neg (by simp)] at hs
          have Hbit := Lib.hid hbit
          have hres : res = false := by
            cases res
            · rfl
            · have := hiff.out.1 rfl X (by rw [hM.out]; exact hlt) Hc.out
              rw [Hbit.out] at this; cases this
          subst hres
          clear hbit
          go_wp2_with (go_at_call 15; refine (implHas_any _ _ _ _).mono ?_; rintro e w' ⟨rfl, hb'⟩; rw [Hh.out, Hc.out])
          go_ret
          exact ⟨rfl, B0.out.trans ((Hb.out.trans (hb'.mono Hb.out.size)).mono hz)⟩
        · rw [hbit, if_pos rfl] at hs
          have Hbit := Lib.hid hbit
          clear hbit
          go_wp2_with (go_at_call 15; refine (implHas_any _ _ _ _).mono ?_; rintro e w' ⟨rfl, hb'⟩; rw [Hh.out, Hc.out])
          go_roundw
          case rel => exact ⟨X + 1, by omega, by go_num, Lib.hid (fun x hx hx1 => by
            by_cases e : x = X
            · subst e; exact Hbit.out
            · exact hall.out x (by omega) hx1), Hb.out.trans (hb'.mono Hb.out.size)⟩
          case measure => simp [intOf]; omega
    · obtain rfl : X = M := by omega
      have hres : res = true := hiff.out.2 fun x hx => hall.out x (by rw [← hM.out]; exact hx)
      subst hres
      go_wp2
      go_ret
      exact ⟨rfl, B0.out.trans (Hb.out.mono hz)⟩
end Go.Proofs.Ytlpellciiiflkaa
