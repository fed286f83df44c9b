import Derived.Test.YtlpellciiiflkaaPrimeC
import Derived.Test.YtlpellciiiflkaaApp
namespace Go.Proofs.Ytlpellciiiflkaa
open Go.RowKit
theorem append_cubes_at {w : World} {ops : Array Oper} {rest : List Oper} {o : Oper} {a : Act} {Q : Exit → Act → World → Prop} (hgd : o.guard = none) (s x : Operand)
    (ho : o.op = .call { callee := .builtin .append, args := #[s, x], argTypes := #[35, 35] })
    (base : Nat) (v : Value) (n : Nat) (xs : List Value) (hs : a.eval s = v) (hown : w.ownsRow base 25 2 v n xs) (sv : Value) (m : Nat) (news : List Value) (hx : a.eval x = sv) (hr : Row w 2 sv m news) (h1 : ∀ u ∈ news, u.oneCell' = true)
    (h63 : n + m ≤ 1000000) (hbase : base ≤ w.heap.size)
    (h : ∀ v' w', w'.ownsRow base 25 2 v' (n + m) (xs ++ news) → w.grownBy w' v.ownBlock → (v'.ownBlock = v.ownBlock ∨ v'.ownBlock = some w.heap.size) → wpList Try.prog ops Q rest (a.put o.dst v') w') : wpList Try.prog ops Q (o :: rest) a w := by
  obtain ⟨i, hi, hz0, hz1, hz2⟩ := info_parts info_cube
  exact wpList_append_at hgd s x 35 ho base 25 i _ 2 16 Try.underlying35 hi hz0 hz1 hz2 rfl (by decide) v n xs hs hown sv m news hx hr h1 (by unfold maxLen; omega) (by omega) hbase h
theorem l30Ok_any (t n : Int) (w : World) :
    Calls Try.prog 45 #[.int .i64 t, .int .i64 n] w fun e w' => e = .returned (.bool (fitsT t n)) ∧ w = w' := by
  by_cases h : 0 ≤ n ∧ n ≤ 4
  · have hn : n = 0 ∨ n = 1 ∨ n = 2 ∨ n = 3 ∨ n = 4 := by omega
    clear h
    rcases hn with rfl | rfl | rfl | rfl | rfl
    all_goals
      go_enter Try.func45, Try.ntmps45
      go_wp2_with fail
      refine (l1In_any _ _ _ _).mono ?_
      rintro e w' ⟨rfl, rfl⟩
      go_wp2_with fail
      refine (l1In_any _ _ _ _).mono ?_
      rintro e w' ⟨rfl, rfl⟩
      go_wp2_with fail
      go_ret
      refine ⟨ret_bool ?_, rfl⟩
      rw [Bool.eq_iff_iff]
      simp [fitsT]
      intro _
      omega
  · have hf : fitsT t n = false := decide_eq_false (by omega)
    have d : decide (0 ≤ n ∧ n ≤ 4) = false := decide_eq_false h
    rw [hf]
    clear hf h
    go_enter Try.func45, Try.ntmps45
    go_wp2_with fail
    refine (l1In_any _ _ _ _).mono ?_
    rintro e w' ⟨rfl, rfl⟩
    go_wp2_with fail
    go_ret
    exact ⟨rfl, rfl⟩
theorem l30In_any (C V T N : Nat) (w : World) (hN : N ≤ 4) (hC : C < 65536) (hT : T < 65536) :
    Calls Try.prog 55 #[.agg #[.int .i64 C, .int .i64 V], .int .i64 T, .int .i64 N] w
      fun e w' => e = .returned (.bool (Two.within (C, V) T N)) ∧ Below w.heap.size w w' := by
  obtain ⟨M, hM, e, hp, hp0⟩ := pow4 hN
  have hiff := Lib.hid (Two.within_iff (C, V) T N)
  generalize Two.within (C, V) T N = res at hiff ⊢
  have b0 : Below w.heap.size w (w.alloc (.cells #[.int .i64 C, .int .i64 V] 25)) := (Below.refl _ _).alloc (Nat.le_refl _) _
  have B0 := Lib.hid b0
  clear b0
  go_enter Try.func55, Try.ntmps55
  go_wp2_with fail
  have c0 : (w.alloc (.cells #[.int .i64 C, .int .i64 V] 25)).cell? ⟨w.heap.size, 0, none⟩ = some (.int .i64 C) := World.cell?_alloc_new _ _ _ 0
  have c1 : (w.alloc (.cells #[.int .i64 C, .int .i64 V] 25)).cell? ⟨w.heap.size, 1, none⟩ = some (.int .i64 V) := World.cell?_alloc_new _ _ _ 1
  have cz : w.heap.size < (w.alloc (.cells #[.int .i64 C, .int .i64 V] 25)).heap.size := by simp
  generalize w.alloc (.cells #[.int .i64 C, .int .i64 V] 25) = W1 at *
  go_loopw [7] (fun x wr => ∃ X : Nat, X ≤ M ∧ x = .int .i64 X ∧ Hid (∀ x, x < X → Two.has (C, V) x = true → T.testBit x = true) ∧ Below W1.heap.size W1 wr) (fun x _ => M - (intOf x).toNat)
  case atStart => exact ⟨0, by omega, rfl, Lib.hid (fun _ h => by omega), Below.refl _ _⟩
  case round =>
    obtain ⟨X, hX, rfl, hall, hb⟩ := hrel
    have q0 := (hb.cell (p := ⟨w.heap.size, 0, none⟩) cz).trans c0
    have q1 := (hb.cell (p := ⟨w.heap.size, 1, none⟩) cz).trans c1
    have Hb := Lib.hid hb
    have hz := B0.out.size
    clear hb c0 c1
    by_cases hlt : X < M
    · have hh := hasI_nat C V X (by omega) (by omega)
      have hs := shr_even T X
      have Hh := Lib.hid hh
      clear hh
      cases hhas : Two.has (C, V) X
      · have Hc := Lib.hid hhas
        clear hhas hs
        go_wp2_with (go_at_call 13; refine (specHas_any _ _ _ _).mono ?_; rintro e w' ⟨rfl, hb'⟩; rw [Hh.out, Hc.out])
        go_roundw
        case rel => exact ⟨X + 1, by omega, by go_num, Lib.hid (fun x hx hx1 => by
          by_cases e : x = X
          · subst e; rw [Hc.out] at hx1; cases hx1
          · exact hall.out x (by omega) hx1), Hb.out.trans (hb'.mono Hb.out.size)⟩
        case measure => simp [intOf]; omega
      · have Hc := Lib.hid hhas
        clear hhas
        cases hbit : T.testBit X
        · rw [hbit] at hs
          have Hbit := Lib.hid hbit
          have hres : res = false := by
            cases res
            · rfl
            · have := hiff.out.1 rfl X (by rw [hM.out]; exact hlt) Hc.out
              rw [Hbit.out] at this; cases this
          subst hres
          clear hbit
          go_wp2_with (go_at_call 13; refine (specHas_any _ _ _ _).mono ?_; rintro e w' ⟨rfl, hb'⟩; rw [Hh.out, Hc.out])
          go_ret
          exact ⟨rfl, B0.out.trans ((Hb.out.trans (hb'.mono Hb.out.size)).mono hz)⟩
        · rw [hbit] at hs
          have Hbit := Lib.hid hbit
          clear hbit
          go_wp2_with (go_at_call 13; refine (specHas_any _ _ _ _).mono ?_; rintro e w' ⟨rfl, hb'⟩; rw [Hh.out, Hc.out])
          go_roundw
          case rel => exact ⟨X + 1, by omega, by go_num, Lib.hid (fun x hx hx1 => by
            by_cases e : x = X
            · subst e; exact Hbit.out
            · exact hall.out x (by omega) hx1), Hb.out.trans (hb'.mono Hb.out.size)⟩
          case measure => simp [intOf]; omega
    · obtain rfl : X = M := by omega
      have hres : res = true := hiff.out.2 fun x hx => hall.out x (by rw [← hM.out]; exact hx)
      subst hres
      go_wp2
      go_ret
      exact ⟨rfl, B0.out.trans (Hb.out.mono hz)⟩
theorem l30Within_any (a0 a1 b0 b1 : Nat) (w : World) (h0 : a0 < 65536) (h1 : a1 < 65536) (h2 : b0 < 65536) :
    Calls Try.prog 47 #[.agg #[.int .i64 a0, .int .i64 a1], .agg #[.int .i64 b0, .int .i64 b1]] w
      fun e w' => e = .returned (.bool (Two.gen (a0, a1) (b0, b1))) ∧ Below w.heap.size w w' := by
  have e1 := and_eq_nat a0 b0 b0 (by omega) (by omega)
  have e2 := and_eq_nat a1 b0 b1 (by omega) (by omega)
  have hg : Two.gen (a0, a1) (b0, b1) = ((a0 &&& b0 == b0) && (a1 &&& b0 == b1)) := rfl
  rw [hg]
  clear hg
  cases hc : (a0 &&& b0 == b0)
  · rw [hc] at e1
    clear hc e2
    go_enter Try.func47, Try.ntmps47
    go_wp2
    go_ret
    exact ⟨rfl, ((Below.refl _ _).alloc (Nat.le_refl _) _).alloc (by simp) _⟩
  · rw [hc] at e1
    clear hc
    go_enter Try.func47, Try.ntmps47
    go_wp2
    go_ret
    exact ⟨ret_bool (by simp [e2]), ((Below.refl _ _).alloc (Nat.le_refl _) _).alloc (by simp) _⟩
end Go.Proofs.Ytlpellciiiflkaa
