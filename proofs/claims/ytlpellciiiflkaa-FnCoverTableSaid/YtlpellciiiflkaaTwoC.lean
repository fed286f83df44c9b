import Derived.Test.YtlpellciiiflkaaTwoB
namespace Go.Proofs.Ytlpellciiiflkaa
open Go.RowKit

theorem implCover_any (v : Value) (ks : List (Int × Int)) (n : Int) (w : World) (h : CubesAt w v ks) (hw : ∀ k ∈ ks, WfK k) :
    Calls Try.prog 20 #[v, .int .i64 n] w
      fun e w' => e = .returned (.int .i64 (coverI n ks)) ∧ Below w.heap.size w w' := by
  obtain ⟨A, c, hv, hc, hcm⟩ := h.shape
  subst hv
  unfold maxLen at hcm
  by_cases hn : 0 ≤ n ∧ n ≤ 4 ∧ ks.length ≤ 100
  · obtain ⟨h1, h2, h3⟩ := hn
    obtain ⟨N, rfl⟩ := Int.eq_ofNat_of_zero_le h1
    obtain ⟨M, hM, e, hp, hp0⟩ : ∃ M : Nat, Hid (2 ^ N = M) ∧ (2 : Int) ^ N = (M : Int) ∧ M ≤ 16 ∧ 1 ≤ M := ⟨2 ^ N, Lib.hid rfl, two_pow N, Nat.pow_le_pow_right (show 0 < 2 by decide) (show N ≤ 4 by omega), Nat.one_le_two_pow⟩
    have hst : Hid (coverI N ks = covFrom N (ks.drop 0) 0) := Lib.hid (by rw [coverI, if_pos ⟨h1, h2, h3⟩]; rfl)
    generalize coverI N ks = res at hst ⊢
    have h4 : N ≤ 4 := by omega
    go_enter Try.func20, Try.ntmps20
    go_wp2
    go_loopw [5, 22] (fun t i wr => ∃ k T : Nat, k ≤ ks.length ∧ i = .int .i64 k ∧ t = .int .i64 T ∧ T < 65536 ∧ Hid (res = covFrom N (ks.drop k) T) ∧ Below w.heap.size w wr) (fun _ i _ => ks.length - (intOf i).toNat)
    case atStart => exact ⟨0, 0, Nat.zero_le _, rfl, rfl, by omega, hst, Below.refl _ _⟩
    case round =>
      obtain ⟨k, T, hk, rfl, rfl, hT, hres, hb⟩ := hrel
      clear hst
      by_cases hlt : k < ks.length
      · obtain ⟨b, o, ⟨cc, cv⟩, rfl, hbl, hx, hs1, hs2⟩ := cubes_open h hb rfl hlt
        have hwf := hw _ (List.mem_of_getElem? hx.out)
        have Hb := Lib.hid hb
        clear h hb hw
        cases hok : okI N (cc, cv)
        · rw [covFrom_bad T hx.out hok] at hres
          rcases okI_cases hok with g | ⟨g0, g1⟩ | ⟨g0, g1, g2⟩
          · have d1 : decide (cc < 0) = true := decide_eq_true g
            clear hx hok
            go_wp2
            go_quiet (fail)
            go_wp2
            go_ret
            exact ⟨ret_int hres.out.symm, bel_drewN (Hb.out.alloc Hb.out.size _) _⟩
          · obtain ⟨C, rfl⟩ := Int.eq_ofNat_of_zero_le g0
            have d1 : decide ((C : Int) < 0) = false := decide_eq_false (by omega)
            have d2 : decide (M ≤ C) = true := decide_eq_true (by omega)
            have hz : IntKind.i64.wrap (M : Int) = M := IntWalk.i64_in _ (by omega)
            clear hx hok g1
            go_wp2
            go_quiet (fail)
            go_wp2
            go_ret
            exact ⟨ret_int hres.out.symm, bel_drewN (Hb.out.alloc Hb.out.size _) _⟩
          · obtain ⟨C, rfl⟩ := Int.eq_ofNat_of_zero_le g0
            have d1 : decide ((C : Int) < 0) = false := decide_eq_false (by omega)
            have d2 : decide (M ≤ C) = false := decide_eq_false (by omega)
            have d3 : (bits .andNot .i64 cv C != 0) = true := by simpa using g2
            have hz : IntKind.i64.wrap (M : Int) = M := IntWalk.i64_in _ (by omega)
            clear hx hok g1 g2
            go_wp2
            go_quiet (fail)
            go_wp2
            go_ret
            exact ⟨ret_int hres.out.symm, bel_drewN (Hb.out.alloc Hb.out.size _) _⟩
        · rw [covFrom_step T hx.out hok] at hres
          obtain ⟨g0, g1, g2⟩ := okI_parts hok
          obtain ⟨C, V, e1, g3, g4, g5, g6⟩ := okI_nat h4 hwf hok
          injection e1 with e1 e2
          subst e1 e2
          have d1 : decide ((C : Int) < 0) = false := decide_eq_false (by omega)
          have d2 : decide (M ≤ C) = false := decide_eq_false (by omega)
          have d3 : (bits .andNot .i64 (V : Int) C != 0) = false := by simpa using g2
          have hz : IntKind.i64.wrap (M : Int) = M := IntWalk.i64_in _ (by omega)
          clear g2 hx hok g3
          go_wp2
          go_quiet (fail)
          go_wp2
          have b1 := bel_drewN (Hb.out.alloc Hb.out.size (.cells #[.int .i64 C, .int .i64 V] 25)) nq
          have c0 : ((wr.alloc (.cells #[.int .i64 C, .int .i64 V] 25)).drewN nq).cell? ⟨wr.heap.size, 0, none⟩ = some (.int .i64 C) := World.cell?_alloc_new _ _ _ 0
          have c1 : ((wr.alloc (.cells #[.int .i64 C, .int .i64 V] 25)).drewN nq).cell? ⟨wr.heap.size, 1, none⟩ = some (.int .i64 V) := World.cell?_alloc_new _ _ _ 1
          have cz : wr.heap.size < ((wr.alloc (.cells #[.int .i64 C, .int .i64 V] 25)).drewN nq).heap.size := by simp
          have hwz := Hb.out.size
          generalize (wr.alloc (.cells #[.int .i64 C, .int .i64 V] 25)).drewN nq = W1 at *
          clear Hb
          generalize wr.heap.size = g at *
          clear d1 d2 d3 hz hs1 hs2
          have B1 := Lib.hid b1
          clear b1
          go_loopw [5, 46] (fun t x wq => ∃ X T2 : Nat, X ≤ M ∧ x = .int .i64 X ∧ t = .int .i64 T2 ∧ T2 < 65536 ∧ Hid (T2 = Two.addTo (C, V) T X) ∧ Below W1.heap.size W1 wq) (fun _ x _ => M - (intOf x).toNat)
          case atStart => exact ⟨0, T, by omega, rfl, rfl, hT, Lib.hid rfl, Below.refl _ _⟩
          case round =>
            obtain ⟨X, T2, hX, rfl, rfl, hT2, hT2e, hq⟩ := hrel
            have q0 := (hq.cell (p := ⟨g, 0, none⟩) cz).trans c0
            have q1 := (hq.cell (p := ⟨g, 1, none⟩) cz).trans c1
            have Hq := Lib.hid hq
            clear hq c0 c1
            by_cases hxl : X < M
            · have hh := hasI_nat C V X (by omega) (by omega)
              cases hhas : Two.has (C, V) X
              · rw [hhas] at hh
                have Hh := Lib.hid hh
                have Hs := Lib.hid hhas
                clear hh hhas
                go_wp2_with (go_at_call 15; refine (implHas_any _ _ _ _).mono ?_; rintro e w' ⟨rfl, hb'⟩; rw [Hh.out])
                go_roundw
                case rel => exact ⟨X + 1, T2, by omega, by go_num, rfl, hT2, Lib.hid (by rw [Two.addTo, Hs.out, if_neg (by simp)]; exact hT2e.out), Hq.out.trans (hb'.mono Hq.out.size)⟩
                case measure => simp [intOf]; omega
              · rw [hhas] at hh
                have Hh := Lib.hid hh
                have Hs := Lib.hid hhas
                clear hh hhas
                have hpx : 2 ^ X < 65536 := Nat.lt_of_le_of_lt (Nat.pow_le_pow_right (by decide) (show X ≤ 15 by omega)) (by decide)
                have hpe : (2 : Int) ^ X = ((2 ^ X : Nat) : Int) := two_pow X
                generalize hy : 2 ^ X = Y at hpx hpe
                have HY := Lib.hid hy
                clear hy
                go_wp2_with (go_at_call 15; refine (implHas_any _ _ _ _).mono ?_; rintro e w' ⟨rfl, hb'⟩; rw [Hh.out])
                go_roundw
                case rel =>
                  have hor := i64_or_nat T2 Y (by omega) (by omega)
                  exact ⟨X + 1, T2 ||| Y, by omega, by go_num, by rw [hor], Nat.or_lt_two_pow (n := 16) hT2 hpx, Lib.hid (by rw [Two.addTo, Hs.out, if_pos rfl, HY.out, hT2e.out]), Hq.out.trans (hb'.mono Hq.out.size)⟩
                case measure => simp [intOf]; omega
            · obtain rfl : X = M := by omega
              go_wp2
              go_roundw
              case rel => exact ⟨k + 1, T2, by omega, by go_num, rfl, hT2, Lib.hid (by rw [hres.out, hT2e.out, hM.out]; rfl), B1.out.trans (Hq.out.mono (by omega))⟩
              case measure => simp [intOf]; omega
      · rw [covFrom_done T (by omega)] at hres
        go_wp2
        go_ret
        exact ⟨ret_int hres.out.symm, hb⟩
  · rw [coverI, if_neg hn]
    have hn' : n < 0 ∨ (0 ≤ n ∧ 4 < n) ∨ (0 ≤ n ∧ n ≤ 4 ∧ (100 : Int) < ks.length) := by omega
    clear hn
    rcases hn' with g | ⟨g0, g1⟩ | ⟨g0, g1, g2⟩
    all_goals
      go_enter Try.func20, Try.ntmps20
      go_wp2
      go_ret
      exact ⟨rfl, Below.refl _ _⟩
end Go.Proofs.Ytlpellciiiflkaa
