import Derived.Test.YthnfbjjnabohoaaMacC
namespace Go.Proofs.Ythnfbjjnabohoaa
open Go.RowKit
set_option maxRecDepth 100000
theorem in_le (n x : Int) : decide (0 ≤ x ∧ x ≤ n - 1) = Mac.inOk n x := by
  unfold Mac.inOk
  exact decide_eq_decide.2 ⟨fun h => by omega, fun h => by omega⟩
theorem in_le8 (x : Int) : decide (0 ≤ x ∧ x ≤ 7) = Mac.inOk 8 x := in_le 8 x
set_option maxHeartbeats 8000000 in
theorem specMValid_any (v : Value) (m : Mz) (w : World) (h : MachAt w v m) :
    Calls Try.prog 12 #[v] w fun e w' => e = .returned (.bool (Mac.valid m)) ∧ Below w.heap.size w w' := by
  obtain ⟨An, cn, Ao, co, rfl, lcn, lco, lcn2, lco2⟩ := h.shape
  obtain ⟨vn, vo, hv, r1, r2⟩ := h
  simp only [Value.agg.injEq, Array.mk.injEq, List.cons.injEq, and_true, true_and] at hv
  obtain ⟨rfl, rfl⟩ := hv
  unfold maxLen at lcn lco
  have B0 := Lib.hid (bel_alloc w (.cells #[.int .i64 m.ins, .slice An m.next.length cn, .slice Ao m.out.length co] 27))
  have PC := Lib.hid (MCells.boxed w m.ins (.slice An m.next.length cn) (.slice Ao m.out.length co) 27)
  obtain ⟨z, p0, p1, p2⟩ := PC.out
  have R1 := Lib.hid (r1.below B0.out)
  have R2 := Lib.hid (r2.below B0.out)
  generalize hW : w.alloc (.cells #[.int .i64 m.ins, .slice An m.next.length cn, .slice Ao m.out.length co] 27) = W at *
  clear r1 r2
  cases hs : Mac.sizes m
  · have hv : Mac.valid m = false := by unfold Mac.valid; rw [hs]; rfl
    rw [hv]
    have hsc : (decide (0 ≤ m.ins ∧ m.ins ≤ 4) = false) ∨ (decide (0 ≤ m.ins ∧ m.ins ≤ 4) = true ∧ decide ((1 : Int) ≤ m.next.length ∧ (m.next.length : Int) ≤ 8) = false) ∨ (decide (0 ≤ m.ins ∧ m.ins ≤ 4) = true ∧ decide ((1 : Int) ≤ m.next.length ∧ (m.next.length : Int) ≤ 8) = true ∧ ((m.out.length : Int) != m.next.length) = true) := by
      rcases Mac.sizes_cases hs with g | ⟨g0, g1⟩ | ⟨g0, g1, g2⟩ | ⟨g0, g1, g2, g3⟩ | ⟨g0, g1, g2, g3, g4⟩
      · exact .inl (decide_eq_false (by omega))
      · exact .inl (decide_eq_false (by omega))
      · exact .inr (.inl ⟨decide_eq_true ⟨g0, g1⟩, decide_eq_false (by omega)⟩)
      · exact .inr (.inl ⟨decide_eq_true ⟨g0, g1⟩, decide_eq_false (by omega)⟩)
      · exact .inr (.inr ⟨decide_eq_true ⟨g0, g1⟩, decide_eq_true ⟨g2, g3⟩, by simpa using g4⟩)
    clear hs hv
    rcases hsc with h1 | ⟨h1, h2⟩ | ⟨h1, h2, h3⟩
    · have H1 := Lib.hid h1
      clear h1
      go_enter Try.func12, Try.ntmps12
      go_wp2_with fail
      refine (l1In_any _ _ _ _).mono ?_
      rintro e w' ⟨rfl, rfl⟩
      rw [H1.out]
      go_wp2_with fail
      go_ret
      exact ⟨rfl, B0.out⟩
    · have H1 := Lib.hid h1
      have H2 := Lib.hid h2
      clear h1 h2
      go_enter Try.func12, Try.ntmps12
      go_wp2_with fail
      refine (l1In_any _ _ _ _).mono ?_
      rintro e w' ⟨rfl, rfl⟩
      rw [H1.out]
      go_wp2_with fail
      refine (l1In_any _ _ _ _).mono ?_
      rintro e w' ⟨rfl, rfl⟩
      rw [H2.out]
      go_wp2_with fail
      go_ret
      exact ⟨rfl, B0.out⟩
    · have H1 := Lib.hid h1
      have H2 := Lib.hid h2
      clear h1 h2
      go_enter Try.func12, Try.ntmps12
      go_wp2_with fail
      refine (l1In_any _ _ _ _).mono ?_
      rintro e w' ⟨rfl, rfl⟩
      rw [H1.out]
      go_wp2_with fail
      refine (l1In_any _ _ _ _).mono ?_
      rintro e w' ⟨rfl, rfl⟩
      rw [H2.out]
      go_wp2_with fail
      go_ret
      exact ⟨rfl, B0.out⟩
  · obtain ⟨s1, s2, s3, s4, s5⟩ := mach_sizes hs
    have hv : Mac.valid m = ((m.next.zip m.out).drop 0).all (Mac.pairOk m.ins m.next.length) := by rw [Mac.valid_zip, hs]; rfl
    have H0 := Lib.hid hv
    have H1 : Hid (decide (0 ≤ m.ins ∧ m.ins ≤ 4) = true) := Lib.hid (decide_eq_true ⟨s1, s2⟩)
    have H2 : Hid (decide ((1 : Int) ≤ m.next.length ∧ (m.next.length : Int) ≤ 8) = true) := Lib.hid (decide_eq_true ⟨by omega, by omega⟩)
    have g5 : ((m.out.length : Int) != m.next.length) = false := by simp; omega
    have S5 := Lib.hid s5
    generalize Mac.valid m = res at *
    obtain ⟨N, hN⟩ := Int.eq_ofNat_of_zero_le s1
    have hN4 : N ≤ 4 := by omega
    obtain ⟨M, e, hM⟩ : ∃ M : Nat, (2 : Int) ^ N = (M : Int) ∧ M = 2 ^ N := ⟨2 ^ N, two_pow N, rfl⟩
    have hM16 : M ≤ 16 := by rw [hM]; exact Nat.pow_le_pow_right (show 0 < 2 by decide) hN4
    have hwM := IntWalk.i64_in (M : Int) (by omega)
    have HLen : Hid (∀ p : List Int × List Int, Mac.pairOk m.ins m.next.length p = (decide ((p.1.length : Int) = (M : Int)) && decide ((p.2.length : Int) = (M : Int)) && (p.1.zip p.2).all (Mac.entOk m.next.length))) := Lib.hid fun p => by
      unfold Mac.pairOk Mac.lenOk
      rw [hN, Int.toNat_natCast, ← hM]
    have HI1 := Lib.hid fun x : Int => in_le (m.next.length : Int) x
    have HI2 := Lib.hid in_le8
    rw [hN] at p0 PC H1 hW
    rw [hN]
    clear hs hv hM s5 s1 s2 hN
    go_enter Try.func12, Try.ntmps12
    go_wp2_with fail
    refine (l1In_any _ _ _ _).mono ?_
    rintro e w' ⟨rfl, rfl⟩
    rw [H1.out]
    go_wp2_with fail
    refine (l1In_any _ _ _ _).mono ?_
    rintro e w' ⟨rfl, rfl⟩
    rw [H2.out]
    go_wp2_with fail
    clear hW
    go_loopw [4] (fun i wr => ∃ k : Nat, k ≤ m.next.length ∧ i = .int .i64 k ∧ Hid (res = ((m.next.zip m.out).drop k).all (Mac.pairOk m.ins m.next.length)) ∧ Below W.heap.size W wr) (fun i _ => m.next.length - (intOf i).toNat)
    case atStart => exact ⟨0, Nat.zero_le _, rfl, H0, Below.refl _ _⟩
    case round =>
      obtain ⟨k, hk, rfl, hres, hb⟩ := hrel
      clear H0 p0 p1 p2
      by_cases hlt : k < m.next.length
      · obtain ⟨x, hx⟩ := at_some hlt
        obtain ⟨y, hy⟩ := at_some (show k < m.out.length by rw [S5.out]; exact hlt)
        have hko : k < m.out.length := by rw [S5.out]; exact hlt
        obtain ⟨b, o, Bx, mx, rfl, hbl, hc1, hm1, hm2, hr⟩ := ss_open R1.out hb hx
        obtain ⟨b', o', By, my, rfl, hbl', hc1', hm1', hm2', hr'⟩ := ss_open R2.out hb hy
        have Hr := Lib.hid hr
        have Hr' := Lib.hid hr'
        have Hstep := Lib.hid (Mac.all_dropG (p := Mac.pairOk m.ins m.next.length) (Mac.zip_get hx hy))
        obtain ⟨zr, p0, p1, p2⟩ := PC.out.below hb
        have g0 := gw_cell p0 zr
        have g1 := gw_cell p1 zr
        have g2 := gw_cell p2 zr
        have g3 := gw_cell hc1 (show b < wr.heap.size by have := hb.size; omega)
        have g4 := gw_cell hc1' (show b' < wr.heap.size by have := hb.size; omega)
        have Hb := Lib.hid hb
        have hz := hb.size
        unfold maxLen at hm2 hm2'
        have hko2 : k < co := by omega
        have hkn2 : k < cn := by omega
        clear hr hr' hx hy hb p0 p1 p2 hc1 hc1'
        by_cases hle : (x.length : Int) = (M : Int)
        · by_cases hle' : (y.length : Int) = (M : Int)
          · have hx2 : ((x.length : Int) != (M : Int)) = false := by rw [hle]; simp
            have hy2 : ((y.length : Int) != (M : Int)) = false := by rw [hle']; simp
            have Hn : Hid (res = (((x.zip y).drop 0).all (Mac.entOk m.next.length) && ((m.next.zip m.out).drop (k + 1)).all (Mac.pairOk m.ins m.next.length))) := Lib.hid (by rw [hres.out, Hstep.out, HLen.out (x, y), decide_eq_true hle, decide_eq_true hle']; rfl)
            have HMx : Hid (x.length = M) := Lib.hid (by omega)
            have HMy : Hid (y.length = M) := Lib.hid (by omega)
            clear hle hle'
            go_wp2_with fail
            refine wp_region_grow (by kernel_rfl) (by kernel_rfl) ?_
            repeat (go_big_quiet_step ((fail)))
            refine wpQuiet_nil ?_
            intro _ hw'
            obtain ⟨nq, hw''⟩ := hw'
            subst hw''
            have hgq := gw_below nq
            generalize gw nq = wq at *
            clear nq
            obtain ⟨W1, hW1⟩ : ∃ W1, W1 = wq := ⟨_, rfl⟩
            subst hW1
            have Hb1 := Lib.hid (Hb.out.trans (hgq.mono hz))
            have Hrq := Lib.hid (Hr.out.below hgq)
            have Hrq' := Lib.hid (Hr'.out.below hgq)
            obtain ⟨-, p0, p1, p2⟩ := PC.out.below Hb1.out
            have q3 := (hgq.cell (p := ⟨b, o + k, none⟩) (show b < wr.heap.size by omega)).trans (g3 ⟨wr, Below.refl _ _⟩)
            have q4 := (hgq.cell (p := ⟨b', o' + k, none⟩) (show b' < wr.heap.size by omega)).trans (g4 ⟨wr, Below.refl _ _⟩)
            clear hgq g0 g1 g2 g3 g4
            go_wp2_with fail
            go_loop [5] (fun i => ∃ j : Nat, j ≤ M ∧ i = .int .i64 j ∧ Hid (res = (((x.zip y).drop j).all (Mac.entOk m.next.length) && ((m.next.zip m.out).drop (k + 1)).all (Mac.pairOk m.ins m.next.length)))) (fun i => M - (intOf i).toNat)
            case atStart => exact ⟨0, Nat.zero_le _, rfl, Hn⟩
            case round =>
              obtain ⟨j, hj, rfl, hres2⟩ := hrel
              clear Hn
              by_cases hlj : j < M
              · obtain ⟨xe, hxe⟩ := at_some (show j < x.length by rw [HMx.out]; exact hlj)
                obtain ⟨ye, hye⟩ := at_some (show j < y.length by rw [HMy.out]; exact hlj)
                have hjx : j < x.length := by rw [HMx.out]; exact hlj
                have hjy : j < y.length := by rw [HMy.out]; exact hlj
                have hjx2 : j < mx := by omega
                have hjy2 : j < my := by omega
                obtain ⟨b2, o2, rfl, hbl2, hc2⟩ := ints_row Hrq.out rfl hxe
                obtain ⟨b3, o3, rfl, hbl3, hc3⟩ := ints_row Hrq'.out rfl hye
                have Hs2 := Lib.hid (Mac.all_dropG (p := Mac.entOk m.next.length) (Mac.zip_get hxe hye))
                have HE : Hid (Mac.entOk m.next.length (xe, ye) = (Mac.inOk m.next.length xe && Mac.inOk 8 ye)) := Lib.hid rfl
                clear hxe hye
                cases h1 : Mac.inOk m.next.length xe
                · have HH1 := Lib.hid h1
                  obtain rfl : res = false := by rw [hres2.out, Hs2.out, HE.out, h1]; rfl
                  clear h1
                  go_wp2_with fail
                  refine (l1In_any _ _ _ _).mono ?_
                  rintro e w' ⟨rfl, rfl⟩
                  rw [HI1.out, HH1.out]
                  go_wp2_with fail
                  go_ret
                  exact ⟨rfl, B0.out.trans (Hb1.out.mono B0.out.size)⟩
                · have HH1 := Lib.hid h1
                  cases h2 : Mac.inOk 8 ye
                  · have HH2 := Lib.hid h2
                    obtain rfl : res = false := by rw [hres2.out, Hs2.out, HE.out, h1, h2]; rfl
                    clear h1 h2
                    go_wp2_with fail
                    refine (l1In_any _ _ _ _).mono ?_
                    rintro e w' ⟨rfl, rfl⟩
                    rw [HI1.out, HH1.out]
                    go_wp2_with fail
                    refine (l1In_any _ _ _ _).mono ?_
                    rintro e w' ⟨rfl, rfl⟩
                    rw [HI2.out, HH2.out]
                    go_wp2_with fail
                    go_ret
                    exact ⟨rfl, B0.out.trans (Hb1.out.mono B0.out.size)⟩
                  · have HH2 := Lib.hid h2
                    have Hn3 : Hid (res = (((x.zip y).drop (j + 1)).all (Mac.entOk m.next.length) && ((m.next.zip m.out).drop (k + 1)).all (Mac.pairOk m.ins m.next.length))) := Lib.hid (by rw [hres2.out, Hs2.out, HE.out, h1, h2]; rfl)
                    clear h1 h2
                    go_wp2_with fail
                    refine (l1In_any _ _ _ _).mono ?_
                    rintro e w' ⟨rfl, rfl⟩
                    rw [HI1.out, HH1.out]
                    go_wp2_with fail
                    refine (l1In_any _ _ _ _).mono ?_
                    rintro e w' ⟨rfl, rfl⟩
                    rw [HI2.out, HH2.out]
                    go_wp2_with fail
                    go_round
                    case rel => exact ⟨j + 1, by omega, by go_num, Hn3⟩
                    case measure => simp [intOf] <;> omega
              · have Hn3 : Hid (res = ((m.next.zip m.out).drop (k + 1)).all (Mac.pairOk m.ins m.next.length)) := Lib.hid (by rw [hres2.out, List.drop_eq_nil_of_le (by rw [List.length_zip, HMx.out]; omega)]; rfl)
                go_wp2_with fail
                go_roundw
                case rel => exact ⟨k + 1, by omega, by go_num, Hn3, Hb1.out⟩
                case measure => simp [intOf] <;> omega
          · have hx2 : ((x.length : Int) != (M : Int)) = false := by rw [hle]; simp
            have hy2 : ((y.length : Int) != (M : Int)) = true := by simp; omega
            obtain rfl : res = false := by rw [hres.out, Hstep.out, HLen.out (x, y), decide_eq_true hle, decide_eq_false hle']; rfl
            clear hle hle'
            go_wp2_with fail
            refine wp_region_grow (by kernel_rfl) (by kernel_rfl) ?_
            repeat (go_big_quiet_step ((fail)))
            refine wpQuiet_nil ?_
            intro _ hw'
            obtain ⟨nq, hw''⟩ := hw'
            subst hw''
            have hgq := gw_below nq
            generalize gw nq = wq at *
            clear nq
            have Hb1 := Lib.hid (Hb.out.trans (hgq.mono hz))
            clear hgq g0 g1 g2 g3 g4
            go_wp2_with fail
            go_ret
            exact ⟨rfl, B0.out.trans (Hb1.out.mono B0.out.size)⟩
        · have hx2 : ((x.length : Int) != (M : Int)) = true := by simp; omega
          obtain rfl : res = false := by rw [hres.out, Hstep.out, HLen.out (x, y), decide_eq_false hle]; rfl
          clear hle
          go_wp2_with fail
          refine wp_region_grow (by kernel_rfl) (by kernel_rfl) ?_
          repeat (go_big_quiet_step ((fail)))
          refine wpQuiet_nil ?_
          intro _ hw'
          obtain ⟨nq, hw''⟩ := hw'
          subst hw''
          have hgq := gw_below nq
          generalize gw nq = wq at *
          clear nq
          have Hb1 := Lib.hid (Hb.out.trans (hgq.mono hz))
          clear hgq g0 g1 g2 g3 g4
          go_wp2_with fail
          go_ret
          exact ⟨rfl, B0.out.trans (Hb1.out.mono B0.out.size)⟩
      · obtain rfl : res = true := by rw [hres.out, List.drop_eq_nil_of_le (by rw [List.length_zip]; omega)]; rfl
        go_wp2_with fail
        go_ret
        exact ⟨rfl, B0.out.trans (hb.mono B0.out.size)⟩
end Go.Proofs.Ythnfbjjnabohoaa
