import Derived.Test.YtlpellciiiflkaaPrimeE
namespace Go.Proofs.Ytlpellciiiflkaa
open Go.RowKit
theorem own_apart {w : World} {b1 b2 n m : Nat} {e : TypeId} {size : Nat} {v u : Value} {xs ys : List Value} (h : w.ownsRow b1 e size v n xs) (h' : ∀ g, u.ownBlock = some g → g < b1) : ∀ g, v.ownBlock = some g → u.ownBlock ≠ some g := by
  intro g hg hu
  have := own_ge h g hg
  have := h' g hu
  omega
theorem getD_of {α : Type} {l : List α} {i : Nat} {x d : α} (h : l[i]? = some x) : l.getD i d = x := by rw [List.getD_eq_getElem?_getD, h]; rfl
theorem specPrimes_any (t n : Int) (w : World) : Calls Try.prog 26 #[.int .i64 t, .int .i64 n] w (PrimesOut t n w) := by
  have Hown0 := Lib.hid (World.ownsRow_lit (base := w.heap.size) (e := 25) (size := 2) w #[] 0 (Nat.le_refl _) (by unfold maxLen; omega) rfl)
  cases hf : fitsT t n
  · have hp : primesI t n = [] := by unfold primesI; rw [hf]; rfl
    have Hp := Lib.hid hp
    have Hf := Lib.hid hf
    clear hp hf
    go_enter Try.func26, Try.ntmps26
    go_wp2_with fail
    refine (l30Ok_any t n _).mono ?_
    rintro e w' ⟨rfl, rfl⟩
    rw [Hf.out]
    go_wp2_with fail
    go_ret
    exact ⟨_, rfl, by rw [Hp.out]; exact Hown0.out, (Below.refl _ _).alloc (Nat.le_refl _) _⟩
  · obtain ⟨T, N, rfl, rfl, hN, hT2, hT⟩ := fitsT_nat hf
    have hp : primesI T N = Two.outAt (Two.implicants T N) (Two.implicants T N).length := by unfold primesI; rw [hf, Two.outAt_primes]; rfl
    have Hp := Lib.hid hp
    have Hf := Lib.hid hf
    have hLl := Two.implicants_length (t := T) hN
    have HLm : Hid (∀ k ∈ Two.implicants T N, k.1 < 65536 ∧ k.2 < 65536) := Lib.hid fun k hk => by
      have h1 := Two.mem_implicants.1 hk
      have h2 : 2 ^ N ≤ 16 := Nat.pow_le_pow_right (show 0 < 2 by decide) hN
      omega
    clear hp hf hT2
    go_enter Try.func26, Try.ntmps26
    go_wp2_with fail
    refine (l30Ok_any _ _ _).mono ?_
    rintro e w' ⟨rfl, rfl⟩
    rw [Hf.out]
    have HbA := Lib.hid ((Below.refl w.heap.size w).alloc (Nat.le_refl _) (.cells #[] 25))
    have HzA := Lib.hid (show w.heap.size + 1 = (w.alloc (.cells #[] 25)).heap.size by simp)
    go_wp2_with fail
    refine (l30Implicants_any T N _ hN hT).mono ?_
    rintro e w2 ⟨vA, rfl, hownA, hb2⟩
    have HoA : Hid (w2.ownsRow (w.heap.size + 1) 25 2 vA (Two.implicants T N).length (cubes ((Two.implicants T N).map intK))) := Lib.hid (by have := HzA.out; rw [this]; exact hownA)
    have Ho2 := Lib.hid (own_below Hown0.out hb2)
    have Hb2 := Lib.hid (HbA.out.trans (hb2.mono HbA.out.size))
    have Hap : Hid (∀ g, vA.ownBlock = some g → (Value.slice (some ⟨w.heap.size, 0, none⟩) 0 0).ownBlock ≠ some g) := Lib.hid (own_apart (b2 := 0) (m := 0) (ys := []) HoA.out (by intro g hg; simp [Value.ownBlock] at hg; omega))
    have z2 := Hb2.out.size
    clear hownA hb2 Hown0 HbA HzA
    generalize Two.implicants T N = L at *
    obtain ⟨AA, cA, hvA, hcA, hcmA⟩ := (cubesN_own HoA.out).shape
    rw [List.length_map] at hvA hcA
    subst hvA
    go_wp2_with fail
    go_loopw [5, 7] (fun v i wr => ∃ k : Nat, k ≤ L.length ∧ i = .int .i64 k ∧ wr.ownsRow w.heap.size 25 2 v (Two.outAt L k).length (cubes ((Two.outAt L k).map intK)) ∧ wr.ownsRow (w.heap.size + 1) 25 2 (.slice AA L.length cA) L.length (cubes (L.map intK)) ∧ Hid (∀ g, (Value.slice AA L.length cA).ownBlock = some g → v.ownBlock ≠ some g) ∧ (Two.outAt L k).length ≤ k ∧ Below w.heap.size w wr) (fun _ i _ => L.length - (intOf i).toNat)
    case atStart => exact ⟨0, by omega, rfl, Ho2.out, HoA.out, Hap, Nat.le_refl _, Hb2.out⟩
    case round =>
      obtain ⟨k, hk, rfl, hown, hownA, hap, hlen, hb⟩ := hrel
      have Hb := Lib.hid hb
      have Hown := Lib.hid hown
      have HownA := Lib.hid hownA
      have hz := hb.size
      clear hb hown hownA Ho2 HoA Hap Hb2 z2
      by_cases hlt : k < L.length
      · have HO : Hid (Two.outAt L (k + 1) = if Two.primeAt L k L.length then Two.outAt L k ++ [L.getD k (0, 0)] else Two.outAt L k) := Lib.hid rfl
        obtain ⟨O2, hO2⟩ : ∃ O2, Two.outAt L (k + 1) = O2 := ⟨_, rfl⟩
        rw [hO2] at HO
        have HO1 := Lib.hid hO2
        clear hO2
        generalize Two.outAt L k = O at *
        obtain ⟨W1, hW1⟩ : ∃ W1 : World, W1 = wr := ⟨_, rfl⟩
        subst hW1
        have Hc := Lib.hid (cubesN_own HownA.out)
        go_wp2_with fail
        go_loopw [8, 9] (fun p j wq => ∃ (x : Nat) (b : Bool), x ≤ L.length ∧ j = .int .i64 x ∧ p = .bool b ∧ Hid (b = Two.primeAt L k x) ∧ Below W1.heap.size W1 wq) (fun _ j _ => L.length - (intOf j).toNat)
        case atStart => exact ⟨0, true, by omega, rfl, rfl, Lib.hid rfl, Below.refl _ _⟩
        case round =>
          obtain ⟨x, b, hx, rfl, rfl, hbe, hq⟩ := hrel
          by_cases hlt2 : x < L.length
          · obtain ⟨gb, go, a, rfl, hbl, hxa, ha0, ha1⟩ := cubesN_open Hc.out hq rfl hlt
            obtain ⟨gb', go', d, hA', hbl', hxd, hd0, hd1⟩ := cubesN_open Hc.out hq rfl hlt2
            injection hA' with hA'
            injection hA' with hA1 hA2
            subst hA1 hA2
            have Hq := Lib.hid hq
            have zq := hq.size
            have gl := gw_cell ha0 (by simp only; omega)
            have gl1 := gw_cell ha1 (by simp only; omega)
            have gr := gw_cell hd0 (by simp only; omega)
            have gr1 := gw_cell hd1 (by simp only; omega)
            obtain ⟨ma1, ma2⟩ := HLm.out a (List.mem_of_getElem? hxa.out)
            obtain ⟨md1, md2⟩ := HLm.out d (List.mem_of_getElem? hxd.out)
            have Hgen : Hid (∀ w, Calls Try.prog 47 #[.agg #[.int .i64 a.1, .int .i64 a.2], .agg #[.int .i64 d.1, .int .i64 d.2]] w fun e w' => e = .returned (.bool (Two.gen (a.1, a.2) (d.1, d.2))) ∧ Below w.heap.size w w') := Lib.hid fun w => l30Within_any a.1 a.2 d.1 d.2 w ma1 ma2 md1
            have Hstep : Hid (Two.primeAt L k (x + 1) = (b && (k == x || !Two.gen (a.1, a.2) (d.1, d.2)))) := Lib.hid (by rw [Two.primeAt, ← hbe.out, getD_of hxa.out, getD_of hxd.out])
            clear hq ha0 ha1 hd0 hd1 Hc
            cases b
            · go_wp2_with fail
              refine wp_region_grow (by kernel_rfl) (by kernel_rfl) ?_
              repeat (go_big_quiet_step ((fail)))
              refine wpQuiet_nil ?_
              intro _ hw'
              obtain ⟨nq, hw''⟩ := hw'
              subst hw''
              have hgq := gw_below nq
              generalize gw nq = wq at *
              clear nq
              go_wp2_with fail
              go_roundw
              case rel => exact ⟨x + 1, false, by omega, by go_num, rfl, Lib.hid (by rw [Hstep.out]; rfl), Hq.out.trans (hgq.mono zq)⟩
              case measure => simp [intOf]; omega
            · by_cases hkx : k = x
              · have d1 : (k == x) = true := beq_iff_eq.2 hkx
                have d2 : ((k : Int) == (x : Int)) = true := by rw [hkx]; simp
                have Hkx := Lib.hid hkx
                clear hkx
                go_wp2_with fail
                refine wp_region_grow (by kernel_rfl) (by kernel_rfl) ?_
                repeat (go_big_quiet_step ((fail)))
                refine wpQuiet_nil ?_
                intro _ hw'
                obtain ⟨nq, hw''⟩ := hw'
                subst hw''
                have hgq := gw_below nq
                generalize gw nq = wq at *
                clear nq
                go_wp2_with fail
                go_roundw
                case rel => exact ⟨x + 1, true, by omega, by go_num, rfl, Lib.hid (by rw [Hstep.out, d1]; rfl), Hq.out.trans (hgq.mono zq)⟩
                case measure => simp [intOf]; omega
              · have d1 : (k == x) = false := beq_eq_false_iff_ne.2 hkx
                have d2 : ((k : Int) == (x : Int)) = false := by rw [beq_eq_false_iff_ne]; omega
                clear hkx
                cases hg : Two.gen (a.1, a.2) (d.1, d.2)
                · have Hg := Lib.hid hg
                  rw [hg] at Hgen
                  clear hg
                  go_wp2_with fail
                  refine wp_region_grow (by kernel_rfl) (by kernel_rfl) ?_
                  repeat (go_big_quiet_step ((go_at_call 47; exact grow_call (Hgen.out _))))
                  refine wpQuiet_nil ?_
                  intro _ hw'
                  obtain ⟨nq, hw''⟩ := hw'
                  subst hw''
                  have hgq := gw_below nq
                  generalize gw nq = wq at *
                  clear nq
                  go_wp2_with fail
                  go_roundw
                  case rel => exact ⟨x + 1, true, by omega, by go_num, rfl, Lib.hid (by rw [Hstep.out, d1, Hg.out]; rfl), Hq.out.trans (hgq.mono zq)⟩
                  case measure => simp [intOf]; omega
                · have Hg := Lib.hid hg
                  rw [hg] at Hgen
                  clear hg
                  go_wp2_with fail
                  refine wp_region_grow (by kernel_rfl) (by kernel_rfl) ?_
                  repeat (go_big_quiet_step ((go_at_call 47; exact grow_call (Hgen.out _))))
                  refine wpQuiet_nil ?_
                  intro _ hw'
                  obtain ⟨nq, hw''⟩ := hw'
                  subst hw''
                  have hgq := gw_below nq
                  generalize gw nq = wq at *
                  clear nq
                  go_wp2_with fail
                  go_roundw
                  case rel => exact ⟨x + 1, false, by omega, by go_num, rfl, Lib.hid (by rw [Hstep.out, d1, Hg.out]; rfl), Hq.out.trans (hgq.mono zq)⟩
                  case measure => simp [intOf]; omega
          · obtain rfl : x = L.length := by omega
            obtain ⟨gb, go, a, rfl, hbl, hxa, ha0, ha1⟩ := cubesN_open Hc.out hq rfl hlt
            have Ho3 := Lib.hid (own_below Hown.out hq)
            have HoA3 := Lib.hid (own_below HownA.out hq)
            have Hb3 := Lib.hid (Hb.out.trans (hq.mono hz))
            have z3 := hq.size
            clear hq
            rw [← hbe.out] at HO
            cases b
            · have H : Hid (O2 = O) := Lib.hid (by rw [HO.out]; rfl)
              go_wp2_with fail
              go_roundw
              case rel => exact ⟨k + 1, by omega, by go_num, by rw [HO1.out, H.out]; exact Ho3.out, HoA3.out, hap, by rw [HO1.out, H.out]; omega, Hb3.out⟩
              case measure => simp [intOf]; omega
            · have H : Hid (O2 = O ++ [(a.1, a.2)]) := Lib.hid (by rw [HO.out, getD_of hxa.out]; rfl)
              have Hlit := Lib.hid (Row.of_own (World.ownsRow_lit (base := wr.heap.size) (e := 25) (size := 2) wr #[.int .i64 a.1, .int .i64 a.2] 1 (Nat.le_refl _) (by unfold maxLen; omega) rfl))
              go_wp2_with (at_builtin; refine append_cubes_at rfl (.tmp 50) (.tmp 55) rfl w.heap.size _ O.length _ rfl (Ho3.out.alloc _) _ 1 [.int .i64 a.1, .int .i64 a.2] rfl Hlit.out (by simp [Value.oneCell']) (by omega) (by simp; omega) ?_; intro v5 w5 hown5 hg5 hat5; have Ho5 := Lib.hid hown5; have Hg5 := Lib.hid hg5; have Hat := Lib.hid hat5; clear hown5 hg5 hat5)
              go_roundw
              case rel =>
                have hb5 := (Hb3.out.alloc (by omega) (.cells #[.int .i64 a.1, .int .i64 a.2] 25)).grown Hg5.out (by simp; omega) (own_ge Ho3.out)
                refine ⟨k + 1, by omega, by go_num, ?_, own_kept (HoA3.out.alloc _) Hg5.out hap.out, Lib.hid fun g hg => ?_, ?_, hb5⟩
                · rw [HO1.out, H.out, List.map_append, cubes_append, List.length_append]
                  exact Ho5.out
                · rcases Hat.out with h | h
                  · rw [h]; exact hap.out g hg
                  · rw [h]
                    intro e
                    have h1 := (HoA3.out.lt g hg).2
                    have h2 := Option.some.inj e
                    simp at h2
                    omega
                · rw [HO1.out, H.out, List.length_append]
                  simp
                  omega
              case measure => simp [intOf]; omega
      · obtain rfl : k = L.length := by omega
        rw [← Hp.out] at Hown
        go_wp2
        go_ret
        exact ⟨_, rfl, Hown.out, Hb.out⟩
end Go.Proofs.Ytlpellciiiflkaa
