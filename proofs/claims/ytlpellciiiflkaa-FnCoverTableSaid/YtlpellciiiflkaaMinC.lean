import Derived.Test.YtlpellciiiflkaaMinB
namespace Go.Proofs.Ytlpellciiiflkaa
open Go.RowKit
theorem minF_step {T N i : Nat} (L : List (Nat × Nat)) : Two.minF T N L (i + 1) = Two.minF T N (if Two.covers (L.eraseIdx i) T N then L.eraseIdx i else L) i := rfl
theorem implMin_any (t n : Int) (w : World) : Calls Try.prog 23 #[.int .i64 t, .int .i64 n] w (MinOut t n w) := by
  cases hf : fitsT t n
  · have hp : primesI t n = [] := by unfold primesI; rw [hf]; rfl
    have hm : minimalI t n = [] := by unfold minimalI; rw [hf]; rfl
    have Hp := Lib.hid hp
    have Hm := Lib.hid hm
    clear hp hm hf
    go_enter Try.func23, Try.ntmps23
    go_wp2_with fail
    refine (implPrimes_any t n _).mono ?_
    rintro e w1 ⟨v, rfl, hown, hb⟩
    rw [Hp.out] at hown
    obtain ⟨A, c, hv, hc, hcm⟩ := (Row.of_own hown).shape
    have HO := Lib.hid hown
    have HB := Lib.hid hb
    clear hown hb
    subst hv
    go_wp2_with fail
    go_loop [5, 6] (fun v i => v = .slice A 0 c ∧ i = .int .i64 (-1)) (fun _ _ => 0)
    case atStart => exact ⟨rfl, rfl⟩
    case round =>
      obtain ⟨rfl, rfl⟩ := hrel
      go_wp2_with fail
      go_ret
      exact ⟨_, rfl, by rw [Hm.out]; exact HO.out, HB.out⟩
  · obtain ⟨T, N, rfl, rfl, hN, hT2, hT⟩ := fitsT_nat hf
    have hp : primesI T N = Two.primes T N := by unfold primesI; rw [hf]; rfl
    have hm : minimalI T N = Two.minF T N (Two.primes T N) (Two.primes T N).length := by unfold minimalI; rw [hf]; rfl
    have Hp := Lib.hid hp
    have Hm := Lib.hid hm
    have HT2 := Lib.hid hT2
    have hlen := Two.primes_length (t := T) hN
    have Hmem : Hid (∀ k ∈ Two.primes T N, k.1 < 2 ^ N ∧ Two.fine k = true ∧ k.1 < 65536) := Lib.hid fun k hk => mem_primes_bd hN hk
    have Hwi : Hid (∀ k ∈ Two.primes T N, Two.within k T N = true) := Lib.hid (Two.primes_within T N)
    clear hp hm hf hT2
    go_enter Try.func23, Try.ntmps23
    go_wp2_with fail
    refine (implPrimes_any T N _).mono ?_
    rintro e w1 ⟨v, rfl, hown, hb⟩
    rw [Hp.out] at hown
    generalize Two.primes T N = Pr at *
    obtain ⟨A, c, hv, hc, hcm⟩ := (Row.of_own hown).shape
    have HO := Lib.hid hown
    have HB := Lib.hid hb
    clear hown hb
    subst hv
    unfold maxLen at hcm
    go_wp2_with fail
    go_loopw [5, 6] (fun v i wr => ∃ (j : Nat) (L : List (Nat × Nat)), j ≤ L.length ∧ L.length ≤ 81 ∧ i = .int .i64 ((j : Int) - 1) ∧ Hid (minimalI T N = Two.minF T N L j) ∧ Hid (∀ k ∈ L, k ∈ Pr) ∧ wr.ownsRow w.heap.size 25 2 v L.length (cubes (L.map intK)) ∧ Below w.heap.size w wr) (fun _ i _ => (intOf i + 1).toNat)
    case atStart => exact ⟨Pr.length, Pr, Nat.le_refl _, hlen, rfl, Hm, Lib.hid fun _ h => h, HO.out, HB.out⟩
    case round =>
      obtain ⟨j, L, hj, hL, rfl, hres, hsub, hown, hb⟩ := hrel
      have Hb := Lib.hid hb
      have Hown := Lib.hid hown
      have hz := hb.size
      clear hb hown HO HB
      by_cases hj0 : 0 < j
      · obtain ⟨i, rfl⟩ : ∃ i, j = i + 1 := ⟨j - 1, by omega⟩
        have hji : (((i + 1 : Nat) : Int) - 1) = (i : Int) := by omega
        rw [hji]
        clear hji
        have hlm : (L.map intK).length = L.length := List.length_map _
        have Hlm := Lib.hid hlm
        obtain ⟨A2, c2, hv2, hc2, hcm2⟩ := (Row.of_own Hown.out).shape
        subst hv2
        unfold maxLen at hcm2
        go_wp2_with fail
        have hcl := clone_any w.heap.size _ (L.map intK) wr (by rw [hlm]; exact Hown.out) (by rw [hlm]; omega)
        refine hcl.mono ?_
        rintro e w2 ⟨v2, rfl, hown2, hb2⟩
        clear hcl
        obtain ⟨g, cap, hv, hgb, hgl, hnc, hcm3⟩ := own_open hown2 (by omega)
        subst hv
        rw [hlm] at hown2
        have Ho2 := Lib.hid hown2
        have HoL2 := Lib.hid (own_below Hown.out hb2)
        have Hb2 := Lib.hid (Hb.out.trans (hb2.mono hz))
        clear hown2 hb2 hlm
        go_wp2_with fail
        have hdel := delete_any wr.heap.size g cap (L.map intK) i w2 (by rw [Hlm.out]; exact Ho2.out) (by rw [Hlm.out]; omega) (by rw [Hlm.out]; omega)
        rw [Hlm.out] at hdel
        refine hdel.mono ?_
        rintro e w3 ⟨v3, rfl, hown3, hg3⟩
        clear hdel
        rw [erase_map, List.length_map] at hown3
        have Ho3 := Lib.hid (own_mono hown3 hz)
        have HoL3 := Lib.hid (own_kept HoL2.out hg3 (fun q hq h => by
          have h1 := (Hown.out.lt q hq).2
          have h2 := Option.some.inj h
          omega))
        have Hb3 := Lib.hid (Hb2.out.grown hg3 Hb2.out.size (fun k hk => by have h2 := Option.some.inj hk; omega))
        have hz3 := Hb3.out.size
        clear hown3 hg3 Ho2 HoL2 Hb2 Hown Hb
        have hsub' : ∀ k ∈ L.eraseIdx i, k ∈ Pr := fun k hk => hsub.out k (List.mem_of_mem_eraseIdx hk)
        have hlen' : (L.eraseIdx i).length = i + (L.length - (i + 1)) := by rw [List.length_eraseIdx_of_lt (by omega)]; omega
        have hcov : coverI N ((L.eraseIdx i).map intK) = (Two.tableOf (L.eraseIdx i) N : Int) := cover_nat hN (by omega) (fun k hk => ⟨(Hmem.out k (hsub' k hk)).1, (Hmem.out k (hsub' k hk)).2.1⟩)
        have hiff := Two.table_covers (l := L.eraseIdx i) HT2.out (fun k hk => Hwi.out k (hsub' k hk))
        have hstep := minF_step (T := T) (N := N) (i := i) L
        have Hsub' := Lib.hid hsub'
        have Hlen' := Lib.hid hlen'
        have hcc := implCover_any v3 ((L.eraseIdx i).map intK) N w3 (cubesN_own Ho3.out) (fun k hk => by
          obtain ⟨k', hk', rfl⟩ := List.mem_map.1 hk
          obtain ⟨h1, h2, h3⟩ := Hmem.out k' (Hsub'.out k' hk')
          have hle : k'.2 ≤ k'.1 := by
            have h4 : k'.2 &&& k'.1 = k'.2 := by unfold Two.fine at h2; rwa [beq_iff_eq] at h2
            rw [← h4]
            exact Nat.and_le_right
          unfold WfK intK
          simp only
          omega)
        clear hsub' hlen'
        cases hc : Two.covers (L.eraseIdx i) T N
        · rw [hc, if_neg (by simp)] at hstep
          rw [hcov] at hcc
          have hne : ((Two.tableOf (L.eraseIdx i) N : Int) == (T : Int)) = false := by
            rw [beq_eq_false_iff_ne]
            intro e
            have := hiff.1 (Int.ofNat.inj e)
            rw [hc] at this
            cases this
          have Hst := Lib.hid hstep
          generalize (Two.tableOf (L.eraseIdx i) N : Int) = R at *
          clear hcov hiff hstep hc
          go_wp2_with fail
          refine hcc.mono ?_
          rintro e w4 ⟨rfl, hb4⟩
          have HoL4 := Lib.hid (own_below HoL3.out hb4)
          have Hb4 := Lib.hid (Hb3.out.trans (hb4.mono hz3))
          clear hcc hb4 Ho3 HoL3 Hb3
          go_wp2_with fail
          go_roundw
          case rel => exact ⟨i, L, by omega, hL, rfl, Lib.hid (by rw [hres.out, Hst.out]), hsub, HoL4.out, Hb4.out⟩
          case measure => simp [intOf] <;> omega
        · rw [hc, if_pos rfl] at hstep
          rw [hcov, hiff.2 hc] at hcc
          have Hst := Lib.hid hstep
          clear hcov hiff hstep hc
          go_wp2_with fail
          refine hcc.mono ?_
          rintro e w4 ⟨rfl, hb4⟩
          have Ho4 := Lib.hid (own_below Ho3.out hb4)
          have Hb4 := Lib.hid (Hb3.out.trans (hb4.mono hz3))
          clear hcc hb4 Ho3 HoL3 Hb3
          go_wp2_with fail
          go_roundw
          case rel => exact ⟨i, L.eraseIdx i, by rw [Hlen'.out]; omega, by rw [Hlen'.out]; omega, rfl, Lib.hid (by rw [hres.out, Hst.out]), Hsub', Ho4.out, Hb4.out⟩
          case measure => simp [intOf] <;> omega
      · obtain rfl : j = 0 := by omega
        have HR : Hid (minimalI T N = L) := Lib.hid hres.out
        go_wp2_with fail
        go_ret
        exact ⟨_, rfl, by rw [HR.out]; exact Hown.out, Hb.out⟩
theorem specMin_any (t n : Int) (w : World) : Calls Try.prog 31 #[.int .i64 t, .int .i64 n] w (MinOut t n w) := by
  cases hf : fitsT t n
  · have hp : primesI t n = [] := by unfold primesI; rw [hf]; rfl
    have hm : minimalI t n = [] := by unfold minimalI; rw [hf]; rfl
    have Hp := Lib.hid hp
    have Hm := Lib.hid hm
    clear hp hm hf
    go_enter Try.func31, Try.ntmps31
    go_wp2_with fail
    refine (specPrimes_any t n _).mono ?_
    rintro e w1 ⟨v, rfl, hown, hb⟩
    rw [Hp.out] at hown
    obtain ⟨A, c, hv, hc, hcm⟩ := (Row.of_own hown).shape
    have HO := Lib.hid hown
    have HB := Lib.hid hb
    clear hown hb
    subst hv
    go_wp2_with fail
    go_loop [5, 6] (fun v i => v = .slice A 0 c ∧ i = .int .i64 (-1)) (fun _ _ => 0)
    case atStart => exact ⟨rfl, rfl⟩
    case round =>
      obtain ⟨rfl, rfl⟩ := hrel
      go_wp2_with fail
      go_ret
      exact ⟨_, rfl, by rw [Hm.out]; exact HO.out, HB.out⟩
  · obtain ⟨T, N, rfl, rfl, hN, hT2, hT⟩ := fitsT_nat hf
    have hp : primesI T N = Two.primes T N := by unfold primesI; rw [hf]; rfl
    have hm : minimalI T N = Two.minF T N (Two.primes T N) (Two.primes T N).length := by unfold minimalI; rw [hf]; rfl
    have Hp := Lib.hid hp
    have Hm := Lib.hid hm
    have hlen := Two.primes_length (t := T) hN
    have Hmem : Hid (∀ k ∈ Two.primes T N, k.1 < 65536) := Lib.hid fun k hk => (mem_primes_bd hN hk).2.2
    clear hp hm hf hT2
    go_enter Try.func31, Try.ntmps31
    go_wp2_with fail
    refine (specPrimes_any T N _).mono ?_
    rintro e w1 ⟨v, rfl, hown, hb⟩
    rw [Hp.out] at hown
    generalize Two.primes T N = Pr at *
    obtain ⟨A, c, hv, hc, hcm⟩ := (Row.of_own hown).shape
    have HO := Lib.hid hown
    have HB := Lib.hid hb
    clear hown hb
    subst hv
    unfold maxLen at hcm
    go_wp2_with fail
    go_loopw [5, 6] (fun v i wr => ∃ (j : Nat) (L : List (Nat × Nat)), j ≤ L.length ∧ L.length ≤ 81 ∧ i = .int .i64 ((j : Int) - 1) ∧ Hid (minimalI T N = Two.minF T N L j) ∧ Hid (∀ k ∈ L, k ∈ Pr) ∧ wr.ownsRow w.heap.size 25 2 v L.length (cubes (L.map intK)) ∧ Below w.heap.size w wr) (fun _ i _ => (intOf i + 1).toNat)
    case atStart => exact ⟨Pr.length, Pr, Nat.le_refl _, hlen, rfl, Hm, Lib.hid fun _ h => h, HO.out, HB.out⟩
    case round =>
      obtain ⟨j, L, hj, hL, rfl, hres, hsub, hown, hb⟩ := hrel
      have Hb := Lib.hid hb
      have Hown := Lib.hid hown
      have hz := hb.size
      clear hb hown HO HB
      by_cases hj0 : 0 < j
      · obtain ⟨i, rfl⟩ : ∃ i, j = i + 1 := ⟨j - 1, by omega⟩
        have hji : (((i + 1 : Nat) : Int) - 1) = (i : Int) := by omega
        rw [hji]
        clear hji
        have hlm : (L.map intK).length = L.length := List.length_map _
        have hstep := minF_step (T := T) (N := N) (i := i) L
        have Hsub' : Hid (∀ k ∈ L.eraseIdx i, k ∈ Pr) := Lib.hid fun k hk => hsub.out k (List.mem_of_mem_eraseIdx hk)
        have Hlen' : Hid ((L.eraseIdx i).length = i + (L.length - (i + 1))) := Lib.hid (by rw [List.length_eraseIdx_of_lt (by omega)]; omega)
        have hdr := drop_any _ (L.map intK) i wr (cubesN_own Hown.out) (by rw [hlm]; omega) (by rw [hlm]; omega)
        have Hst := Lib.hid hstep
        clear hlm hstep
        go_wp2_with fail
        refine hdr.mono ?_
        rintro e w3 ⟨v3, rfl, hown3, hb3⟩
        rw [erase_map, List.length_map] at hown3
        have Ho3 := Lib.hid (own_mono (base' := w.heap.size) hown3 hz)
        have HoL3 := Lib.hid (own_below Hown.out hb3)
        have Hb3 := Lib.hid (Hb.out.trans (hb3.mono hz))
        have hz3 := Hb3.out.size
        clear hdr hown3 hb3 Hown Hb
        go_wp2_with fail
        refine (l30Covers_any v3 (L.eraseIdx i) T N _ (cubesN_own Ho3.out) (fun k hk => Hmem.out k (Hsub'.out k hk)) hN hT).mono ?_
        rintro e w4 ⟨rfl, hb4⟩
        have Ho4 := Lib.hid (own_below Ho3.out hb4)
        have HoL4 := Lib.hid (own_below HoL3.out hb4)
        have Hb4 := Lib.hid (Hb3.out.trans (hb4.mono hz3))
        clear hb4 Ho3 HoL3 Hb3
        cases hc : Two.covers (L.eraseIdx i) T N
        · rw [hc, if_neg (by simp)] at Hst
          clear hc
          go_wp2_with fail
          go_roundw
          case rel => exact ⟨i, L, by omega, hL, rfl, Lib.hid (by rw [hres.out, Hst.out]), hsub, HoL4.out, Hb4.out⟩
          case measure => simp [intOf] <;> omega
        · rw [hc, if_pos rfl] at Hst
          clear hc
          go_wp2_with fail
          go_roundw
          case rel => exact ⟨i, L.eraseIdx i, by rw [Hlen'.out]; omega, by rw [Hlen'.out]; omega, rfl, Lib.hid (by rw [hres.out, Hst.out]), Hsub', Ho4.out, Hb4.out⟩
          case measure => simp [intOf] <;> omega
      · obtain rfl : j = 0 := by omega
        have HR : Hid (minimalI T N = L) := Lib.hid hres.out
        go_wp2_with fail
        go_ret
        exact ⟨_, rfl, by rw [HR.out]; exact Hown.out, Hb.out⟩
theorem minimalI_len (t n : Int) : (minimalI t n).length ≤ 81 := by
  cases hf : fitsT t n
  · unfold minimalI; rw [hf]; simp
  · obtain ⟨T, N, rfl, rfl, hN, _⟩ := fitsT_nat hf
    unfold minimalI; rw [hf]
    exact Nat.le_trans (Two.minF_length _ _) (Two.primes_length hN)
theorem primesI_len (t n : Int) : (primesI t n).length ≤ 81 := by
  cases hf : fitsT t n
  · unfold primesI; rw [hf]; simp
  · obtain ⟨T, N, rfl, rfl, hN, _⟩ := fitsT_nat hf
    unfold primesI; rw [hf]
    exact Two.primes_length hN
end Go.Proofs.Ytlpellciiiflkaa
