/-
  FnPrimes: The program's Primes is the reference's; the disjunction of all of them is the table, every one implies it, and without any one of its variables it does not.
  Conditions: none. For every input that the row reads, the Go function laws.FnPrimes returns true and leaves its arguments as they were.
-/
import Derived.Test.YtlpellciiiflkaaDrawT
import Derived.StillTailTactics
import Derived.Test.YtlpellciiiflkaaRows
import Derived.WalkKit
import Derived.ProofKit
import Derived.OpenShut
import Derived.ShutString
import Derived.ChangeOld
import Derived.Below
namespace Go.Proofs.Ytlpellciiiflkaa.fnPrimes
open Go.ChangeShapes Go.WideShapes Go.ChangeAt Go.RowKit
open Go.ChangeMaps (open_string shut_string)
set_option linter.unusedVariables false

theorem own : ownKnob Try.prog.godebug = none := by kernel_rfl
theorem laidOut : laidOutB Try.prog = true := by kernel_rfl

/-- A slice of integers that came in: nil, or a row of cells. -/
def IsRow (k : IntKind) (w : World) (a : Option Addr) (len cap : Nat) (zs : List Int) : Prop :=
  (a = none ∧ len = 0 ∧ cap = 0 ∧ zs = []) ∨
  ∃ x, a = some x ∧ len ≤ cap ∧ cap ≤ maxLen ∧ zs.length = cap ∧ (∀ i, i < zs.length → w.cell? (x.add i) = some (.int k (zs.getD i 0))) ∧ ∀ n ∈ zs, (Lit.int k n).wf = true

theorem big_tab {t n : Int} (hf : fitsT t n = false) : n < 0 ∨ (0 ≤ n ∧ 4 < n) ∨ (0 ≤ n ∧ n ≤ 4 ∧ t < 0) ∨ (0 ≤ t ∧ ((n = 0 ∧ 2 ≤ t) ∨ (n = 1 ∧ 4 ≤ t) ∨ (n = 2 ∧ 16 ≤ t) ∨ (n = 3 ∧ 256 ≤ t) ∨ (n = 4 ∧ 65536 ≤ t))) := by
  unfold fitsT at hf
  rw [decide_eq_false_iff_not] at hf
  by_cases h1 : n < 0
  · exact .inl h1
  · by_cases h2 : 4 < n
    · exact .inr (.inl ⟨by omega, h2⟩)
    · by_cases h3 : t < 0
      · exact .inr (.inr (.inl ⟨by omega, by omega, h3⟩))
      · refine .inr (.inr (.inr ⟨by omega, ?_⟩))
        have hn : n = 0 ∨ n = 1 ∨ n = 2 ∨ n = 3 ∨ n = 4 := by omega
        rcases hn with rfl | rfl | rfl | rfl | rfl
        all_goals
          simp at hf
          omega
theorem wfK_nat {k : Nat × Nat} {N : Nat} (hN : N ≤ 4) (h2 : k.2 < 2 ^ N) : WfK (intK k) := by
  have h3 : 2 ^ N ≤ 16 := Nat.pow_le_pow_right (show 0 < 2 by decide) hN
  unfold WfK intK
  simp only
  omega
theorem tab_bd {k : Nat × Nat} {N : Nat} (hN : N ≤ 4) : Two.tableOf [k] N < 65536 := by
  have h := Two.tableOf_lt [k] N
  have h6 : 2 ^ 2 ^ N ≤ 65536 := Nat.pow_le_pow_right (show 0 < 2 by decide) (Nat.pow_le_pow_right (show 0 < 2 by decide) hN)
  omega
set_option maxHeartbeats 8000000 in
set_option maxRecDepth 100000 in
/-- The walk: the Go text returns true. -/
theorem walk (a0 : Option Addr) (len0 cap0 : Nat) (z0 : List Int) (w : World) (w0 : IsRow .u8 w a0 len0 cap0 z0) :
    Calls Try.prog 10 #[.slice a0 len0 cap0] w fun e w' => e = .returned (.bool true) ∧ Below w.heap.size w w' := by
  obtain ⟨bs, rfl, hwf, hr⟩ := Row.given w0
  clear w0
  by_cases hl : bs.length ≤ 1048576
  · have Hr := Lib.hid hr
    clear hr
    go_enter Try.func10, Try.ntmps10
    go_wp2_with fail
    refine (drawPrimes_any _ bs w Hr.out hwf hl).mono ?_
    rintro e w1 ⟨t, n, rfl, t0, t1, n0, n1, hb1⟩
    have Hb1 := Lib.hid hb1
    clear hb1 Hr hwf
    go_wp2_with fail
    refine (implPrimes_any t n _).mono ?_
    rintro e w2 ⟨v2, rfl, hown2, hb2⟩
    have Ho2 := Lib.hid hown2
    have Hb2 := Lib.hid (Hb1.out.trans (hb2.mono Hb1.out.size))
    clear hown2 hb2 Hb1
    go_wp2_with fail
    refine (specPrimes_any t n _).mono ?_
    rintro e w3 ⟨v3, rfl, hown3, hb3⟩
    have Ho3 := Lib.hid hown3
    have Ho23 := Lib.hid (own_below Ho2.out hb3)
    have Hb3 := Lib.hid (Hb2.out.trans (hb3.mono Hb2.out.size))
    clear hown3 hb3 Hb2 Ho2
    go_wp2_with fail
    refine (sameCubes_any _ _ ((primesI t n).map intK) ((primesI t n).map intK) _ (cubesN_own Ho23.out) (cubesN_own Ho3.out)).mono ?_
    rintro e w4 ⟨rfl, hb4⟩
    have hd : decide ((primesI t n).map intK = (primesI t n).map intK) = true := decide_eq_true rfl
    rw [hd]
    have Hc4 : Hid (CubesN w4 v2 (primesI t n)) := Lib.hid (cubesN_own (own_below Ho23.out hb4))
    have Hb4 := Lib.hid (Hb3.out.trans (hb4.mono Hb3.out.size))
    clear hd hb4 Hb3 Ho3 Ho23
    have hlen := primesI_len t n
    obtain ⟨A, c, hv, hcn, hcm⟩ := Row.shape Hc4.out
    rw [List.length_map] at hv hcn
    subst hv
    unfold maxLen at hcm
    cases hf : fitsT t n
    · have hp : (primesI t n).length = 0 := by unfold primesI; rw [hf]; rfl
      rw [hp]
      clear Hc4
      rcases big_tab hf with g | ⟨g0, g1⟩ | ⟨g0, g1, g2⟩ | ⟨g0, ⟨rfl, g1⟩ | ⟨rfl, g1⟩ | ⟨rfl, g1⟩ | ⟨rfl, g1⟩ | ⟨rfl, g1⟩⟩
      all_goals
        clear hf hp hlen hcn
        go_wp2_with fail
        refine (alive_any _).mono ?_
        rintro e w6 ⟨rfl, hb6⟩
        go_wp2_with fail
        go_ret
        exact ⟨rfl, Hb4.out.trans (hb6.mono Hb4.out.size)⟩
    · obtain ⟨T, N, rfl, rfl, hN, hT2, hT⟩ := fitsT_nat hf
      have hp : primesI T N = Two.primes T N := by unfold primesI; rw [hf]; rfl
      rw [hp] at hlen Hc4 hcn ⊢
      have HL : Hid (∀ k ∈ Two.primes T N, k.1 < 2 ^ N ∧ k.2 < 2 ^ N ∧ Two.fine k = true ∧ Two.within k T N = true) := Lib.hid fun k hk => by
        have h1 := Two.mem_implicants.1 (Two.mem_primes.1 hk).1
        exact h1
      have Hclr : Hid (∀ k ∈ Two.primes T N, ∀ v, k.1.testBit v = true → Two.within (Two.clr k.1 v, Two.clr k.2 v) T N = false) := Lib.hid fun k hk v hv => Two.clr_prime hk hv
      have Hall : Hid (coverI N ((Two.primes T N).map intK) = T) := Lib.hid (by
        rw [cover_nat hN (by have := Two.primes_length (t := T) hN; omega) (fun k hk => ⟨(HL.out k hk).1, (HL.out k hk).2.2.1⟩), Two.primes_table hN hT2])
      generalize Two.primes T N = L at *
      clear hf hp
      obtain ⟨M, hM, e, hpM, hp0⟩ := pow4 hN
      obtain ⟨MM, hMM, e2, hTM⟩ : ∃ MM : Nat, MM ≤ 65536 ∧ (2 : Int) ^ M = (MM : Int) ∧ T < MM := ⟨2 ^ M, Nat.pow_le_pow_right (show 0 < 2 by decide) hpM, two_pow M, by rw [← hM.out]; exact hT2⟩
      have hwu : IntKind.u64.wrap (M : Int) = M := by rw [IntKind.wrap_u64]; omega
      have hdd : decide (MM ≤ T) = false := decide_eq_false (by omega)
      have hT2' := Lib.hid hT2
      clear hT2
      go_wp2_with fail
      clear e2 hwu
      go_loopw [7] (fun i wr => ∃ k : Nat, k ≤ L.length ∧ i = .int .i64 k ∧ Below w4.heap.size w4 wr) (fun i _ => L.length - (intOf i).toNat)
      case atStart => exact ⟨0, Nat.zero_le _, rfl, Below.refl _ _⟩
      case round =>
        obtain ⟨i, hi, rfl, hb⟩ := hrel
        by_cases hlt : i < L.length
        · obtain ⟨b, o, k, rfl, hbl, hx, hs1, hs2⟩ := cubesN_open Hc4.out hb rfl hlt
          have Hsub := Lib.hid (cubesN_sub Hc4.out hb rfl hx.out)
          have Hb := Lib.hid hb
          obtain ⟨hk1, hk2, hkf, hkw⟩ := HL.out k (List.mem_of_getElem? hx.out)
          have hcov : coverI N ([k].map intK) = (Two.tableOf [k] N : Int) := cover_nat hN (by simp) (fun q hq => by rw [List.mem_singleton.1 hq]; exact ⟨hk1, hkf⟩)
          have hcc := implCover_any _ ([k].map intK) N wr Hsub.out (fun q hq => by
            obtain ⟨q', hq', rfl⟩ := List.mem_map.1 hq
            rw [List.mem_singleton.1 hq']
            exact wfK_nat hN hk2)
          rw [hcov] at hcc
          have hX := tab_bd (k := k) hN
          have hand : bits .and .i64 (Two.tableOf [k] N : Int) (T : Int) = (Two.tableOf [k] N : Int) := by rw [i64_and_nat _ _ (by omega) (by omega), Two.one_within.2 hkw]
          have Hk := Lib.hid (And.intro hk1 (And.intro hk2 hkf))
          have hk16 : k.1 < 65536 := by have h3 : 2 ^ N ≤ 16 := Nat.pow_le_pow_right (show 0 < 2 by decide) hN; omega
          have hk17 : k.2 < 65536 := by have h3 : 2 ^ N ≤ 16 := Nat.pow_le_pow_right (show 0 < 2 by decide) hN; omega
          have hic : i < c := by omega
          have hwr : IntKind.i64.wrap ((i : Int) + 1) = (i : Int) + 1 := IntWalk.i64_in _ (by omega)
          have hp0 : (0 : Int) ≤ (i : Int) + 1 := by omega
          have hp2 : ((i : Int) + 1).toNat = i + 1 := by omega
          have hp3 : (i : Int) + 1 ≤ (c : Int) := by omega
          have hp4 : i + 1 ≤ c := by omega
          clear hcov hb hk1 hk2 hkf hkw
          generalize Two.tableOf [k] N = X at *
          go_wp2_with fail
          refine hcc.mono ?_
          rintro e w5 ⟨rfl, hb5⟩
          have hz := Hb.out.size
          have e1 := (hb5.cell (p := ⟨b, o + i * 2, none⟩) (by simp only; omega)).trans hs1
          have e2 := (hb5.cell (p := ⟨b, o + i * 2 + 1, none⟩) (by simp only; omega)).trans hs2
          have Hb5 := Lib.hid (Hb.out.trans (hb5.mono hz))
          have hz5 := Hb5.out.size
          clear hcc hb5 hs1 hs2 Hb
          go_wp2_with fail
          go_loopw [9] (fun v wq => ∃ V : Nat, V ≤ N ∧ v = .int .i64 V ∧ Below w5.heap.size w5 wq) (fun v _ => N - (intOf v).toNat)
          case atStart => exact ⟨0, Nat.zero_le _, rfl, Below.refl _ _⟩
          case round =>
            obtain ⟨V, hV, rfl, hq⟩ := hrel
            have f1 := (hq.cell (p := ⟨b, o + i * 2, none⟩) (by simp only; omega)).trans e1
            have f2 := (hq.cell (p := ⟨b, o + i * 2 + 1, none⟩) (by simp only; omega)).trans e2
            have Hq := Lib.hid hq
            have hzq := hq.size
            clear hq e1 e2
            by_cases hlv : V < N
            · have hsv := shr_even k.1 V
              cases hbit : k.1.testBit V
              · rw [hbit] at hsv
                clear hbit
                go_wp2_with fail
                go_roundw
                case rel => exact ⟨V + 1, by omega, by go_num, Hq.out⟩
                case measure => simp [intOf] <;> omega
              · rw [hbit] at hsv
                have hnw := Hclr.out k (List.mem_of_getElem? hx.out) V hbit
                have hY : 2 ^ V < 65536 := Nat.lt_of_le_of_lt (Nat.pow_le_pow_right (by decide) (show V ≤ 4 by omega)) (by decide)
                have hYe : (2 : Int) ^ V = ((2 ^ V : Nat) : Int) := two_pow V
                rw [hYe] at hsv
                have hc1 : bits .andNot .i64 (k.1 : Int) ((2 ^ V : Nat) : Int) = ((Two.clr k.1 V : Nat) : Int) := andNot_clr _ _ (by omega) (by omega)
                have hc2 : bits .andNot .i64 (k.2 : Int) ((2 ^ V : Nat) : Int) = ((Two.clr k.2 V : Nat) : Int) := andNot_clr _ _ (by omega) (by omega)
                have hg := Two.clr_gen (k := (k.1, k.2)) Hk.out.2.2 V
                have hcov2 : coverI N ([(Two.clr k.1 V, Two.clr k.2 V)].map intK) = (Two.tableOf [(Two.clr k.1 V, Two.clr k.2 V)] N : Int) := cover_nat hN (by simp) (fun q hq => by rw [List.mem_singleton.1 hq]; exact ⟨Nat.lt_of_le_of_lt (Two.clr_le _ _) Hk.out.1, Two.gen_fine hg⟩)
                have hne : (bits .and .i64 (Two.tableOf [(Two.clr k.1 V, Two.clr k.2 V)] N : Int) (T : Int) == (Two.tableOf [(Two.clr k.1 V, Two.clr k.2 V)] N : Int)) = false := by
                  have := tab_bd (k := (Two.clr k.1 V, Two.clr k.2 V)) hN
                  rw [i64_and_nat _ _ (by omega) (by omega), beq_eq_false_iff_ne]
                  intro e
                  have := Two.one_within.1 (Int.ofNat.inj e)
                  rw [hnw] at this
                  cases this
                have hwf2 := Lib.hid (wfK_nat (k := (Two.clr k.1 V, Two.clr k.2 V)) hN (Nat.lt_of_le_of_lt (Two.clr_le _ _) Hk.out.2.1))
                have Hcov2 := Lib.hid hcov2
                generalize hY2 : 2 ^ V = Y at hY hYe hc1 hc2 hsv
                generalize (Two.tableOf [(Two.clr k.1 V, Two.clr k.2 V)] N : Int) = X2 at *
                generalize Two.clr k.1 V = C2 at *
                generalize Two.clr k.2 V = V2 at *
                have hwY : IntKind.i64.wrap (Y : Int) = Y := IntWalk.i64_in _ (by omega)
                clear hY2 hg hcov2 hnw hbit
                go_wp2_with fail
                have hbr : b < wr.heap.size := by omega
                go_region
                generalize hW : (wr.alloc (.cells #[.int .i64 C2, .int .i64 V2] 25)).drew = w8 at *
                have Hq8 : Hid (Below w5.heap.size w5 w8) := Lib.hid (by rw [← hW]; exact (Hq.out.alloc hzq _).drew)
                have z8 : wr.heap.size < w8.heap.size := by rw [← hW]; simp
                have k8 : w8.cell? ⟨wr.heap.size, 0, none⟩ = some (.int .i64 C2) := by rw [← hW]; exact World.cell?_alloc_new _ _ _ 0
                have k9 : w8.cell? ⟨wr.heap.size, 1, none⟩ = some (.int .i64 V2) := by rw [← hW]; exact World.cell?_alloc_new _ _ _ 1
                clear hW
                have hcc2 := implCover_any (.slice (some ⟨w8.heap.size, 0, none⟩) 1 1) ([(C2, V2)].map intK) N (w8.alloc (.cells #[.int .i64 C2, .int .i64 V2] 25))
                  (Row.of_own (World.ownsRow_lit (base := 0) (e := 25) (size := 2) w8 #[.int .i64 C2, .int .i64 V2] 1 (Nat.zero_le _) (by unfold maxLen; omega) rfl))
                  (fun q hq => by
                    obtain ⟨q', hq', rfl⟩ := List.mem_map.1 hq
                    rw [List.mem_singleton.1 hq']
                    exact hwf2.out)
                rw [Hcov2.out] at hcc2
                have Hcc2 := Lib.hid hcc2
                clear hcc2
                go_wp2_with fail
                refine Hcc2.out.mono ?_
                rintro e w7 ⟨rfl, hb7⟩
                have Hb7 : Hid (Below w5.heap.size w5 w7) := Lib.hid ((Hq8.out.alloc Hq8.out.size _).trans (hb7.mono (by have := Hq8.out.size; simp; omega)))
                clear hb7
                go_wp2_with fail
                go_roundw
                case rel => exact ⟨V + 1, by omega, by go_num, Hb7.out⟩
                case measure => simp [intOf] <;> omega
            · obtain rfl : V = N := by omega
              go_wp2_with fail
              go_roundw
              case rel => exact ⟨i + 1, by omega, by go_num, Hb5.out.trans (Hq.out.mono hz5)⟩
              case measure => simp [intOf] <;> omega
        · have Hb5 := Lib.hid (Hb4.out.trans (hb.mono Hb4.out.size))
          have hcc := implCover_any _ (L.map intK) N wr (Row.below Hc4.out hb) (fun q hq => by
            obtain ⟨q', hq', rfl⟩ := List.mem_map.1 hq
            exact wfK_nat hN (HL.out q' hq').2.1)
          rw [Hall.out] at hcc
          go_wp2_with fail
          refine hcc.mono ?_
          rintro e w6 ⟨rfl, hb6⟩
          go_wp2_with fail
          go_ret
          exact ⟨ret_bool (by simp), Hb5.out.trans (hb6.mono Hb5.out.size)⟩
  · go_enter Try.func10, Try.ntmps10
    go_wp2
    go_ret
    exact ⟨rfl, Below.refl _ _⟩

/-! The step from the walk to the row. -/
set_option maxRecDepth 100000 in
theorem lifted (os : Os) (started : os.Started) (H : Type) (enc : TypeId × Value → H) :
    ReturnsInHanded {} Try.checked os 10 .any (Rows.fnPrimesSpec.pre6 enc Try.prog Try.f10 Rows.fnPrimesRow.domain false) (Rows.fnPrimesSpec.post enc Try.prog Try.f10 false true false false) := by
  refine returnsInHanded_of_change (C := Try.checked) own started (by kernel_rfl) Try.func10
    (ChangeSpec.witness6 (enc := enc) (C := Try.checked) false ⟨#[], #[.slice none 0 0], []⟩ 8 (by kernel_rfl) (by kernel_rfl) (by kernel_rfl) (by kernel_rfl)) ?_
  intro W base args ds gs before hval0 hW hcnd _
  have hval : ∀ (j : Nat) t v, Try.f10.params[j]? = some t → args[j]? = some v → Value.okWide Try.prog W .any base t v := hval0
  have hW' := hW
  obtain ⟨p, q, hA0, hV, rfl, hfz, hnd⟩ := hW
  have hA : DataW.TrodAll enc Try.prog W 0 (fun _ => true) true Try.f10.params.toList args.toList ds p := hA0
  rw [Try.params10] at hA hval
  obtain ⟨v0, vs0, d0, ds0, p0, q0, hargs, rfl, rfl, h0, r0⟩ := trodAll_cons hA
  obtain ⟨rfl, rfl, rfl⟩ := trodAll_nil r0
  obtain rfl : args = #[v0] := by cases args; simp_all
  obtain ⟨rfl, rfl⟩ := trodVars_none hV
  obtain ⟨a0, len0, cap0, rfl⟩ := okWide_slice Try.underlying28 (hval 0 28 v0 rfl rfl)
  have k0 := h0
  have lt0 : ∀ x ∈ p0, x.block < W.heap.size := by obtain ⟨m, hm⟩ := k0; exact DataW.trod_lt m _ _ _ hm
  obtain ⟨z0, w0⟩ : ∃ zs, IsRow .u8 W a0 len0 cap0 zs := by
    obtain ⟨fuel, hf⟩ := h0
    rcases open_ints Try.underlying28 Try.underlying5 (by kernel_rfl) hf with ⟨hcs, _⟩ | ⟨x, l, c, zs, hcs, _, hl, hm, hz, _, hcell, hwz⟩
    · simp [Value.cells] at hcs
      obtain ⟨rfl, rfl, rfl⟩ := hcs
      exact ⟨[], .inl ⟨rfl, rfl, rfl, rfl⟩⟩
    · simp [Value.cells] at hcs
      obtain ⟨rfl, rfl, rfl⟩ := hcs
      exact ⟨zs, .inr ⟨_, rfl, hl, hm, by simpa using hz, hcell, hwz⟩⟩
  clear hA0 hval0
  refine (walk a0 len0 cap0 z0 W w0).mono fun e W' ⟨he, bel⟩ => ?_
  subst he
  exact ⟨_, rfl, _, _, _, [], _, [], hW', trodAll_mk1 (shut_bool Try.underlying4 _), (trodAll_cons_mk (Below.trod laidOut (by kernel_rfl) (of_decide_eq_true (by kernel_rfl)) k0 bel lt0) trodAll_mk0), rfl, bel.frame _, fun h => by cases h⟩

theorem over : Rows.fnPrimesRow.holds Try.pinned (OpenSpec.ofChange Rows.fnPrimesSpec) :=
  OpenClaim.holds_of_wide 10 Try.f10 rfl rfl rfl rfl rfl rfl rfl ⟨rfl, rfl, rfl, rfl, rfl⟩ rfl rfl rfl rfl rfl (by kernel_rfl) Try.func10 (by kernel_rfl)
    (of_decide_eq_true (by kernel_rfl)) (by unfold Func.isWrapper; first | (rw [if_pos (by decide +kernel)]; kernel_rfl) | (rw [if_neg (by decide +kernel)]; exact ⟨rfl, rfl⟩))
    (fun os started H enc _ => lifted os started H enc)

/-- The statement. -/
theorem proved : Rows.FnPrimesSaid := over
#print axioms proved
end Go.Proofs.Ytlpellciiiflkaa.fnPrimes
