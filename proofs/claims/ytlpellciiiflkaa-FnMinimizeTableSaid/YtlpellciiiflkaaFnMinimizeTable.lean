/-
  FnMinimizeTable: The program's MinimizeTable is the reference's; the disjunction of its cubes is the table, every cube is a prime implicant, and without any one of them it is not the table.
  Conditions: none. For every input that the row reads, the Go function laws.FnMinimizeTable returns true and leaves its arguments as they were.
-/
import Derived.Test.YtlpellciiiflkaaDrawT
import Derived.Test.YtlpellciiiflkaaRows
import Derived.WalkKit
import Derived.ProofKit
import Derived.OpenShut
import Derived.ShutString
import Derived.ChangeOld
import Derived.Below
namespace Go.Proofs.Ytlpellciiiflkaa.fnMinimizeTable
open Go.ChangeShapes Go.WideShapes Go.ChangeAt Go.RowKit
open Go.ChangeMaps (open_string shut_string)
set_option linter.unusedVariables false

theorem own : ownKnob Try.prog.godebug = none := by kernel_rfl
theorem laidOut : laidOutB Try.prog = true := by kernel_rfl

/-- A slice of integers that came in: nil, or a row of cells. -/
def IsRow (k : IntKind) (w : World) (a : Option Addr) (len cap : Nat) (zs : List Int) : Prop :=
  (a = none ∧ len = 0 ∧ cap = 0 ∧ zs = []) ∨
  ∃ x, a = some x ∧ len ≤ cap ∧ cap ≤ maxLen ∧ zs.length = cap ∧ (∀ i, i < zs.length → w.cell? (x.add i) = some (.int k (zs.getD i 0))) ∧ ∀ n ∈ zs, (Lit.int k n).wf = true

theorem big_tab {t n : Int} (hf : fitsT t n = false) : n < 0 ∨ (0 ≤ n ∧ 4 < n) ∨ (0 ≤ n ∧ n ≤ 4 ∧ t < 0) ∨ (0 ≤ t ∧ ((n = 0 ∧ 2 ≤ t) ∨ (n = 1 ∧ 4 ≤ t) ∨ (n = 2 ∧ 16 ≤ t) ∨ (n = 3 ∧ 256 ≤ t) ∨ (n = 4 ∧ 65536 ≤ t))) := by
  unfold fitsT at hf
  rw [decide_eq_false_iff_not] at hf
  by_cases h1 : n < 0
  · exact .inl h1
  · by_cases h2 : 4 < n
    · exact .inr (.inl ⟨by omega, h2⟩)
    · by_cases h3 : t < 0
      · exact .inr (.inr (.inl ⟨by omega, by omega, h3⟩))
      · refine .inr (.inr (.inr ⟨by omega, ?_⟩))
        have hn : n = 0 ∨ n = 1 ∨ n = 2 ∨ n = 3 ∨ n = 4 := by omega
        rcases hn with rfl | rfl | rfl | rfl | rfl
        all_goals
          simp at hf
          omega
theorem wfK_nat {k : Nat × Nat} {N : Nat} (hN : N ≤ 4) (h2 : k.2 < 2 ^ N) : WfK (intK k) := by
  have h3 : 2 ^ N ≤ 16 := Nat.pow_le_pow_right (show 0 < 2 by decide) hN
  unfold WfK intK
  simp only
  omega
theorem cube_eql (w : World) (a b c d : Int) : (binOp .eql 25 (.agg #[.int .i64 a, .int .i64 b]) (.agg #[.int .i64 c, .int .i64 d])).run Try.prog w = .ok (.bool (decide ((a, b) = (c, d)))) w := by
  have u3 := Try.underlying3
  have hS : Try.prog.underlying 25 = some (.struct (Try.prog.fieldsOf 25)) := by kernel_rfl
  have hp : Try.prog.stoodInHeld 25 = false := by kernel_rfl
  rw [run_eql_struct, show (10000 : Nat) = 9999 + 1 from rfl, run_equalIn_agg w 9999 25 _ _ hS hp]
  simp only [Program.fieldsOf, Try.underlying25]
  go_simp
  by_cases h1 : a = c <;> by_cases h2 : b = d <;> simp [h1, h2]
set_option maxHeartbeats 16000000 in
set_option maxRecDepth 100000 in
/-- The walk: the Go text returns true. -/
theorem walk (a0 : Option Addr) (len0 cap0 : Nat) (z0 : List Int) (w : World) (w0 : IsRow .u8 w a0 len0 cap0 z0) :
    Calls Try.prog 12 #[.slice a0 len0 cap0] w fun e w' => e = .returned (.bool true) ∧ Below w.heap.size w w' := by
  obtain ⟨bs, rfl, hwf, hr⟩ := Row.given w0
  clear w0
  by_cases hl : bs.length ≤ 1048576
  · have Hr := Lib.hid hr
    clear hr
    go_enter Try.func12, Try.ntmps12
    go_wp2_with fail
    refine (drawMin_any _ bs w Hr.out hwf hl).mono ?_
    rintro e w1 ⟨t, n, rfl, t0, t1, n0, n1, hb1⟩
    have Hb1 := Lib.hid hb1
    clear hb1 Hr hwf
    go_wp2_with fail
    refine (implMin_any t n _).mono ?_
    rintro e w2 ⟨v2, rfl, hown2, hb2⟩
    have Ho2 := Lib.hid hown2
    have Hb2 := Lib.hid (Hb1.out.trans (hb2.mono Hb1.out.size))
    clear hown2 hb2 Hb1
    go_wp2_with fail
    refine (specMin_any t n _).mono ?_
    rintro e w3 ⟨v3, rfl, hown3, hb3⟩
    have Ho3 := Lib.hid hown3
    have Ho23 := Lib.hid (own_below Ho2.out hb3)
    have Hb3 := Lib.hid (Hb2.out.trans (hb3.mono Hb2.out.size))
    clear hown3 hb3 Hb2 Ho2
    go_wp2_with fail
    refine (sameCubes_any _ _ ((minimalI t n).map intK) ((minimalI t n).map intK) _ (cubesN_own Ho23.out) (cubesN_own Ho3.out)).mono ?_
    rintro e w4 ⟨rfl, hb4⟩
    have hd : decide ((minimalI t n).map intK = (minimalI t n).map intK) = true := decide_eq_true rfl
    rw [hd]
    have Hc4 : Hid (CubesN w4 v2 (minimalI t n)) := Lib.hid (cubesN_own (own_below Ho23.out hb4))
    have Hb4 := Lib.hid (Hb3.out.trans (hb4.mono Hb3.out.size))
    clear hd hb4 Hb3 Ho3 Ho23
    have hlen := minimalI_len t n
    have hlenP := primesI_len t n
    go_wp2_with fail
    refine (implPrimes_any t n _).mono ?_
    rintro e w5 ⟨v5, rfl, hown5, hb5⟩
    have Hp5 : Hid (CubesN w5 v5 (primesI t n)) := Lib.hid (cubesN_own hown5)
    have Hc5 : Hid (CubesN w5 v2 (minimalI t n)) := Lib.hid (Row.below Hc4.out hb5)
    have Hb5 := Lib.hid (Hb4.out.trans (hb5.mono Hb4.out.size))
    clear hown5 hb5 Hb4 Hc4
    obtain ⟨A, c, hv, hcn, hcm⟩ := Row.shape Hc5.out
    rw [List.length_map] at hv hcn
    subst hv
    obtain ⟨A5, c5, hv5, hcn5, hcm5⟩ := Row.shape Hp5.out
    rw [List.length_map] at hv5 hcn5
    subst hv5
    unfold maxLen at hcm hcm5
    cases hf : fitsT t n
    · have hp : (minimalI t n).length = 0 := by unfold minimalI; rw [hf]; rfl
      rw [hp]
      clear Hc5 Hp5
      rcases big_tab hf with g | ⟨g0, g1⟩ | ⟨g0, g1, g2⟩ | ⟨g0, ⟨rfl, g1⟩ | ⟨rfl, g1⟩ | ⟨rfl, g1⟩ | ⟨rfl, g1⟩ | ⟨rfl, g1⟩⟩
      all_goals
        clear hf hp hlen hcn hlenP hcn5
        go_wp2_with fail
        refine (alive_any _).mono ?_
        rintro e w6 ⟨rfl, hb6⟩
        go_wp2_with fail
        go_ret
        exact ⟨rfl, Hb5.out.trans (hb6.mono Hb5.out.size)⟩
    · obtain ⟨T, N, rfl, rfl, hN, hT2, hT⟩ := fitsT_nat hf
      have hp : minimalI T N = Two.minF T N (Two.primes T N) (Two.primes T N).length := by unfold minimalI; rw [hf]; rfl
      have hpp : primesI T N = Two.primes T N := by unfold primesI; rw [hf]; rfl
      rw [hp] at hlen Hc5 hcn ⊢
      rw [hpp] at hlenP Hp5 hcn5 ⊢
      have HL : Hid (∀ k ∈ Two.primes T N, k.1 < 2 ^ N ∧ k.2 < 2 ^ N ∧ Two.fine k = true ∧ Two.within k T N = true) := Lib.hid fun k hk => by
        have h1 := Two.mem_implicants.1 (Two.mem_primes.1 hk).1
        exact h1
      have Hsub : Hid (∀ k ∈ Two.minF T N (Two.primes T N) (Two.primes T N).length, k ∈ Two.primes T N) := Lib.hid fun k hk => Two.minF_sub _ _ k hk
      have Hneed : Hid (∀ i, i < (Two.minF T N (Two.primes T N) (Two.primes T N).length).length → Two.tableOf ((Two.minF T N (Two.primes T N) (Two.primes T N).length).eraseIdx i) N ≠ T) := Lib.hid fun i hi e => by
        have h1 := Two.minF_need (t := T) (n := N) (Two.primes T N).length (Two.primes T N) (fun j h1 h2 => by omega) i hi
        have h2 := (Two.table_covers hT2 (fun k hk => (HL.out k (Hsub.out k (List.mem_of_mem_eraseIdx hk))).2.2.2)).1 e
        rw [h1] at h2
        cases h2
      have Hall : Hid (coverI N ((Two.minF T N (Two.primes T N) (Two.primes T N).length).map intK) = T) := Lib.hid (by
        rw [cover_nat hN (by omega) (fun k hk => ⟨(HL.out k (Hsub.out k hk)).1, (HL.out k (Hsub.out k hk)).2.2.1⟩), (Two.table_covers hT2 (fun k hk => (HL.out k (Hsub.out k hk)).2.2.2)).2 (Two.minF_covers _ _ (Two.primes_cover hN))])
      generalize Two.minF T N (Two.primes T N) (Two.primes T N).length = L at *
      generalize Two.primes T N = Pr at *
      clear hf hp hpp
      obtain ⟨M, hM, e, hpM, hp0⟩ := pow4 hN
      obtain ⟨MM, hMM, e2, hTM⟩ : ∃ MM : Nat, MM ≤ 65536 ∧ (2 : Int) ^ M = (MM : Int) ∧ T < MM := ⟨2 ^ M, Nat.pow_le_pow_right (show 0 < 2 by decide) hpM, two_pow M, by rw [← hM.out]; exact hT2⟩
      have hwu : IntKind.u64.wrap (M : Int) = M := by rw [IntKind.wrap_u64]; omega
      have hdd : decide (MM ≤ T) = false := decide_eq_false (by omega)
      have hT2' := Lib.hid hT2
      clear hT2
      obtain ⟨i0, hi0, hz0, hz1, hz2⟩ := info_parts info_cube
      go_wp2_with fail
      clear e2 hwu
      go_loopw [7] (fun i wr => ∃ k : Nat, k ≤ L.length ∧ i = .int .i64 k ∧ Below w5.heap.size w5 wr) (fun i _ => L.length - (intOf i).toNat)
      case atStart => exact ⟨0, Nat.zero_le _, rfl, Below.refl _ _⟩
      case round =>
        obtain ⟨i, hi, rfl, hb⟩ := hrel
        by_cases hlt : i < L.length
        · obtain ⟨b, o, k, rfl, hbl, hx, hs1, hs2⟩ := cubesN_open Hc5.out hb rfl hlt
          have Hb := Lib.hid hb
          have hz := hb.size
          have hbr : b < wr.heap.size := by omega
          have hlm : (L.map intK).length = L.length := List.length_map _
          have Hrw : Hid (Row wr 2 (.slice (some ⟨b, o, none⟩) L.length c) L.length (cubes (L.map intK))) := Lib.hid (by have := Row.below Hc5.out hb; rwa [hlm] at this)
          obtain ⟨b', o', c', hv', _, _, _, hcell⟩ := Row.open Hrw.out (by omega)
          injection hv' with hv1 _ hv3
          injection hv1 with hv1
          injection hv1 with hv1 hv2
          subst hv1 hv2 hv3
          have hr1 : Hid (Row (wr.drew.alloc (.cells #[] 25)) 2 (.slice (some ⟨b, o, none⟩) i c) i (cubes ((L.map intK).take i))) := Lib.hid ⟨by rw [cubes_length]; simp; omega, _, c, rfl, by omega, by unfold maxLen; omega, fun _ => ⟨b, o, rfl, by simp; omega, fun j u hu => by
            rw [cubes_take, List.getElem?_take] at hu
            split at hu
            · exact (World.cell?_alloc_lt wr.drew _ ⟨b, o + j, none⟩ hbr).trans (hcell j u hu)
            · cases hu⟩⟩
          have hnews : ∀ j u, (cubes ((L.map intK).drop (i + 1)))[j]? = some u → wr.cell? ⟨b, o + (i + 1) * 2 + j, none⟩ = some u := fun j u hu => by
            rw [cubes_drop, List.getElem?_drop] at hu
            rw [Nat.add_assoc]
            exact hcell _ _ hu
          obtain ⟨AA, hA, hAn⟩ : ∃ AA : Addr, (if c = i + 1 then some (⟨b, o, none⟩ : Addr) else some ⟨b, o + (i + 1) * 2, none⟩) = some AA ∧ Hid (Row wr 2 (.slice (some AA) (L.length - (i + 1)) (c - (i + 1))) (L.length - (i + 1)) (cubes ((L.map intK).drop (i + 1)))) := by
            have hl : (cubes ((L.map intK).drop (i + 1))).length = (L.length - (i + 1)) * 2 := by rw [cubes_length]; simp
            by_cases hc : c = i + 1
            · refine ⟨⟨b, o, none⟩, by simp [hc], Lib.hid ⟨hl, _, _, rfl, by omega, by unfold maxLen; omega, fun hp => by omega⟩⟩
            · exact ⟨⟨b, o + (i + 1) * 2, none⟩, by simp [hc], Lib.hid ⟨hl, _, _, rfl, by omega, by unfold maxLen; omega, fun hp => ⟨b, _, rfl, hbr, hnews⟩⟩⟩
          have Hown0 := Lib.hid (World.ownsRow_lit (base := wr.heap.size) (e := 25) (size := 2) wr.drew #[] 0 (Nat.le_refl _) (by unfold maxLen; omega) rfl)
          have hwr : IntKind.i64.wrap ((i : Int) + 1) = (i : Int) + 1 := IntWalk.i64_in _ (by omega)
          have hq0 : (0 : Int) ≤ (i : Int) + 1 := by omega
          have hq1 : (i : Int) + 1 ≤ (L.length : Int) := by omega
          have hq2 : ((i : Int) + 1).toNat = i + 1 := by omega
          have hic : i ≤ c := by omega
          have HEr : Hid ((L.eraseIdx i).map intK = (L.map intK).take i ++ (L.map intK).drop (i + 1)) := Lib.hid (by rw [← erase_map, List.eraseIdx_eq_take_drop_succ])
          have Hel : Hid ((L.eraseIdx i).length = 0 + i + (L.length - (i + 1))) := Lib.hid (by rw [List.length_eraseIdx_of_lt hlt]; omega)
          have Hs1 := Lib.hid hs1
          have Hs2 := Lib.hid hs2
          clear hcell hnews hb hs1 hs2 hlm
          go_wp2_with fail
          go_region_law (first
            | (refine step_append_at rfl (.tmp 60) (.tmp 63) 35 rfl wr.heap.size 25 i0 _ 2 16 Try.underlying35 hi0 hz0 hz1 hz2 rfl (by decide) (.slice (some ⟨wr.heap.size, 0, none⟩) 0 0) 0 [] (by simp [Act.eval, Act.put]) Hown0.out (.slice (some ⟨b, o, none⟩) i c) i (cubes ((L.map intK).take i)) (by simp [Act.eval, Act.put]) hr1.out (cubes_one _) (by unfold maxLen; omega) (by omega) (by simp) ?_; intro v1 w1 hown1 hg1)
            | (refine step_append_at rfl (.tmp 64) (.tmp 68) 35 rfl wr.heap.size 25 i0 _ 2 16 Try.underlying35 hi0 hz0 hz1 hz2 rfl (by decide) v1 (0 + i) ([] ++ cubes ((L.map intK).take i)) (by simp [Act.eval, Act.put]) hown1 (.slice (some AA) (L.length - (i + 1)) (c - (i + 1))) (L.length - (i + 1)) (cubes ((L.map intK).drop (i + 1))) (by simp [Act.eval, Act.put]) (hAn.out.below ((((Below.refl wr.heap.size wr).drew).alloc (Nat.le_refl _) _).grown hg1 (by simp) (by simp [Value.ownBlock]))) (cubes_one _) (by unfold maxLen; omega) (by omega) (by have := hg1.size; simp at this; omega) ?_; intro v2 w2 hown2 hg2))
          all_goals
            have hx1 := ((((Below.refl wr.heap.size wr).drew).alloc (Nat.le_refl _) (.cells #[] 25)).grown hg1 (by simp) (by simp [Value.ownBlock]))
            have hx2 := hx1.grown hg2 hx1.size (own_ge hown1)
            have Hb7 := Lib.hid (Hb.out.trans (hx2.mono hz))
            have Hx2 := Lib.hid hx2
            have hz2 := hx2.size
            have Hless : Hid (CubesN w2 v2 (L.eraseIdx i)) := Lib.hid (cubesN_own (by
              have := hown2
              rw [List.nil_append, ← cubes_append, ← HEr.out, ← Hel.out] at this
              exact this))
            clear hown1 hown2 hg1 hg2 hx1 hx2 Hrw hAn Hown0 hr1 hA HEr hcn hcn5 hwr hq0 hq1 hq2
            obtain ⟨W1, hW1⟩ : ∃ W1 : World, W1 = wr := ⟨_, rfl⟩
            subst hW1
            obtain ⟨W2, hW2⟩ : ∃ W2 : World, W2 = w2 := ⟨_, rfl⟩
            subst hW2
            go_wp2_with fail
            go_loopw [9, 10] (fun p j wq => ∃ (x : Nat) (f : Bool), x ≤ Pr.length ∧ j = .int .i64 x ∧ p = .bool f ∧ Hid (f = (Pr.take x).any (· == k)) ∧ Below W2.heap.size W2 wq) (fun _ j _ => Pr.length - (intOf j).toNat)
            case atStart => exact ⟨0, false, by omega, rfl, rfl, Lib.hid (by simp), Below.refl _ _⟩
            case round =>
              obtain ⟨x, f, hx3, rfl, rfl, hbe, hq⟩ := hrel
              by_cases hlt2 : x < Pr.length
              · obtain ⟨gb, go, d, rfl, hbl5, hxd, hd0, hd1⟩ := cubesN_open Hp5.out (Hb7.out.trans (hq.mono Hb7.out.size)) rfl hlt2
                have zq := hq.size
                have gl := gw_cell ((hq.cell (p := ⟨b, o + i * 2, none⟩) (by simp only; omega)).trans ((Hx2.out.cell (by simp only; omega)).trans Hs1.out)) (by simp only; omega)
                have gl1 := gw_cell ((hq.cell (p := ⟨b, o + i * 2 + 1, none⟩) (by simp only; omega)).trans ((Hx2.out.cell (by simp only; omega)).trans Hs2.out)) (by simp only; omega)
                have gr := gw_cell hd0 (by simp only; have := Hb7.out.size; omega)
                have gr1 := gw_cell hd1 (by simp only; have := Hb7.out.size; omega)
                have Hq := Lib.hid hq
                have heq := fun w => cube_eql w d.1 d.2 k.1 k.2
                have hgd := cube_guard
                have Hstep : Hid ((Pr.take (x + 1)).any (· == k) = (f || d == k)) := Lib.hid (by rw [take_snoc hxd.out, List.any_append, ← hbe.out]; simp)
                clear hq hd0 hd1
                cases f
                · cases hdk : d == k
                  · have h1 : decide (((d.1 : Int), (d.2 : Int)) = ((k.1 : Int), (k.2 : Int))) = false := decide_eq_false fun e => by
                      have e1 := (Prod.mk.inj e).1
                      have e2 := (Prod.mk.inj e).2
                      have : d = k := Prod.ext (by omega) (by omega)
                      rw [this] at hdk
                      simp at hdk
                    rw [h1] at heq
                    have Hdk := Lib.hid hdk
                    clear hdk h1
                    go_wp2_with fail
                    refine wp_region_grow (by kernel_rfl) (by kernel_rfl) ?_
                    repeat (go_big_quiet_step ((fail)))
                    refine wpQuiet_nil ?_
                    intro _ hw'
                    obtain ⟨nq, hw''⟩ := hw'
                    subst hw''
                    have hgq := gw_below nq
                    generalize gw nq = wq at *
                    clear nq
                    clear heq
                    go_wp2_with fail
                    go_roundw
                    case rel => exact ⟨x + 1, false, by omega, by go_num, rfl, Lib.hid (by rw [Hstep.out, Hdk.out]; rfl), Hq.out.trans (hgq.mono zq)⟩
                    case measure => simp [intOf] <;> omega
                  · have h1 : decide (((d.1 : Int), (d.2 : Int)) = ((k.1 : Int), (k.2 : Int))) = true := decide_eq_true (by rw [beq_iff_eq.1 hdk])
                    rw [h1] at heq
                    have Hdk := Lib.hid hdk
                    clear hdk h1
                    go_wp2_with fail
                    refine wp_region_grow (by kernel_rfl) (by kernel_rfl) ?_
                    repeat (go_big_quiet_step ((fail)))
                    refine wpQuiet_nil ?_
                    intro _ hw'
                    obtain ⟨nq, hw''⟩ := hw'
                    subst hw''
                    have hgq := gw_below nq
                    generalize gw nq = wq at *
                    clear nq
                    clear heq
                    go_wp2_with fail
                    go_roundw
                    case rel => exact ⟨x + 1, true, by omega, by go_num, rfl, Lib.hid (by rw [Hstep.out, Hdk.out]; rfl), Hq.out.trans (hgq.mono zq)⟩
                    case measure => simp [intOf] <;> omega
                · clear heq
                  go_wp2_with fail
                  refine wp_region_grow (by kernel_rfl) (by kernel_rfl) ?_
                  repeat (go_big_quiet_step ((fail)))
                  refine wpQuiet_nil ?_
                  intro _ hw'
                  obtain ⟨nq, hw''⟩ := hw'
                  subst hw''
                  have hgq := gw_below nq
                  generalize gw nq = wq at *
                  clear nq
                  go_wp2_with fail
                  go_roundw
                  case rel => exact ⟨x + 1, true, by omega, by go_num, rfl, Lib.hid (by rw [Hstep.out]; rfl), Hq.out.trans (hgq.mono zq)⟩
                  case measure => simp [intOf] <;> omega
              · obtain rfl : x = Pr.length := by omega
                have hf : f = true := by
                  rw [hbe.out, List.take_length, List.any_eq_true]
                  exact ⟨k, Hsub.out k (List.mem_of_getElem? hx.out), by simp⟩
                subst hf
                have hlb : (L.eraseIdx i).length ≤ 100 := by rw [List.length_eraseIdx_of_lt hlt]; omega
                have HC : Hid (Calls Try.prog 20 #[v2, .int .i64 N] wr fun e w' => e = .returned (.int .i64 (Two.tableOf (L.eraseIdx i) N : Nat)) ∧ Below wr.heap.size wr w') := Lib.hid (by
                  have h1 := implCover_any v2 ((L.eraseIdx i).map intK) N wr (Row.below Hless.out hq) (fun q hq => by
                    obtain ⟨q', hq', rfl⟩ := List.mem_map.1 hq
                    exact wfK_nat hN (HL.out q' (Hsub.out q' (List.mem_of_mem_eraseIdx hq'))).2.1)
                  rw [cover_nat hN hlb (fun q hq => ⟨(HL.out q (Hsub.out q (List.mem_of_mem_eraseIdx hq))).1, (HL.out q (Hsub.out q (List.mem_of_mem_eraseIdx hq))).2.2.1⟩)] at h1
                  exact h1)
                have hne : ((Two.tableOf (L.eraseIdx i) N : Int) == (T : Int)) = false := by
                  have := Hneed.out i hlt
                  rw [beq_eq_false_iff_ne]
                  omega
                have Hq := Lib.hid hq
                have zq := hq.size
                clear hq
                generalize Two.tableOf (L.eraseIdx i) N = TT at *
                go_wp2_with fail
                refine HC.out.mono ?_
                rintro e w7 ⟨rfl, hgq⟩
                go_wp2_with fail
                go_roundw
                case rel => exact ⟨i + 1, by omega, by go_num, Hb7.out.trans ((Hq.out.trans (hgq.mono zq)).mono Hb7.out.size)⟩
                case measure => simp [intOf] <;> omega
        · have Hb6 := Lib.hid (Hb5.out.trans (hb.mono Hb5.out.size))
          have hcc := implCover_any _ (L.map intK) N wr (Row.below Hc5.out hb) (fun q hq => by
            obtain ⟨q', hq', rfl⟩ := List.mem_map.1 hq
            exact wfK_nat hN (HL.out q' (Hsub.out q' hq')).2.1)
          rw [Hall.out] at hcc
          go_wp2_with fail
          refine hcc.mono ?_
          rintro e w6 ⟨rfl, hb6⟩
          go_wp2_with fail
          go_ret
          exact ⟨ret_bool (by simp), Hb6.out.trans (hb6.mono Hb6.out.size)⟩
  · go_enter Try.func12, Try.ntmps12
    go_wp2
    go_ret
    exact ⟨rfl, Below.refl _ _⟩

/-! The step from the walk to the row. -/
set_option maxRecDepth 100000 in
theorem lifted (os : Os) (started : os.Started) (H : Type) (enc : TypeId × Value → H) :
    ReturnsInHanded {} Try.checked os 12 .any (Rows.fnMinimizeTableSpec.pre6 enc Try.prog Try.f12 Rows.fnMinimizeTableRow.domain false) (Rows.fnMinimizeTableSpec.post enc Try.prog Try.f12 false true false false) := by
  refine returnsInHanded_of_change (C := Try.checked) own started (by kernel_rfl) Try.func12
    (ChangeSpec.witness6 (enc := enc) (C := Try.checked) false ⟨#[], #[.slice none 0 0], []⟩ 8 (by kernel_rfl) (by kernel_rfl) (by kernel_rfl) (by kernel_rfl)) ?_
  intro W base args ds gs before hval0 hW hcnd _
  have hval : ∀ (j : Nat) t v, Try.f12.params[j]? = some t → args[j]? = some v → Value.okWide Try.prog W .any base t v := hval0
  have hW' := hW
  obtain ⟨p, q, hA0, hV, rfl, hfz, hnd⟩ := hW
  have hA : DataW.TrodAll enc Try.prog W 0 (fun _ => true) true Try.f12.params.toList args.toList ds p := hA0
  rw [Try.params12] at hA hval
  obtain ⟨v0, vs0, d0, ds0, p0, q0, hargs, rfl, rfl, h0, r0⟩ := trodAll_cons hA
  obtain ⟨rfl, rfl, rfl⟩ := trodAll_nil r0
  obtain rfl : args = #[v0] := by cases args; simp_all
  obtain ⟨rfl, rfl⟩ := trodVars_none hV
  obtain ⟨a0, len0, cap0, rfl⟩ := okWide_slice Try.underlying28 (hval 0 28 v0 rfl rfl)
  have k0 := h0
  have lt0 : ∀ x ∈ p0, x.block < W.heap.size := by obtain ⟨m, hm⟩ := k0; exact DataW.trod_lt m _ _ _ hm
  obtain ⟨z0, w0⟩ : ∃ zs, IsRow .u8 W a0 len0 cap0 zs := by
    obtain ⟨fuel, hf⟩ := h0
    rcases open_ints Try.underlying28 Try.underlying5 (by kernel_rfl) hf with ⟨hcs, _⟩ | ⟨x, l, c, zs, hcs, _, hl, hm, hz, _, hcell, hwz⟩
    · simp [Value.cells] at hcs
      obtain ⟨rfl, rfl, rfl⟩ := hcs
      exact ⟨[], .inl ⟨rfl, rfl, rfl, rfl⟩⟩
    · simp [Value.cells] at hcs
      obtain ⟨rfl, rfl, rfl⟩ := hcs
      exact ⟨zs, .inr ⟨_, rfl, hl, hm, by simpa using hz, hcell, hwz⟩⟩
  clear hA0 hval0
  refine (walk a0 len0 cap0 z0 W w0).mono fun e W' ⟨he, bel⟩ => ?_
  subst he
  exact ⟨_, rfl, _, _, _, [], _, [], hW', trodAll_mk1 (shut_bool Try.underlying4 _), (trodAll_cons_mk (Below.trod laidOut (by kernel_rfl) (of_decide_eq_true (by kernel_rfl)) k0 bel lt0) trodAll_mk0), rfl, bel.frame _, fun h => by cases h⟩

theorem over : Rows.fnMinimizeTableRow.holds Try.pinned (OpenSpec.ofChange Rows.fnMinimizeTableSpec) :=
  OpenClaim.holds_of_wide 12 Try.f12 rfl rfl rfl rfl rfl rfl rfl ⟨rfl, rfl, rfl, rfl, rfl⟩ rfl rfl rfl rfl rfl (by kernel_rfl) Try.func12 (by kernel_rfl)
    (of_decide_eq_true (by kernel_rfl)) (by unfold Func.isWrapper; first | (rw [if_pos (by decide +kernel)]; kernel_rfl) | (rw [if_neg (by decide +kernel)]; exact ⟨rfl, rfl⟩))
    (fun os started H enc _ => lifted os started H enc)

/-- The statement. -/
theorem proved : Rows.FnMinimizeTableSaid := over
#print axioms proved
end Go.Proofs.Ytlpellciiiflkaa.fnMinimizeTable
