/-
  FnPrimeIdentity: The program's Primes is the reference's; the table of a prime implicant has exactly one prime implicant, itself.
  Conditions: none. For every input that the row reads, the Go function laws.FnPrimeIdentity returns true and leaves its arguments as they were.
-/
import Derived.Test.YtlpellciiiflkaaDrawT
import Derived.Test.YtlpellciiiflkaaRows
import Derived.WalkKit
import Derived.ProofKit
import Derived.OpenShut
import Derived.ShutString
import Derived.ChangeOld
import Derived.Below
namespace Go.Proofs.Ytlpellciiiflkaa.fnPrimeIdentity
open Go.ChangeShapes Go.WideShapes Go.ChangeAt Go.RowKit
open Go.ChangeMaps (open_string shut_string)
set_option linter.unusedVariables false

theorem own : ownKnob Try.prog.godebug = none := by kernel_rfl
theorem laidOut : laidOutB Try.prog = true := by kernel_rfl

/-- A slice of integers that came in: nil, or a row of cells. -/
def IsRow (k : IntKind) (w : World) (a : Option Addr) (len cap : Nat) (zs : List Int) : Prop :=
  (a = none ∧ len = 0 ∧ cap = 0 ∧ zs = []) ∨
  ∃ x, a = some x ∧ len ≤ cap ∧ cap ≤ maxLen ∧ zs.length = cap ∧ (∀ i, i < zs.length → w.cell? (x.add i) = some (.int k (zs.getD i 0))) ∧ ∀ n ∈ zs, (Lit.int k n).wf = true

theorem fits_one {k : Nat × Nat} {N : Nat} (hN : N ≤ 4) : fitsT (Two.tableOf [k] N : Nat) (N : Int) = true := by
  have h := Two.tableOf_lt [k] N
  unfold fitsT
  rw [decide_eq_true_eq, show ((N : Int).toNat) = N from rfl, two_pow]
  omega
/-- The walk: the Go text returns true. -/
theorem walk (a0 : Option Addr) (len0 cap0 : Nat) (z0 : List Int) (w : World) (w0 : IsRow .u8 w a0 len0 cap0 z0) :
    Calls Try.prog 9 #[.slice a0 len0 cap0] w fun e w' => e = .returned (.bool true) ∧ Below w.heap.size w w' := by
  obtain ⟨bs, rfl, hwf, hr⟩ := Row.given w0
  clear w0
  by_cases hl : bs.length ≤ 1048576
  · have Hr := Lib.hid hr
    clear hr
    go_enter Try.func9, Try.ntmps9
    go_wp2_with fail
    refine (drawPrimes_any _ bs w Hr.out hwf hl).mono ?_
    rintro e w1 ⟨t, n, rfl, t0, t1, n0, n1, hb1⟩
    have Hb1 := Lib.hid hb1
    clear hb1 Hr hwf
    go_wp2_with fail
    refine (implPrimes_any t n _).mono ?_
    rintro e w2 ⟨v2, rfl, hown2, hb2⟩
    have Ho2 := Lib.hid hown2
    have Hb2 := Lib.hid (Hb1.out.trans (hb2.mono Hb1.out.size))
    clear hown2 hb2 Hb1
    go_wp2_with fail
    refine (specPrimes_any t n _).mono ?_
    rintro e w3 ⟨v3, rfl, hown3, hb3⟩
    have Ho3 := Lib.hid hown3
    have Ho23 := Lib.hid (own_below Ho2.out hb3)
    have Hb3 := Lib.hid (Hb2.out.trans (hb3.mono Hb2.out.size))
    clear hown3 hb3 Hb2 Ho2
    go_wp2_with fail
    refine (sameCubes_any _ _ ((primesI t n).map intK) ((primesI t n).map intK) _ (cubesN_own Ho23.out) (cubesN_own Ho3.out)).mono ?_
    rintro e w4 ⟨rfl, hb4⟩
    have hd : decide ((primesI t n).map intK = (primesI t n).map intK) = true := decide_eq_true rfl
    rw [hd]
    have Hc4 : Hid (CubesN w4 v2 (primesI t n)) := Lib.hid (cubesN_own (own_below Ho23.out hb4))
    have Hb4 := Lib.hid (Hb3.out.trans (hb4.mono Hb3.out.size))
    clear hd hb4 Hb3 Ho3 Ho23
    have hlen := primesI_len t n
    have HL : Hid (∀ k ∈ primesI t n, ∃ T N : Nat, t = T ∧ n = N ∧ N ≤ 4 ∧ k.1 < 2 ^ N ∧ k.2 < 2 ^ N ∧ Two.fine k = true) := Lib.hid fun k hk => by
      cases hf : fitsT t n
      · unfold primesI at hk; rw [hf] at hk; simp at hk
      · obtain ⟨T, N, rfl, rfl, hN, _⟩ := fitsT_nat hf
        unfold primesI at hk; rw [hf] at hk
        have h1 := Two.mem_implicants.1 (Two.mem_primes.1 hk).1
        exact ⟨T, N, rfl, rfl, hN, h1.1, h1.2.1, h1.2.2.1⟩
    generalize primesI t n = L at *
    obtain ⟨A, c, hv, hcn, hcm⟩ := Row.shape Hc4.out
    rw [List.length_map] at hv hcn
    subst hv
    unfold maxLen at hcm
    go_wp2_with fail
    go_loopw [6] (fun i wr => ∃ k : Nat, k ≤ L.length ∧ i = .int .i64 k ∧ Below w4.heap.size w4 wr) (fun i _ => L.length - (intOf i).toNat)
    case atStart => exact ⟨0, Nat.zero_le _, rfl, Below.refl _ _⟩
    case round =>
      obtain ⟨i, hi, rfl, hb⟩ := hrel
      by_cases hlt : i < L.length
      · obtain ⟨b, o, k, rfl, hbl, hx, hs1, hs2⟩ := cubesN_open Hc4.out hb rfl hlt
        have Hsub := Lib.hid (cubesN_sub Hc4.out hb rfl hx.out)
        have Hb := Lib.hid hb
        obtain ⟨T, N, rfl, rfl, hN, hk1, hk2, hkf⟩ := HL.out k (List.mem_of_getElem? hx.out)
        have hcov : coverI N ([k].map intK) = (Two.tableOf [k] N : Int) := cover_nat hN (by simp) (fun q hq => by rw [List.mem_singleton.1 hq]; exact ⟨hk1, hkf⟩)
        have hpr : primesI (Two.tableOf [k] N : Nat) (N : Int) = [k] := by
          unfold primesI
          rw [fits_one hN]
          exact Two.primes_one hkf hk1 hk2
        have Hk := Lib.hid (And.intro hk1 (And.intro hk2 hkf))
        have hcc := implCover_any _ ([k].map intK) N wr Hsub.out (fun q hq => by
          obtain ⟨q', hq', rfl⟩ := List.mem_map.1 hq
          rw [List.mem_singleton.1 hq']
          have h3 : 2 ^ N ≤ 16 := Nat.pow_le_pow_right (show 0 < 2 by decide) hN
          unfold WfK intK
          have := Hk.out.2.1
          simp only
          omega)
        rw [hcov] at hcc
        have hpp := fun w => implPrimes_any (Two.tableOf [k] N : Nat) (N : Int) w
        have Hpr := Lib.hid hpr
        have Hpp := Lib.hid hpp
        have hic : i < c := by omega
        have hwr : IntKind.i64.wrap ((i : Int) + 1) = (i : Int) + 1 := IntWalk.i64_in _ (by omega)
        have hp0 : (0 : Int) ≤ (i : Int) + 1 := by omega
        have hp2 : ((i : Int) + 1).toNat = i + 1 := by omega
        have hp3 : (i : Int) + 1 ≤ (c : Int) := by omega
        have hp4 : i + 1 ≤ c := by omega
        clear hcov hpr hpp hb hk1 hk2 hkf
        generalize (Two.tableOf [k] N : Nat) = tk at *
        go_wp2_with fail
        refine hcc.mono ?_
        rintro e w5 ⟨rfl, hb5⟩
        have hz := Hb.out.size
        have e1 := (hb5.cell (p := ⟨b, o + i * 2, none⟩) (by simp only; omega)).trans hs1
        have e2 := (hb5.cell (p := ⟨b, o + i * 2 + 1, none⟩) (by simp only; omega)).trans hs2
        have Hb5 := Lib.hid (Hb.out.trans (hb5.mono hz))
        clear hcc hb5 hs1 hs2 Hb
        go_wp2_with fail
        refine (Hpp.out _).mono ?_
        rintro e w6 ⟨v6, rfl, hown6, hb6⟩
        rw [Hpr.out] at hown6
        have hz5 := Hb5.out.size
        have d1 := (hb6.cell (p := ⟨b, o + i * 2, none⟩) (by simp only; omega)).trans e1
        have d2 := (hb6.cell (p := ⟨b, o + i * 2 + 1, none⟩) (by simp only; omega)).trans e2
        have Hb6 := Lib.hid (Hb5.out.trans (hb6.mono hz5))
        have hz6 := Hb6.out.size
        obtain ⟨g, c6, hv6, _, hgl, hc6, hcm6⟩ := own_open hown6 (by simp)
        obtain ⟨gb, go, q, hA6, hbl6, hx6, q1, q2⟩ := cubesN_open (hv6 ▸ cubesN_own hown6) (Below.refl _ w6) (i := 0) rfl (by simp)
        obtain rfl : k = q := by have := hx6.out; simpa using this
        injection hA6 with hA6
        injection hA6 with hA7 hA8
        subst hA7 hA8 hv6
        have g1 := gw_cell d1 (by simp only; omega)
        have g2 := gw_cell d2 (by simp only; omega)
        have g3 := gw_cell q1 (by simp only; omega)
        have g4 := gw_cell q2 (by simp only; omega)
        have hne := fun w => cube_neq w k.1 k.2 k.1 k.2
        have hgd := cube_guard
        have hde : decide (((k.1 : Int), (k.2 : Int)) = ((k.1 : Int), (k.2 : Int))) = true := decide_eq_true rfl
        rw [hde] at hne
        clear hde hown6 hb6 e1 e2 d1 d2 q1 q2
        go_wp2_with fail
        refine wp_region_grow (by kernel_rfl) (by kernel_rfl) ?_
        repeat (go_big_quiet_step ((fail)))
        refine wpQuiet_nil ?_
        intro _ hw'
        obtain ⟨nq, hw''⟩ := hw'
        subst hw''
        have hgq := gw_below nq
        generalize gw nq = wq at *
        clear nq
        clear hne
        go_wp2_with fail
        go_roundw
        case rel => exact ⟨i + 1, by omega, by go_num, Hb6.out.trans (hgq.mono hz6)⟩
        case measure => simp [intOf] <;> omega
      · have Hb5 := Lib.hid (Hb4.out.trans (hb.mono Hb4.out.size))
        go_wp2_with fail
        refine (alive_any _).mono ?_
        rintro e w6 ⟨rfl, hb6⟩
        go_wp2_with fail
        go_ret
        exact ⟨rfl, Hb5.out.trans (hb6.mono Hb5.out.size)⟩
  · go_enter Try.func9, Try.ntmps9
    go_wp2
    go_ret
    exact ⟨rfl, Below.refl _ _⟩

/-! The step from the walk to the row. -/
set_option maxRecDepth 100000 in
theorem lifted (os : Os) (started : os.Started) (H : Type) (enc : TypeId × Value → H) :
    ReturnsInHanded {} Try.checked os 9 .any (Rows.fnPrimeIdentitySpec.pre6 enc Try.prog Try.f9 Rows.fnPrimeIdentityRow.domain false) (Rows.fnPrimeIdentitySpec.post enc Try.prog Try.f9 false true false false) := by
  refine returnsInHanded_of_change (C := Try.checked) own started (by kernel_rfl) Try.func9
    (ChangeSpec.witness6 (enc := enc) (C := Try.checked) false ⟨#[], #[.slice none 0 0], []⟩ 8 (by kernel_rfl) (by kernel_rfl) (by kernel_rfl) (by kernel_rfl)) ?_
  intro W base args ds gs before hval0 hW hcnd _
  have hval : ∀ (j : Nat) t v, Try.f9.params[j]? = some t → args[j]? = some v → Value.okWide Try.prog W .any base t v := hval0
  have hW' := hW
  obtain ⟨p, q, hA0, hV, rfl, hfz, hnd⟩ := hW
  have hA : DataW.TrodAll enc Try.prog W 0 (fun _ => true) true Try.f9.params.toList args.toList ds p := hA0
  rw [Try.params9] at hA hval
  obtain ⟨v0, vs0, d0, ds0, p0, q0, hargs, rfl, rfl, h0, r0⟩ := trodAll_cons hA
  obtain ⟨rfl, rfl, rfl⟩ := trodAll_nil r0
  obtain rfl : args = #[v0] := by cases args; simp_all
  obtain ⟨rfl, rfl⟩ := trodVars_none hV
  obtain ⟨a0, len0, cap0, rfl⟩ := okWide_slice Try.underlying28 (hval 0 28 v0 rfl rfl)
  have k0 := h0
  have lt0 : ∀ x ∈ p0, x.block < W.heap.size := by obtain ⟨m, hm⟩ := k0; exact DataW.trod_lt m _ _ _ hm
  obtain ⟨z0, w0⟩ : ∃ zs, IsRow .u8 W a0 len0 cap0 zs := by
    obtain ⟨fuel, hf⟩ := h0
    rcases open_ints Try.underlying28 Try.underlying5 (by kernel_rfl) hf with ⟨hcs, _⟩ | ⟨x, l, c, zs, hcs, _, hl, hm, hz, _, hcell, hwz⟩
    · simp [Value.cells] at hcs
      obtain ⟨rfl, rfl, rfl⟩ := hcs
      exact ⟨[], .inl ⟨rfl, rfl, rfl, rfl⟩⟩
    · simp [Value.cells] at hcs
      obtain ⟨rfl, rfl, rfl⟩ := hcs
      exact ⟨zs, .inr ⟨_, rfl, hl, hm, by simpa using hz, hcell, hwz⟩⟩
  clear hA0 hval0
  refine (walk a0 len0 cap0 z0 W w0).mono fun e W' ⟨he, bel⟩ => ?_
  subst he
  exact ⟨_, rfl, _, _, _, [], _, [], hW', trodAll_mk1 (shut_bool Try.underlying4 _), (trodAll_cons_mk (Below.trod laidOut (by kernel_rfl) (of_decide_eq_true (by kernel_rfl)) k0 bel lt0) trodAll_mk0), rfl, bel.frame _, fun h => by cases h⟩

theorem over : Rows.fnPrimeIdentityRow.holds Try.pinned (OpenSpec.ofChange Rows.fnPrimeIdentitySpec) :=
  OpenClaim.holds_of_wide 9 Try.f9 rfl rfl rfl rfl rfl rfl rfl ⟨rfl, rfl, rfl, rfl, rfl⟩ rfl rfl rfl rfl rfl (by kernel_rfl) Try.func9 (by kernel_rfl)
    (of_decide_eq_true (by kernel_rfl)) (by unfold Func.isWrapper; first | (rw [if_pos (by decide +kernel)]; kernel_rfl) | (rw [if_neg (by decide +kernel)]; exact ⟨rfl, rfl⟩))
    (fun os started H enc _ => lifted os started H enc)

/-- The statement. -/
theorem proved : Rows.FnPrimeIdentitySaid := over
#print axioms proved
end Go.Proofs.Ytlpellciiiflkaa.fnPrimeIdentity
