/-
  FnShiftPermutes: The program's ShiftNext is the reference's at the drawn register, and where the taps are odd no other state has the same next state.
  Conditions: none. For every input that the row reads, the Go function laws.FnShiftPermutes returns true and leaves its arguments as they were.
-/
import Derived.Test.YtpbgfhlhpinkeaaRegF
import Derived.Test.YtpbgfhlhpinkeaaRegL
import Derived.Test.YtpbgfhlhpinkeaaAlive
import Derived.Test.YtpbgfhlhpinkeaaRows
import Derived.WalkKit
import Derived.ProofKit
import Derived.OpenShut
import Derived.ShutString
import Derived.ChangeOld
import Derived.Below
namespace Go.Proofs.Ytpbgfhlhpinkeaa.fnShiftPermutes
open Go.ChangeShapes Go.WideShapes Go.ChangeAt Go.RowKit
open Go.ChangeMaps (open_string shut_string)
set_option linter.unusedVariables false

open Reg
theorem own : ownKnob Try.prog.godebug = none := by kernel_rfl
theorem laidOut : laidOutB Try.prog = true := by kernel_rfl

/-- A slice of integers that came in: nil, or a row of cells. -/
def IsRow (k : IntKind) (w : World) (a : Option Addr) (len cap : Nat) (zs : List Int) : Prop :=
  (a = none ∧ len = 0 ∧ cap = 0 ∧ zs = []) ∨
  ∃ x, a = some x ∧ len ≤ cap ∧ cap ≤ maxLen ∧ zs.length = cap ∧ (∀ i, i < zs.length → w.cell? (x.add i) = some (.int k (zs.getD i 0))) ∧ ∀ n ∈ zs, (Lit.int k n).wf = true


set_option maxHeartbeats 2000000 in
/-- The walk: the Go text returns true. -/
theorem walk (a0 : Option Addr) (len0 cap0 : Nat) (z0 : List Int) (w : World) (w0 : IsRow .u8 w a0 len0 cap0 z0) :
    Calls Try.prog 8 #[.slice a0 len0 cap0] w fun e w' => e = .returned (.bool true) ∧ Below w.heap.size w w' := by
  obtain ⟨bs, rfl, hwf, hr⟩ := Row.given w0
  clear w0
  by_cases hl : bs.length ≤ 1048576
  · have Hr := Lib.hid hr
    clear hr
    go_enter Try.func8, Try.ntmps8
    go_wp2_with fail
    refine (drawShift_any _ bs w Hr.out hwf hl).mono ?_
    rintro e w1 ⟨n, t, s, rfl, hs0, hs1, hn0, hn1, ht0, ht1, hb1⟩
    have Hb := Lib.hid hb1
    clear hb1 Hr hwf
    go_wp2_with fail
    refine (implNext_any n t s _).mono ?_
    rintro e w' ⟨rfl, rfl⟩
    go_wp2_with fail
    refine (specNext_any n t s _).mono ?_
    rintro e w' ⟨rfl, rfl⟩
    cases h : fits n t s
    · have hx := next_unfit h
      have Hf := Lib.hid h
      clear h
      go_wp2_with fail
      refine (alive_any _).mono ?_
      rintro e w2 ⟨rfl, hb2⟩
      go_wp2_with fail
      go_ret
      exact ⟨rfl, Hb.out.trans (hb2.mono Hb.out.size)⟩
    · obtain ⟨N, T, S, rfl, rfl, rfl, h1, h2, h3, h4⟩ := fits_nat h
      have hx : next N T S = (nextN N T S : Int) := next_fit h
      have hxlt := nextN_lt N T S h3
      rw [hx]
      clear hx
      obtain ⟨M, hM, e, hp, hp0⟩ : ∃ M : Nat, Hid (2 ^ N = M) ∧ (2 : Int) ^ N = (M : Int) ∧ M ≤ 1024 ∧ 1 ≤ M := ⟨2 ^ N, Lib.hid rfl, two_pow N, pow_le_nat h2, Nat.one_le_two_pow⟩
      have H3 := Lib.hid h3
      have H4 := Lib.hid h4
      have Hx := Lib.hid hxlt
      clear h h3 h4 hxlt
      by_cases ht : T % 2 = 1
      · have d1 : (((T : Int) % 2) == 0) = false := by rw [beq_eq_false_iff_ne]; omega
        have Ht := Lib.hid ht
        clear ht
        go_wp2_with fail
        go_loop [7] (fun i => ∃ k : Nat, k ≤ M ∧ i = .int .i64 k) (fun i => M - (intOf i).toNat)
        case atStart => exact ⟨0, Nat.zero_le _, rfl⟩
        case round =>
          obtain ⟨k, hk, rfl⟩ := hrel
          by_cases hlt : k < M
          · have hkN := Lib.hid (show k < 2 ^ N by rw [hM.out]; exact hlt)
            by_cases hks : k = S
            · have d2 : ((k : Int) != (S : Int)) = false := by rw [hks]; simp
              have Hks := Lib.hid hks
              clear hks
              go_wp2_with fail
              go_round
              case rel => exact ⟨k + 1, by omega, by go_num⟩
              case measure => simp [intOf]; omega
            · have d2 : ((k : Int) != (S : Int)) = true := by rw [bne_iff_ne]; omega
              have d3 : ((nextN N T k : Int) == (nextN N T S : Int)) = false := by
                rw [beq_eq_false_iff_ne]
                intro hxy
                exact hks (nextN_inj h1 Ht.out hkN.out H4.out (Int.ofNat.inj hxy))
              have Hks := Lib.hid hks
              clear hks
              go_wp2_with (go_at_call 14; refine (implNext_nat _ _ _ _ h1 h2 H3.out hkN.out).mono ?_; rintro e w' ⟨rfl, rfl⟩)
              go_round
              case rel => exact ⟨k + 1, by omega, by go_num⟩
              case measure => simp [intOf]; omega
          · go_wp2_with fail
            go_ret
            exact ⟨rfl, Hb.out⟩
      · have d1 : (((T : Int) % 2) == 0) = true := by rw [beq_iff_eq]; omega
        have Ht := Lib.hid ht
        clear ht
        go_wp2_with fail
        refine (alive_any _).mono ?_
        rintro e w2 ⟨rfl, hb2⟩
        go_wp2_with fail
        go_ret
        exact ⟨rfl, Hb.out.trans (hb2.mono Hb.out.size)⟩
  · go_enter Try.func8, Try.ntmps8
    go_wp2
    go_ret
    exact ⟨rfl, Below.refl _ _⟩

/-! The step from the walk to the row. -/
set_option maxRecDepth 100000 in
theorem lifted (os : Os) (started : os.Started) (H : Type) (enc : TypeId × Value → H) :
    ReturnsInHanded {} Try.checked os 8 .any (Rows.fnShiftPermutesSpec.pre6 enc Try.prog Try.f8 Rows.fnShiftPermutesRow.domain false) (Rows.fnShiftPermutesSpec.post enc Try.prog Try.f8 false true false false) := by
  refine returnsInHanded_of_change (C := Try.checked) own started (by kernel_rfl) Try.func8
    (ChangeSpec.witness6 (enc := enc) (C := Try.checked) false ⟨#[], #[.slice none 0 0], []⟩ 8 (by kernel_rfl) (by kernel_rfl) (by kernel_rfl) (by kernel_rfl)) ?_
  intro W base args ds gs before hval0 hW hcnd _
  have hval : ∀ (j : Nat) t v, Try.f8.params[j]? = some t → args[j]? = some v → Value.okWide Try.prog W .any base t v := hval0
  have hW' := hW
  obtain ⟨p, q, hA0, hV, rfl, hfz, hnd⟩ := hW
  have hA : DataW.TrodAll enc Try.prog W 0 (fun _ => true) true Try.f8.params.toList args.toList ds p := hA0
  rw [Try.params8] at hA hval
  obtain ⟨v0, vs0, d0, ds0, p0, q0, hargs, rfl, rfl, h0, r0⟩ := trodAll_cons hA
  obtain ⟨rfl, rfl, rfl⟩ := trodAll_nil r0
  obtain rfl : args = #[v0] := by cases args; simp_all
  obtain ⟨rfl, rfl⟩ := trodVars_none hV
  obtain ⟨a0, len0, cap0, rfl⟩ := okWide_slice Try.underlying22 (hval 0 22 v0 rfl rfl)
  have k0 := h0
  have lt0 : ∀ x ∈ p0, x.block < W.heap.size := by obtain ⟨m, hm⟩ := k0; exact DataW.trod_lt m _ _ _ hm
  obtain ⟨z0, w0⟩ : ∃ zs, IsRow .u8 W a0 len0 cap0 zs := by
    obtain ⟨fuel, hf⟩ := h0
    rcases open_ints Try.underlying22 Try.underlying5 (by kernel_rfl) hf with ⟨hcs, _⟩ | ⟨x, l, c, zs, hcs, _, hl, hm, hz, _, hcell, hwz⟩
    · simp [Value.cells] at hcs
      obtain ⟨rfl, rfl, rfl⟩ := hcs
      exact ⟨[], .inl ⟨rfl, rfl, rfl, rfl⟩⟩
    · simp [Value.cells] at hcs
      obtain ⟨rfl, rfl, rfl⟩ := hcs
      exact ⟨zs, .inr ⟨_, rfl, hl, hm, by simpa using hz, hcell, hwz⟩⟩
  clear hA0 hval0
  refine (walk a0 len0 cap0 z0 W w0).mono fun e W' ⟨he, bel⟩ => ?_
  subst he
  exact ⟨_, rfl, _, _, _, [], _, [], hW', trodAll_mk1 (shut_bool Try.underlying4 _), (trodAll_cons_mk (Below.trod laidOut (by kernel_rfl) (of_decide_eq_true (by kernel_rfl)) k0 bel lt0) trodAll_mk0), rfl, bel.frame _, fun h => by cases h⟩

theorem over : Rows.fnShiftPermutesRow.holds Try.pinned (OpenSpec.ofChange Rows.fnShiftPermutesSpec) :=
  OpenClaim.holds_of_wide 8 Try.f8 rfl rfl rfl rfl rfl rfl rfl ⟨rfl, rfl, rfl, rfl, rfl⟩ rfl rfl rfl rfl rfl (by kernel_rfl) Try.func8 (by kernel_rfl)
    (of_decide_eq_true (by kernel_rfl)) (by unfold Func.isWrapper; first | (rw [if_pos (by decide +kernel)]; kernel_rfl) | (rw [if_neg (by decide +kernel)]; exact ⟨rfl, rfl⟩))
    (fun os started H enc _ => lifted os started H enc)

/-- The statement. -/
theorem proved : Rows.FnShiftPermutesSaid := over
#print axioms proved
end Go.Proofs.Ytpbgfhlhpinkeaa.fnShiftPermutes
