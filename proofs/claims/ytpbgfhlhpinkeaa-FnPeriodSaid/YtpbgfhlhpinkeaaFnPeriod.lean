/-
  FnPeriod: The program's Period is the reference's at the drawn register; the period is the first return, 0 has the period 1, and where the taps are odd there is one.
  Conditions: none. For every input that the row reads, the Go function laws.FnPeriod returns true and leaves its arguments as they were.
-/
import Derived.Test.YtpbgfhlhpinkeaaRegF
import Derived.Test.YtpbgfhlhpinkeaaRegL
import Derived.Test.YtpbgfhlhpinkeaaAlive
import Derived.Test.YtpbgfhlhpinkeaaRows
import Derived.WalkKit
import Derived.ProofKit
import Derived.OpenShut
import Derived.ShutString
import Derived.ChangeOld
import Derived.Below
namespace Go.Proofs.Ytpbgfhlhpinkeaa.fnPeriod
open Go.ChangeShapes Go.WideShapes Go.ChangeAt Go.RowKit
open Go.ChangeMaps (open_string shut_string)
set_option linter.unusedVariables false

open Reg
theorem own : ownKnob Try.prog.godebug = none := by kernel_rfl
theorem laidOut : laidOutB Try.prog = true := by kernel_rfl

/-- A slice of integers that came in: nil, or a row of cells. -/
def IsRow (k : IntKind) (w : World) (a : Option Addr) (len cap : Nat) (zs : List Int) : Prop :=
  (a = none ∧ len = 0 ∧ cap = 0 ∧ zs = []) ∨
  ∃ x, a = some x ∧ len ≤ cap ∧ cap ≤ maxLen ∧ zs.length = cap ∧ (∀ i, i < zs.length → w.cell? (x.add i) = some (.int k (zs.getD i 0))) ∧ ∀ n ∈ zs, (Lit.int k n).wf = true


set_option maxHeartbeats 2000000 in
/-- The walk: the Go text returns true. -/
theorem walk (a0 : Option Addr) (len0 cap0 : Nat) (z0 : List Int) (w : World) (w0 : IsRow .u8 w a0 len0 cap0 z0) :
    Calls Try.prog 9 #[.slice a0 len0 cap0] w fun e w' => e = .returned (.bool true) ∧ Below w.heap.size w w' := by
  obtain ⟨bs, rfl, hwf, hr⟩ := Row.given w0
  clear w0
  by_cases hl : bs.length ≤ 1048576
  · have Hr := Lib.hid hr
    clear hr
    go_enter Try.func9, Try.ntmps9
    go_wp2_with fail
    refine (drawPeriod_any _ bs w Hr.out hwf hl).mono ?_
    rintro e w1 ⟨n, t, s, rfl, hs0, hs1, hn0, hn1, ht0, ht1, hb1⟩
    have Hb := Lib.hid hb1
    clear hb1 Hr hwf
    go_wp2_with fail
    refine (implPeriod_any n t s _).mono ?_
    rintro e w' ⟨rfl, rfl⟩
    go_wp2_with fail
    refine (specPeriod_any n t s _).mono ?_
    rintro e w' ⟨rfl, rfl⟩
    cases h : fits n t s
    · have hx := period_unfit h
      have Hf := Lib.hid h
      clear h
      go_wp2_with fail
      refine (alive_any _).mono ?_
      rintro e w2 ⟨rfl, hb2⟩
      go_wp2_with fail
      go_ret
      exact ⟨rfl, Hb.out.trans (hb2.mono Hb.out.size)⟩
    · obtain ⟨N, T, S, rfl, rfl, rfl, h1, h2, h3, h4⟩ := fits_nat h
      rw [period_fit h]
      have hz : period N T 0 = 1 := by
        have h0 : fits N T (0 : Nat) = true := fits_mk h1 h2 h3 (Nat.two_pow_pos N)
        have := period_fit h0
        rw [perN_zero] at this
        exact this
      obtain ⟨M, hM, e, hp, hp0⟩ : ∃ M : Nat, Hid (2 ^ N = M) ∧ (2 : Int) ^ N = (M : Int) ∧ M ≤ 1024 ∧ 1 ≤ M := ⟨2 ^ N, Lib.hid rfl, two_pow N, pow_le_nat h2, Nat.one_le_two_pow⟩
      obtain ⟨p, hpe, hpM, hodd, hfirst⟩ : ∃ p, perN N T S = p ∧ p ≤ M ∧ (T % 2 = 1 → 1 ≤ p) ∧ (1 ≤ p → NoBack N T S p ∧ iterN N T S p = S) := by
        rcases perN_spec N T S with ⟨k, k1, k2, k3, k4, k5⟩ | ⟨k1, k2⟩
        · exact ⟨k, k5, by rw [← hM.out]; exact k2, fun _ => k1, fun _ => ⟨k3, k4⟩⟩
        · refine ⟨0, k2, by omega, fun ho => ?_, fun h => by omega⟩
          exact absurd k1 (returns h1 ho h3 h4)
      rw [hpe]
      have H3 := Lib.hid h3
      have H4 := Lib.hid h4
      have Hfirst := Lib.hid hfirst
      have Hodd := Lib.hid hodd
      clear h h3 h4 hpe hfirst hodd
      go_wp2_with fail
      go_loop [7, 8] (fun a i => ∃ k : Nat, k ≤ p ∧ i = .int .i64 (k + 1) ∧ a = .int .i64 (iterN N T S k)) (fun _ i => p + 1 - (intOf i).toNat)
      case atStart => exact ⟨0, Nat.zero_le _, rfl, rfl⟩
      case round =>
        obtain ⟨k, hk, rfl, rfl⟩ := hrel
        have hlt := Lib.hid (iterN_lt (s := S) H3.out H4.out k)
        by_cases hle : k < p
        · have hsucc : nextN N T (iterN N T S k) = iterN N T S (k + 1) := rfl
          obtain ⟨hnb, hpp⟩ := Hfirst.out (by omega)
          by_cases hkp : k + 1 = p
          · have d1 : (((iterN N T S (k + 1) : Nat) : Int) == (S : Int)) = true := by rw [hkp, hpp]; simp
            have d2 : (((k : Int) + 1) == (p : Int)) = true := by rw [beq_iff_eq]; omega
            have Hkp := Lib.hid hkp
            clear hkp hnb hpp
            go_wp2_with (go_at_call 14; refine (implNext_nat _ _ _ _ h1 h2 H3.out hlt.out).mono ?_; rintro e w' ⟨rfl, rfl⟩)
            go_round
            case rel => exact ⟨k + 1, by omega, by go_num, rfl⟩
            case measure => simp [intOf]; omega
          · have hne := hnb (k + 1) (by omega) (by omega)
            have d1 : (((iterN N T S (k + 1) : Nat) : Int) == (S : Int)) = false := by rw [beq_eq_false_iff_ne]; intro hh; exact hne (Int.ofNat.inj hh)
            have d2 : (((k : Int) + 1) == (p : Int)) = false := by rw [beq_eq_false_iff_ne]; omega
            have Hkp := Lib.hid hkp
            clear hkp hnb hpp hne
            go_wp2_with (go_at_call 14; refine (implNext_nat _ _ _ _ h1 h2 H3.out hlt.out).mono ?_; rintro e w' ⟨rfl, rfl⟩)
            go_round
            case rel => exact ⟨k + 1, by omega, by go_num, rfl⟩
            case measure => simp [intOf]; omega
        · by_cases ht : T % 2 = 1
          · have d1 : (((T : Int) % 2) == 0) = false := by rw [beq_eq_false_iff_ne]; omega
            have hpp := Hodd.out ht
            have d4 : decide ((0 : Int) < (p : Int)) = true := decide_eq_true (by omega)
            have Ht := Lib.hid ht
            clear ht
            go_wp2_with fail
            refine (implPeriod_any _ _ _ _).mono ?_
            rintro e w' ⟨rfl, rfl⟩
            go_wp2_with fail
            go_ret
            exact ⟨ret_bool (by simp; omega), Hb.out⟩
          · have d1 : (((T : Int) % 2) == 0) = true := by rw [beq_iff_eq]; omega
            have Ht := Lib.hid ht
            clear ht
            go_wp2_with fail
            refine (implPeriod_any _ _ _ _).mono ?_
            rintro e w' ⟨rfl, rfl⟩
            go_wp2_with fail
            go_ret
            exact ⟨rfl, Hb.out⟩
  · go_enter Try.func9, Try.ntmps9
    go_wp2
    go_ret
    exact ⟨rfl, Below.refl _ _⟩

/-! The step from the walk to the row. -/
set_option maxRecDepth 100000 in
theorem lifted (os : Os) (started : os.Started) (H : Type) (enc : TypeId × Value → H) :
    ReturnsInHanded {} Try.checked os 9 .any (Rows.fnPeriodSpec.pre6 enc Try.prog Try.f9 Rows.fnPeriodRow.domain false) (Rows.fnPeriodSpec.post enc Try.prog Try.f9 false true false false) := by
  refine returnsInHanded_of_change (C := Try.checked) own started (by kernel_rfl) Try.func9
    (ChangeSpec.witness6 (enc := enc) (C := Try.checked) false ⟨#[], #[.slice none 0 0], []⟩ 8 (by kernel_rfl) (by kernel_rfl) (by kernel_rfl) (by kernel_rfl)) ?_
  intro W base args ds gs before hval0 hW hcnd _
  have hval : ∀ (j : Nat) t v, Try.f9.params[j]? = some t → args[j]? = some v → Value.okWide Try.prog W .any base t v := hval0
  have hW' := hW
  obtain ⟨p, q, hA0, hV, rfl, hfz, hnd⟩ := hW
  have hA : DataW.TrodAll enc Try.prog W 0 (fun _ => true) true Try.f9.params.toList args.toList ds p := hA0
  rw [Try.params9] at hA hval
  obtain ⟨v0, vs0, d0, ds0, p0, q0, hargs, rfl, rfl, h0, r0⟩ := trodAll_cons hA
  obtain ⟨rfl, rfl, rfl⟩ := trodAll_nil r0
  obtain rfl : args = #[v0] := by cases args; simp_all
  obtain ⟨rfl, rfl⟩ := trodVars_none hV
  obtain ⟨a0, len0, cap0, rfl⟩ := okWide_slice Try.underlying22 (hval 0 22 v0 rfl rfl)
  have k0 := h0
  have lt0 : ∀ x ∈ p0, x.block < W.heap.size := by obtain ⟨m, hm⟩ := k0; exact DataW.trod_lt m _ _ _ hm
  obtain ⟨z0, w0⟩ : ∃ zs, IsRow .u8 W a0 len0 cap0 zs := by
    obtain ⟨fuel, hf⟩ := h0
    rcases open_ints Try.underlying22 Try.underlying5 (by kernel_rfl) hf with ⟨hcs, _⟩ | ⟨x, l, c, zs, hcs, _, hl, hm, hz, _, hcell, hwz⟩
    · simp [Value.cells] at hcs
      obtain ⟨rfl, rfl, rfl⟩ := hcs
      exact ⟨[], .inl ⟨rfl, rfl, rfl, rfl⟩⟩
    · simp [Value.cells] at hcs
      obtain ⟨rfl, rfl, rfl⟩ := hcs
      exact ⟨zs, .inr ⟨_, rfl, hl, hm, by simpa using hz, hcell, hwz⟩⟩
  clear hA0 hval0
  refine (walk a0 len0 cap0 z0 W w0).mono fun e W' ⟨he, bel⟩ => ?_
  subst he
  exact ⟨_, rfl, _, _, _, [], _, [], hW', trodAll_mk1 (shut_bool Try.underlying4 _), (trodAll_cons_mk (Below.trod laidOut (by kernel_rfl) (of_decide_eq_true (by kernel_rfl)) k0 bel lt0) trodAll_mk0), rfl, bel.frame _, fun h => by cases h⟩

theorem over : Rows.fnPeriodRow.holds Try.pinned (OpenSpec.ofChange Rows.fnPeriodSpec) :=
  OpenClaim.holds_of_wide 9 Try.f9 rfl rfl rfl rfl rfl rfl rfl ⟨rfl, rfl, rfl, rfl, rfl⟩ rfl rfl rfl rfl rfl (by kernel_rfl) Try.func9 (by kernel_rfl)
    (of_decide_eq_true (by kernel_rfl)) (by unfold Func.isWrapper; first | (rw [if_pos (by decide +kernel)]; kernel_rfl) | (rw [if_neg (by decide +kernel)]; exact ⟨rfl, rfl⟩))
    (fun os started H enc _ => lifted os started H enc)

/-- The statement. -/
theorem proved : Rows.FnPeriodSaid := over
#print axioms proved
end Go.Proofs.Ytpbgfhlhpinkeaa.fnPeriod
