/-
  FnShiftNext: The program's ShiftNext is the reference's at the drawn register; it is -1 just where the register is none; else it is linear, keeps 0, and stays in its range.
  Conditions: none. For every input that the row reads, the Go function laws.FnShiftNext returns true and leaves its arguments as they were.
-/
import Derived.Test.YtpbgfhlhpinkeaaRegF
import Derived.Test.YtpbgfhlhpinkeaaRegL
import Derived.Test.YtpbgfhlhpinkeaaRows
import Derived.WalkKit
import Derived.ProofKit
import Derived.OpenShut
import Derived.ShutString
import Derived.ChangeOld
import Derived.Below
namespace Go.Proofs.Ytpbgfhlhpinkeaa.fnShiftNext
open Go.ChangeShapes Go.WideShapes Go.ChangeAt Go.RowKit
open Go.ChangeMaps (open_string shut_string)
set_option linter.unusedVariables false

open Reg
theorem own : ownKnob Try.prog.godebug = none := by kernel_rfl
theorem laidOut : laidOutB Try.prog = true := by kernel_rfl

/-- A slice of integers that came in: nil, or a row of cells. -/
def IsRow (k : IntKind) (w : World) (a : Option Addr) (len cap : Nat) (zs : List Int) : Prop :=
  (a = none ∧ len = 0 ∧ cap = 0 ∧ zs = []) ∨
  ∃ x, a = some x ∧ len ≤ cap ∧ cap ≤ maxLen ∧ zs.length = cap ∧ (∀ i, i < zs.length → w.cell? (x.add i) = some (.int k (zs.getD i 0))) ∧ ∀ n ∈ zs, (Lit.int k n).wf = true

theorem lin {N T S m : Nat} (h2 : N ≤ 10) (h3 : T < 2 ^ N) (h4 : S < 2 ^ N) (hm : m < 2 ^ N) : ((nextN N T (S ^^^ m) : Int) == bits .xor .i64 (nextN N T S) (nextN N T m)) = true := by
  have hp := pow_le_nat h2
  have a1 := nextN_lt N T S h3
  have a2 := nextN_lt N T m h3
  rw [i64_xor_nat _ _ (by omega) (by omega), nextN_xor, beq_iff_eq]
set_option maxHeartbeats 2000000 in
/-- The walk: the Go text returns true. -/
theorem walk (a0 : Option Addr) (len0 cap0 : Nat) (z0 : List Int) (a1 : Option Addr) (len1 cap1 : Nat) (z1 : List Int) (w : World) (w0 : IsRow .u8 w a0 len0 cap0 z0) (w1 : IsRow .u8 w a1 len1 cap1 z1) :
    Calls Try.prog 7 #[.slice a0 len0 cap0, .slice a1 len1 cap1] w fun e w' => e = .returned (.bool true) ∧ Below w.heap.size w w' := by
  obtain ⟨bs, rfl, hwf, hr⟩ := Row.given w0
  obtain ⟨more, rfl, -, -⟩ := Row.given w1
  clear w0 w1
  by_cases hl : bs.length ≤ 1048576
  · by_cases hl2 : more.length ≤ 1048576
    · have Hr := Lib.hid hr
      clear hr
      go_enter Try.func7, Try.ntmps7
      go_wp2_with fail
      refine (drawShift_any _ bs w Hr.out hwf hl).mono ?_
      rintro e w1 ⟨n, t, s, rfl, hs0, hs1, hn0, hn1, ht0, ht1, hb1⟩
      have Hb := Lib.hid hb1
      clear hb1 Hr hwf
      go_wp2_with fail
      refine (implNext_any n t s _).mono ?_
      rintro e w' ⟨rfl, rfl⟩
      go_wp2_with fail
      refine (specNext_any n t s _).mono ?_
      rintro e w' ⟨rfl, rfl⟩
      cases h : fits n t s
      · have hx := next_unfit h
        have hp0 := pow_ge n
        have hno : ¬ (1 ≤ n ∧ n ≤ 10 ∧ 0 ≤ t ∧ t < 2 ^ n.toNat ∧ 0 ≤ s ∧ s < 2 ^ n.toNat) := fun hh => by
          rw [fits_iff.2 hh] at h; cases h
        clear h
        by_cases c1 : 1 ≤ n
        · by_cases c2 : n ≤ 10
          · have hp1 := pow_le c2
            by_cases c4 : t < 2 ^ n.toNat
            · by_cases c5 : 0 ≤ s
              · have c6 : ¬ s < 2 ^ n.toNat := fun hh => hno ⟨c1, c2, ht0, c4, c5, hh⟩
                clear hno
                go_wp2_with fail
                go_ret
                exact ⟨rfl, Hb.out⟩
              · clear hno
                go_wp2_with fail
                go_ret
                exact ⟨rfl, Hb.out⟩
            · clear hno
              go_wp2_with fail
              go_ret
              exact ⟨rfl, Hb.out⟩
          · clear hno
            go_wp2_with fail
            go_ret
            exact ⟨rfl, Hb.out⟩
        · clear hno
          go_wp2_with fail
          go_ret
          exact ⟨rfl, Hb.out⟩
      · obtain ⟨N, T, S, rfl, rfl, rfl, h1, h2, h3, h4⟩ := fits_nat h
        have hx : next N T S = (nextN N T S : Int) := next_fit h
        have hxlt := nextN_lt N T S h3
        rw [hx]
        clear hx
        obtain ⟨M, hM, e, hp, hp0⟩ : ∃ M : Nat, Hid (2 ^ N = M) ∧ (2 : Int) ^ N = (M : Int) ∧ M ≤ 1024 ∧ 1 ≤ M := ⟨2 ^ N, Lib.hid rfl, two_pow N, pow_le_nat h2, Nat.one_le_two_pow⟩
        have hxM : nextN N T S < M := by rw [← hM.out]; exact hxlt
        obtain ⟨m, hm⟩ : ∃ m, m = more.length % M := ⟨_, rfl⟩
        have hmM : m < M := by rw [hm]; exact Nat.mod_lt _ (by omega)
        have e2 : (more.length : Int) % (M : Int) = (m : Int) := by rw [hm]; rfl
        have hmN := Lib.hid (show m < 2 ^ N by rw [hM.out]; exact hmM)
        have hz : nextN N T 0 = 0 := nextN_zero N T
        have hxs : bits .xor .i64 (S : Int) (m : Int) = ((S ^^^ m : Nat) : Int) := i64_xor_nat _ _ (by have := hM.out; omega) (by omega)
        have hlin := lin h2 h3 h4 hmN.out
        have H3 := Lib.hid h3
        have H4 := Lib.hid h4
        have Hsm := Lib.hid (Nat.xor_lt_two_pow h4 hmN.out)
        have H0 : Hid (0 < 2 ^ N) := Lib.hid (Nat.two_pow_pos N)
        have Hm := Lib.hid hm
        clear h h3 h4 hxlt hm
        go_wp2_with fail
        refine (implNext_nat N T 0 _ h1 h2 H3.out H0.out).mono ?_
        rintro e w' ⟨rfl, rfl⟩
        go_wp2_with fail
        refine (implNext_nat N T (S ^^^ m) _ h1 h2 H3.out Hsm.out).mono ?_
        rintro e w' ⟨rfl, rfl⟩
        go_wp2_with fail
        refine (implNext_nat N T m _ h1 h2 H3.out hmN.out).mono ?_
        rintro e w' ⟨rfl, rfl⟩
        go_wp2_with fail
        go_ret
        exact ⟨rfl, Hb.out⟩
    · go_enter Try.func7, Try.ntmps7
      go_wp2
      go_ret
      exact ⟨rfl, Below.refl _ _⟩
  · go_enter Try.func7, Try.ntmps7
    go_wp2
    go_ret
    exact ⟨rfl, Below.refl _ _⟩

/-! The step from the walk to the row. -/
set_option maxRecDepth 100000 in
theorem lifted (os : Os) (started : os.Started) (H : Type) (enc : TypeId × Value → H) :
    ReturnsInHanded {} Try.checked os 7 .any (Rows.fnShiftNextSpec.pre6 enc Try.prog Try.f7 Rows.fnShiftNextRow.domain false) (Rows.fnShiftNextSpec.post enc Try.prog Try.f7 false true false false) := by
  refine returnsInHanded_of_change (C := Try.checked) own started (by kernel_rfl) Try.func7
    (ChangeSpec.witness6 (enc := enc) (C := Try.checked) false ⟨#[], #[.slice none 0 0, .slice none 0 0], []⟩ 8 (by kernel_rfl) (by kernel_rfl) (by kernel_rfl) (by kernel_rfl)) ?_
  intro W base args ds gs before hval0 hW hcnd _
  have hval : ∀ (j : Nat) t v, Try.f7.params[j]? = some t → args[j]? = some v → Value.okWide Try.prog W .any base t v := hval0
  have hW' := hW
  obtain ⟨p, q, hA0, hV, rfl, hfz, hnd⟩ := hW
  have hA : DataW.TrodAll enc Try.prog W 0 (fun _ => true) true Try.f7.params.toList args.toList ds p := hA0
  rw [Try.params7] at hA hval
  obtain ⟨v0, vs0, d0, ds0, p0, q0, hargs, rfl, rfl, h0, r0⟩ := trodAll_cons hA
  obtain ⟨v1, vs1, d1, ds1, p1, q1, rfl, rfl, rfl, h1, r1⟩ := trodAll_cons r0
  obtain ⟨rfl, rfl, rfl⟩ := trodAll_nil r1
  obtain rfl : args = #[v0, v1] := by cases args; simp_all
  obtain ⟨rfl, rfl⟩ := trodVars_none hV
  obtain ⟨a0, len0, cap0, rfl⟩ := okWide_slice Try.underlying22 (hval 0 22 v0 rfl rfl)
  have k0 := h0
  have lt0 : ∀ x ∈ p0, x.block < W.heap.size := by obtain ⟨m, hm⟩ := k0; exact DataW.trod_lt m _ _ _ hm
  obtain ⟨z0, w0⟩ : ∃ zs, IsRow .u8 W a0 len0 cap0 zs := by
    obtain ⟨fuel, hf⟩ := h0
    rcases open_ints Try.underlying22 Try.underlying5 (by kernel_rfl) hf with ⟨hcs, _⟩ | ⟨x, l, c, zs, hcs, _, hl, hm, hz, _, hcell, hwz⟩
    · simp [Value.cells] at hcs
      obtain ⟨rfl, rfl, rfl⟩ := hcs
      exact ⟨[], .inl ⟨rfl, rfl, rfl, rfl⟩⟩
    · simp [Value.cells] at hcs
      obtain ⟨rfl, rfl, rfl⟩ := hcs
      exact ⟨zs, .inr ⟨_, rfl, hl, hm, by simpa using hz, hcell, hwz⟩⟩
  obtain ⟨a1, len1, cap1, rfl⟩ := okWide_slice Try.underlying22 (hval 1 22 v1 rfl rfl)
  have k1 := h1
  have lt1 : ∀ x ∈ p1, x.block < W.heap.size := by obtain ⟨m, hm⟩ := k1; exact DataW.trod_lt m _ _ _ hm
  obtain ⟨z1, w1⟩ : ∃ zs, IsRow .u8 W a1 len1 cap1 zs := by
    obtain ⟨fuel, hf⟩ := h1
    rcases open_ints Try.underlying22 Try.underlying5 (by kernel_rfl) hf with ⟨hcs, _⟩ | ⟨x, l, c, zs, hcs, _, hl, hm, hz, _, hcell, hwz⟩
    · simp [Value.cells] at hcs
      obtain ⟨rfl, rfl, rfl⟩ := hcs
      exact ⟨[], .inl ⟨rfl, rfl, rfl, rfl⟩⟩
    · simp [Value.cells] at hcs
      obtain ⟨rfl, rfl, rfl⟩ := hcs
      exact ⟨zs, .inr ⟨_, rfl, hl, hm, by simpa using hz, hcell, hwz⟩⟩
  clear hA0 hval0
  refine (walk a0 len0 cap0 z0 a1 len1 cap1 z1 W w0 w1).mono fun e W' ⟨he, bel⟩ => ?_
  subst he
  exact ⟨_, rfl, _, _, _, [], _, [], hW', trodAll_mk1 (shut_bool Try.underlying4 _), (trodAll_cons_mk (Below.trod laidOut (by kernel_rfl) (of_decide_eq_true (by kernel_rfl)) k0 bel lt0) (trodAll_cons_mk (Below.trod laidOut (by kernel_rfl) (of_decide_eq_true (by kernel_rfl)) k1 bel lt1) trodAll_mk0)), rfl, bel.frame _, fun h => by cases h⟩

theorem over : Rows.fnShiftNextRow.holds Try.pinned (OpenSpec.ofChange Rows.fnShiftNextSpec) :=
  OpenClaim.holds_of_wide 7 Try.f7 rfl rfl rfl rfl rfl rfl rfl ⟨rfl, rfl, rfl, rfl, rfl⟩ rfl rfl rfl rfl rfl (by kernel_rfl) Try.func7 (by kernel_rfl)
    (of_decide_eq_true (by kernel_rfl)) (by unfold Func.isWrapper; first | (rw [if_pos (by decide +kernel)]; kernel_rfl) | (rw [if_neg (by decide +kernel)]; exact ⟨rfl, rfl⟩))
    (fun os started H enc _ => lifted os started H enc)

/-- The statement. -/
theorem proved : Rows.FnShiftNextSaid := over
#print axioms proved
end Go.Proofs.Ytpbgfhlhpinkeaa.fnShiftNext
