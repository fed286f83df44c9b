/-
  FnMaximalPeriod: The five registers with primitive taps have the maximal period, and two other registers have the periods 5 and 1.
  Conditions: none. For every input that the row reads, the Go function laws.FnMaximalPeriod returns true and leaves its arguments as they were.
-/
import Derived.Test.YtpbgfhlhpinkeaaRegD
import Derived.Test.YtpbgfhlhpinkeaaAlive
import Derived.Test.YtpbgfhlhpinkeaaRows
import Derived.WalkKit
import Derived.ProofKit
import Derived.OpenShut
import Derived.ShutString
import Derived.ChangeOld
import Derived.Below
namespace Go.Proofs.Ytpbgfhlhpinkeaa.fnMaximalPeriod
open Go.ChangeShapes Go.WideShapes Go.ChangeAt Go.RowKit
open Go.ChangeMaps (open_string shut_string)
set_option linter.unusedVariables false

open Reg
theorem own : ownKnob Try.prog.godebug = none := by kernel_rfl
theorem laidOut : laidOutB Try.prog = true := by kernel_rfl

/-- A slice of integers that came in: nil, or a row of cells. -/
def IsRow (k : IntKind) (w : World) (a : Option Addr) (len cap : Nat) (zs : List Int) : Prop :=
  (a = none ∧ len = 0 ∧ cap = 0 ∧ zs = []) ∨
  ∃ x, a = some x ∧ len ≤ cap ∧ cap ≤ maxLen ∧ zs.length = cap ∧ (∀ i, i < zs.length → w.cell? (x.add i) = some (.int k (zs.getD i 0))) ∧ ∀ n ∈ zs, (Lit.int k n).wf = true

theorem per2 : period 2 3 1 = 3 := by decide +kernel
theorem per3 : period 3 3 1 = 7 := by decide +kernel
theorem per4 : period 4 3 1 = 15 := by decide +kernel
theorem per5 : period 5 5 1 = 31 := by decide +kernel
theorem per8 : period 8 29 1 = 255 := by decide +kernel
theorem perA : period 4 15 1 = 5 := by decide +kernel
theorem perB : period 3 0 1 = 0 := by decide +kernel
set_option maxHeartbeats 2000000 in
/-- The walk: the Go text returns true. -/
theorem walk (a0 : Option Addr) (len0 cap0 : Nat) (z0 : List Int) (w : World) (w0 : IsRow .u8 w a0 len0 cap0 z0) :
    Calls Try.prog 3 #[.slice a0 len0 cap0] w fun e w' => e = .returned (.bool true) ∧ Below w.heap.size w w' := by
  have p2 := per2
  have p3 := per3
  have p4 := per4
  have p5 := per5
  have p8 := per8
  have pA := perA
  have pB := perB
  by_cases hl : len0 ≤ 1048576
  · go_enter Try.func3, Try.ntmps3
    go_wp2
    go_loopw [5] (fun i wr => ∃ k : Nat, k ≤ 5 ∧ i = .int .i64 k ∧ Drew ((w.alloc (.cells #[.int .i64 2, .int .i64 3, .int .i64 4, .int .i64 5, .int .i64 8] 3)).alloc (.cells #[.int .i64 3, .int .i64 3, .int .i64 3, .int .i64 5, .int .i64 29] 3)) wr) (fun i _ => 5 - (intOf i).toNat)
    case atStart => exact ⟨0, by omega, rfl, Drew.refl _⟩
    case round =>
      obtain ⟨k, hk, rfl, hd⟩ := hrel
      have hb : Below w.heap.size w wr := (((Below.refl _ _).alloc (Nat.le_refl _) _).alloc (by simp) _).trans (hd.below _)
      have hc1 : ∀ i, wr.cell? ⟨w.heap.size, i, none⟩ = (#[.int .i64 2, .int .i64 3, .int .i64 4, .int .i64 5, .int .i64 8] : Array Value)[i]? := fun i => (hd.cell _).trans ((World.cell?_alloc_lt _ _ ⟨w.heap.size, i, none⟩ (by simp)).trans (cell_of_row _ _ i _ 3 (0, 0) (heap_alloc_new w _)))
      have hc2 : ∀ i, wr.cell? ⟨w.heap.size + 1, i, none⟩ = (#[.int .i64 3, .int .i64 3, .int .i64 3, .int .i64 5, .int .i64 29] : Array Value)[i]? := fun i => (hd.cell _).trans (by
        have := cell_of_row _ _ i _ 3 (0, 0) (heap_alloc_new (w.alloc (.cells #[.int .i64 2, .int .i64 3, .int .i64 4, .int .i64 5, .int .i64 8] 3)) (.cells #[.int .i64 3, .int .i64 3, .int .i64 3, .int .i64 5, .int .i64 29] 3))
        simp)
      have Hb := Lib.hid hb
      have Hd := Lib.hid hd
      clear hb hd
      obtain rfl | rfl | rfl | rfl | rfl | rfl : k = 0 ∨ k = 1 ∨ k = 2 ∨ k = 3 ∨ k = 4 ∨ k = 5 := by omega
      · have a1 := hc1 0
        have a2 := hc2 0
        clear hc1 hc2
        simp at a1 a2
        go_wp2
        go_quiet ((go_at_call 12; exact quietS (implPeriod_any _ _ _ _)))
        go_wp2
        go_roundw
        case rel => exact ⟨1, by omega, rfl, Hd.out.more _⟩
        case measure => simp [intOf]
      · have a1 := hc1 1
        have a2 := hc2 1
        clear hc1 hc2
        simp at a1 a2
        go_wp2
        go_quiet ((go_at_call 12; exact quietS (implPeriod_any _ _ _ _)))
        go_wp2
        go_roundw
        case rel => exact ⟨2, by omega, rfl, Hd.out.more _⟩
        case measure => simp [intOf]
      · have a1 := hc1 2
        have a2 := hc2 2
        clear hc1 hc2
        simp at a1 a2
        go_wp2
        go_quiet ((go_at_call 12; exact quietS (implPeriod_any _ _ _ _)))
        go_wp2
        go_roundw
        case rel => exact ⟨3, by omega, rfl, Hd.out.more _⟩
        case measure => simp [intOf]
      · have a1 := hc1 3
        have a2 := hc2 3
        clear hc1 hc2
        simp at a1 a2
        go_wp2
        go_quiet ((go_at_call 12; exact quietS (implPeriod_any _ _ _ _)))
        go_wp2
        go_roundw
        case rel => exact ⟨4, by omega, rfl, Hd.out.more _⟩
        case measure => simp [intOf]
      · have a1 := hc1 4
        have a2 := hc2 4
        clear hc1 hc2
        simp at a1 a2
        go_wp2
        go_quiet ((go_at_call 12; exact quietS (implPeriod_any _ _ _ _)))
        go_wp2
        go_roundw
        case rel => exact ⟨5, by omega, rfl, Hd.out.more _⟩
        case measure => simp [intOf]
      · clear hc1 hc2
        go_wp2_with (go_at_call 12; refine (implPeriod_any _ _ _ _).mono ?_; rintro e w' ⟨rfl, rfl⟩)
        go_ret
        exact ⟨rfl, Hb.out⟩
  · go_enter Try.func3, Try.ntmps3
    go_wp2
    go_ret
    exact ⟨rfl, Below.refl _ _⟩

/-! The step from the walk to the row. -/
set_option maxRecDepth 100000 in
theorem lifted (os : Os) (started : os.Started) (H : Type) (enc : TypeId × Value → H) :
    ReturnsInHanded {} Try.checked os 3 .any (Rows.fnMaximalPeriodSpec.pre6 enc Try.prog Try.f3 Rows.fnMaximalPeriodRow.domain false) (Rows.fnMaximalPeriodSpec.post enc Try.prog Try.f3 false true false false) := by
  refine returnsInHanded_of_change (C := Try.checked) own started (by kernel_rfl) Try.func3
    (ChangeSpec.witness6 (enc := enc) (C := Try.checked) false ⟨#[], #[.slice none 0 0], []⟩ 8 (by kernel_rfl) (by kernel_rfl) (by kernel_rfl) (by kernel_rfl)) ?_
  intro W base args ds gs before hval0 hW hcnd _
  have hval : ∀ (j : Nat) t v, Try.f3.params[j]? = some t → args[j]? = some v → Value.okWide Try.prog W .any base t v := hval0
  have hW' := hW
  obtain ⟨p, q, hA0, hV, rfl, hfz, hnd⟩ := hW
  have hA : DataW.TrodAll enc Try.prog W 0 (fun _ => true) true Try.f3.params.toList args.toList ds p := hA0
  rw [Try.params3] at hA hval
  obtain ⟨v0, vs0, d0, ds0, p0, q0, hargs, rfl, rfl, h0, r0⟩ := trodAll_cons hA
  obtain ⟨rfl, rfl, rfl⟩ := trodAll_nil r0
  obtain rfl : args = #[v0] := by cases args; simp_all
  obtain ⟨rfl, rfl⟩ := trodVars_none hV
  obtain ⟨a0, len0, cap0, rfl⟩ := okWide_slice Try.underlying22 (hval 0 22 v0 rfl rfl)
  have k0 := h0
  have lt0 : ∀ x ∈ p0, x.block < W.heap.size := by obtain ⟨m, hm⟩ := k0; exact DataW.trod_lt m _ _ _ hm
  obtain ⟨z0, w0⟩ : ∃ zs, IsRow .u8 W a0 len0 cap0 zs := by
    obtain ⟨fuel, hf⟩ := h0
    rcases open_ints Try.underlying22 Try.underlying5 (by kernel_rfl) hf with ⟨hcs, _⟩ | ⟨x, l, c, zs, hcs, _, hl, hm, hz, _, hcell, hwz⟩
    · simp [Value.cells] at hcs
      obtain ⟨rfl, rfl, rfl⟩ := hcs
      exact ⟨[], .inl ⟨rfl, rfl, rfl, rfl⟩⟩
    · simp [Value.cells] at hcs
      obtain ⟨rfl, rfl, rfl⟩ := hcs
      exact ⟨zs, .inr ⟨_, rfl, hl, hm, by simpa using hz, hcell, hwz⟩⟩
  clear hA0 hval0
  refine (walk a0 len0 cap0 z0 W w0).mono fun e W' ⟨he, bel⟩ => ?_
  subst he
  exact ⟨_, rfl, _, _, _, [], _, [], hW', trodAll_mk1 (shut_bool Try.underlying4 _), (trodAll_cons_mk (Below.trod laidOut (by kernel_rfl) (of_decide_eq_true (by kernel_rfl)) k0 bel lt0) trodAll_mk0), rfl, bel.frame _, fun h => by cases h⟩

theorem over : Rows.fnMaximalPeriodRow.holds Try.pinned (OpenSpec.ofChange Rows.fnMaximalPeriodSpec) :=
  OpenClaim.holds_of_wide 3 Try.f3 rfl rfl rfl rfl rfl rfl rfl ⟨rfl, rfl, rfl, rfl, rfl⟩ rfl rfl rfl rfl rfl (by kernel_rfl) Try.func3 (by kernel_rfl)
    (of_decide_eq_true (by kernel_rfl)) (by unfold Func.isWrapper; first | (rw [if_pos (by decide +kernel)]; kernel_rfl) | (rw [if_neg (by decide +kernel)]; exact ⟨rfl, rfl⟩))
    (fun os started H enc _ => lifted os started H enc)

/-- The statement. -/
theorem proved : Rows.FnMaximalPeriodSaid := over
#print axioms proved
end Go.Proofs.Ytpbgfhlhpinkeaa.fnMaximalPeriod
