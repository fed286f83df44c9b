/-
  FnInductionExample: A shift register of three latches stays 0: that is an invariant which is inductive over three cycles, but not over one or two.
  Conditions: none. For every input that the row reads, the Go function laws.FnInductionExample returns true and leaves its arguments as they were.
-/
import Derived.Test.YtmlcbikljlhhkaaS07
import Derived.StillTailTactics
import Derived.Test.YtmlcbikljlhhkaaRows
import Derived.WalkKit
import Derived.ProofKit
import Derived.OpenShut
import Derived.ShutString
import Derived.ChangeOld
import Derived.Below
namespace Go.Proofs.Ytmlcbikljlhhkaa.fnInductionExample
open Go.ChangeShapes Go.WideShapes Go.ChangeAt Go.RowKit
open Go.ChangeMaps (open_string shut_string)
set_option linter.unusedVariables false

theorem own : ownKnob Try.prog.godebug = none := by kernel_rfl
theorem laidOut : laidOutB Try.prog = true := by kernel_rfl

/-- A slice of integers that came in: nil, or a row of cells. -/
def IsRow (k : IntKind) (w : World) (a : Option Addr) (len cap : Nat) (zs : List Int) : Prop :=
  (a = none ∧ len = 0 ∧ cap = 0 ∧ zs = []) ∨
  ∃ x, a = some x ∧ len ≤ cap ∧ cap ≤ maxLen ∧ zs.length = cap ∧ (∀ i, i < zs.length → w.cell? (x.add i) = some (.int k (zs.getD i 0))) ∧ ∀ n ∈ zs, (Lit.int k n).wf = true

def cEx : Cz := ⟨0, [0, 2, 4], [], [6]⟩
theorem ex0 : Cir.invI cEx 0 = true := by decide +kernel
theorem ex1 : Cir.indI cEx 0 1 = false := by decide +kernel
theorem ex2 : Cir.indI cEx 0 2 = false := by decide +kernel
theorem ex3 : Cir.indI cEx 0 3 = true := by decide +kernel
set_option maxHeartbeats 8000000 in
set_option maxRecDepth 100000 in
/-- The walk: the Go text returns true. -/
theorem walk (a0 : Option Addr) (len0 cap0 : Nat) (z0 : List Int) (w : World) (w0 : IsRow .u8 w a0 len0 cap0 z0) :
    Calls Try.prog 13 #[.slice a0 len0 cap0] w fun e w' => e = .returned (.bool true) ∧ Below w.heap.size w w' := by
  obtain ⟨bs, rfl, hwf, hr⟩ := Row.given w0
  clear w0
  by_cases hl : bs.length ≤ 1048576
  · clear hr hwf
    have hb1 := bel_new w (.cells #[.int .i64 0, .int .i64 2, .int .i64 4] 3)
    have hb2 := bel_new (w.alloc (.cells #[.int .i64 0, .int .i64 2, .int .i64 4] 3)) (.cells #[.int .i64 6] 3)
    have r1 := Row.below (Row.of_own (World.ownsRow_lit (base := w.heap.size) (e := 3) (size := 1) w #[.int .i64 0, .int .i64 2, .int .i64 4] 3 (Nat.le_refl _) (by unfold maxLen; omega) rfl)) hb2
    have r2 := Row.of_own (World.ownsRow_lit (base := w.heap.size) (e := 3) (size := 1) (w.alloc (.cells #[.int .i64 0, .int .i64 2, .int .i64 4] 3)) #[.int .i64 6] 1 (by simp) (by unfold maxLen; omega) rfl)
    have hs : (w.alloc (.cells #[.int .i64 0, .int .i64 2, .int .i64 4] 3)).heap.size = w.heap.size + 1 := by simp
    have hs2 : ((w.alloc (.cells #[.int .i64 0, .int .i64 2, .int .i64 4] 3)).alloc (.cells #[.int .i64 6] 3)).heap.size = w.heap.size + 1 + 1 := by simp
    rw [hs] at r2
    have HC : Hid (CircAt ((w.alloc (.cells #[.int .i64 0, .int .i64 2, .int .i64 4] 3)).alloc (.cells #[.int .i64 6] 3)) (.agg #[.int .i64 0, .slice (some ⟨w.heap.size, 0, none⟩) 3 3, .slice none 0 0, .slice (some ⟨w.heap.size + 1, 0, none⟩) 1 1]) cEx) := Lib.hid ⟨_, _, _, rfl, r1, Row.nil _ _, r2⟩
    have B := Lib.hid (hb1.trans (hb2.mono hb1.size))
    clear r1 r2 hb1 hb2
    go_enter Try.func13, Try.ntmps13
    go_wp2_with fail
    generalize (w.alloc (.cells #[.int .i64 0, .int .i64 2, .int .i64 4] 3)).alloc (.cells #[.int .i64 6] 3) = W at *
    have hb3 := bel_new W (.cells #[.int .i64 0, .slice (some ⟨w.heap.size, 0, none⟩) 3 3, .slice none 0 0, .slice (some ⟨w.heap.size + 1, 0, none⟩) 1 1] 30)
    have PC := Lib.hid (PCells.boxed W 0 (.slice (some ⟨w.heap.size, 0, none⟩) 3 3) (.slice none 0 0) (.slice (some ⟨w.heap.size + 1, 0, none⟩) 1 1) 30)
    have HC := Lib.hid (HC.out.below hb3)
    have B := Lib.hid (B.out.trans (hb3.mono B.out.size))
    have hgs : W.heap.size = w.heap.size + 1 + 1 := hs2
    rw [hgs] at PC
    clear hb3 hs hs2
    obtain ⟨z, p0, p1, p2, p3⟩ := PC.out
    generalize W.alloc (.cells #[.int .i64 0, .slice (some ⟨w.heap.size, 0, none⟩) 3 3, .slice none 0 0, .slice (some ⟨w.heap.size + 1, 0, none⟩) 1 1] 30) = w1 at *
    refine (implInv_any _ cEx 0 _ HC.out).mono ?_
    rintro e w2 ⟨rfl, hb⟩
    rw [ex0]
    have HC := Lib.hid (HC.out.below hb)
    have PC := Lib.hid (PC.out.below hb)
    have B := Lib.hid (B.out.trans (hb.mono B.out.size))
    clear hb z p0 p1 p2 p3
    obtain ⟨z, p0, p1, p2, p3⟩ := PC.out
    go_wp2_with fail
    refine (implInd_any _ cEx 0 1 _ HC.out).mono ?_
    rintro e w3 ⟨rfl, hb⟩
    rw [ex1]
    have HC := Lib.hid (HC.out.below hb)
    have PC := Lib.hid (PC.out.below hb)
    have B := Lib.hid (B.out.trans (hb.mono B.out.size))
    clear hb z p0 p1 p2 p3
    obtain ⟨z, p0, p1, p2, p3⟩ := PC.out
    go_wp2_with fail
    refine (implInd_any _ cEx 0 2 _ HC.out).mono ?_
    rintro e w4 ⟨rfl, hb⟩
    rw [ex2]
    have HC := Lib.hid (HC.out.below hb)
    have PC := Lib.hid (PC.out.below hb)
    have B := Lib.hid (B.out.trans (hb.mono B.out.size))
    clear hb z p0 p1 p2 p3
    obtain ⟨z, p0, p1, p2, p3⟩ := PC.out
    go_wp2_with fail
    refine (implInd_any _ cEx 0 3 _ HC.out).mono ?_
    rintro e w5 ⟨rfl, hb⟩
    rw [ex3]
    have HC := Lib.hid (HC.out.below hb)
    have PC := Lib.hid (PC.out.below hb)
    have B := Lib.hid (B.out.trans (hb.mono B.out.size))
    clear hb z p0 p1 p2 p3
    obtain ⟨z, p0, p1, p2, p3⟩ := PC.out
    go_wp2_with fail
    go_ret
    exact ⟨rfl, B.out⟩
  · go_enter Try.func13, Try.ntmps13
    go_wp2_with fail
    go_ret
    exact ⟨rfl, Below.refl _ _⟩

/-! The step from the walk to the row. -/
set_option maxRecDepth 100000 in
theorem lifted (os : Os) (started : os.Started) (H : Type) (enc : TypeId × Value → H) :
    ReturnsInHanded {} Try.checked os 13 .any (Rows.fnInductionExampleSpec.pre6 enc Try.prog Try.f13 Rows.fnInductionExampleRow.domain false) (Rows.fnInductionExampleSpec.post enc Try.prog Try.f13 false true false false) := by
  refine returnsInHanded_of_change (C := Try.checked) own started (by kernel_rfl) Try.func13
    (ChangeSpec.witness6 (enc := enc) (C := Try.checked) false ⟨#[], #[.slice none 0 0], []⟩ 8 (by kernel_rfl) (by kernel_rfl) (by kernel_rfl) (by kernel_rfl)) ?_
  intro W base args ds gs before hval0 hW hcnd _
  have hval : ∀ (j : Nat) t v, Try.f13.params[j]? = some t → args[j]? = some v → Value.okWide Try.prog W .any base t v := hval0
  have hW' := hW
  obtain ⟨p, q, hA0, hV, rfl, hfz, hnd⟩ := hW
  have hA : DataW.TrodAll enc Try.prog W 0 (fun _ => true) true Try.f13.params.toList args.toList ds p := hA0
  rw [Try.params13] at hA hval
  obtain ⟨v0, vs0, d0, ds0, p0, q0, hargs, rfl, rfl, h0, r0⟩ := trodAll_cons hA
  obtain ⟨rfl, rfl, rfl⟩ := trodAll_nil r0
  obtain rfl : args = #[v0] := by cases args; simp_all
  obtain ⟨rfl, rfl⟩ := trodVars_none hV
  obtain ⟨a0, len0, cap0, rfl⟩ := okWide_slice Try.underlying65 (hval 0 65 v0 rfl rfl)
  have k0 := h0
  have lt0 : ∀ x ∈ p0, x.block < W.heap.size := by obtain ⟨m, hm⟩ := k0; exact DataW.trod_lt m _ _ _ hm
  obtain ⟨z0, w0⟩ : ∃ zs, IsRow .u8 W a0 len0 cap0 zs := by
    obtain ⟨fuel, hf⟩ := h0
    rcases open_ints Try.underlying65 Try.underlying5 (by kernel_rfl) hf with ⟨hcs, _⟩ | ⟨x, l, c, zs, hcs, _, hl, hm, hz, _, hcell, hwz⟩
    · simp [Value.cells] at hcs
      obtain ⟨rfl, rfl, rfl⟩ := hcs
      exact ⟨[], .inl ⟨rfl, rfl, rfl, rfl⟩⟩
    · simp [Value.cells] at hcs
      obtain ⟨rfl, rfl, rfl⟩ := hcs
      exact ⟨zs, .inr ⟨_, rfl, hl, hm, by simpa using hz, hcell, hwz⟩⟩
  clear hA0 hval0
  refine (walk a0 len0 cap0 z0 W w0).mono fun e W' ⟨he, bel⟩ => ?_
  subst he
  exact ⟨_, rfl, _, _, _, [], _, [], hW', trodAll_mk1 (shut_bool Try.underlying4 _), (trodAll_cons_mk (Below.trod laidOut (by kernel_rfl) (of_decide_eq_true (by kernel_rfl)) k0 bel lt0) trodAll_mk0), rfl, bel.frame _, fun h => by cases h⟩

theorem over : Rows.fnInductionExampleRow.holds Try.pinned (OpenSpec.ofChange Rows.fnInductionExampleSpec) :=
  OpenClaim.holds_of_wide 13 Try.f13 rfl rfl rfl rfl rfl rfl rfl ⟨rfl, rfl, rfl, rfl, rfl⟩ rfl rfl rfl rfl rfl (by kernel_rfl) Try.func13 (by kernel_rfl)
    (of_decide_eq_true (by kernel_rfl)) (by unfold Func.isWrapper; first | (rw [if_pos (by decide +kernel)]; kernel_rfl) | (rw [if_neg (by decide +kernel)]; exact ⟨rfl, rfl⟩))
    (fun os started H enc _ => lifted os started H enc)

/-- The statement. -/
theorem proved : Rows.FnInductionExampleSaid := over
#print axioms proved
end Go.Proofs.Ytmlcbikljlhhkaa.fnInductionExample
