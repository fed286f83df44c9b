/-
  FnSweepHazard: Sweeping the multiplexer with the consensus term leaves three gates and an equivalent circuit that is not free of hazards.
  Conditions: none. For every input that the row reads, the Go function laws.FnSweepHazard returns true and leaves its arguments as they were.
-/
import Derived.Test.YtlbfejdbfhgifaaS16
import Derived.Test.YtlbfejdbfhgifaaS06
import Derived.Test.YtlbfejdbfhgifaaS09
import Derived.StillTailTactics
import Derived.Test.YtlbfejdbfhgifaaRows
import Derived.WalkKit
import Derived.ProofKit
import Derived.OpenShut
import Derived.ShutString
import Derived.ChangeOld
import Derived.Below
set_option linter.unusedVariables false
set_option linter.unusedSimpArgs false
namespace Go.Proofs.Ytlbfejdbfhgifaa.fnSweepHazard
open Go.ChangeShapes Go.WideShapes Go.ChangeAt Go.RowKit
open Go.ChangeMaps (open_string shut_string)
set_option linter.unusedVariables false

theorem own : ownKnob Try.prog.godebug = none := by kernel_rfl
theorem laidOut : laidOutB Try.prog = true := by kernel_rfl

/-- A slice of integers that came in: nil, or a row of cells. -/
def IsRow (k : IntKind) (w : World) (a : Option Addr) (len cap : Nat) (zs : List Int) : Prop :=
  (a = none ∧ len = 0 ∧ cap = 0 ∧ zs = []) ∨
  ∃ x, a = some x ∧ len ≤ cap ∧ cap ≤ maxLen ∧ zs.length = cap ∧ (∀ i, i < zs.length → w.cell? (x.add i) = some (.int k (zs.getD i 0))) ∧ ∀ n ∈ zs, (Lit.int k n).wf = true

def safeI : Ci := ⟨3, [], [(2, 4), (3, 6), (9, 11), (4, 6), (12, 15)], [17]⟩
theorem same_symm {c d : Ci} (h : Cir.SameStep c d) : Cir.SameStep d c :=
  ⟨h.ins.symm, h.nexts.symm, h.outss.symm, fun st inp l1 l2 => ⟨(h.step st inp (l1.trans h.ins) (l2.trans h.nexts)).1.symm, (h.step st inp (l1.trans h.ins) (l2.trans h.nexts)).2.symm⟩⟩
theorem safe_valid : Cir.valid (Cir.toCz safeI) = true := by decide +kernel
theorem safe_ok : Cir.Ok safeI := by
  have := (Cir.nat_ok safe_valid).2
  rwa [Cir.nat_toCz] at this
theorem safe_sw : Cir.sweepZ (Cir.toCz safeI) = Cir.toCz (Cir.sweepI safeI) := by
  unfold Cir.sweepZ
  rw [if_pos safe_valid, Cir.nat_toCz]
theorem safe_gates : (Cir.toCz (Cir.sweepI safeI)).gates.length = 3 := by decide +kernel
theorem safe_haz : Cir.hazF (Cir.toCz (Cir.sweepI safeI)) = false := by decide +kernel
theorem safe_next : (Cir.toCz (Cir.sweepI safeI)).next.length = 0 := by decide +kernel
set_option maxHeartbeats 8000000 in
set_option maxRecDepth 100000 in
/-- The walk: the Go text returns true. -/
theorem walk (a0 : Option Addr) (len0 cap0 : Nat) (z0 : List Int) (w : World) (w0 : IsRow .u8 w a0 len0 cap0 z0) :
    Calls Try.prog 9 #[.slice a0 len0 cap0] w fun e w' => e = .returned (.bool true) ∧ Below w.heap.size w w' := by
  obtain ⟨bs, rfl, hwf, hr⟩ := Row.given w0
  clear w0
  by_cases hl : bs.length ≤ 1048576
  · clear hr hwf
    have hb1 := bel_new w (.cells #[.int .i64 2, .int .i64 4, .int .i64 3, .int .i64 6, .int .i64 9, .int .i64 11, .int .i64 4, .int .i64 6, .int .i64 12, .int .i64 15] 55)
    have hr1 := World.ownsRow_lit (base := w.heap.size) (e := 55) (size := 2) w #[.int .i64 2, .int .i64 4, .int .i64 3, .int .i64 6, .int .i64 9, .int .i64 11, .int .i64 4, .int .i64 6, .int .i64 12, .int .i64 15] 5 (Nat.le_refl _) (by unfold maxLen; omega) rfl
    obtain ⟨W1, hW1⟩ : ∃ W1, w.alloc (.cells #[.int .i64 2, .int .i64 4, .int .i64 3, .int .i64 6, .int .i64 9, .int .i64 11, .int .i64 4, .int .i64 6, .int .i64 12, .int .i64 15] 55) = W1 := ⟨_, rfl⟩
    rw [hW1] at hb1 hr1
    have hb2 := bel_new W1 (.cells #[.int .i64 17] 3)
    have hr2 := World.ownsRow_lit (base := W1.heap.size) (e := 3) (size := 1) W1 #[.int .i64 17] 1 (Nat.le_refl _) (by unfold maxLen; omega) rfl
    obtain ⟨W2, hW2⟩ : ∃ W2, W1.alloc (.cells #[.int .i64 17] 3) = W2 := ⟨_, rfl⟩
    rw [hW2] at hb2 hr2
    have hB2 := hb1.trans (hb2.mono hb1.size)
    obtain ⟨c, hc⟩ : ∃ c, c = Cir.toCz safeI := ⟨_, rfl⟩
    have hC2 : CircAt W2 (.agg #[.int .i64 3, .slice none 0 0, .slice (some ⟨w.heap.size, 0, none⟩) 5 5, .slice (some ⟨W1.heap.size, 0, none⟩) 1 1]) c := by
      rw [hc]
      exact ⟨_, _, _, rfl, Row.of_own (World.ownsRow_nil W2 0 3 1), Row.of_own (own_below hr1 hb2), Row.of_own hr2⟩
    have HC2 := Lib.hid hC2
    have HB2 := Lib.hid hB2
    clear hC2 hB2 hb1 hb2 hr1 hr2
    go_enter Try.func9, Try.ntmps9
    go_wp2_with fail
    have hb := bel_new W2 (.cells #[.int .i64 3, .slice none 0 0, .slice (some ⟨w.heap.size, 0, none⟩) 5 5, .slice (some ⟨W1.heap.size, 0, none⟩) 1 1] 31)
    have PC := Lib.hid (PCells.boxed W2 3 (.slice none 0 0) (.slice (some ⟨w.heap.size, 0, none⟩) 5 5) (.slice (some ⟨W1.heap.size, 0, none⟩) 1 1) 31)
    have HC := Lib.hid (HC2.out.below hb)
    have B := Lib.hid (HB2.out.trans (hb.mono HB2.out.size))
    clear hb HC2 HB2
    generalize W2.alloc (.cells #[.int .i64 3, .slice none 0 0, .slice (some ⟨w.heap.size, 0, none⟩) 5 5, .slice (some ⟨W1.heap.size, 0, none⟩) 1 1] 31) = W3 at *
    obtain ⟨g3, hg3⟩ : ∃ g3, W2.heap.size = g3 := ⟨_, rfl⟩
    rw [hg3] at PC ⊢
    clear hg3
    refine (implSweep_any _ c _ HC.out).mono ?_
    rintro e w4 ⟨⟨v4, rfl, hO4⟩, hb⟩
    replace PC := Lib.hid (PC.out.below hb)
    replace HC := Lib.hid (HC.out.below hb)
    replace B := Lib.hid (B.out.trans (hb.mono B.out.size))
    clear hb
    have hs4 := hO4.at
    rw [hc, safe_sw] at hs4
    obtain ⟨A1, c1, A2, c2, A4, c4, e4⟩ := hs4.shape
    subst e4
    rw [safe_gates] at hs4 ⊢
    have HS := Lib.hid hs4
    generalize (Cir.toCz (Cir.sweepI safeI)).next.length = L1 at *
    generalize (Cir.toCz (Cir.sweepI safeI)).outs.length = L3 at *
    obtain ⟨s, hs⟩ : ∃ s, s = Cir.toCz (Cir.sweepI safeI) := ⟨_, rfl⟩
    rw [← hs] at HS ⊢
    have Hs := Lib.hid hs
    have Hc := Lib.hid hc
    clear hO4 hs4 hs hc hW1 hW2
    have hb := bel_new w4 (.cells #[.int .i64 s.ins, .slice A1 L1 c1, .slice A2 3 c2, .slice A4 L3 c4] 31)
    have PS := Lib.hid (PCells.boxed w4 s.ins (.slice A1 L1 c1) (.slice A2 3 c2) (.slice A4 L3 c4) 31)
    replace PC := Lib.hid (PC.out.below hb)
    replace HC := Lib.hid (HC.out.below hb)
    replace HS := Lib.hid (HS.out.below hb)
    replace B := Lib.hid (B.out.trans (hb.mono B.out.size))
    clear hb
    obtain ⟨z1, p0, p1, p2, p3⟩ := PC.out
    go_wp2_with fail
    generalize w4.alloc (.cells #[.int .i64 s.ins, .slice A1 L1 c1, .slice A2 3 c2, .slice A4 L3 c4] 31) = W5 at *
    obtain ⟨g4, hg4⟩ : ∃ g4, w4.heap.size = g4 := ⟨_, rfl⟩
    rw [hg4] at PS ⊢
    clear hg4
    refine (equiv_any _ _ (Cir.sweepI safeI) safeI W5 (by rw [← Hs.out]; exact HS.out) (by rw [← Hc.out]; exact HC.out) (Cir.sweepI_ok safe_ok) safe_ok (same_symm (Cir.sweepI_same safe_ok))).mono ?_
    rintro e w6 ⟨rfl, hb⟩
    clear z1 p0 p1 p2 p3
    replace PC := Lib.hid (PC.out.below hb)
    replace HC := Lib.hid (HC.out.below hb)
    replace HS := Lib.hid (HS.out.below hb)
    replace PS := Lib.hid (PS.out.below hb)
    replace B := Lib.hid (B.out.trans (hb.mono B.out.size))
    clear hb
    obtain ⟨z2, q0, q1, q2, q3⟩ := PS.out
    have hz := safe_haz
    rw [← Hs.out] at hz
    go_wp2_with fail
    refine (implHazF_any _ s _ HS.out).mono ?_
    rintro e w7 ⟨rfl, hb⟩
    rw [hz]
    replace B := Lib.hid (B.out.trans (hb.mono B.out.size))
    clear hb z2 q0 q1 q2 q3 hz
    go_wp2_with fail
    go_ret
    exact ⟨rfl, B.out⟩
  · go_enter Try.func9, Try.ntmps9
    go_wp2_with fail
    go_ret
    exact ⟨rfl, Below.refl _ _⟩

/-! The step from the walk to the row. -/
set_option maxRecDepth 100000 in
theorem lifted (os : Os) (started : os.Started) (H : Type) (enc : TypeId × Value → H) :
    ReturnsInHanded {} Try.checked os 9 .any (Rows.fnSweepHazardSpec.pre6 enc Try.prog Try.f9 Rows.fnSweepHazardRow.domain false) (Rows.fnSweepHazardSpec.post enc Try.prog Try.f9 false true false false) := by
  refine returnsInHanded_of_change (C := Try.checked) own started (by kernel_rfl) Try.func9
    (ChangeSpec.witness6 (enc := enc) (C := Try.checked) false ⟨#[], #[.slice none 0 0], []⟩ 8 (by kernel_rfl) (by kernel_rfl) (by kernel_rfl) (by kernel_rfl)) ?_
  intro W base args ds gs before hval0 hW hcnd _
  have hval : ∀ (j : Nat) t v, Try.f9.params[j]? = some t → args[j]? = some v → Value.okWide Try.prog W .any base t v := hval0
  have hW' := hW
  obtain ⟨p, q, hA0, hV, rfl, hfz, hnd⟩ := hW
  have hA : DataW.TrodAll enc Try.prog W 0 (fun _ => true) true Try.f9.params.toList args.toList ds p := hA0
  rw [Try.params9] at hA hval
  obtain ⟨v0, vs0, d0, ds0, p0, q0, hargs, rfl, rfl, h0, r0⟩ := trodAll_cons hA
  obtain ⟨rfl, rfl, rfl⟩ := trodAll_nil r0
  obtain rfl : args = #[v0] := by cases args; simp_all
  obtain ⟨rfl, rfl⟩ := trodVars_none hV
  obtain ⟨a0, len0, cap0, rfl⟩ := okWide_slice Try.underlying49 (hval 0 49 v0 rfl rfl)
  have k0 := h0
  have lt0 : ∀ x ∈ p0, x.block < W.heap.size := by obtain ⟨m, hm⟩ := k0; exact DataW.trod_lt m _ _ _ hm
  obtain ⟨z0, w0⟩ : ∃ zs, IsRow .u8 W a0 len0 cap0 zs := by
    obtain ⟨fuel, hf⟩ := h0
    rcases open_ints Try.underlying49 Try.underlying5 (by kernel_rfl) hf with ⟨hcs, _⟩ | ⟨x, l, c, zs, hcs, _, hl, hm, hz, _, hcell, hwz⟩
    · simp [Value.cells] at hcs
      obtain ⟨rfl, rfl, rfl⟩ := hcs
      exact ⟨[], .inl ⟨rfl, rfl, rfl, rfl⟩⟩
    · simp [Value.cells] at hcs
      obtain ⟨rfl, rfl, rfl⟩ := hcs
      exact ⟨zs, .inr ⟨_, rfl, hl, hm, by simpa using hz, hcell, hwz⟩⟩
  clear hA0 hval0
  refine (walk a0 len0 cap0 z0 W w0).mono fun e W' ⟨he, bel⟩ => ?_
  subst he
  exact ⟨_, rfl, _, _, _, [], _, [], hW', trodAll_mk1 (shut_bool Try.underlying4 _), (trodAll_cons_mk (Below.trod laidOut (by kernel_rfl) (of_decide_eq_true (by kernel_rfl)) k0 bel lt0) trodAll_mk0), rfl, bel.frame _, fun h => by cases h⟩

theorem over : Rows.fnSweepHazardRow.holds Try.pinned (OpenSpec.ofChange Rows.fnSweepHazardSpec) :=
  OpenClaim.holds_of_wide 9 Try.f9 rfl rfl rfl rfl rfl rfl rfl ⟨rfl, rfl, rfl, rfl, rfl⟩ rfl rfl rfl rfl rfl (by kernel_rfl) Try.func9 (by kernel_rfl)
    (of_decide_eq_true (by kernel_rfl)) (by unfold Func.isWrapper; first | (rw [if_pos (by decide +kernel)]; kernel_rfl) | (rw [if_neg (by decide +kernel)]; exact ⟨rfl, rfl⟩))
    (fun os started H enc _ => lifted os started H enc)

/-- The statement. -/
theorem proved : Rows.FnSweepHazardSaid := over
#print axioms proved
end Go.Proofs.Ytlbfejdbfhgifaa.fnSweepHazard
