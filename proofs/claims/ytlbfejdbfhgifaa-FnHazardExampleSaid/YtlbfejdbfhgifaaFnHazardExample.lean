/-
  FnHazardExample: The multiplexer has one hazard; with the consensus term it is free of hazards, equivalent, and has a fault without a test.
  Conditions: none. For every input that the row reads, the Go function laws.FnHazardExample returns true and leaves its arguments as they were.
-/
import Derived.Test.YtlbfejdbfhgifaaS06
import Derived.Test.YtlbfejdbfhgifaaS07
import Derived.Test.YtlbfejdbfhgifaaS08
import Derived.StillTailTactics
import Derived.Test.YtlbfejdbfhgifaaRows
import Derived.WalkKit
import Derived.ProofKit
import Derived.OpenShut
import Derived.ShutString
import Derived.ChangeOld
import Derived.Below
set_option linter.unusedVariables false
set_option linter.unusedSimpArgs false
namespace Go.Proofs.Ytlbfejdbfhgifaa.fnHazardExample
open Go.ChangeShapes Go.WideShapes Go.ChangeAt Go.RowKit
open Go.ChangeMaps (open_string shut_string)
set_option linter.unusedVariables false

theorem own : ownKnob Try.prog.godebug = none := by kernel_rfl
theorem laidOut : laidOutB Try.prog = true := by kernel_rfl

/-- A slice of integers that came in: nil, or a row of cells. -/
def IsRow (k : IntKind) (w : World) (a : Option Addr) (len cap : Nat) (zs : List Int) : Prop :=
  (a = none ∧ len = 0 ∧ cap = 0 ∧ zs = []) ∨
  ∃ x, a = some x ∧ len ≤ cap ∧ cap ≤ maxLen ∧ zs.length = cap ∧ (∀ i, i < zs.length → w.cell? (x.add i) = some (.int k (zs.getD i 0))) ∧ ∀ n ∈ zs, (Lit.int k n).wf = true

def muxI : Ci := ⟨3, [], [(2, 4), (3, 6), (9, 11)], [13]⟩
def safeI : Ci := ⟨3, [], [(2, 4), (3, 6), (9, 11), (4, 6), (12, 15)], [17]⟩
theorem mux_valid : Cir.valid (Cir.toCz muxI) = true := by decide +kernel
theorem safe_valid : Cir.valid (Cir.toCz safeI) = true := by decide +kernel
theorem mux_ok : Cir.Ok muxI := by
  have := (Cir.nat_ok mux_valid).2
  rwa [Cir.nat_toCz] at this
theorem safe_ok : Cir.Ok safeI := by
  have := (Cir.nat_ok safe_valid).2
  rwa [Cir.nat_toCz] at this
theorem mux_haz : Cir.hazI (Cir.toCz muxI) = [(6, 7, 0)] := by decide +kernel
theorem safe_hazF : Cir.hazF (Cir.toCz safeI) = true := by decide +kernel
theorem safe_irr : Cir.irr safeI = false := by decide +kernel
theorem same_all : ∀ a b c : Bool, Cir.lits (Cir.vals muxI [] [a, b, c]) muxI.outs = Cir.lits (Cir.vals safeI [] [a, b, c]) safeI.outs := by decide +kernel
theorem mux_same : Cir.SameStep muxI safeI := ⟨rfl, rfl, rfl, fun st inp l1 l2 => by
  have l1' : inp.length = 3 := l1
  have l2' : st.length = 0 := l2
  match st, inp, l1', l2' with
  | [], [a, b, c], _, _ => exact ⟨rfl, (same_all a b c).symm⟩⟩
theorem one_haz {w : World} {b : Nat} {v : Value} {x y z : Nat} (h : w.ownsRow b 57 3 v 1 (trips [(x, y, z)])) : ∃ bc oc k, v = .slice (some ⟨bc, oc, none⟩) 1 k ∧ bc < w.heap.size ∧ w.cell? ⟨bc, oc, none⟩ = some (.int .i64 x) ∧ w.cell? ⟨bc, oc + 1, none⟩ = some (.int .i64 y) ∧ w.cell? ⟨bc, oc + 2, none⟩ = some (.int .i64 z) := by
  obtain ⟨bo, o, c', hv, _, _, hbl, hcell⟩ := Row.open (Row.of_own h) (by decide)
  exact ⟨bo, o, c', hv, hbl, hcell 0 _ rfl, hcell 1 _ rfl, hcell 2 _ rfl⟩
set_option maxHeartbeats 8000000 in
set_option maxRecDepth 100000 in
/-- The walk: the Go text returns true. -/
theorem walk (a0 : Option Addr) (len0 cap0 : Nat) (z0 : List Int) (w : World) (w0 : IsRow .u8 w a0 len0 cap0 z0) :
    Calls Try.prog 7 #[.slice a0 len0 cap0] w fun e w' => e = .returned (.bool true) ∧ Below w.heap.size w w' := by
  obtain ⟨bs, rfl, hwf, hr⟩ := Row.given w0
  clear w0
  by_cases hl : bs.length ≤ 1048576
  · clear hr hwf
    have hb1 := bel_new w (.cells #[.int .i64 2, .int .i64 4, .int .i64 3, .int .i64 6, .int .i64 9, .int .i64 11] 55)
    have hr1 := World.ownsRow_lit (base := w.heap.size) (e := 55) (size := 2) w #[.int .i64 2, .int .i64 4, .int .i64 3, .int .i64 6, .int .i64 9, .int .i64 11] 3 (Nat.le_refl _) (by unfold maxLen; omega) rfl
    obtain ⟨X1, hX1⟩ : ∃ W1, w.alloc (.cells #[.int .i64 2, .int .i64 4, .int .i64 3, .int .i64 6, .int .i64 9, .int .i64 11] 55) = W1 := ⟨_, rfl⟩
    rw [hX1] at hb1 hr1
    have hb2 := bel_new X1 (.cells #[.int .i64 13] 3)
    have hr2 := World.ownsRow_lit (base := X1.heap.size) (e := 3) (size := 1) X1 #[.int .i64 13] 1 (Nat.le_refl _) (by unfold maxLen; omega) rfl
    obtain ⟨X2, hX2⟩ : ∃ W2, X1.alloc (.cells #[.int .i64 13] 3) = W2 := ⟨_, rfl⟩
    rw [hX2] at hb2 hr2
    obtain ⟨Xg, hXg⟩ : ∃ g, w.heap.size = g := ⟨_, rfl⟩
    obtain ⟨Xo, hXo⟩ : ∃ g, X1.heap.size = g := ⟨_, rfl⟩
    have hb3 := bel_new X2 (.cells #[.int .i64 3, .slice none 0 0, .slice (some ⟨Xg, 0, none⟩) 3 3, .slice (some ⟨Xo, 0, none⟩) 1 1] 31)
    have PCX := PCells.boxed X2 3 (.slice none 0 0) (.slice (some ⟨Xg, 0, none⟩) 3 3) (.slice (some ⟨Xo, 0, none⟩) 1 1) 31
    obtain ⟨X3, hX3⟩ : ∃ W3, X2.alloc (.cells #[.int .i64 3, .slice none 0 0, .slice (some ⟨Xg, 0, none⟩) 3 3, .slice (some ⟨Xo, 0, none⟩) 1 1] 31) = W3 := ⟨_, rfl⟩
    obtain ⟨Xb, hXb⟩ : ∃ g, X2.heap.size = g := ⟨_, rfl⟩
    rw [hX3] at hb3 PCX
    rw [hXb] at PCX
    have HCX : Hid (CircAt X3 (.agg #[.int .i64 3, .slice none 0 0, .slice (some ⟨Xg, 0, none⟩) 3 3, .slice (some ⟨Xo, 0, none⟩) 1 1]) (Cir.toCz muxI)) := Lib.hid (by
      rw [← hXg, ← hXo]
      exact ⟨_, _, _, rfl, Row.of_own (World.ownsRow_nil _ 0 3 1), Row.of_own (own_below (own_below hr1 hb2) hb3), Row.of_own (own_below hr2 hb3)⟩)
    have BX := hb1.trans ((hb2.trans (hb3.mono hb2.size)).mono hb1.size)
    clear hb1 hb2 hb3 hr1 hr2
    have hb1 := bel_new X3 (.cells #[.int .i64 2, .int .i64 4, .int .i64 3, .int .i64 6, .int .i64 9, .int .i64 11, .int .i64 4, .int .i64 6, .int .i64 12, .int .i64 15] 55)
    have hr1 := World.ownsRow_lit (base := X3.heap.size) (e := 55) (size := 2) X3 #[.int .i64 2, .int .i64 4, .int .i64 3, .int .i64 6, .int .i64 9, .int .i64 11, .int .i64 4, .int .i64 6, .int .i64 12, .int .i64 15] 5 (Nat.le_refl _) (by unfold maxLen; omega) rfl
    obtain ⟨Y1, hY1⟩ : ∃ W1, X3.alloc (.cells #[.int .i64 2, .int .i64 4, .int .i64 3, .int .i64 6, .int .i64 9, .int .i64 11, .int .i64 4, .int .i64 6, .int .i64 12, .int .i64 15] 55) = W1 := ⟨_, rfl⟩
    rw [hY1] at hb1 hr1
    have hb2 := bel_new Y1 (.cells #[.int .i64 17] 3)
    have hr2 := World.ownsRow_lit (base := Y1.heap.size) (e := 3) (size := 1) Y1 #[.int .i64 17] 1 (Nat.le_refl _) (by unfold maxLen; omega) rfl
    obtain ⟨Y2, hY2⟩ : ∃ W2, Y1.alloc (.cells #[.int .i64 17] 3) = W2 := ⟨_, rfl⟩
    rw [hY2] at hb2 hr2
    obtain ⟨Yg, hYg⟩ : ∃ g, X3.heap.size = g := ⟨_, rfl⟩
    obtain ⟨Yo, hYo⟩ : ∃ g, Y1.heap.size = g := ⟨_, rfl⟩
    have hb3 := bel_new Y2 (.cells #[.int .i64 3, .slice none 0 0, .slice (some ⟨Yg, 0, none⟩) 5 5, .slice (some ⟨Yo, 0, none⟩) 1 1] 31)
    have PCY := PCells.boxed Y2 3 (.slice none 0 0) (.slice (some ⟨Yg, 0, none⟩) 5 5) (.slice (some ⟨Yo, 0, none⟩) 1 1) 31
    obtain ⟨Y3, hY3⟩ : ∃ W3, Y2.alloc (.cells #[.int .i64 3, .slice none 0 0, .slice (some ⟨Yg, 0, none⟩) 5 5, .slice (some ⟨Yo, 0, none⟩) 1 1] 31) = W3 := ⟨_, rfl⟩
    obtain ⟨Yb, hYb⟩ : ∃ g, Y2.heap.size = g := ⟨_, rfl⟩
    rw [hY3] at hb3 PCY
    rw [hYb] at PCY
    have HCY : Hid (CircAt Y3 (.agg #[.int .i64 3, .slice none 0 0, .slice (some ⟨Yg, 0, none⟩) 5 5, .slice (some ⟨Yo, 0, none⟩) 1 1]) (Cir.toCz safeI)) := Lib.hid (by
      rw [← hYg, ← hYo]
      exact ⟨_, _, _, rfl, Row.of_own (World.ownsRow_nil _ 0 3 1), Row.of_own (own_below (own_below hr1 hb2) hb3), Row.of_own (own_below hr2 hb3)⟩)
    have BY := hb1.trans ((hb2.trans (hb3.mono hb2.size)).mono hb1.size)
    clear hb1 hb2 hb3 hr1 hr2
    have HCX := Lib.hid (HCX.out.below BY)
    have PCX := Lib.hid (PCX.below BY)
    have PCY := Lib.hid PCY
    have B := Lib.hid (BX.trans (BY.mono BX.size))
    obtain ⟨zx, x0, x1, x2, x3⟩ := PCX.out
    obtain ⟨zy, y0, y1, y2, y3⟩ := PCY.out
    obtain ⟨cX, hcX⟩ : ∃ c, c = Cir.toCz muxI := ⟨_, rfl⟩
    obtain ⟨cY, hcY⟩ : ∃ c, c = Cir.toCz safeI := ⟨_, rfl⟩
    rw [← hcX] at HCX
    rw [← hcY] at HCY
    have HcX := Lib.hid hcX
    have HcY := Lib.hid hcY
    have HW := Lib.hid (And.intro hX1 (And.intro hX2 (And.intro hX3 (And.intro hY1 (And.intro hY2 hY3)))))
    have HG := Lib.hid (And.intro hXg (And.intro hXo (And.intro hXb (And.intro hYg (And.intro hYo hYb)))))
    clear BX BY hcX hcY hX1 hX2 hX3 hY1 hY2 hY3 hXg hXo hXb hYg hYo hYb
    go_enter Try.func7, Try.ntmps7
    obtain ⟨hX1, hX2, hX3, hY1, hY2, hY3⟩ := HW.out
    obtain ⟨hXg, hXo, hXb, hYg, hYo, hYb⟩ := HG.out
    go_wp2_with fail
    clear hX1 hX2 hX3 hY1 hY2 hY3 hXg hXo hXb hYg hYo hYb HW HG
    refine (implHaz_any _ cX _ HCX.out).mono ?_
    rintro e w4 ⟨v4, rfl, hO4, hb⟩
    clear zx x0 x1 x2 x3 zy y0 y1 y2 y3
    replace PCX := Lib.hid (PCX.out.below hb)
    replace PCY := Lib.hid (PCY.out.below hb)
    replace HCX := Lib.hid (HCX.out.below hb)
    replace HCY := Lib.hid (HCY.out.below hb)
    replace B := Lib.hid (B.out.trans (hb.mono B.out.size))
    clear hb
    rw [HcX.out, mux_haz] at hO4
    obtain ⟨bz, oz, cz, rfl, hbz, h0, h1, h2⟩ := one_haz (x := 6) (y := 7) (z := 0) hO4
    clear hO4
    obtain ⟨zx, x0, x1, x2, x3⟩ := PCX.out
    obtain ⟨zy, y0, y1, y2, y3⟩ := PCY.out
    go_wp2_with fail
    refine (implHazF_any _ cY _ HCY.out).mono ?_
    rintro e w5 ⟨rfl, hb⟩
    rw [show Cir.hazF cY = true by rw [HcY.out]; exact safe_hazF]
    clear zx x0 x1 x2 x3 zy y0 y1 y2 y3 hbz h0 h1 h2
    replace PCX := Lib.hid (PCX.out.below hb)
    replace PCY := Lib.hid (PCY.out.below hb)
    replace HCX := Lib.hid (HCX.out.below hb)
    replace HCY := Lib.hid (HCY.out.below hb)
    replace B := Lib.hid (B.out.trans (hb.mono B.out.size))
    clear hb
    obtain ⟨zx, x0, x1, x2, x3⟩ := PCX.out
    obtain ⟨zy, y0, y1, y2, y3⟩ := PCY.out
    go_wp2_with fail
    refine (equiv_any _ _ muxI safeI w5 (by rw [← HcX.out]; exact HCX.out) (by rw [← HcY.out]; exact HCY.out) mux_ok safe_ok mux_same).mono ?_
    rintro e w6 ⟨rfl, hb⟩
    clear zx x0 x1 x2 x3 zy y0 y1 y2 y3
    replace PCX := Lib.hid (PCX.out.below hb)
    replace PCY := Lib.hid (PCY.out.below hb)
    replace HCX := Lib.hid (HCX.out.below hb)
    replace HCY := Lib.hid (HCY.out.below hb)
    replace B := Lib.hid (B.out.trans (hb.mono B.out.size))
    clear hb
    obtain ⟨zy, y0, y1, y2, y3⟩ := PCY.out
    go_wp2_with fail
    refine (irredundant_any _ safeI w6 (by rw [← HcY.out]; exact HCY.out) safe_ok).mono ?_
    rintro e w7 ⟨rfl, hb⟩
    rw [safe_irr]
    clear zy y0 y1 y2 y3
    replace B := Lib.hid (B.out.trans (hb.mono B.out.size))
    clear hb
    go_wp2_with fail
    go_ret
    exact ⟨rfl, B.out⟩
  · go_enter Try.func7, Try.ntmps7
    go_wp2_with fail
    go_ret
    exact ⟨rfl, Below.refl _ _⟩

/-! The step from the walk to the row. -/
set_option maxRecDepth 100000 in
theorem lifted (os : Os) (started : os.Started) (H : Type) (enc : TypeId × Value → H) :
    ReturnsInHanded {} Try.checked os 7 .any (Rows.fnHazardExampleSpec.pre6 enc Try.prog Try.f7 Rows.fnHazardExampleRow.domain false) (Rows.fnHazardExampleSpec.post enc Try.prog Try.f7 false true false false) := by
  refine returnsInHanded_of_change (C := Try.checked) own started (by kernel_rfl) Try.func7
    (ChangeSpec.witness6 (enc := enc) (C := Try.checked) false ⟨#[], #[.slice none 0 0], []⟩ 8 (by kernel_rfl) (by kernel_rfl) (by kernel_rfl) (by kernel_rfl)) ?_
  intro W base args ds gs before hval0 hW hcnd _
  have hval : ∀ (j : Nat) t v, Try.f7.params[j]? = some t → args[j]? = some v → Value.okWide Try.prog W .any base t v := hval0
  have hW' := hW
  obtain ⟨p, q, hA0, hV, rfl, hfz, hnd⟩ := hW
  have hA : DataW.TrodAll enc Try.prog W 0 (fun _ => true) true Try.f7.params.toList args.toList ds p := hA0
  rw [Try.params7] at hA hval
  obtain ⟨v0, vs0, d0, ds0, p0, q0, hargs, rfl, rfl, h0, r0⟩ := trodAll_cons hA
  obtain ⟨rfl, rfl, rfl⟩ := trodAll_nil r0
  obtain rfl : args = #[v0] := by cases args; simp_all
  obtain ⟨rfl, rfl⟩ := trodVars_none hV
  obtain ⟨a0, len0, cap0, rfl⟩ := okWide_slice Try.underlying49 (hval 0 49 v0 rfl rfl)
  have k0 := h0
  have lt0 : ∀ x ∈ p0, x.block < W.heap.size := by obtain ⟨m, hm⟩ := k0; exact DataW.trod_lt m _ _ _ hm
  obtain ⟨z0, w0⟩ : ∃ zs, IsRow .u8 W a0 len0 cap0 zs := by
    obtain ⟨fuel, hf⟩ := h0
    rcases open_ints Try.underlying49 Try.underlying5 (by kernel_rfl) hf with ⟨hcs, _⟩ | ⟨x, l, c, zs, hcs, _, hl, hm, hz, _, hcell, hwz⟩
    · simp [Value.cells] at hcs
      obtain ⟨rfl, rfl, rfl⟩ := hcs
      exact ⟨[], .inl ⟨rfl, rfl, rfl, rfl⟩⟩
    · simp [Value.cells] at hcs
      obtain ⟨rfl, rfl, rfl⟩ := hcs
      exact ⟨zs, .inr ⟨_, rfl, hl, hm, by simpa using hz, hcell, hwz⟩⟩
  clear hA0 hval0
  refine (walk a0 len0 cap0 z0 W w0).mono fun e W' ⟨he, bel⟩ => ?_
  subst he
  exact ⟨_, rfl, _, _, _, [], _, [], hW', trodAll_mk1 (shut_bool Try.underlying4 _), (trodAll_cons_mk (Below.trod laidOut (by kernel_rfl) (of_decide_eq_true (by kernel_rfl)) k0 bel lt0) trodAll_mk0), rfl, bel.frame _, fun h => by cases h⟩

theorem over : Rows.fnHazardExampleRow.holds Try.pinned (OpenSpec.ofChange Rows.fnHazardExampleSpec) :=
  OpenClaim.holds_of_wide 7 Try.f7 rfl rfl rfl rfl rfl rfl rfl ⟨rfl, rfl, rfl, rfl, rfl⟩ rfl rfl rfl rfl rfl (by kernel_rfl) Try.func7 (by kernel_rfl)
    (of_decide_eq_true (by kernel_rfl)) (by unfold Func.isWrapper; first | (rw [if_pos (by decide +kernel)]; kernel_rfl) | (rw [if_neg (by decide +kernel)]; exact ⟨rfl, rfl⟩))
    (fun os started H enc _ => lifted os started H enc)

/-- The statement. -/
theorem proved : Rows.FnHazardExampleSaid := over
#print axioms proved
end Go.Proofs.Ytlbfejdbfhgifaa.fnHazardExample
