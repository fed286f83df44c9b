/-
  FnHazardFree: The program's HazardFree is the reference's; for a valid circuit it is true just when there are no hazards, and it is true of a circuit whose outputs are constants and an input.
  Conditions: none. For every input that the row reads, the Go function laws.FnHazardFree returns true and leaves its arguments as they were.
-/
import Derived.Test.YtopimdakpnnbhaaS04
import Derived.Test.YtopimdakpnnbhaaS14
import Derived.Test.YtopimdakpnnbhaaS06
import Derived.StillTailTactics
import Derived.Test.YtopimdakpnnbhaaRows
import Derived.WalkKit
import Derived.ProofKit
import Derived.OpenShut
import Derived.ShutString
import Derived.ChangeOld
import Derived.Below
set_option linter.unusedVariables false
set_option linter.unusedSimpArgs false
namespace Go.Proofs.Ytopimdakpnnbhaa.fnHazardFree
open Go.ChangeShapes Go.WideShapes Go.ChangeAt Go.RowKit
open Go.ChangeMaps (open_string shut_string)
set_option linter.unusedVariables false

theorem own : ownKnob Try.prog.godebug = none := by kernel_rfl
theorem laidOut : laidOutB Try.prog = true := by kernel_rfl

/-- A slice of integers that came in: nil, or a row of cells. -/
def IsRow (k : IntKind) (w : World) (a : Option Addr) (len cap : Nat) (zs : List Int) : Prop :=
  (a = none ∧ len = 0 ∧ cap = 0 ∧ zs = []) ∨
  ∃ x, a = some x ∧ len ≤ cap ∧ cap ≤ maxLen ∧ zs.length = cap ∧ (∀ i, i < zs.length → w.cell? (x.add i) = some (.int k (zs.getD i 0))) ∧ ∀ n ∈ zs, (Lit.int k n).wf = true


set_option maxHeartbeats 8000000 in
set_option maxRecDepth 100000 in
/-- The walk: the Go text returns true. -/
theorem walk (a0 : Option Addr) (len0 cap0 : Nat) (z0 : List Int) (w : World) (w0 : IsRow .u8 w a0 len0 cap0 z0) :
    Calls Try.prog 5 #[.slice a0 len0 cap0] w fun e w' => e = .returned (.bool true) ∧ Below w.heap.size w w' := by
  obtain ⟨bs, rfl, hwf, hr⟩ := Row.given w0
  clear w0
  by_cases hl : bs.length ≤ 1048576
  · have Hr := Lib.hid hr
    clear hr
    go_enter Try.func5, Try.ntmps5
    go_wp2_with fail
    refine (drawHazardFree_any _ bs w Hr.out hwf hl).mono ?_
    rintro e w1 ⟨v1, c, rfl, hO, hS, hb1⟩
    obtain ⟨An, cn, Ag, cg, Ao, co, rfl⟩ := hO.shape
    have HC1 := Lib.hid hO.at
    have Hb1 := Lib.hid hb1
    clear hO hS hb1 Hr hwf
    go_wp2_with fail
    have hbx := bel_new w1 (.cells #[.int .i64 c.ins, .slice An c.next.length cn, .slice Ag c.gates.length cg, .slice Ao c.outs.length co] 26)
    have PC := Lib.hid (PCells.boxed w1 c.ins (.slice An c.next.length cn) (.slice Ag c.gates.length cg) (.slice Ao c.outs.length co) 26)
    have HC := Lib.hid (HC1.out.below hbx)
    have B := Lib.hid (Hb1.out.trans (hbx.mono Hb1.out.size))
    clear hbx
    generalize w1.alloc (.cells #[.int .i64 c.ins, .slice An c.next.length cn, .slice Ag c.gates.length cg, .slice Ao c.outs.length co] 26) = w2 at *
    obtain ⟨gb, hgb2⟩ : ∃ gb, w1.heap.size = gb := ⟨_, rfl⟩
    rw [hgb2] at PC ⊢
    clear hgb2
    obtain ⟨z, p0, p1, p2, p3⟩ := PC.out
    clear HC1 Hb1
    obtain ⟨ok, hok⟩ : ∃ ok, Cir.hazF c = ok := ⟨_, rfl⟩
    have Hok := Lib.hid hok
    clear hok
    refine (implHazF_any _ c _ HC.out).mono ?_
    rintro e w3 ⟨rfl, hb⟩
    rw [Hok.out]
    clear z p0 p1 p2 p3
    replace PC := Lib.hid (PC.out.below hb)
    replace HC := Lib.hid (HC.out.below hb)
    replace B := Lib.hid (B.out.trans (hb.mono B.out.size))
    clear hb
    obtain ⟨z, p0, p1, p2, p3⟩ := PC.out
    go_wp2_with fail
    refine (specHazF_any _ c _ HC.out).mono ?_
    rintro e w4 ⟨rfl, hb⟩
    rw [Hok.out]
    clear z p0 p1 p2 p3
    replace PC := Lib.hid (PC.out.below hb)
    replace HC := Lib.hid (HC.out.below hb)
    replace B := Lib.hid (B.out.trans (hb.mono B.out.size))
    clear hb
    obtain ⟨z, p0, p1, p2, p3⟩ := PC.out
    have hoo : (ok != ok) = false := by simp
    go_wp2_with fail
    refine (specValid_any _ c _ HC.out).mono ?_
    rintro e w5 ⟨rfl, hb⟩
    clear z p0 p1 p2 p3 hoo
    replace PC := Lib.hid (PC.out.below hb)
    replace HC := Lib.hid (HC.out.below hb)
    replace B := Lib.hid (B.out.trans (hb.mono B.out.size))
    clear hb
    obtain ⟨z, p0, p1, p2, p3⟩ := PC.out
    cases hv : Cir.valid c
    · obtain rfl : ok = false := by rw [← Hok.out]; unfold Cir.hazF; rw [hv]; rfl
      clear hv
      go_wp2_with fail
      refine (alive_any _).mono ?_
      rintro e w8 ⟨rfl, hb⟩
      replace B := Lib.hid (B.out.trans (hb.mono B.out.size))
      clear hb
      go_wp2_with fail
      go_ret
      exact ⟨rfl, B.out⟩
    · obtain ⟨hd1, hd2⟩ := Cir.nat_ok hv
      have Hci : Hid (c.ins = ((Cir.nat c).ins : Int)) := Lib.hid (by rw [hd1]; rfl)
      have l1 := hd2.ins
      have Hokl : Hid (ok = decide ((Cir.hazI c).length = 0)) := Lib.hid (by rw [← Hok.out]; unfold Cir.hazF; rw [hv, Bool.true_and]; rfl)
      obtain ⟨i, hi⟩ : ∃ i, (Cir.nat c).ins = i := ⟨_, rfl⟩
      rw [hi] at Hci l1
      rw [Hci.out] at PC p0
      have HW := Lib.hid (wire_free i l1)
      have hw2 : IntKind.i64.wrap (2 * (i : Int)) = 2 * (i : Int) := IntWalk.i64_in _ (by omega)
      have hw21 : IntKind.i64.wrap (2 * (i : Int) + 1) = 2 * (i : Int) + 1 := IntWalk.i64_in _ (by omega)
      have hb6 := bel_new w5 (.cells #[.int .i64 0, .int .i64 1, .int .i64 (2 * (i : Int) + 1)] 3)
      have hb7 := bel_new (w5.alloc (.cells #[.int .i64 0, .int .i64 1, .int .i64 (2 * (i : Int) + 1)] 3)) (.cells #[.int .i64 i, .slice none 0 0, .slice none 0 0, .slice (some ⟨w5.heap.size, 0, none⟩) 3 3] 26)
      have hs6 : (w5.alloc (.cells #[.int .i64 0, .int .i64 1, .int .i64 (2 * (i : Int) + 1)] 3)).heap.size = w5.heap.size + 1 := by simp
      have PX0 := PCells.boxed (w5.alloc (.cells #[.int .i64 0, .int .i64 1, .int .i64 (2 * (i : Int) + 1)] 3)) i (.slice none 0 0) (.slice none 0 0) (.slice (some ⟨w5.heap.size, 0, none⟩) 3 3) 26
      have HX : Hid (CircAt ((w5.alloc (.cells #[.int .i64 0, .int .i64 1, .int .i64 (2 * (i : Int) + 1)] 3)).alloc (.cells #[.int .i64 i, .slice none 0 0, .slice none 0 0, .slice (some ⟨w5.heap.size, 0, none⟩) 3 3] 26)) (.agg #[.int .i64 i, .slice none 0 0, .slice none 0 0, .slice (some ⟨w5.heap.size, 0, none⟩) 3 3]) (Cir.wire i)) := Lib.hid
        ⟨_, _, _, rfl, Row.nil _ _, Row.nil _ _, Row.below (Row.of_own (World.ownsRow_lit (base := w5.heap.size) (e := 3) (size := 1) w5 #[.int .i64 0, .int .i64 1, .int .i64 (2 * (i : Int) + 1)] 3 (Nat.le_refl _) (by unfold maxLen; omega) rfl)) hb7⟩
      rw [hs6] at PX0
      have PX := Lib.hid PX0
      have hb := hb6.trans (hb7.mono hb6.size)
      clear hb6 hb7 PX0 hs6
      replace PC := Lib.hid (PC.out.below hb)
      replace HC := Lib.hid (HC.out.below hb)
      replace B := Lib.hid (B.out.trans (hb.mono B.out.size))
      clear hb
      obtain ⟨w7, hw7⟩ : ∃ w7, (w5.alloc (.cells #[.int .i64 0, .int .i64 1, .int .i64 (2 * (i : Int) + 1)] 3)).alloc (.cells #[.int .i64 i, .slice none 0 0, .slice none 0 0, .slice (some ⟨w5.heap.size, 0, none⟩) 3 3] 26) = w7 := ⟨_, rfl⟩
      rw [hw7] at PC HC HX PX B
      obtain ⟨gl, hgl⟩ : ∃ gl, w5.heap.size = gl := ⟨_, rfl⟩
      rw [hgl] at HX PX hw7
      obtain ⟨y, r0, r1, r2, r3⟩ := PC.out
      rw [Hci.out] at HC
      obtain ⟨n, hn⟩ : ∃ n, (Cir.hazI c).length = n := ⟨_, rfl⟩
      have HN := Lib.hid hn
      rw [hn] at Hokl
      clear hn hv hd1 hd2
      have hq : ((n : Int) == 0) = ok := by rw [Hokl.out, Bool.eq_iff_iff, beq_iff_eq, decide_eq_true_iff]; omega
      have hee : (ok == ok) = true := by simp
      go_wp2_with fail
      refine (implHaz_any _ c _ HC.out).mono ?_
      rintro e w8 ⟨v8, rfl, hO8, hb⟩
      obtain ⟨A8, c8, e8, -, -⟩ := (Row.of_own hO8).shape
      rw [HN.out] at e8
      subst e8
      clear hO8 z p0 p1 p2 p3 y r0 r1 r2 r3 hw7 hgl
      replace PX := Lib.hid (PX.out.below hb)
      replace HX := Lib.hid (HX.out.below hb)
      replace B := Lib.hid (B.out.trans (hb.mono B.out.size))
      clear hb
      obtain ⟨zx, x0, x1, x2, x3⟩ := PX.out
      go_wp2_with fail
      refine (implHazF_any _ (Cir.wire i) _ HX.out).mono ?_
      rintro e w9 ⟨rfl, hb⟩
      rw [HW.out]
      replace B := Lib.hid (B.out.trans (hb.mono B.out.size))
      clear hb
      go_wp2_with fail
      go_ret
      exact ⟨rfl, B.out⟩
  · go_enter Try.func5, Try.ntmps5
    go_wp2_with fail
    go_ret
    exact ⟨rfl, Below.refl _ _⟩

/-! The step from the walk to the row. -/
set_option maxRecDepth 100000 in
theorem lifted (os : Os) (started : os.Started) (H : Type) (enc : TypeId × Value → H) :
    ReturnsInHanded {} Try.checked os 5 .any (Rows.fnHazardFreeSpec.pre6 enc Try.prog Try.f5 Rows.fnHazardFreeRow.domain false) (Rows.fnHazardFreeSpec.post enc Try.prog Try.f5 false true false false) := by
  refine returnsInHanded_of_change (C := Try.checked) own started (by kernel_rfl) Try.func5
    (ChangeSpec.witness6 (enc := enc) (C := Try.checked) false ⟨#[], #[.slice none 0 0], []⟩ 8 (by kernel_rfl) (by kernel_rfl) (by kernel_rfl) (by kernel_rfl)) ?_
  intro W base args ds gs before hval0 hW hcnd _
  have hval : ∀ (j : Nat) t v, Try.f5.params[j]? = some t → args[j]? = some v → Value.okWide Try.prog W .any base t v := hval0
  have hW' := hW
  obtain ⟨p, q, hA0, hV, rfl, hfz, hnd⟩ := hW
  have hA : DataW.TrodAll enc Try.prog W 0 (fun _ => true) true Try.f5.params.toList args.toList ds p := hA0
  rw [Try.params5] at hA hval
  obtain ⟨v0, vs0, d0, ds0, p0, q0, hargs, rfl, rfl, h0, r0⟩ := trodAll_cons hA
  obtain ⟨rfl, rfl, rfl⟩ := trodAll_nil r0
  obtain rfl : args = #[v0] := by cases args; simp_all
  obtain ⟨rfl, rfl⟩ := trodVars_none hV
  obtain ⟨a0, len0, cap0, rfl⟩ := okWide_slice Try.underlying22 (hval 0 22 v0 rfl rfl)
  have k0 := h0
  have lt0 : ∀ x ∈ p0, x.block < W.heap.size := by obtain ⟨m, hm⟩ := k0; exact DataW.trod_lt m _ _ _ hm
  obtain ⟨z0, w0⟩ : ∃ zs, IsRow .u8 W a0 len0 cap0 zs := by
    obtain ⟨fuel, hf⟩ := h0
    rcases open_ints Try.underlying22 Try.underlying5 (by kernel_rfl) hf with ⟨hcs, _⟩ | ⟨x, l, c, zs, hcs, _, hl, hm, hz, _, hcell, hwz⟩
    · simp [Value.cells] at hcs
      obtain ⟨rfl, rfl, rfl⟩ := hcs
      exact ⟨[], .inl ⟨rfl, rfl, rfl, rfl⟩⟩
    · simp [Value.cells] at hcs
      obtain ⟨rfl, rfl, rfl⟩ := hcs
      exact ⟨zs, .inr ⟨_, rfl, hl, hm, by simpa using hz, hcell, hwz⟩⟩
  clear hA0 hval0
  refine (walk a0 len0 cap0 z0 W w0).mono fun e W' ⟨he, bel⟩ => ?_
  subst he
  exact ⟨_, rfl, _, _, _, [], _, [], hW', trodAll_mk1 (shut_bool Try.underlying4 _), (trodAll_cons_mk (Below.trod laidOut (by kernel_rfl) (of_decide_eq_true (by kernel_rfl)) k0 bel lt0) trodAll_mk0), rfl, bel.frame _, fun h => by cases h⟩

theorem over : Rows.fnHazardFreeRow.holds Try.pinned (OpenSpec.ofChange Rows.fnHazardFreeSpec) :=
  OpenClaim.holds_of_wide 5 Try.f5 rfl rfl rfl rfl rfl rfl rfl ⟨rfl, rfl, rfl, rfl, rfl⟩ rfl rfl rfl rfl rfl (by kernel_rfl) Try.func5 (by kernel_rfl)
    (of_decide_eq_true (by kernel_rfl)) (by unfold Func.isWrapper; first | (rw [if_pos (by decide +kernel)]; kernel_rfl) | (rw [if_neg (by decide +kernel)]; exact ⟨rfl, rfl⟩))
    (fun os started H enc _ => lifted os started H enc)

/-- The statement. -/
theorem proved : Rows.FnHazardFreeSaid := over
#print axioms proved
end Go.Proofs.Ytopimdakpnnbhaa.fnHazardFree
