/-
  FnExactHazardFree: The program's HazardFree returns what the reference's HazardFree returns, for every circuit, and leaves its argument as it was.
  Conditions: none. For every input that the row reads, the Go function laws.FnExactHazardFree returns true and leaves its arguments as they were.
-/
import Derived.Test.YtlbfejdbfhgifaaS03
import Derived.Test.YtlbfejdbfhgifaaS06
import Derived.Test.YtlbfejdbfhgifaaRows
import Derived.WalkKit
import Derived.ProofKit
import Derived.OpenShut
import Derived.ShutString
import Derived.ChangeOld
import Derived.Below
namespace Go.Proofs.Ytlbfejdbfhgifaa.fnExactHazardFree
open Go.ChangeShapes Go.WideShapes Go.ChangeAt Go.RowKit
set_option linter.unusedVariables false
set_option linter.unusedSimpArgs false
theorem own : ownKnob Try.prog.godebug = none := by kernel_rfl
theorem laidOut : laidOutB Try.prog = true := by kernel_rfl

set_option maxHeartbeats 16000000 in
set_option maxRecDepth 100000 in
/-- The walk: the Go text returns true. -/
theorem walk (v0 : Value) (w : World) (o0 : ACirc w v0) :
    Calls Try.prog 4 #[v0] w fun e w' => e = .returned (.bool true) ∧ Below w.heap.size w w' := by
  obtain ⟨c, hA0, -⟩ := o0
  obtain ⟨vn, vg, vo, rfl, -⟩ := id hA0
  have B := Lib.hid (bel_new w (.cells #[.int .i64 c.ins, vn, vg, vo] 25))
  have HX := Lib.hid (has_kept (A := fun w' => BoxC w' w.heap.size c vn vg vo) (BoxC.made 25 hA0))
  clear hA0
  go_enter Try.func4, Try.ntmps4
  go_wp2_with fail
  have zw0 := B.out.size
  generalize w.alloc (.cells #[.int .i64 c.ins, vn, vg, vo] 25) = w0 at *
  refine (szCircuit_any _ c _ (Kept.boxC HX.out.k).at_).mono ?_
  rintro e w1 ⟨r, rfl, hr, hb⟩
  have z1 := hb.size
  have HX := Lib.hid (HX.out.below hb)
  have B := Lib.hid (B.out.trans (hb.mono B.out.size))
  clear hb
  obtain ⟨z, p0, p1, p2, p3⟩ := (Kept.boxC HX.out.k).pc
  rcases hr with rfl | ⟨hr0, hr1, l1, l2, l3⟩
  · go_wp2_with fail
    go_ret
    exact ⟨rfl, B.out⟩
  have hr2 : ¬ r < 0 := by omega
  go_wp2_with fail
  refine (toCircuit_any _ c _ (Kept.boxC HX.out.k).at_ l1 l2 l3).mono ?_
  rintro e w2 ⟨v2, rfl, hO, hb⟩
  have z2 := hb.size
  have HX := Lib.hid (HX.out.below hb)
  have B := Lib.hid (B.out.trans (hb.mono B.out.size))
  have C2 := Lib.hid (has_kept (A := fun w' => CircAt w' v2 c) (hO.at))
  clear hO hb
  go_wp2_with fail
  refine (specHazF_any _ c _ (Kept.atC C2.out.k)).mono ?_
  rintro e w3 ⟨rfl, hb⟩
  have z3 := hb.size
  have HX := Lib.hid (HX.out.below hb)
  have C2 := Lib.hid (C2.out.below hb)
  have B := Lib.hid (B.out.trans (hb.mono B.out.size))
  have W0 := Lib.hid (has_true w3)
  have hO := trivial
  clear hO hb
  clear C2
  clear z p0 p1 p2 p3
  obtain ⟨z, p0, p1, p2, p3⟩ := (Kept.boxC HX.out.k).pc
  go_wp2_with fail
  refine (toCircuit_any _ c _ (Kept.boxC HX.out.k).at_ l1 l2 l3).mono ?_
  rintro e w4 ⟨v4, rfl, hO, hb⟩
  have z4 := hb.size
  have HX := Lib.hid (HX.out.below hb)
  have W0 := Lib.hid (W0.out.below hb)
  have B := Lib.hid (B.out.trans (hb.mono B.out.size))
  have C4 := Lib.hid (hasCT (hO.ct (Nat.le_refl _) hb.size))
  clear hO hb
  obtain ⟨An, cn, Ag, cg, Ao, co, hvx⟩ := C4.out.k.at.shape
  subst hvx
  have hb := bel_new w4 (.cells #[.int .i64 c.ins, .slice An c.next.length cn, .slice Ag c.gates.length cg, .slice Ao c.outs.length co] 31)
  have HY := Lib.hid (has_kept (A := fun w' => BoxC w' w4.heap.size c (.slice An c.next.length cn) (.slice Ag c.gates.length cg) (.slice Ao c.outs.length co)) (BoxC.made 31 C4.out.k.at))
  have z5 := hb.size
  have y5 : (w4.alloc (.cells #[.int .i64 c.ins, .slice An c.next.length cn, .slice Ag c.gates.length cg, .slice Ao c.outs.length co] 31)).heap.size = w4.heap.size + 1 := by simp
  have HX := Lib.hid (HX.out.below hb)
  have W0 := Lib.hid (W0.out.below hb)
  have C4 := Lib.hid (C4.out.below hb)
  have B := Lib.hid (B.out.trans (hb.mono B.out.size))
  clear hb
  go_wp2_with fail
  obtain ⟨gY, hgY⟩ : ∃ gY, w4.heap.size = gY := ⟨_, rfl⟩
  rw [hgY] at HY ⊢
  have HgY := Lib.hid hgY
  clear hgY
  generalize w4.alloc (.cells #[.int .i64 c.ins, .slice An c.next.length cn, .slice Ag c.gates.length cg, .slice Ao c.outs.length co] 31) = w5 at *
  clear z p0 p1 p2 p3
  obtain ⟨z, p0, p1, p2, p3⟩ := (Kept.boxC HY.out.k).pc
  go_wp2_with fail
  refine (implHazF_any _ c _ (Kept.boxC HY.out.k).at_).mono ?_
  rintro e w6 ⟨rfl, hb⟩
  have z6 := hb.size
  have HX := Lib.hid (HX.out.below hb)
  have W0 := Lib.hid (W0.out.below hb)
  have C4 := Lib.hid (C4.out.below hb)
  have HY := Lib.hid (HY.out.below hb)
  have B := Lib.hid (B.out.trans (hb.mono B.out.size))
  have G0 := Lib.hid (has_true w6)
  have hO := trivial
  clear hO hb
  clear z p0 p1 p2 p3
  have hne : (Cir.hazF c != Cir.hazF c) = false := by simp
  go_wp2_with fail
  have HX9 := Lib.hid (Kept.boxC HX.out.k)
  have HY9 := Lib.hid (Kept.boxC HY.out.k)
  refine wp_region_rs (quietRS Try.prog _ w6 _) quietRS_ok (by kernel_rfl) (by kernel_rfl) (by kernel_rfl) (Nat.le_of_ble_eq_true rfl) trivial trivial ?_
  refine rs_look quietRS_ok quiet_any (TEq (.agg #[.int .i64 c.ins, .slice An c.next.length cn, .slice Ag c.gates.length cg, .slice Ao c.outs.length co])) (stb_eq _ _) (fun ρ w' ho hK => by
    obtain ⟨h1, -⟩ := hK
    have h1' : ρ (.tmp 5) = .pointer (some ⟨gY, 0, none⟩) := h1
    obtain ⟨-, q0, q1, q2, q3⟩ := HY9.out.pc.below (only_below ho)
    refine ⟨_, ?_, rfl⟩
    go_simp) ?_
  refine rs_look quietRS_ok quiet_any (TEq (.agg #[.int .i64 c.ins, vn, vg, vo])) (stb_eq _ _) (fun ρ w' ho hK => by
    obtain ⟨h1, -⟩ := hK
    have h1' : ρ (.tmp 1) = .pointer (some ⟨w.heap.size, 0, none⟩) := h1
    obtain ⟨-, q0, q1, q2, q3⟩ := HX9.out.pc.below (only_below ho)
    refine ⟨_, ?_, rfl⟩
    go_simp) ?_
  refine rs_call quietRS_ok quiet_any (TCirc c) (stb_circ _) 12 _ _ rfl (fun ρ w' ho hK => by
    obtain ⟨h0, h1, -⟩ := hK
    have h0' : ρ (.func 12) = .func (.func 12) #[] #[] := h0
    have h1' : ρ (.tmp 23) = .agg #[.int .i64 c.ins, vn, vg, vo] := h1
    refine ⟨#[.agg #[.int .i64 c.ins, vn, vg, vo]], ?_, ?_⟩
    · go_simp
    · refine (toCircuit_any _ c w' (HX9.out.at_.below (only_below ho)) l1 l2 l3).mono ?_
      rintro e w2 ⟨v2, rfl, hO, hb⟩
      exact ⟨v2, rfl, hO.at, hb⟩) ?_
  refine rs_call quietRS_ok quiet_any (TEq (.bool true)) (stb_eq _ _) 15 _ _ rfl (fun ρ w' ho hK => by
    obtain ⟨h0, h1, h2, -⟩ := hK
    have h0' : ρ (.func 15) = .func (.func 15) #[] #[] := h0
    have h1' : ρ (.tmp 22) = .agg #[.int .i64 c.ins, .slice An c.next.length cn, .slice Ag c.gates.length cg, .slice Ao c.outs.length co] := h1
    have h2' : CircAt w' (ρ (.tmp 24)) c := h2
    refine ⟨#[.agg #[.int .i64 c.ins, .slice An c.next.length cn, .slice Ag c.gates.length cg, .slice Ao c.outs.length co], ρ (.tmp 24)], ?_, ?_⟩
    · go_simp
    · refine (eqCircuit_same _ _ c w' (HY9.out.at_.below (only_below ho)) h2' l1 l3).mono ?_
      rintro e w2 ⟨rfl, hb⟩
      exact ⟨_, rfl, rfl, hb⟩) ?_
  refine rs_look quietRS_ok quiet_any (TEq (.bool false)) (stb_eq _ _) (fun ρ w' ho hK => by
    obtain ⟨h1, -⟩ := hK
    have h1' : ρ (.tmp 25) = .bool true := h1
    refine ⟨_, ?_, rfl⟩
    go_simp) ?_
  intro f w9 k9 hk9 hI9 ht9 hcp9
  have h9 : f 4 = .bool false := ht9 4 (Nat.le_of_ble_eq_true rfl)
  have Hb9 := Lib.hid (only_below hI9.2.1)
  simp only [putAll, h9, Nat.zero_add, Nat.reduceAdd, Act.put, List.setIfInBounds_toArray, List.set_cons_succ, List.set_cons_zero]
  generalize f 0 = z0, f 1 = z1, f 2 = z2, f 3 = z3
  clear hI9 ht9 hcp9 hk9 h9
  clear HX9 HY9
  have hb := Hb9.out
  have z7 := hb.size
  have HX := Lib.hid (HX.out.below hb)
  have W0 := Lib.hid (W0.out.below hb)
  have C4 := Lib.hid (C4.out.below hb)
  have HY := Lib.hid (HY.out.below hb)
  have G0 := Lib.hid (G0.out.below hb)
  have B := Lib.hid (B.out.trans (hb.mono B.out.size))
  clear hb Hb9
  go_wp2_with fail
  go_ret
  exact ⟨rfl, B.out⟩

/-! The step from the walk to the row. -/
set_option maxRecDepth 100000 in
theorem lifted (os : Os) (started : os.Started) (H : Type) (enc : TypeId × Value → H) :
    ReturnsInHanded {} Try.checked os 4 .any (Rows.fnExactHazardFreeSpec.pre6 enc Try.prog Try.f4 Rows.fnExactHazardFreeRow.domain false) (Rows.fnExactHazardFreeSpec.post enc Try.prog Try.f4 false true false false) := by
  refine returnsInHanded_of_change (C := Try.checked) own started (by kernel_rfl) Try.func4
    (ChangeSpec.witness6 (enc := enc) (C := Try.checked) false ⟨#[], #[.agg #[.int .i64 0, .slice none 0 0, .slice none 0 0, .slice none 0 0]], []⟩ 8 (by kernel_rfl) (by kernel_rfl) (by kernel_rfl) (by kernel_rfl)) ?_
  intro W base args ds gs before hval0 hW hcnd _
  have hval : ∀ (j : Nat) t v, Try.f4.params[j]? = some t → args[j]? = some v → Value.okWide Try.prog W .any base t v := hval0
  have hW' := hW
  obtain ⟨p, q, hA0, hV, rfl, hfz, hnd⟩ := hW
  have hA : DataW.TrodAll enc Try.prog W 0 (fun _ => true) true Try.f4.params.toList args.toList ds p := hA0
  rw [Try.params4] at hA hval
  obtain ⟨v0, vs0, d0, ds0, p0, q0, hargs, rfl, rfl, h0, r0⟩ := trodAll_cons hA
  obtain ⟨rfl, rfl, rfl⟩ := trodAll_nil r0
  obtain rfl : args = #[v0] := by cases args; simp_all
  obtain ⟨rfl, rfl⟩ := trodVars_none hV
  have o0 : ACirc W v0 := open_acirc (hval 0 25 v0 rfl rfl) h0
  have lt0 : ∀ x ∈ p0, x.block < W.heap.size := by obtain ⟨m, hm⟩ := h0; exact DataW.trod_lt m _ _ _ hm
  clear hA0 hval0
  refine (walk v0 W o0).mono fun e W' ⟨he, bel⟩ => ?_
  subst he
  exact ⟨_, rfl, _, _, _, [], _, [], hW', trodAll_mk1 (shut_bool Try.underlying4 _), (trodAll_cons_mk (Below.trod laidOut (by kernel_rfl) (of_decide_eq_true (by kernel_rfl)) h0 bel lt0) trodAll_mk0), rfl, bel.frame _, fun h => by cases h⟩

theorem over : Rows.fnExactHazardFreeRow.holds Try.pinned (OpenSpec.ofChange Rows.fnExactHazardFreeSpec) :=
  OpenClaim.holds_of_wide 4 Try.f4 rfl rfl rfl rfl rfl rfl rfl ⟨rfl, rfl, rfl, rfl, rfl⟩ rfl rfl rfl rfl rfl (by kernel_rfl) Try.func4 (by kernel_rfl)
    (of_decide_eq_true (by kernel_rfl)) (by unfold Func.isWrapper; first | (rw [if_pos (by decide +kernel)]; kernel_rfl) | (rw [if_neg (by decide +kernel)]; exact ⟨rfl, rfl⟩))
    (fun os started H enc _ => lifted os started H enc)

/-- The statement. -/
theorem proved : Rows.FnExactHazardFreeSaid := over
#print axioms proved
end Go.Proofs.Ytlbfejdbfhgifaa.fnExactHazardFree
