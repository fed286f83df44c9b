/-
  FnExactMachineValid: The program's MachineValid returns what the reference's MachineValid returns, for every machine, and leaves its machine as it was.
  Conditions: none. For every input that the row reads, the Go function laws.FnExactMachineValid returns true and leaves its arguments as they were.
-/
import Derived.Test.YthnfbjjnabohoaaMacO
import Derived.Test.YthnfbjjnabohoaaRows
import Derived.WalkKit
import Derived.ProofKit
import Derived.OpenShut
import Derived.ShutString
import Derived.ChangeOld
import Derived.Below
namespace Go.Proofs.Ythnfbjjnabohoaa.fnExactMachineValid
open Go.ChangeShapes Go.WideShapes Go.ChangeAt Go.RowKit
set_option linter.unusedVariables false
theorem own : ownKnob Try.prog.godebug = none := by kernel_rfl
theorem laidOut : laidOutB Try.prog = true := by kernel_rfl

set_option maxHeartbeats 4000000 in
set_option maxRecDepth 100000 in
/-- The walk: the Go text returns true. -/
theorem walk (v0 : Value) (w : World) (o0 : AMach w v0) :
    Calls Try.prog 3 #[v0] w fun e w' => e = .returned (.bool true) ∧ Below w.heap.size w w' := by
  obtain ⟨m, hM, -⟩ := o0
  obtain ⟨vn, vo, rfl, -⟩ := id hM
  have HX := Lib.hid (BoxM.made 24 hM)
  have B1 := Lib.hid (bel_alloc w (.cells #[.int .i64 m.ins, vn, vo] 24))
  clear hM
  go_enter Try.func3, Try.ntmps3
  go_wp2_with fail
  generalize w.alloc (.cells #[.int .i64 m.ins, vn, vo] 24) = w0 at *
  refine (szMachine_any _ m _ HX.out.at_).mono ?_
  rintro e w1 ⟨r, rfl, hr, hb1⟩
  have HX := Lib.hid (HX.out.below hb1)
  have B1 := Lib.hid (B1.out.trans (hb1.mono B1.out.size))
  obtain ⟨z, p0, p1, p2⟩ := HX.out.pc
  clear hb1
  rcases hr with rfl | ⟨hr0, hr1, l1⟩
  · go_wp2_with fail
    go_ret
    exact ⟨rfl, B1.out⟩
  · have hr2 : ¬ r < 0 := by omega
    go_wp2_with fail
    refine (toMachine_any _ m _ HX.out.at_ l1).mono ?_
    rintro e w2 ⟨v2, rfl, hO2, hb2⟩
    have HO2 := Lib.hid hO2.at
    have HX := Lib.hid (HX.out.below hb2)
    have B2 := Lib.hid (B1.out.trans (hb2.mono B1.out.size))
    clear hO2 hb2 B1 z p0 p1 p2
    go_wp2_with fail
    refine (specMValid_any _ m _ HO2.out).mono ?_
    rintro e w3 ⟨rfl, hb3⟩
    have HX := Lib.hid (HX.out.below hb3)
    have B3 := Lib.hid (B2.out.trans (hb3.mono B2.out.size))
    obtain ⟨z, p0, p1, p2⟩ := HX.out.pc
    clear hb3 B2 HO2
    go_wp2_with fail
    refine (toMachine_any _ m _ HX.out.at_ l1).mono ?_
    rintro e w4 ⟨v4, rfl, hO4, hb4⟩
    have HO4 := Lib.hid hO4.at
    have HX := Lib.hid (HX.out.below hb4)
    have B4 := Lib.hid (B3.out.trans (hb4.mono B3.out.size))
    obtain ⟨An, cn, Ao, co, hv4, -⟩ := HO4.out.shape
    subst hv4
    have HY := Lib.hid (BoxM.made 27 HO4.out)
    have HX := Lib.hid (HX.out.below (bel_alloc w4 (.cells #[.int .i64 m.ins, .slice An m.next.length cn, .slice Ao m.out.length co] 27)))
    have B4 := Lib.hid (B4.out.alloc B4.out.size (.cells #[.int .i64 m.ins, .slice An m.next.length cn, .slice Ao m.out.length co] 27))
    clear hO4 hb4 B3 z p0 p1 p2
    go_wp2_with fail
    generalize w4.heap.size = gY at *
    generalize w4.alloc (.cells #[.int .i64 m.ins, .slice An m.next.length cn, .slice Ao m.out.length co] 27) = w5 at *
    refine (implMValid_any _ m _ HY.out.at_).mono ?_
    rintro e w6 ⟨rfl, hb6⟩
    have HX := Lib.hid (HX.out.below hb6)
    have HY := Lib.hid (HY.out.below hb6)
    have B6 := Lib.hid (B4.out.trans (hb6.mono B4.out.size))
    have hne : (Mac.valid m != Mac.valid m) = false := by simp
    clear hb6 B4 HO4
    go_wp2_with fail
    refine wp_region_rs (quietRS Try.prog _ w6 _) quietRS_ok (by kernel_rfl) (by kernel_rfl) (by kernel_rfl) (Nat.le_of_ble_eq_true rfl) trivial trivial ?_
    refine rs_look quietRS_ok quiet_any (TEq (.agg #[.int .i64 m.ins, .slice An m.next.length cn, .slice Ao m.out.length co])) (stb_eq _ _) (fun ρ w' ho hK => by
      obtain ⟨h1, -⟩ := hK
      have h1' : ρ (.tmp 5) = .pointer (some ⟨gY, 0, none⟩) := h1
      obtain ⟨-, q0, q1, q2⟩ := HY.out.pc.below (only_below ho)
      refine ⟨_, ?_, rfl⟩
      go_simp) ?_
    refine rs_look quietRS_ok quiet_any (TEq (.agg #[.int .i64 m.ins, vn, vo])) (stb_eq _ _) (fun ρ w' ho hK => by
      obtain ⟨h1, -⟩ := hK
      have h1' : ρ (.tmp 1) = .pointer (some ⟨w.heap.size, 0, none⟩) := h1
      obtain ⟨-, q0, q1, q2⟩ := HX.out.pc.below (only_below ho)
      refine ⟨_, ?_, rfl⟩
      go_simp) ?_
    refine rs_call quietRS_ok quiet_any (TMach m) (stb_mach _) 13 _ _ rfl (fun ρ w' ho hK => by
      obtain ⟨h0, h1, -⟩ := hK
      have h0' : ρ (.func 13) = .func (.func 13) #[] #[] := h0
      have h1' : ρ (.tmp 23) = .agg #[.int .i64 m.ins, vn, vo] := h1
      refine ⟨#[.agg #[.int .i64 m.ins, vn, vo]], ?_, ?_⟩
      · go_simp
      · refine (toMachine_any _ m w' (HX.out.at_.below (only_below ho)) l1).mono ?_
        rintro e w2 ⟨v2, rfl, hO, hb⟩
        exact ⟨v2, rfl, hO.at, hb⟩) ?_
    refine rs_call quietRS_ok quiet_any (TEq (.bool true)) (stb_eq _ _) 15 _ _ rfl (fun ρ w' ho hK => by
      obtain ⟨h0, h1, h2, -⟩ := hK
      have h0' : ρ (.func 15) = .func (.func 15) #[] #[] := h0
      have h1' : ρ (.tmp 22) = .agg #[.int .i64 m.ins, .slice An m.next.length cn, .slice Ao m.out.length co] := h1
      have h2' : MachAt w' (ρ (.tmp 24)) m := h2
      refine ⟨#[.agg #[.int .i64 m.ins, .slice An m.next.length cn, .slice Ao m.out.length co], ρ (.tmp 24)], ?_, ?_⟩
      · go_simp
      · refine (eqMachine_same _ _ m w' (HY.out.at_.below (only_below ho)) h2' l1).mono ?_
        rintro e w2 ⟨rfl, hb⟩
        exact ⟨_, rfl, rfl, hb⟩) ?_
    refine rs_look quietRS_ok quiet_any (TEq (.bool false)) (stb_eq _ _) (fun ρ w' ho hK => by
      obtain ⟨h1, -⟩ := hK
      have h1' : ρ (.tmp 25) = .bool true := h1
      refine ⟨_, ?_, rfl⟩
      go_simp) ?_
    intro f w9 k9 hk9 hI9 ht9 hcp9
    have h9 : f 4 = .bool false := ht9 4 (Nat.le_of_ble_eq_true rfl)
    have Hb9 := Lib.hid (only_below hI9.2.1)
    simp only [putAll, h9, Nat.zero_add, Nat.reduceAdd, Act.put, List.setIfInBounds_toArray, List.set_cons_succ, List.set_cons_zero]
    generalize f 0 = z0, f 1 = z1, f 2 = z2, f 3 = z3
    clear hI9 ht9 hcp9 hk9 h9
    go_wp2_with fail
    go_ret
    exact ⟨rfl, B6.out.trans (Hb9.out.mono B6.out.size)⟩

/-! The step from the walk to the row. -/
set_option maxRecDepth 100000 in
theorem lifted (os : Os) (started : os.Started) (H : Type) (enc : TypeId × Value → H) :
    ReturnsInHanded {} Try.checked os 3 .any (Rows.fnExactMachineValidSpec.pre6 enc Try.prog Try.f3 Rows.fnExactMachineValidRow.domain false) (Rows.fnExactMachineValidSpec.post enc Try.prog Try.f3 false true false false) := by
  refine returnsInHanded_of_change (C := Try.checked) own started (by kernel_rfl) Try.func3
    (ChangeSpec.witness6 (enc := enc) (C := Try.checked) false ⟨#[], #[.agg #[.int .i64 0, .slice none 0 0, .slice none 0 0]], []⟩ 8 (by kernel_rfl) (by kernel_rfl) (by kernel_rfl) (by kernel_rfl)) ?_
  intro W base args ds gs before hval0 hW hcnd _
  have hval : ∀ (j : Nat) t v, Try.f3.params[j]? = some t → args[j]? = some v → Value.okWide Try.prog W .any base t v := hval0
  have hW' := hW
  obtain ⟨p, q, hA0, hV, rfl, hfz, hnd⟩ := hW
  have hA : DataW.TrodAll enc Try.prog W 0 (fun _ => true) true Try.f3.params.toList args.toList ds p := hA0
  rw [Try.params3] at hA hval
  obtain ⟨v0, vs0, d0, ds0, p0, q0, hargs, rfl, rfl, h0, r0⟩ := trodAll_cons hA
  obtain ⟨rfl, rfl, rfl⟩ := trodAll_nil r0
  obtain rfl : args = #[v0] := by cases args; simp_all
  obtain ⟨rfl, rfl⟩ := trodVars_none hV
  have o0 : AMach W v0 := open_amach (hval 0 24 v0 rfl rfl) h0
  have lt0 : ∀ x ∈ p0, x.block < W.heap.size := by obtain ⟨m, hm⟩ := h0; exact DataW.trod_lt m _ _ _ hm
  clear hA0 hval0
  refine (walk v0 W o0).mono fun e W' ⟨he, bel⟩ => ?_
  subst he
  exact ⟨_, rfl, _, _, _, [], _, [], hW', trodAll_mk1 (shut_bool Try.underlying4 _), (trodAll_cons_mk (Below.trod laidOut (by kernel_rfl) (of_decide_eq_true (by kernel_rfl)) h0 bel lt0) trodAll_mk0), rfl, bel.frame _, fun h => by cases h⟩

theorem over : Rows.fnExactMachineValidRow.holds Try.pinned (OpenSpec.ofChange Rows.fnExactMachineValidSpec) :=
  OpenClaim.holds_of_wide 3 Try.f3 rfl rfl rfl rfl rfl rfl rfl ⟨rfl, rfl, rfl, rfl, rfl⟩ rfl rfl rfl rfl rfl (by kernel_rfl) Try.func3 (by kernel_rfl)
    (of_decide_eq_true (by kernel_rfl)) (by unfold Func.isWrapper; first | (rw [if_pos (by decide +kernel)]; kernel_rfl) | (rw [if_neg (by decide +kernel)]; exact ⟨rfl, rfl⟩))
    (fun os started H enc _ => lifted os started H enc)

/-- The statement. -/
theorem proved : Rows.FnExactMachineValidSaid := over
#print axioms proved
end Go.Proofs.Ythnfbjjnabohoaa.fnExactMachineValid
