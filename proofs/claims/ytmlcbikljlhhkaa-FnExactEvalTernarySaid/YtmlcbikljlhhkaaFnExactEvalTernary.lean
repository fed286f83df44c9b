/-
  FnExactEvalTernary: The program's EvalTernary returns what the reference's EvalTernary returns, for every circuit, state and inputs, in memory of its own, and leaves its arguments as they were.
  Conditions: none. For every input that the row reads, the Go function laws.FnExactEvalTernary returns true and leaves its arguments as they were.
-/
import Derived.Test.YtmlcbikljlhhkaaHasC
import Derived.Test.YtmlcbikljlhhkaaTernC
import Derived.Test.YtmlcbikljlhhkaaTernD
import Derived.Test.YtmlcbikljlhhkaaRows
import Derived.WalkKit
import Derived.ProofKit
import Derived.OpenShut
import Derived.ShutString
import Derived.ChangeOld
import Derived.Below
namespace Go.Proofs.Ytmlcbikljlhhkaa.fnExactEvalTernary
open Go.ChangeShapes Go.WideShapes Go.ChangeAt Go.RowKit
set_option linter.unusedVariables false
theorem own : ownKnob Try.prog.godebug = none := by kernel_rfl
theorem laidOut : laidOutB Try.prog = true := by kernel_rfl
theorem evalT_len (c : Cz) (st inp : List Int) : (Cir.evalT c st inp).length ≤ 1048576 := by
  unfold Cir.evalT
  split
  · rename_i h
    have hv : Cir.valid c = true := by revert h; unfold Cir.evalOk; cases Cir.valid c <;> simp
    have h1 : st.length = c.next.length ∧ (inp.length : Int) = c.ins := by
      revert h; unfold Cir.evalOk; simp; intro _ h1 h2 _ _; exact ⟨h1, h2⟩
    obtain ⟨_, hd⟩ := Cir.nat_ok hv
    have e : (Cir.nat c).ins = c.ins.toNat := rfl
    have e2 : (Cir.nat c).next.length = c.next.length := List.length_map _
    rw [nats_length, Cir.tvals_length _ (by rw [List.length_map, e]; omega) (by rw [List.length_map, e2]; exact h1.1)]
    have := hd.ins; have := hd.nexts; have := hd.gatess
    unfold Cir.nvars Cir.nfirst
    omega
  · simp
set_option maxHeartbeats 16000000 in
set_option maxRecDepth 100000 in
/-- The walk: the Go text returns true. -/
theorem walk (v0 : Value) (v1 : Value) (v2 : Value) (w : World) (o0 : ACirc w v0) (o1 : AInts w v1) (o2 : AInts w v2) :
    Calls Try.prog 4 #[v0, v1, v2] w fun e w' => e = .returned (.bool true) ∧ Below w.heap.size w w' := by
  obtain ⟨c, hA0, -⟩ := o0
  obtain ⟨vn, vg, vo, rfl, -⟩ := id hA0
  obtain ⟨st, hA1, -⟩ := o1
  obtain ⟨A1, q1, e1, hq1, hm1⟩ := Row.shape hA1
  subst e1
  unfold maxLen at hm1
  obtain ⟨inp, hA2, -⟩ := o2
  obtain ⟨A2, q2, e2, hq2, hm2⟩ := Row.shape hA2
  subst e2
  unfold maxLen at hm2
  have B := Lib.hid (bel_ck w (.cells #[.int .i64 c.ins, vn, vg, vo] 25))
  have HX := Lib.hid (has_kept (A := fun w' => BoxC w' w.heap.size c vn vg vo) (BoxC.made 25 hA0))
  have Ha1 := Lib.hid (has_kept (A := fun w' => IntsAt w' (.slice A1 st.length q1) st) (Row.below hA1 B.out))
  have Ha2 := Lib.hid (has_kept (A := fun w' => IntsAt w' (.slice A2 inp.length q2) inp) (Row.below hA2 B.out))
  clear hA0
  clear hA1
  clear hA2
  have hlen := Lib.hid (evalT_len c st inp)
  by_cases hl1 : 1048576 < (st.length : Int)
  · go_enter Try.func4, Try.ntmps4
    go_wp2_with fail
    go_ret
    exact ⟨rfl, B.out⟩
  by_cases hl2 : 1048576 < (inp.length : Int)
  · go_enter Try.func4, Try.ntmps4
    go_wp2_with fail
    go_ret
    exact ⟨rfl, B.out⟩
  go_enter Try.func4, Try.ntmps4
  go_wp2_with fail
  have zw0 := B.out.size
  generalize w.alloc (.cells #[.int .i64 c.ins, vn, vg, vo] 25) = w0 at *
  refine (szCircuit_any _ c _ (Kept.boxC HX.out.k).at_).mono ?_
  rintro e w1 ⟨r, rfl, hr, hb⟩
  have z1 := hb.size
  have HX := Lib.hid (HX.out.below hb)
  have Ha1 := Lib.hid (Ha1.out.below hb)
  have Ha2 := Lib.hid (Ha2.out.below hb)
  have B := Lib.hid (B.out.trans (hb.mono B.out.size))
  clear hb
  obtain ⟨z, p0, p1, p2, p3⟩ := (Kept.boxC HX.out.k).pc
  rcases hr with rfl | ⟨hr0, hr1, l1, l2, l3⟩
  · go_wp2_with fail
    go_ret
    exact ⟨rfl, B.out⟩
  have hr2 : ¬ r < 0 := by omega
  go_wp2_with fail
  refine (toCircuit_any _ c _ (Kept.boxC HX.out.k).at_ l1 l2 l3).mono ?_
  rintro e w2 ⟨v2, rfl, hO, hb⟩
  have z2 := hb.size
  have HX := Lib.hid (HX.out.below hb)
  have Ha1 := Lib.hid (Ha1.out.below hb)
  have Ha2 := Lib.hid (Ha2.out.below hb)
  have B := Lib.hid (B.out.trans (hb.mono B.out.size))
  have C2 := Lib.hid (has_kept (A := fun w' => CircAt w' v2 c) (hO.at))
  clear hO hb
  go_wp2_with fail
  refine (toIntS_any _ st _ (Kept.atN Ha1.out.k) (by omega)).mono ?_
  rintro e w3 ⟨v3, rfl, hO, hb⟩
  have z3 := hb.size
  have HX := Lib.hid (HX.out.below hb)
  have Ha1 := Lib.hid (Ha1.out.below hb)
  have Ha2 := Lib.hid (Ha2.out.below hb)
  have C2 := Lib.hid (C2.out.below hb)
  have B := Lib.hid (B.out.trans (hb.mono B.out.size))
  have C3 := Lib.hid (has_kept (A := fun w' => IntsAt w' v3 st) (Row.of_own hO))
  clear hO hb
  go_wp2_with fail
  refine (toIntS_any _ inp _ (Kept.atN Ha2.out.k) (by omega)).mono ?_
  rintro e w4 ⟨v4, rfl, hO, hb⟩
  have z4 := hb.size
  have HX := Lib.hid (HX.out.below hb)
  have Ha1 := Lib.hid (Ha1.out.below hb)
  have Ha2 := Lib.hid (Ha2.out.below hb)
  have C2 := Lib.hid (C2.out.below hb)
  have C3 := Lib.hid (C3.out.below hb)
  have B := Lib.hid (B.out.trans (hb.mono B.out.size))
  have C4 := Lib.hid (has_kept (A := fun w' => IntsAt w' v4 inp) (Row.of_own hO))
  clear hO hb
  go_wp2_with fail
  refine (specEvalT_any _ _ _ c st inp _ (Kept.atC C2.out.k) (Kept.atN C3.out.k) (Kept.atN C4.out.k)).mono ?_
  rintro e w5 ⟨u0, rfl, hO, hb⟩
  have z5 := hb.size
  have HX := Lib.hid (HX.out.below hb)
  have Ha1 := Lib.hid (Ha1.out.below hb)
  have Ha2 := Lib.hid (Ha2.out.below hb)
  have C2 := Lib.hid (C2.out.below hb)
  have C3 := Lib.hid (C3.out.below hb)
  have C4 := Lib.hid (C4.out.below hb)
  have B := Lib.hid (B.out.trans (hb.mono B.out.size))
  have W0 := Lib.hid (has_kept (A := fun w' => IntsAt w' u0 (Cir.evalT c st inp)) (Row.of_own hO))
  clear hO hb
  clear C2
  clear C3
  clear C4
  clear z p0 p1 p2 p3
  obtain ⟨z, p0, p1, p2, p3⟩ := (Kept.boxC HX.out.k).pc
  go_wp2_with fail
  refine (toCircuit_any _ c _ (Kept.boxC HX.out.k).at_ l1 l2 l3).mono ?_
  rintro e w6 ⟨v6, rfl, hO, hb⟩
  have z6 := hb.size
  have HX := Lib.hid (HX.out.below hb)
  have Ha1 := Lib.hid (Ha1.out.below hb)
  have Ha2 := Lib.hid (Ha2.out.below hb)
  have W0 := Lib.hid (W0.out.below hb)
  have B := Lib.hid (B.out.trans (hb.mono B.out.size))
  have C6 := Lib.hid (hasCT (hO.ct (Nat.le_refl _) hb.size))
  clear hO hb
  obtain ⟨An, cn, Ag, cg, Ao, co, hvx⟩ := C6.out.k.at.shape
  subst hvx
  have hb := bel_ck w6 (.cells #[.int .i64 c.ins, .slice An c.next.length cn, .slice Ag c.gates.length cg, .slice Ao c.outs.length co] 30)
  have HY := Lib.hid (has_kept (A := fun w' => BoxC w' w6.heap.size c (.slice An c.next.length cn) (.slice Ag c.gates.length cg) (.slice Ao c.outs.length co)) (BoxC.made 30 C6.out.k.at))
  have z7 := hb.size
  have y7 : (w6.alloc (.cells #[.int .i64 c.ins, .slice An c.next.length cn, .slice Ag c.gates.length cg, .slice Ao c.outs.length co] 30)).heap.size = w6.heap.size + 1 := by simp
  have HX := Lib.hid (HX.out.below hb)
  have Ha1 := Lib.hid (Ha1.out.below hb)
  have Ha2 := Lib.hid (Ha2.out.below hb)
  have W0 := Lib.hid (W0.out.below hb)
  have C6 := Lib.hid (C6.out.below hb)
  have B := Lib.hid (B.out.trans (hb.mono B.out.size))
  clear hb
  go_wp2_with fail
  obtain ⟨gY, hgY⟩ : ∃ gY, w6.heap.size = gY := ⟨_, rfl⟩
  rw [hgY] at HY ⊢
  have HgY := Lib.hid hgY
  clear hgY
  generalize w6.alloc (.cells #[.int .i64 c.ins, .slice An c.next.length cn, .slice Ag c.gates.length cg, .slice Ao c.outs.length co] 30) = w7 at *
  go_wp2_with fail
  refine (toIntS_any _ st _ (Kept.atN Ha1.out.k) (by omega)).mono ?_
  rintro e w8 ⟨v8, rfl, hO, hb⟩
  have z8 := hb.size
  have HX := Lib.hid (HX.out.below hb)
  have Ha1 := Lib.hid (Ha1.out.below hb)
  have Ha2 := Lib.hid (Ha2.out.below hb)
  have W0 := Lib.hid (W0.out.below hb)
  have C6 := Lib.hid (C6.out.below hb)
  have HY := Lib.hid (HY.out.below hb)
  have B := Lib.hid (B.out.trans (hb.mono B.out.size))
  have C8 := Lib.hid (has_row hO)
  clear hO hb
  go_wp2_with fail
  refine (toIntS_any _ inp _ (Kept.atN Ha2.out.k) (by omega)).mono ?_
  rintro e w9 ⟨v9, rfl, hO, hb⟩
  have z9 := hb.size
  have HX := Lib.hid (HX.out.below hb)
  have Ha1 := Lib.hid (Ha1.out.below hb)
  have Ha2 := Lib.hid (Ha2.out.below hb)
  have W0 := Lib.hid (W0.out.below hb)
  have C6 := Lib.hid (C6.out.below hb)
  have HY := Lib.hid (HY.out.below hb)
  have C8 := Lib.hid (C8.out.below hb)
  have B := Lib.hid (B.out.trans (hb.mono B.out.size))
  have C9 := Lib.hid (has_row hO)
  clear hO hb
  clear z p0 p1 p2 p3
  obtain ⟨z, p0, p1, p2, p3⟩ := (Kept.boxC HY.out.k).pc
  go_wp2_with fail
  refine (implEvalT_any _ _ _ c st inp _ (Kept.boxC HY.out.k).at_ (ints_of_row C8.out.k) (ints_of_row C9.out.k)).mono ?_
  rintro e w10 ⟨u1, rfl, hO, hb⟩
  have z10 := hb.size
  have HX := Lib.hid (HX.out.below hb)
  have Ha1 := Lib.hid (Ha1.out.below hb)
  have Ha2 := Lib.hid (Ha2.out.below hb)
  have W0 := Lib.hid (W0.out.below hb)
  have C6 := Lib.hid (C6.out.below hb)
  have HY := Lib.hid (HY.out.below hb)
  have C8 := Lib.hid (C8.out.below hb)
  have C9 := Lib.hid (C9.out.below hb)
  have B := Lib.hid (B.out.trans (hb.mono B.out.size))
  have G0 := Lib.hid (has_row hO)
  clear hO hb
  clear z p0 p1 p2 p3
  go_wp2_with fail
  refine (eqIntS_any _ _ (Cir.evalT c st inp) (Cir.evalT c st inp) _ (ints_of_row G0.out.k) (Kept.atN W0.out.k) hlen.out).mono ?_
  rintro e w11 ⟨rfl, hd⟩
  rw [show decide ((Cir.evalT c st inp) = (Cir.evalT c st inp)) = true from decide_eq_true rfl]
  have hb := hd.below w10.heap.size
  clear hd
  have z11 := hb.size
  have HX := Lib.hid (HX.out.below hb)
  have Ha1 := Lib.hid (Ha1.out.below hb)
  have Ha2 := Lib.hid (Ha2.out.below hb)
  have W0 := Lib.hid (W0.out.below hb)
  have C6 := Lib.hid (C6.out.below hb)
  have HY := Lib.hid (HY.out.below hb)
  have C8 := Lib.hid (C8.out.below hb)
  have C9 := Lib.hid (C9.out.below hb)
  have G0 := Lib.hid (G0.out.below hb)
  have B := Lib.hid (B.out.trans (hb.mono B.out.size))
  clear hb
  go_wp2_with fail
  have HX9 := Lib.hid (Kept.boxC HX.out.k)
  have HY9 := Lib.hid (Kept.boxC HY.out.k)
  refine wp_region_rs (quietRS Try.prog _ w11 _) quietRS_ok (by kernel_rfl) (by kernel_rfl) (by kernel_rfl) (Nat.le_of_ble_eq_true rfl) trivial trivial ?_
  refine rs_look quietRS_ok quiet_any (TEq (.agg #[.int .i64 c.ins, .slice An c.next.length cn, .slice Ag c.gates.length cg, .slice Ao c.outs.length co])) (stb_eq _ _) (fun ρ w' ho hK => by
    obtain ⟨h1, -⟩ := hK
    have h1' : ρ (.tmp 9) = .pointer (some ⟨gY, 0, none⟩) := h1
    obtain ⟨-, q0, q1, q2, q3⟩ := HY9.out.pc.below (only_below ho)
    refine ⟨_, ?_, rfl⟩
    go_simp) ?_
  refine rs_look quietRS_ok quiet_any (TEq (.agg #[.int .i64 c.ins, vn, vg, vo])) (stb_eq _ _) (fun ρ w' ho hK => by
    obtain ⟨h1, -⟩ := hK
    have h1' : ρ (.tmp 3) = .pointer (some ⟨w.heap.size, 0, none⟩) := h1
    obtain ⟨-, q0, q1, q2, q3⟩ := HX9.out.pc.below (only_below ho)
    refine ⟨_, ?_, rfl⟩
    go_simp) ?_
  refine rs_call quietRS_ok quiet_any (TCirc c) (stb_circ _) 17 _ _ rfl (fun ρ w' ho hK => by
    obtain ⟨h0, h1, -⟩ := hK
    have h0' : ρ (.func 17) = .func (.func 17) #[] #[] := h0
    have h1' : ρ (.tmp 50) = .agg #[.int .i64 c.ins, vn, vg, vo] := h1
    refine ⟨#[.agg #[.int .i64 c.ins, vn, vg, vo]], ?_, ?_⟩
    · go_simp
    · refine (toCircuit_any _ c w' (HX9.out.at_.below (only_below ho)) l1 l2 l3).mono ?_
      rintro e w2 ⟨v2, rfl, hO, hb⟩
      exact ⟨v2, rfl, hO.at, hb⟩) ?_
  refine rs_call quietRS_ok quiet_any (TEq (.bool true)) (stb_eq _ _) 19 _ _ rfl (fun ρ w' ho hK => by
    obtain ⟨h0, h1, h2, -⟩ := hK
    have h0' : ρ (.func 19) = .func (.func 19) #[] #[] := h0
    have h1' : ρ (.tmp 49) = .agg #[.int .i64 c.ins, .slice An c.next.length cn, .slice Ag c.gates.length cg, .slice Ao c.outs.length co] := h1
    have h2' : CircAt w' (ρ (.tmp 51)) c := h2
    refine ⟨#[.agg #[.int .i64 c.ins, .slice An c.next.length cn, .slice Ag c.gates.length cg, .slice Ao c.outs.length co], ρ (.tmp 51)], ?_, ?_⟩
    · go_simp
    · refine (eqCircuit_same _ _ c w' (HY9.out.at_.below (only_below ho)) h2' l1 l3).mono ?_
      rintro e w2 ⟨rfl, hb⟩
      exact ⟨_, rfl, rfl, hb⟩) ?_
  refine rs_look quietRS_ok quiet_any (TEq (.bool false)) (stb_eq _ _) (fun ρ w' ho hK => by
    obtain ⟨h1, -⟩ := hK
    have h1' : ρ (.tmp 52) = .bool true := h1
    refine ⟨_, ?_, rfl⟩
    go_simp) ?_
  intro f w9 k9 hk9 hI9 ht9 hcp9
  have h9 : f 4 = .bool false := ht9 4 (Nat.le_of_ble_eq_true rfl)
  have Hb9 := Lib.hid (only_below hI9.2.1)
  simp only [putAll, h9, Nat.zero_add, Nat.reduceAdd, Act.put, List.setIfInBounds_toArray, List.set_cons_succ, List.set_cons_zero]
  generalize f 0 = z0, f 1 = z1, f 2 = z2, f 3 = z3
  clear hI9 ht9 hcp9 hk9 h9
  clear HX9 HY9
  have hb := Hb9.out
  have z12 := hb.size
  have HX := Lib.hid (HX.out.below hb)
  have Ha1 := Lib.hid (Ha1.out.below hb)
  have Ha2 := Lib.hid (Ha2.out.below hb)
  have W0 := Lib.hid (W0.out.below hb)
  have C6 := Lib.hid (C6.out.below hb)
  have HY := Lib.hid (HY.out.below hb)
  have C8 := Lib.hid (C8.out.below hb)
  have C9 := Lib.hid (C9.out.below hb)
  have G0 := Lib.hid (G0.out.below hb)
  have B := Lib.hid (B.out.trans (hb.mono B.out.size))
  clear hb Hb9
  go_wp2_with fail
  refine (toIntS_any _ st _ (Kept.atN Ha1.out.k) (by omega)).mono ?_
  rintro e w13 ⟨v13, rfl, hO, hb⟩
  have z13 := hb.size
  have HX := Lib.hid (HX.out.below hb)
  have Ha1 := Lib.hid (Ha1.out.below hb)
  have Ha2 := Lib.hid (Ha2.out.below hb)
  have W0 := Lib.hid (W0.out.below hb)
  have C6 := Lib.hid (C6.out.below hb)
  have HY := Lib.hid (HY.out.below hb)
  have C8 := Lib.hid (C8.out.below hb)
  have C9 := Lib.hid (C9.out.below hb)
  have G0 := Lib.hid (G0.out.below hb)
  have B := Lib.hid (B.out.trans (hb.mono B.out.size))
  have Ct := Lib.hid (Row.of_own hO)
  clear hO hb
  go_wp2_with fail
  refine (eqIntS_any _ _ st st _ (ints_of_row C8.out.k) Ct.out (by omega)).mono ?_
  rintro e w14 ⟨rfl, hd⟩
  rw [show decide (st = st) = true from decide_eq_true rfl]
  have hb := hd.below w13.heap.size
  have z14 := hb.size
  have HX := Lib.hid (HX.out.below hb)
  have Ha1 := Lib.hid (Ha1.out.below hb)
  have Ha2 := Lib.hid (Ha2.out.below hb)
  have W0 := Lib.hid (W0.out.below hb)
  have C6 := Lib.hid (C6.out.below hb)
  have HY := Lib.hid (HY.out.below hb)
  have C8 := Lib.hid (C8.out.below hb)
  have C9 := Lib.hid (C9.out.below hb)
  have G0 := Lib.hid (G0.out.below hb)
  have B := Lib.hid (B.out.trans (hb.mono B.out.size))
  clear hb hd Ct
  go_wp2_with fail
  refine (toIntS_any _ inp _ (Kept.atN Ha2.out.k) (by omega)).mono ?_
  rintro e w15 ⟨v15, rfl, hO, hb⟩
  have z15 := hb.size
  have HX := Lib.hid (HX.out.below hb)
  have Ha1 := Lib.hid (Ha1.out.below hb)
  have Ha2 := Lib.hid (Ha2.out.below hb)
  have W0 := Lib.hid (W0.out.below hb)
  have C6 := Lib.hid (C6.out.below hb)
  have HY := Lib.hid (HY.out.below hb)
  have C8 := Lib.hid (C8.out.below hb)
  have C9 := Lib.hid (C9.out.below hb)
  have G0 := Lib.hid (G0.out.below hb)
  have B := Lib.hid (B.out.trans (hb.mono B.out.size))
  have Ct := Lib.hid (Row.of_own hO)
  clear hO hb
  go_wp2_with fail
  refine (eqIntS_any _ _ inp inp _ (ints_of_row C9.out.k) Ct.out (by omega)).mono ?_
  rintro e w16 ⟨rfl, hd⟩
  rw [show decide (inp = inp) = true from decide_eq_true rfl]
  have hb := hd.below w15.heap.size
  have z16 := hb.size
  have HX := Lib.hid (HX.out.below hb)
  have Ha1 := Lib.hid (Ha1.out.below hb)
  have Ha2 := Lib.hid (Ha2.out.below hb)
  have W0 := Lib.hid (W0.out.below hb)
  have C6 := Lib.hid (C6.out.below hb)
  have HY := Lib.hid (HY.out.below hb)
  have C8 := Lib.hid (C8.out.below hb)
  have C9 := Lib.hid (C9.out.below hb)
  have G0 := Lib.hid (G0.out.below hb)
  have B := Lib.hid (B.out.trans (hb.mono B.out.size))
  clear hb hd Ct
  obtain ⟨z, p0, p1, p2, p3⟩ := (Kept.boxC HY.out.k).pc
  go_wp2_with fail
  have hmk := markCircuit_any _ _ _ c 1 _ C6.out.k C6.out.t l1 l2 l3 (by omega)
  rw [show (((1 : Nat) : Int)) = 1 from rfl] at hmk
  refine hmk.mono ?_
  rintro e w17 ⟨⟨k17, rfl, hk17⟩, ho⟩
  clear hmk
  have z17 := ho.size
  clear HY
  have HX := Lib.hid (HX.out.apart ho (by omega))
  have Ha1 := Lib.hid (Ha1.out.apart ho (by omega))
  have Ha2 := Lib.hid (Ha2.out.apart ho (by omega))
  have W0 := Lib.hid (W0.out.apart ho (by omega))
  have C8 := Lib.hid (C8.out.apart ho (by omega))
  have C9 := Lib.hid (C9.out.apart ho (by omega))
  have G0 := Lib.hid (G0.out.apart ho (by omega))
  have B := Lib.hid (Only.below B.out ho B.out.size (fun g hg => by obtain ⟨h1, h2⟩ := hg; omega))
  clear ho C6
  go_wp2_with fail
  have hmk := markIntS_only _ _ _ _ k17 _ _ C8.out.k (by omega) (by omega)
  refine hmk.mono ?_
  rintro e w18 ⟨⟨k18, rfl, hk18⟩, ho⟩
  clear hmk
  have z18 := ho.size
  have HX := Lib.hid (HX.out.apart ho (by omega))
  have Ha1 := Lib.hid (Ha1.out.apart ho (by omega))
  have Ha2 := Lib.hid (Ha2.out.apart ho (by omega))
  have W0 := Lib.hid (W0.out.apart ho (by omega))
  have C9 := Lib.hid (C9.out.apart ho (by omega))
  have G0 := Lib.hid (G0.out.apart ho (by omega))
  have B := Lib.hid (Only.below B.out ho B.out.size (fun g hg => by obtain ⟨h1, h2⟩ := hg; omega))
  clear ho C8
  go_wp2_with fail
  have hmk := markIntS_only _ _ _ _ k18 _ _ C9.out.k (by omega) (by omega)
  refine hmk.mono ?_
  rintro e w19 ⟨⟨k19, rfl, hk19⟩, ho⟩
  clear hmk
  have z19 := ho.size
  have HX := Lib.hid (HX.out.apart ho (by omega))
  have Ha1 := Lib.hid (Ha1.out.apart ho (by omega))
  have Ha2 := Lib.hid (Ha2.out.apart ho (by omega))
  have W0 := Lib.hid (W0.out.apart ho (by omega))
  have G0 := Lib.hid (G0.out.apart ho (by omega))
  have B := Lib.hid (Only.below B.out ho B.out.size (fun g hg => by obtain ⟨h1, h2⟩ := hg; omega))
  clear ho C9
  go_wp2_with fail
  have hkk : ¬ ((k19 : Int) < 0) := by omega
  go_wp2_with fail
  refine (eqIntS_any _ _ (Cir.evalT c st inp) (Cir.evalT c st inp) _ (ints_of_row G0.out.k) (Kept.atN W0.out.k) hlen.out).mono ?_
  rintro e w20 ⟨rfl, hd⟩
  rw [show decide ((Cir.evalT c st inp) = (Cir.evalT c st inp)) = true from decide_eq_true rfl]
  have hb := hd.below w19.heap.size
  clear hd
  have z20 := hb.size
  have HX := Lib.hid (HX.out.below hb)
  have Ha1 := Lib.hid (Ha1.out.below hb)
  have Ha2 := Lib.hid (Ha2.out.below hb)
  have W0 := Lib.hid (W0.out.below hb)
  have G0 := Lib.hid (G0.out.below hb)
  have B := Lib.hid (B.out.trans (hb.mono B.out.size))
  clear hb
  go_wp2_with fail
  have hmk := markIntS_own _ _ _ _ 1 _ _ G0.out.k hlen.out (by omega)
  rw [show (((1 : Nat) : Int)) = 1 from rfl] at hmk
  refine hmk.mono ?_
  rintro e w21 ⟨rfl, ho, hM⟩
  clear hmk
  have z21 := ho.size
  have HX := Lib.hid (HX.out.apart ho (by omega))
  have Ha1 := Lib.hid (Ha1.out.apart ho (by omega))
  have Ha2 := Lib.hid (Ha2.out.apart ho (by omega))
  have W0 := Lib.hid (W0.out.apart ho (by omega))
  have B := Lib.hid (Only.below B.out ho B.out.size (fun g hg => by obtain ⟨h1, h2⟩ := hg; omega))
  have G0 := Lib.hid hM
  clear ho hM
  go_wp2_with fail
  have hh := heldIntS_any _ _ 1 _ (Row.of_own G0.out.k.1) hlen.out (by omega)
  rw [show (((1 : Nat) : Int)) = 1 from rfl] at hh
  refine hh.mono ?_
  rintro e w' ⟨rfl, rfl⟩
  clear hh
  clear z p0 p1 p2 p3
  obtain ⟨z, p0, p1, p2, p3⟩ := (Kept.boxC HX.out.k).pc
  go_wp2_with fail
  refine (toCircuit_any _ c _ (Kept.boxC HX.out.k).at_ l1 l2 l3).mono ?_
  rintro e w22 ⟨v22, rfl, hO, hb⟩
  have z22 := hb.size
  have HX := Lib.hid (HX.out.below hb)
  have Ha1 := Lib.hid (Ha1.out.below hb)
  have Ha2 := Lib.hid (Ha2.out.below hb)
  have W0 := Lib.hid (W0.out.below hb)
  have G0 := Lib.hid (G0.out.below hb)
  have B := Lib.hid (B.out.trans (hb.mono B.out.size))
  have C22 := Lib.hid (has_kept (A := fun w' => CircAt w' v22 c) (hO.at))
  clear hO hb
  go_wp2_with fail
  refine (toIntS_any _ st _ (Kept.atN Ha1.out.k) (by omega)).mono ?_
  rintro e w23 ⟨v23, rfl, hO, hb⟩
  have z23 := hb.size
  have HX := Lib.hid (HX.out.below hb)
  have Ha1 := Lib.hid (Ha1.out.below hb)
  have Ha2 := Lib.hid (Ha2.out.below hb)
  have W0 := Lib.hid (W0.out.below hb)
  have G0 := Lib.hid (G0.out.below hb)
  have C22 := Lib.hid (C22.out.below hb)
  have B := Lib.hid (B.out.trans (hb.mono B.out.size))
  have C23 := Lib.hid (has_kept (A := fun w' => IntsAt w' v23 st) (Row.of_own hO))
  clear hO hb
  go_wp2_with fail
  refine (toIntS_any _ inp _ (Kept.atN Ha2.out.k) (by omega)).mono ?_
  rintro e w24 ⟨v24, rfl, hO, hb⟩
  have z24 := hb.size
  have HX := Lib.hid (HX.out.below hb)
  have Ha1 := Lib.hid (Ha1.out.below hb)
  have Ha2 := Lib.hid (Ha2.out.below hb)
  have W0 := Lib.hid (W0.out.below hb)
  have G0 := Lib.hid (G0.out.below hb)
  have C22 := Lib.hid (C22.out.below hb)
  have C23 := Lib.hid (C23.out.below hb)
  have B := Lib.hid (B.out.trans (hb.mono B.out.size))
  have C24 := Lib.hid (has_kept (A := fun w' => IntsAt w' v24 inp) (Row.of_own hO))
  clear hO hb
  go_wp2_with fail
  refine (implEvalT_any _ _ _ c st inp _ (Kept.atC C22.out.k) (Kept.atN C23.out.k) (Kept.atN C24.out.k)).mono ?_
  rintro e w25 ⟨u2, rfl, hO, hb⟩
  have z25 := hb.size
  have HX := Lib.hid (HX.out.below hb)
  have Ha1 := Lib.hid (Ha1.out.below hb)
  have Ha2 := Lib.hid (Ha2.out.below hb)
  have W0 := Lib.hid (W0.out.below hb)
  have G0 := Lib.hid (G0.out.below hb)
  have C22 := Lib.hid (C22.out.below hb)
  have C23 := Lib.hid (C23.out.below hb)
  have C24 := Lib.hid (C24.out.below hb)
  have B := Lib.hid (B.out.trans (hb.mono B.out.size))
  have H0 := Lib.hid (has_kept (A := fun w' => IntsAt w' u2 (Cir.evalT c st inp)) (Row.of_own hO))
  clear hO hb
  clear z p0 p1 p2 p3
  go_wp2_with fail
  refine (eqIntS_any _ _ (Cir.evalT c st inp) (Cir.evalT c st inp) _ (Kept.atN H0.out.k) (Kept.atN W0.out.k) hlen.out).mono ?_
  rintro e w26 ⟨rfl, hd⟩
  rw [show decide ((Cir.evalT c st inp) = (Cir.evalT c st inp)) = true from decide_eq_true rfl]
  have hb := hd.below w25.heap.size
  clear hd
  have z26 := hb.size
  have HX := Lib.hid (HX.out.below hb)
  have Ha1 := Lib.hid (Ha1.out.below hb)
  have Ha2 := Lib.hid (Ha2.out.below hb)
  have W0 := Lib.hid (W0.out.below hb)
  have G0 := Lib.hid (G0.out.below hb)
  have C22 := Lib.hid (C22.out.below hb)
  have C23 := Lib.hid (C23.out.below hb)
  have C24 := Lib.hid (C24.out.below hb)
  have H0 := Lib.hid (H0.out.below hb)
  have B := Lib.hid (B.out.trans (hb.mono B.out.size))
  clear hb
  go_wp2_with fail
  have hh := heldIntS_any _ _ 1 _ (Row.of_own G0.out.k.1) hlen.out (by omega)
  rw [show (((1 : Nat) : Int)) = 1 from rfl] at hh
  refine hh.mono ?_
  rintro e w' ⟨rfl, rfl⟩
  clear hh
  go_wp2_with fail
  go_ret
  exact ⟨rfl, B.out⟩

/-! The step from the walk to the row. -/
set_option maxRecDepth 100000 in
theorem lifted (os : Os) (started : os.Started) (H : Type) (enc : TypeId × Value → H) :
    ReturnsInHanded {} Try.checked os 4 .any (Rows.fnExactEvalTernarySpec.pre6 enc Try.prog Try.f4 Rows.fnExactEvalTernaryRow.domain false) (Rows.fnExactEvalTernarySpec.post enc Try.prog Try.f4 false true false false) := by
  refine returnsInHanded_of_change (C := Try.checked) own started (by kernel_rfl) Try.func4
    (ChangeSpec.witness6 (enc := enc) (C := Try.checked) false ⟨#[], #[.agg #[.int .i64 0, .slice none 0 0, .slice none 0 0, .slice none 0 0], .slice none 0 0, .slice none 0 0], []⟩ 8 (by kernel_rfl) (by kernel_rfl) (by kernel_rfl) (by kernel_rfl)) ?_
  intro W base args ds gs before hval0 hW hcnd _
  have hval : ∀ (j : Nat) t v, Try.f4.params[j]? = some t → args[j]? = some v → Value.okWide Try.prog W .any base t v := hval0
  have hW' := hW
  obtain ⟨p, q, hA0, hV, rfl, hfz, hnd⟩ := hW
  have hA : DataW.TrodAll enc Try.prog W 0 (fun _ => true) true Try.f4.params.toList args.toList ds p := hA0
  rw [Try.params4] at hA hval
  obtain ⟨v0, vs0, d0, ds0, p0, q0, hargs, rfl, rfl, h0, r0⟩ := trodAll_cons hA
  obtain ⟨v1, vs1, d1, ds1, p1, q1, rfl, rfl, rfl, h1, r1⟩ := trodAll_cons r0
  obtain ⟨v2, vs2, d2, ds2, p2, q2, rfl, rfl, rfl, h2, r2⟩ := trodAll_cons r1
  obtain ⟨rfl, rfl, rfl⟩ := trodAll_nil r2
  obtain rfl : args = #[v0, v1, v2] := by cases args; simp_all
  obtain ⟨rfl, rfl⟩ := trodVars_none hV
  have o0 : ACirc W v0 := open_acirc (hval 0 25 v0 rfl rfl) h0
  have lt0 : ∀ x ∈ p0, x.block < W.heap.size := by obtain ⟨m, hm⟩ := h0; exact DataW.trod_lt m _ _ _ hm
  have o1 : AInts W v1 := open_aints (hval 1 22 v1 rfl rfl) h1
  have lt1 : ∀ x ∈ p1, x.block < W.heap.size := by obtain ⟨m, hm⟩ := h1; exact DataW.trod_lt m _ _ _ hm
  have o2 : AInts W v2 := open_aints (hval 2 22 v2 rfl rfl) h2
  have lt2 : ∀ x ∈ p2, x.block < W.heap.size := by obtain ⟨m, hm⟩ := h2; exact DataW.trod_lt m _ _ _ hm
  clear hA0 hval0
  refine (walk v0 v1 v2 W o0 o1 o2).mono fun e W' ⟨he, bel⟩ => ?_
  subst he
  exact ⟨_, rfl, _, _, _, [], _, [], hW', trodAll_mk1 (shut_bool Try.underlying4 _), (trodAll_cons_mk (Below.trod laidOut (by kernel_rfl) (of_decide_eq_true (by kernel_rfl)) h0 bel lt0) (trodAll_cons_mk (Below.trod laidOut (by kernel_rfl) (of_decide_eq_true (by kernel_rfl)) h1 bel lt1) (trodAll_cons_mk (Below.trod laidOut (by kernel_rfl) (of_decide_eq_true (by kernel_rfl)) h2 bel lt2) trodAll_mk0))), rfl, bel.frame _, fun h => by cases h⟩

theorem over : Rows.fnExactEvalTernaryRow.holds Try.pinned (OpenSpec.ofChange Rows.fnExactEvalTernarySpec) :=
  OpenClaim.holds_of_wide 4 Try.f4 rfl rfl rfl rfl rfl rfl rfl ⟨rfl, rfl, rfl, rfl, rfl⟩ rfl rfl rfl rfl rfl (by kernel_rfl) Try.func4 (by kernel_rfl)
    (of_decide_eq_true (by kernel_rfl)) (by unfold Func.isWrapper; first | (rw [if_pos (by decide +kernel)]; kernel_rfl) | (rw [if_neg (by decide +kernel)]; exact ⟨rfl, rfl⟩))
    (fun os started H enc _ => lifted os started H enc)

/-- The statement. -/
theorem proved : Rows.FnExactEvalTernarySaid := over
#print axioms proved
end Go.Proofs.Ytmlcbikljlhhkaa.fnExactEvalTernary
