/-
  FnViolationLength: A shortest counterexample of an output of a drawn circuit is as long as that of the optimized circuit, and is found by the program where the reference finds one.
  Conditions: none. For every input that the row reads, the Go function laws.FnViolationLength returns true and leaves its arguments as they were.
-/
import Derived.Test.YtdgminjbgjbamaaS04
import Derived.Test.YtdgminjbgjbamaaS05
import Derived.Test.YtdgminjbgjbamaaS06
import Derived.Test.YtdgminjbgjbamaaS08
import Derived.StillTailTactics
import Derived.Test.YtdgminjbgjbamaaRows
import Derived.WalkKit
import Derived.ProofKit
import Derived.OpenShut
import Derived.ShutString
import Derived.ChangeOld
import Derived.Below
set_option linter.unusedVariables false
set_option linter.unusedSimpArgs false
namespace Go.Proofs.Ytdgminjbgjbamaa.fnViolationLength
open Go.ChangeShapes Go.WideShapes Go.ChangeAt Go.RowKit
open Go.ChangeMaps (open_string shut_string)
set_option linter.unusedVariables false

theorem own : ownKnob Try.prog.godebug = none := by kernel_rfl
theorem laidOut : laidOutB Try.prog = true := by kernel_rfl

/-- A slice of integers that came in: nil, or a row of cells. -/
def IsRow (k : IntKind) (w : World) (a : Option Addr) (len cap : Nat) (zs : List Int) : Prop :=
  (a = none ∧ len = 0 ∧ cap = 0 ∧ zs = []) ∨
  ∃ x, a = some x ∧ len ≤ cap ∧ cap ≤ maxLen ∧ zs.length = cap ∧ (∀ i, i < zs.length → w.cell? (x.add i) = some (.int k (zs.getD i 0))) ∧ ∀ n ∈ zs, (Lit.int k n).wf = true

theorem violI_opt {c : Cz} {o : Int} (h : Cir.valid c = true) : Cir.violI (Cir.optZ c) o = Cir.violI c o := by
  have hs := Cir.optZ_same h
  have hv := Cir.optZ_valid c
  have hl : (Cir.optZ c).outs.length = c.outs.length := by
    have h1 := hs.outss
    simpa [Cir.nat] using h1
  unfold Cir.violI
  rw [h, hv, hl, hs.viol]
theorem violI_bad {c : Cz} {o : Int} (h : Cir.valid c = false) : Cir.violI (Cir.optZ c) o = none ∧ Cir.violI c o = none := by
  unfold Cir.violI Cir.optZ
  rw [h]
  simp
  intro _ h1 h2
  omega
theorem rows_len (i j : Nat) (r : Option (List Nat)) : (vrows i r).length = (vrows j r).length := by
  cases r with
  | none => rfl
  | some p => simp [vrows, rowsOf_length]
set_option maxHeartbeats 8000000 in
set_option maxRecDepth 100000 in
/-- The walk: the Go text returns true. -/
theorem walk (a0 : Option Addr) (len0 cap0 : Nat) (z0 : List Int) (w : World) (w0 : IsRow .u8 w a0 len0 cap0 z0) :
    Calls Try.prog 3 #[.slice a0 len0 cap0] w fun e w' => e = .returned (.bool true) ∧ Below w.heap.size w w' := by
  obtain ⟨bs, rfl, hwf, hr⟩ := Row.given w0
  clear w0
  by_cases hl : bs.length ≤ 1048576
  · have Hr := Lib.hid hr
    clear hr
    go_enter Try.func3, Try.ntmps3
    go_wp2_with fail
    refine (drawFindViolation_any _ bs w Hr.out hwf hl).mono ?_
    rintro e w1 ⟨v1, c, o, rfl, hO, hS, ho1, ho2, hb1⟩
    obtain ⟨An, cn, Ag, cg, Ao, co, rfl⟩ := hO.shape
    have HC1 := Lib.hid hO.at
    have Hb1 := Lib.hid hb1
    clear hO hS hb1 Hr hwf
    go_wp2_with fail
    have hbx := bel_new w1 (.cells #[.int .i64 c.ins, .slice An c.next.length cn, .slice Ag c.gates.length cg, .slice Ao c.outs.length co] 26)
    have PC := Lib.hid (PCells.boxed w1 c.ins (.slice An c.next.length cn) (.slice Ag c.gates.length cg) (.slice Ao c.outs.length co) 26)
    have HC := Lib.hid (HC1.out.below hbx)
    have B := Lib.hid (Hb1.out.trans (hbx.mono Hb1.out.size))
    clear hbx
    generalize w1.alloc (.cells #[.int .i64 c.ins, .slice An c.next.length cn, .slice Ag c.gates.length cg, .slice Ao c.outs.length co] 26) = w2 at *
    obtain ⟨gb, hgb2⟩ : ∃ gb, w1.heap.size = gb := ⟨_, rfl⟩
    rw [hgb2] at PC ⊢
    clear hgb2
    obtain ⟨z, p0, p1, p2, p3⟩ := PC.out
    clear HC1 Hb1
    obtain ⟨fb, hfb⟩ : ∃ fb, (Cir.violI c o).isSome = fb := ⟨_, rfl⟩
    obtain ⟨X, hX⟩ : ∃ X, vrows (Cir.nat c).ins (Cir.violI c o) = X := ⟨_, rfl⟩
    have HFX := Lib.hid (And.intro hfb hX)
    clear hfb hX
    refine (implViol_any _ c o _ HC.out).mono ?_
    rintro e w3 ⟨v3, rfl, hO3, hb⟩
    rw [HFX.out.2] at hO3
    rw [HFX.out.1]
    obtain ⟨A3, c3, e3, -⟩ := (OwnSS.at hO3).shape
    subst e3
    clear hO3 z p0 p1 p2 p3
    replace PC := Lib.hid (PC.out.below hb)
    replace HC := Lib.hid (HC.out.below hb)
    replace B := Lib.hid (B.out.trans (hb.mono B.out.size))
    clear hb
    obtain ⟨z, p0, p1, p2, p3⟩ := PC.out
    have hb := bel_new w3 (.cells #[.bool fb, .slice A3 X.length c3] 31)
    have VC := Lib.hid (VCells.boxed w3 fb (.slice A3 X.length c3) 31)
    clear z p0 p1 p2 p3
    replace PC := Lib.hid (PC.out.below hb)
    replace HC := Lib.hid (HC.out.below hb)
    replace B := Lib.hid (B.out.trans (hb.mono B.out.size))
    clear hb
    go_wp2_with fail
    generalize w3.alloc (.cells #[.bool fb, .slice A3 X.length c3] 31) = w4 at *
    obtain ⟨gv, hgv⟩ : ∃ gv, w3.heap.size = gv := ⟨_, rfl⟩
    rw [hgv] at VC ⊢
    clear hgv
    obtain ⟨z, p0, p1, p2, p3⟩ := PC.out
    obtain ⟨zv, v0, v1⟩ := VC.out
    refine wp_region_rs (quietRS Try.prog _ w4 _) quietRS_ok (by kernel_rfl) (by kernel_rfl) (by kernel_rfl) (Nat.le_of_ble_eq_true rfl) trivial trivial ?_
    apply rs_eq quietRS_ok quiet_any
    · intro ρ w' ho hK
      have ho : Only _ w4 w' := ho
      obtain ⟨h0, -⟩ := hK
      have h0' : ρ (.tmp 5) = _ := h0
      go_simp
      try exact rfl
    apply rs_eq quietRS_ok quiet_any
    · intro ρ w' ho hK
      have ho : Only _ w4 w' := ho
      obtain ⟨h0, -⟩ := hK
      have h0' : ρ (.tmp 18) = _ := h0
      have hb := only_below ho
      have q0 := (hb.cell (p := ⟨gb, 0, none⟩) z).trans p0
      have q1 := (hb.cell (p := ⟨gb, 1, none⟩) z).trans p1
      have q2 := (hb.cell (p := ⟨gb, 2, none⟩) z).trans p2
      have q3 := (hb.cell (p := ⟨gb, 3, none⟩) z).trans p3
      have q4 := (hb.cell (p := ⟨gv, 0, none⟩) zv).trans v0
      go_simp
      try exact rfl
    apply rs_eq quietRS_ok quiet_any
    · intro ρ w' ho hK
      have ho : Only _ w4 w' := ho
      obtain ⟨h0, -⟩ := hK
      have h0' : ρ (.tmp 3) = _ := h0
      have hb := only_below ho
      have q0 := (hb.cell (p := ⟨gb, 0, none⟩) z).trans p0
      have q1 := (hb.cell (p := ⟨gb, 1, none⟩) z).trans p1
      have q2 := (hb.cell (p := ⟨gb, 2, none⟩) z).trans p2
      have q3 := (hb.cell (p := ⟨gb, 3, none⟩) z).trans p3
      have q4 := (hb.cell (p := ⟨gv, 0, none⟩) zv).trans v0
      go_simp
      try exact rfl
    refine rs_old quietRS_ok quiet_any _ (.inl rfl) _ rfl rfl ?_
    refine rs_call quietRS_ok quiet_any (TOf (fun v => ∃ A n c, v = .agg #[.bool fb, .slice A n c])) (stb_of _ _) 9 _ _ rfl (fun ρ w' ho hK => by
      have ho : Only _ w4 w' := ho
      obtain ⟨h0, h1, h2, -⟩ := hK
      have h0' : ρ (.func 9) = .func (.func 9) #[] #[] := h0
      have h1' : ρ (.tmp 20) = _ := h1
      have h2' : ρ (.tmp 21) = _ := h2
      refine ⟨#[ρ (.tmp 20), ρ (.tmp 21)], ?_, ?_⟩
      · go_simp
      · rw [h1', h2']
        refine (specViol_any _ c o w' (HC.out.below (only_below ho))).mono ?_
        rintro e w2 ⟨⟨v5, rfl, hS5⟩, hb⟩
        rw [HFX.out.1]
        obtain ⟨A5, c5, e5, -⟩ := hS5.shape
        subst e5
        exact ⟨_, rfl, ⟨_, _, _, rfl⟩, hb⟩) ?_
    refine rs_look quietRS_ok quiet_any (TEq (.bool fb)) (stb_eq _ _) (fun ρ w' ho hK => by
      obtain ⟨h0, -⟩ := hK
      obtain ⟨A, n, c', h0'⟩ : ∃ A n c, ρ (.tmp 22) = .agg #[.bool fb, .slice A n c] := h0
      have hf := viol_field0 fb A n c' w'
      refine ⟨.bool fb, ?_, rfl⟩
      go_simp) ?_
    apply rs_eq quietRS_ok quiet_any
    · intro ρ w' ho hK
      have ho : Only _ w4 w' := ho
      obtain ⟨h0, h1, -⟩ := hK
      have h0' : ρ (.tmp 19) = _ := h0
      have h1' : ρ (.tmp 23) = _ := h1
      go_simp
      try exact rfl
    intro f w9 k9 hk9 hI9 ht9 hcp9
    have E0 : f 0 = _ := ht9 0 (Nat.le_of_ble_eq_true rfl)
    have E1 : f 1 = _ := ht9 1 (Nat.le_of_ble_eq_true rfl)
    have E2 : f 2 = _ := ht9 2 (Nat.le_of_ble_eq_true rfl)
    have E3 : f 3 = _ := ht9 3 (Nat.le_of_ble_eq_true rfl)
    conv at E3 => rhs; whnf
    have E4 : (TOf (fun v => ∃ A n c, v = .agg #[.bool fb, .slice A n c])) w9 (f 4) := ht9 4 (Nat.le_of_ble_eq_true rfl)
    have E5 : f 5 = _ := ht9 5 (Nat.le_of_ble_eq_true rfl)
    have E6 : f 6 = _ := ht9 6 (Nat.le_of_ble_eq_true rfl)
    have Ho9 : Only _ w4 w9 := hI9.2.1
    simp only [putAll, E0, E1, E2, E3, E5, E6, Nat.zero_add, Nat.reduceAdd, Act.put, List.setIfInBounds_toArray, List.set_cons_succ, List.set_cons_zero]
    clear E0 E1 E2 E3 E5 E6
    clear hI9 ht9 hcp9 hk9
    generalize f 4 = r4 at *
    have hb := only_below Ho9
    clear z p0 p1 p2 p3 zv v0 v1
    replace PC := Lib.hid (PC.out.below hb)
    replace HC := Lib.hid (HC.out.below hb)
    replace VC := Lib.hid (VC.out.below hb)
    replace B := Lib.hid (B.out.trans (hb.mono B.out.size))
    clear hb Ho9
    obtain ⟨w5, hw5⟩ : ∃ w5, w5 = w9 := ⟨_, rfl⟩
    subst hw5
    have hff : (fb != fb) = false := by simp
    obtain ⟨z, p0, p1, p2, p3⟩ := PC.out
    go_wp2_with fail
    refine (implOpt_any _ c _ HC.out).mono ?_
    rintro e w6 ⟨⟨v6, rfl, hO6⟩, hb⟩
    clear z p0 p1 p2 p3
    replace PC := Lib.hid (PC.out.below hb)
    replace HC := Lib.hid (HC.out.below hb)
    replace VC := Lib.hid (VC.out.below hb)
    replace B := Lib.hid (B.out.trans (hb.mono B.out.size))
    clear hb
    have HO6 := Lib.hid hO6.at
    obtain ⟨A1, c1, A2, c2, A4, c4, e6⟩ := hO6.at.shape
    subst e6
    clear hO6
    generalize hL1 : (Cir.optZ c).next.length = L1 at *
    generalize hL2 : (Cir.optZ c).gates.length = L2 at *
    generalize hL3 : (Cir.optZ c).outs.length = L3 at *
    generalize hL4 : (Cir.optZ c).ins = L4 at *
    clear hL1 hL2 hL3 hL4
    go_wp2_with fail
    obtain ⟨fw, hfw⟩ : ∃ fb, (Cir.violI (Cir.optZ c) o).isSome = fb := ⟨_, rfl⟩
    obtain ⟨Y, hY⟩ : ∃ X, vrows (Cir.nat (Cir.optZ c)).ins (Cir.violI (Cir.optZ c) o) = X := ⟨_, rfl⟩
    have HFY := Lib.hid (And.intro hfw hY)
    clear hfw hY
    refine (implViol_any _ (Cir.optZ c) o _ HO6.out).mono ?_
    rintro e w7 ⟨v7, rfl, hO7, hb⟩
    rw [HFY.out.2] at hO7
    rw [HFY.out.1]
    obtain ⟨A7, c7, e7, -⟩ := (OwnSS.at hO7).shape
    subst e7
    clear hO7 HO6
    replace PC := Lib.hid (PC.out.below hb)
    replace HC := Lib.hid (HC.out.below hb)
    replace VC := Lib.hid (VC.out.below hb)
    replace B := Lib.hid (B.out.trans (hb.mono B.out.size))
    clear hb
    have hb := bel_new w7 (.cells #[.bool fw, .slice A7 Y.length c7] 31)
    have WC := Lib.hid (VCells.boxed w7 fw (.slice A7 Y.length c7) 31)
    replace PC := Lib.hid (PC.out.below hb)
    replace HC := Lib.hid (HC.out.below hb)
    replace VC := Lib.hid (VC.out.below hb)
    replace B := Lib.hid (B.out.trans (hb.mono B.out.size))
    clear hb
    obtain ⟨w8, hw8⟩ : ∃ w8, w7.alloc (.cells #[.bool fw, .slice A7 Y.length c7] 31) = w8 := ⟨_, rfl⟩
    rw [hw8] at PC HC VC WC B
    obtain ⟨gw', hgw'⟩ : ∃ gv, w7.heap.size = gv := ⟨_, rfl⟩
    rw [hgw'] at WC
    obtain ⟨z, p0, p1, p2, p3⟩ := PC.out
    go_wp2_with fail
    refine (specValid_any _ c _ HC.out).mono ?_
    rintro e wa ⟨rfl, hb⟩
    clear z p0 p1 p2 p3 hw8 hgw'
    replace PC := Lib.hid (PC.out.below hb)
    replace HC := Lib.hid (HC.out.below hb)
    replace VC := Lib.hid (VC.out.below hb)
    replace WC := Lib.hid (WC.out.below hb)
    replace B := Lib.hid (B.out.trans (hb.mono B.out.size))
    clear hb
    obtain ⟨zv, v0, v1⟩ := VC.out
    obtain ⟨zw, u0, u1⟩ := WC.out
    cases hv : Cir.valid c
    · obtain ⟨n1, n2⟩ := violI_bad (o := o) hv
      obtain rfl : fb = false := by have := HFX.out.1; rw [n2] at this; exact this.symm
      obtain rfl : fw = false := by have := HFY.out.1; rw [n1] at this; exact this.symm
      clear n1 n2 hv
      go_wp2_with fail
      refine (alive_any _).mono ?_
      rintro e wb ⟨rfl, hb⟩
      replace B := Lib.hid (B.out.trans (hb.mono B.out.size))
      clear hb
      go_wp2_with fail
      go_ret
      exact ⟨rfl, B.out⟩
    · have hw := violI_opt (o := o) hv
      obtain rfl : fw = fb := by rw [← HFX.out.1, ← HFY.out.1, hw]
      have hYX : ((X.length : Int) == (Y.length : Int)) = true := by
        have h1 := rows_len (Cir.nat c).ins (Cir.nat (Cir.optZ c)).ins (Cir.violI c o)
        rw [HFX.out.2, ← hw, HFY.out.2] at h1
        rw [h1]; simp
      clear hv hw
      go_wp2_with fail
      go_ret
      exact ⟨rfl, B.out⟩
  · go_enter Try.func3, Try.ntmps3
    go_wp2_with fail
    go_ret
    exact ⟨rfl, Below.refl _ _⟩

/-! The step from the walk to the row. -/
set_option maxRecDepth 100000 in
theorem lifted (os : Os) (started : os.Started) (H : Type) (enc : TypeId × Value → H) :
    ReturnsInHanded {} Try.checked os 3 .any (Rows.fnViolationLengthSpec.pre6 enc Try.prog Try.f3 Rows.fnViolationLengthRow.domain false) (Rows.fnViolationLengthSpec.post enc Try.prog Try.f3 false true false false) := by
  refine returnsInHanded_of_change (C := Try.checked) own started (by kernel_rfl) Try.func3
    (ChangeSpec.witness6 (enc := enc) (C := Try.checked) false ⟨#[], #[.slice none 0 0], []⟩ 8 (by kernel_rfl) (by kernel_rfl) (by kernel_rfl) (by kernel_rfl)) ?_
  intro W base args ds gs before hval0 hW hcnd _
  have hval : ∀ (j : Nat) t v, Try.f3.params[j]? = some t → args[j]? = some v → Value.okWide Try.prog W .any base t v := hval0
  have hW' := hW
  obtain ⟨p, q, hA0, hV, rfl, hfz, hnd⟩ := hW
  have hA : DataW.TrodAll enc Try.prog W 0 (fun _ => true) true Try.f3.params.toList args.toList ds p := hA0
  rw [Try.params3] at hA hval
  obtain ⟨v0, vs0, d0, ds0, p0, q0, hargs, rfl, rfl, h0, r0⟩ := trodAll_cons hA
  obtain ⟨rfl, rfl, rfl⟩ := trodAll_nil r0
  obtain rfl : args = #[v0] := by cases args; simp_all
  obtain ⟨rfl, rfl⟩ := trodVars_none hV
  obtain ⟨a0, len0, cap0, rfl⟩ := okWide_slice Try.underlying22 (hval 0 22 v0 rfl rfl)
  have k0 := h0
  have lt0 : ∀ x ∈ p0, x.block < W.heap.size := by obtain ⟨m, hm⟩ := k0; exact DataW.trod_lt m _ _ _ hm
  obtain ⟨z0, w0⟩ : ∃ zs, IsRow .u8 W a0 len0 cap0 zs := by
    obtain ⟨fuel, hf⟩ := h0
    rcases open_ints Try.underlying22 Try.underlying5 (by kernel_rfl) hf with ⟨hcs, _⟩ | ⟨x, l, c, zs, hcs, _, hl, hm, hz, _, hcell, hwz⟩
    · simp [Value.cells] at hcs
      obtain ⟨rfl, rfl, rfl⟩ := hcs
      exact ⟨[], .inl ⟨rfl, rfl, rfl, rfl⟩⟩
    · simp [Value.cells] at hcs
      obtain ⟨rfl, rfl, rfl⟩ := hcs
      exact ⟨zs, .inr ⟨_, rfl, hl, hm, by simpa using hz, hcell, hwz⟩⟩
  clear hA0 hval0
  refine (walk a0 len0 cap0 z0 W w0).mono fun e W' ⟨he, bel⟩ => ?_
  subst he
  exact ⟨_, rfl, _, _, _, [], _, [], hW', trodAll_mk1 (shut_bool Try.underlying4 _), (trodAll_cons_mk (Below.trod laidOut (by kernel_rfl) (of_decide_eq_true (by kernel_rfl)) k0 bel lt0) trodAll_mk0), rfl, bel.frame _, fun h => by cases h⟩

theorem over : Rows.fnViolationLengthRow.holds Try.pinned (OpenSpec.ofChange Rows.fnViolationLengthSpec) :=
  OpenClaim.holds_of_wide 3 Try.f3 rfl rfl rfl rfl rfl rfl rfl ⟨rfl, rfl, rfl, rfl, rfl⟩ rfl rfl rfl rfl rfl (by kernel_rfl) Try.func3 (by kernel_rfl)
    (of_decide_eq_true (by kernel_rfl)) (by unfold Func.isWrapper; first | (rw [if_pos (by decide +kernel)]; kernel_rfl) | (rw [if_neg (by decide +kernel)]; exact ⟨rfl, rfl⟩))
    (fun os started H enc _ => lifted os started H enc)

/-- The statement. -/
theorem proved : Rows.FnViolationLengthSaid := over
#print axioms proved
end Go.Proofs.Ytdgminjbgjbamaa.fnViolationLength
