/-
  FnRunMachine: The program's RunMachine is the reference's; the run of all inputs but the last one is the run of all of them without the last output.
  Conditions: none. For every input that the row reads, the Go function laws.FnRunMachine returns true and leaves its arguments as they were.
-/
import Derived.Test.YtmlmnelbphjfbaaS09
import Derived.Test.YtmlmnelbphjfbaaS03
import Derived.Test.YtmlmnelbphjfbaaS08
import Derived.StillTailTactics
import Derived.Test.YtmlmnelbphjfbaaRows
import Derived.WalkKit
import Derived.ProofKit
import Derived.OpenShut
import Derived.ShutString
import Derived.ChangeOld
import Derived.Below
set_option linter.unusedVariables false
set_option linter.unusedSimpArgs false
namespace Go.Proofs.Ytmlmnelbphjfbaa.fnRunMachine
open Go.ChangeShapes Go.WideShapes Go.ChangeAt Go.RowKit
open Go.ChangeMaps (open_string shut_string)
set_option linter.unusedVariables false

theorem own : ownKnob Try.prog.godebug = none := by kernel_rfl
theorem laidOut : laidOutB Try.prog = true := by kernel_rfl

/-- A slice of integers that came in: nil, or a row of cells. -/
def IsRow (k : IntKind) (w : World) (a : Option Addr) (len cap : Nat) (zs : List Int) : Prop :=
  (a = none ∧ len = 0 ∧ cap = 0 ∧ zs = []) ∨
  ∃ x, a = some x ∧ len ≤ cap ∧ cap ≤ maxLen ∧ zs.length = cap ∧ (∀ i, i < zs.length → w.cell? (x.add i) = some (.int k (zs.getD i 0))) ∧ ∀ n ∈ zs, (Lit.int k n).wf = true


set_option maxHeartbeats 8000000 in
set_option maxRecDepth 100000 in
/-- The walk: the Go text returns true. -/
theorem walk (a0 : Option Addr) (len0 cap0 : Nat) (z0 : List Int) (w : World) (w0 : IsRow .u8 w a0 len0 cap0 z0) :
    Calls Try.prog 4 #[.slice a0 len0 cap0] w fun e w' => e = .returned (.bool true) ∧ Below w.heap.size w w' := by
  obtain ⟨bs, rfl, hwf, hr⟩ := Row.given w0
  clear w0
  by_cases hl : bs.length ≤ 1048576
  · have Hr := Lib.hid hr
    clear hr
    go_enter Try.func4, Try.ntmps4
    go_wp2_with fail
    refine (drawRun_any _ bs w Hr.out hwf hl).mono ?_
    rintro e w1 ⟨v1, m, vi, ins, rfl, hm, hi, hil, hb1⟩
    obtain ⟨An, cn, Ao, co, rfl, hcnm, hcom, hcn1, hco1⟩ := hm.shape
    obtain ⟨Ai, ci, rfl, hci, hcim⟩ := Row.shape hi
    unfold maxLen at hcnm hcom hcim
    have hbx := bel_new w1 (.cells #[.int .i64 m.ins, .slice An m.next.length cn, .slice Ao m.out.length co] 25)
    have PC := Lib.hid (MCells.boxed w1 m.ins (.slice An m.next.length cn) (.slice Ao m.out.length co) 25)
    have HC := Lib.hid (hm.below hbx)
    have HI := Lib.hid (Row.below hi hbx)
    have B := Lib.hid (hb1.trans (hbx.mono hb1.size))
    clear hm hi hb1 Hr hwf hbx
    go_wp2_with fail
    generalize w1.alloc (.cells #[.int .i64 m.ins, .slice An m.next.length cn, .slice Ao m.out.length co] 25) = w2 at *
    obtain ⟨gb, hgb⟩ : ∃ gb, w1.heap.size = gb := ⟨_, rfl⟩
    rw [hgb] at PC ⊢
    clear hgb
    obtain ⟨z, p0, p1, p2⟩ := PC.out
    have HPre := Lib.hid (Mac.run_prefix (m := m) (ins := ins))
    obtain ⟨R, hR⟩ : ∃ R, Mac.runI m ins = R := ⟨_, rfl⟩
    rw [hR] at HPre
    have HR := Lib.hid hR
    clear hR
    refine (implRun_any _ _ m ins _ HC.out HI.out).mono ?_
    rintro e w3 ⟨v3, rfl, hO, hb⟩
    rw [HR.out] at hO
    obtain ⟨A3, c3, rfl⟩ := slice_of_own hO
    have HO := Lib.hid (show IntsAt w3 (.slice A3 R.length c3) R from Row.of_own hO)
    obtain ⟨A3', c3', hv3, hc3, hc3m⟩ := Row.shape HO.out
    injection hv3 with hv31 hv32 hv33
    subst hv31 hv33
    unfold maxLen at hc3m
    clear z p0 p1 p2 hO
    replace PC := Lib.hid (PC.out.below hb)
    replace HC := Lib.hid (HC.out.below hb)
    replace HI := Lib.hid (Row.below HI.out hb)
    replace B := Lib.hid (B.out.trans (hb.mono B.out.size))
    clear hb
    obtain ⟨z, p0, p1, p2⟩ := PC.out
    go_wp2_with fail
    refine (specRun_any _ _ m ins _ HC.out HI.out).mono ?_
    rintro e w4 ⟨v4, rfl, hO4, hb⟩
    rw [HR.out] at hO4
    have HO4 := Lib.hid (show IntsAt w4 v4 R from Row.of_own hO4)
    clear z p0 p1 p2 hO4
    replace PC := Lib.hid (PC.out.below hb)
    replace HC := Lib.hid (HC.out.below hb)
    replace HI := Lib.hid (Row.below HI.out hb)
    replace HO := Lib.hid (Row.below HO.out hb)
    replace B := Lib.hid (B.out.trans (hb.mono B.out.size))
    clear hb
    obtain ⟨z, p0, p1, p2⟩ := PC.out
    go_wp2_with fail
    refine (sameInts_same _ _ R _ HO.out HO4.out).mono ?_
    rintro e w5 ⟨rfl, hb⟩
    clear z p0 p1 p2 HO4
    replace PC := Lib.hid (PC.out.below hb)
    replace HC := Lib.hid (HC.out.below hb)
    replace HI := Lib.hid (Row.below HI.out hb)
    replace HO := Lib.hid (Row.below HO.out hb)
    replace B := Lib.hid (B.out.trans (hb.mono B.out.size))
    clear hb
    obtain ⟨z, p0, p1, p2⟩ := PC.out
    by_cases hR0 : R.length = 0
    · have hz0 : ((R.length : Int) == 0) = true := by rw [hR0]; rfl
      clear HPre
      go_wp2_with fail
      refine (alive_any _).mono ?_
      rintro e w8 ⟨rfl, hb⟩
      replace B := Lib.hid (B.out.trans (hb.mono B.out.size))
      clear hb
      go_wp2_with fail
      go_ret
      exact ⟨rfl, B.out⟩
    · obtain ⟨hRl, hRp⟩ := HPre.out hR0
      have hz0 : ((R.length : Int) == 0) = false := by rw [beq_eq_false_iff_ne]; omega
      obtain ⟨n, hn⟩ : ∃ n, ins.length = n + 1 := ⟨ins.length - 1, by omega⟩
      have hwn : IntKind.i64.wrap ((ins.length : Int) - 1) = (n : Int) := by rw [IntWalk.i64_in _ (by omega)]; omega
      have heq : ((R.length : Int) == (ins.length : Int)) = true := by rw [hRl]; simp
      have HRp := Lib.hid (hRp n)
      have hn1 : n ≤ ci := by omega
      have hn2 : n ≤ c3 := by omega
      have hn3 : (0 : Int) ≤ n := by omega
      have HT1 : Hid (IntsAt w5 (.slice Ai n ci) (ins.take n)) := Lib.hid (ints_take HI.out (by omega))
      have HT2 : Hid (IntsAt w5 (.slice A3 n c3) (R.take n)) := Lib.hid (ints_take HO.out (by omega))
      have HRl := Lib.hid hRl
      have Hn := Lib.hid hn
      clear HPre hRp hR0 hRl hn
      go_wp2_with fail
      refine wp_region_rsG [(5, true)] (quietRS Try.prog _ w5 _) quietRS_ok (by kernel_rfl) (by kernel_rfl) (by kernel_rfl) (Nat.le_of_ble_eq_true rfl) trivial trivial ?_
      refine rs_peel ?_
      refine rs_old quietRS_ok quiet_any _ (.inl rfl) _ rfl rfl ?_
      refine rs_peel ?_
      apply rs_eq quietRS_ok quiet_any
      · intro ρ w' ho hK
        have ho : Only _ w5 w' := ho
        obtain ⟨h0, -⟩ := hK
        have h0' : ρ (.tmp 31) = _ := h0
        go_simp
        try exact rfl
      refine rs_peel ?_
      refine rs_old quietRS_ok quiet_any _ (.inl rfl) _ rfl rfl ?_
      refine rs_peel ?_
      apply rs_eq quietRS_ok quiet_any
      · intro ρ w' ho hK
        have ho : Only _ w5 w' := ho
        obtain ⟨h0, -⟩ := hK
        have h0' : ρ (.tmp 33) = _ := h0
        go_simp
        try exact rfl
      refine rs_peel ?_
      refine rs_look quietRS_ok quiet_any (TEq (.bool true)) (stb_eq _ _) (fun ρ w' ho hK => by
        obtain ⟨h0, h1, -⟩ := hK
        have h0' : ρ (.tmp 32) = .int .i64 (R.length : Nat) := h0
        have h1' : ρ (.tmp 34) = .int .i64 (ins.length : Nat) := h1
        refine ⟨.bool true, ?_, rfl⟩
        go_simp) ?_
      refine rs_peel ?_
      refine rs_same quietRS_ok quiet_any 35 4 (.inl rfl) rfl _ rfl ?_
      refine rs_run rfl ?_
      apply rs_eq quietRS_ok quiet_any
      · intro ρ w' ho hK
        have ho : Only _ w5 w' := ho
        obtain ⟨h0, -⟩ := hK
        have h0' : ρ (.tmp 3) = _ := h0
        have hb := only_below ho
        have q0 := (hb.cell (p := ⟨gb, 0, none⟩) z).trans p0
        have q1 := (hb.cell (p := ⟨gb, 1, none⟩) z).trans p1
        have q2 := (hb.cell (p := ⟨gb, 2, none⟩) z).trans p2
        go_simp
        try exact rfl
      refine rs_run rfl ?_
      refine rs_old quietRS_ok quiet_any _ (.inl rfl) _ rfl rfl ?_
      refine rs_run rfl ?_
      refine rs_old quietRS_ok quiet_any _ (.inl rfl) _ rfl rfl ?_
      refine rs_run rfl ?_
      apply rs_eq quietRS_ok quiet_any
      · intro ρ w' ho hK
        have ho : Only _ w5 w' := ho
        obtain ⟨h0, h1, -⟩ := hK
        have h0' : ρ (.tmp 38) = _ := h0
        have h1' : ρ (.tmp 39) = _ := h1
        go_simp
        try exact rfl
      refine rs_run rfl ?_
      refine rs_call quietRS_ok quiet_any (TInts (R.take n)) (stb_ints _) 11 _ _ rfl (fun ρ w' ho hK => by
        have ho : Only _ w5 w' := ho
        obtain ⟨h0, h1, h2, -⟩ := hK
        have h0' : ρ (.func 11) = .func (.func 11) #[] #[] := h0
        have h1' : ρ (.tmp 37) = _ := h1
        have h2' : ρ (.tmp 40) = _ := h2
        refine ⟨#[ρ (.tmp 37), ρ (.tmp 40)], ?_, ?_⟩
        · go_simp
        · rw [h1', h2']
          refine (implRun_any _ _ m (ins.take n) w' (HC.out.below (only_below ho)) (Row.below HT1.out (only_below ho))).mono ?_
          rintro e w2 ⟨v2, rfl, hO, hb⟩
          exact ⟨v2, rfl, by rw [HRp.out] at hO; exact Row.of_own hO, hb⟩) ?_
      refine rs_run rfl ?_
      refine rs_old quietRS_ok quiet_any _ (.inl rfl) _ rfl rfl ?_
      refine rs_run rfl ?_
      refine rs_old quietRS_ok quiet_any _ (.inl rfl) _ rfl rfl ?_
      refine rs_run rfl ?_
      apply rs_eq quietRS_ok quiet_any
      · intro ρ w' ho hK
        have ho : Only _ w5 w' := ho
        obtain ⟨h0, h1, -⟩ := hK
        have h0' : ρ (.tmp 42) = _ := h0
        have h1' : ρ (.tmp 43) = _ := h1
        go_simp
        try exact rfl
      refine rs_run rfl ?_
      refine rs_call quietRS_ok quiet_any (TEq (.bool true)) (stb_eq _ _) 12 _ _ rfl (fun ρ w' ho hK => by
        have ho : Only _ w5 w' := ho
        obtain ⟨h0, h1, h2, -⟩ := hK
        have h0' : ρ (.func 12) = .func (.func 12) #[] #[] := h0
        have h1' : (TInts (R.take n)) w' (ρ (.tmp 41)) := h1
        have h2' : ρ (.tmp 44) = _ := h2
        refine ⟨#[ρ (.tmp 41), ρ (.tmp 44)], ?_, ?_⟩
        · go_simp
        · rw [h2']
          refine (sameInts_same _ _ (R.take n) w' h1' (Row.below HT2.out (only_below ho))).mono ?_
          rintro e w2 ⟨rfl, hb⟩
          exact ⟨_, rfl, rfl, hb⟩) ?_
      refine rs_peel ?_
      apply rs_eq quietRS_ok quiet_any
      · intro ρ w' ho hK
        have ho : Only _ w5 w' := ho
        obtain ⟨h0, h1, h2, -⟩ := hK
        have h0' : ρ (.tmp 36) = _ := h0
        have h1' : ρ (.tmp 45) = _ := h1
        have h2' : ρ (.const (Value.bool false)) = (Value.bool false) := h2
        go_simp
        try exact rfl
      refine rs_peel ?_
      refine rs_same quietRS_ok quiet_any 46 15 (.inr rfl) rfl _ rfl ?_
      refine ⟨⟨rfl, trivial⟩, ?_⟩
      intro f w9 k9 hk9 hI9 ht9 hcp9
      have E0 : f 0 = _ := ht9 0 (Nat.le_of_ble_eq_true rfl)
      conv at E0 => rhs; whnf
      have E1 : f 1 = _ := ht9 1 (Nat.le_of_ble_eq_true rfl)
      have E2 : f 2 = _ := ht9 2 (Nat.le_of_ble_eq_true rfl)
      conv at E2 => rhs; whnf
      have E3 : f 3 = _ := ht9 3 (Nat.le_of_ble_eq_true rfl)
      have E4 : f 4 = _ := ht9 4 (Nat.le_of_ble_eq_true rfl)
      have E5 : f 5 = _ := ht9 5 (Nat.le_of_ble_eq_true rfl)
      have E6 : f 6 = _ := ht9 6 (Nat.le_of_ble_eq_true rfl)
      have E7 : f 7 = _ := ht9 7 (Nat.le_of_ble_eq_true rfl)
      conv at E7 => rhs; whnf
      have E8 : f 8 = _ := ht9 8 (Nat.le_of_ble_eq_true rfl)
      conv at E8 => rhs; whnf
      have E9 : f 9 = _ := ht9 9 (Nat.le_of_ble_eq_true rfl)
      have E10 : (TInts (R.take n)) w9 (f 10) := ht9 10 (Nat.le_of_ble_eq_true rfl)
      have E11 : f 11 = _ := ht9 11 (Nat.le_of_ble_eq_true rfl)
      conv at E11 => rhs; whnf
      have E12 : f 12 = _ := ht9 12 (Nat.le_of_ble_eq_true rfl)
      conv at E12 => rhs; whnf
      have E13 : f 13 = _ := ht9 13 (Nat.le_of_ble_eq_true rfl)
      have E14 : f 14 = _ := ht9 14 (Nat.le_of_ble_eq_true rfl)
      have E15 : f 15 = _ := ht9 15 (Nat.le_of_ble_eq_true rfl)
      have E16 : f 16 = _ := ht9 16 (Nat.le_of_ble_eq_true rfl)
      have Ho9 : Only _ w5 w9 := hI9.2.1
      simp only [putAll, E0, E1, E2, E3, E4, E5, E6, E7, E8, E9, E11, E12, E13, E14, E15, E16, Nat.zero_add, Nat.reduceAdd, Act.put, List.setIfInBounds_toArray, List.set_cons_succ, List.set_cons_zero]
      clear E0 E1 E2 E3 E4 E5 E6 E7 E8 E9 E11 E12 E13 E14 E15 E16
      clear hI9 ht9 hcp9 hk9
      generalize f 10 = r10 at *
      have hb := only_below Ho9
      replace B := Lib.hid (B.out.trans (hb.mono B.out.size))
      clear hb Ho9 E10 z p0 p1 p2
      go_wp2_with fail
      go_ret
      exact ⟨rfl, B.out⟩
  · go_enter Try.func4, Try.ntmps4
    go_wp2_with fail
    go_ret
    exact ⟨rfl, Below.refl _ _⟩

/-! The step from the walk to the row. -/
set_option maxRecDepth 100000 in
theorem lifted (os : Os) (started : os.Started) (H : Type) (enc : TypeId × Value → H) :
    ReturnsInHanded {} Try.checked os 4 .any (Rows.fnRunMachineSpec.pre6 enc Try.prog Try.f4 Rows.fnRunMachineRow.domain false) (Rows.fnRunMachineSpec.post enc Try.prog Try.f4 false true false false) := by
  refine returnsInHanded_of_change (C := Try.checked) own started (by kernel_rfl) Try.func4
    (ChangeSpec.witness6 (enc := enc) (C := Try.checked) false ⟨#[], #[.slice none 0 0], []⟩ 8 (by kernel_rfl) (by kernel_rfl) (by kernel_rfl) (by kernel_rfl)) ?_
  intro W base args ds gs before hval0 hW hcnd _
  have hval : ∀ (j : Nat) t v, Try.f4.params[j]? = some t → args[j]? = some v → Value.okWide Try.prog W .any base t v := hval0
  have hW' := hW
  obtain ⟨p, q, hA0, hV, rfl, hfz, hnd⟩ := hW
  have hA : DataW.TrodAll enc Try.prog W 0 (fun _ => true) true Try.f4.params.toList args.toList ds p := hA0
  rw [Try.params4] at hA hval
  obtain ⟨v0, vs0, d0, ds0, p0, q0, hargs, rfl, rfl, h0, r0⟩ := trodAll_cons hA
  obtain ⟨rfl, rfl, rfl⟩ := trodAll_nil r0
  obtain rfl : args = #[v0] := by cases args; simp_all
  obtain ⟨rfl, rfl⟩ := trodVars_none hV
  obtain ⟨a0, len0, cap0, rfl⟩ := okWide_slice Try.underlying22 (hval 0 22 v0 rfl rfl)
  have k0 := h0
  have lt0 : ∀ x ∈ p0, x.block < W.heap.size := by obtain ⟨m, hm⟩ := k0; exact DataW.trod_lt m _ _ _ hm
  obtain ⟨z0, w0⟩ : ∃ zs, IsRow .u8 W a0 len0 cap0 zs := by
    obtain ⟨fuel, hf⟩ := h0
    rcases open_ints Try.underlying22 Try.underlying5 (by kernel_rfl) hf with ⟨hcs, _⟩ | ⟨x, l, c, zs, hcs, _, hl, hm, hz, _, hcell, hwz⟩
    · simp [Value.cells] at hcs
      obtain ⟨rfl, rfl, rfl⟩ := hcs
      exact ⟨[], .inl ⟨rfl, rfl, rfl, rfl⟩⟩
    · simp [Value.cells] at hcs
      obtain ⟨rfl, rfl, rfl⟩ := hcs
      exact ⟨zs, .inr ⟨_, rfl, hl, hm, by simpa using hz, hcell, hwz⟩⟩
  clear hA0 hval0
  refine (walk a0 len0 cap0 z0 W w0).mono fun e W' ⟨he, bel⟩ => ?_
  subst he
  exact ⟨_, rfl, _, _, _, [], _, [], hW', trodAll_mk1 (shut_bool Try.underlying4 _), (trodAll_cons_mk (Below.trod laidOut (by kernel_rfl) (of_decide_eq_true (by kernel_rfl)) k0 bel lt0) trodAll_mk0), rfl, bel.frame _, fun h => by cases h⟩

theorem over : Rows.fnRunMachineRow.holds Try.pinned (OpenSpec.ofChange Rows.fnRunMachineSpec) :=
  OpenClaim.holds_of_wide 4 Try.f4 rfl rfl rfl rfl rfl rfl rfl ⟨rfl, rfl, rfl, rfl, rfl⟩ rfl rfl rfl rfl rfl (by kernel_rfl) Try.func4 (by kernel_rfl)
    (of_decide_eq_true (by kernel_rfl)) (by unfold Func.isWrapper; first | (rw [if_pos (by decide +kernel)]; kernel_rfl) | (rw [if_neg (by decide +kernel)]; exact ⟨rfl, rfl⟩))
    (fun os started H enc _ => lifted os started H enc)

/-- The statement. -/
theorem proved : Rows.FnRunMachineSaid := over
#print axioms proved
end Go.Proofs.Ytmlmnelbphjfbaa.fnRunMachine
