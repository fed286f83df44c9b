/-
  FnOptimizeMachine: The machine of the optimized circuit is the same for the program and for the reference; for a valid circuit it is the circuit's own, and so is that of the swept one.
  Conditions: none. For every input that the row reads, the Go function laws.FnOptimizeMachine returns true and leaves its arguments as they were.
-/
import Derived.Test.YtdgminjbgjbamaaS04
import Derived.Test.YtdgminjbgjbamaaS05
import Derived.Test.YtdgminjbgjbamaaS06
import Derived.Test.YtdgminjbgjbamaaS11
import Derived.Test.YtdgminjbgjbamaaS07
import Derived.Test.YtdgminjbgjbamaaS09
import Derived.StillTailTactics
import Derived.Test.YtdgminjbgjbamaaRows
import Derived.WalkKit
import Derived.ProofKit
import Derived.OpenShut
import Derived.ShutString
import Derived.ChangeOld
import Derived.Below
set_option linter.unusedVariables false
set_option linter.unusedSimpArgs false
namespace Go.Proofs.Ytdgminjbgjbamaa.fnOptimizeMachine
open Go.ChangeShapes Go.WideShapes Go.ChangeAt Go.RowKit
open Go.ChangeMaps (open_string shut_string)
set_option linter.unusedVariables false

theorem own : ownKnob Try.prog.godebug = none := by kernel_rfl
theorem laidOut : laidOutB Try.prog = true := by kernel_rfl

/-- A slice of integers that came in: nil, or a row of cells. -/
def IsRow (k : IntKind) (w : World) (a : Option Addr) (len cap : Nat) (zs : List Int) : Prop :=
  (a = none ∧ len = 0 ∧ cap = 0 ∧ zs = []) ∨
  ∃ x, a = some x ∧ len ≤ cap ∧ cap ≤ maxLen ∧ zs.length = cap ∧ (∀ i, i < zs.length → w.cell? (x.add i) = some (.int k (zs.getD i 0))) ∧ ∀ n ∈ zs, (Lit.int k n).wf = true


set_option maxHeartbeats 8000000 in
set_option maxRecDepth 100000 in
/-- The walk: the Go text returns true. -/
theorem walk (a0 : Option Addr) (len0 cap0 : Nat) (z0 : List Int) (w : World) (w0 : IsRow .u8 w a0 len0 cap0 z0) :
    Calls Try.prog 4 #[.slice a0 len0 cap0] w fun e w' => e = .returned (.bool true) ∧ Below w.heap.size w w' := by
  obtain ⟨bs, rfl, hwf, hr⟩ := Row.given w0
  clear w0
  by_cases hl : bs.length ≤ 1048576
  · have hd1 : decide ((1048576 : Int) < (bs.length : Int)) = false := decide_eq_false (by omega)
    have Hr := Lib.hid hr
    clear hr
    go_enter Try.func4, Try.ntmps4
    go_wp2_with fail
    refine (drawMachineOf_any _ bs w Hr.out hwf hl).mono ?_
    rintro e w1 ⟨v1, c, rfl, hO, hS, hb1⟩
    obtain ⟨An, cn, Ag, cg, Ao, co, rfl⟩ := hO.shape
    have HC1 := Lib.hid hO.at
    have Hb1 := Lib.hid hb1
    clear hO hS hb1 Hr hwf hd1
    go_wp2_with fail
    have hbx := bel_new w1 (.cells #[.int .i64 c.ins, .slice An c.next.length cn, .slice Ag c.gates.length cg, .slice Ao c.outs.length co] 26)
    have PC := Lib.hid (PCells.boxed w1 c.ins (.slice An c.next.length cn) (.slice Ag c.gates.length cg) (.slice Ao c.outs.length co) 26)
    have HC := Lib.hid (HC1.out.below hbx)
    have B := Lib.hid (Hb1.out.trans (hbx.mono Hb1.out.size))
    clear hbx
    generalize w1.alloc (.cells #[.int .i64 c.ins, .slice An c.next.length cn, .slice Ag c.gates.length cg, .slice Ao c.outs.length co] 26) = w2 at *
    obtain ⟨gb, hgb2⟩ : ∃ gb, w1.heap.size = gb := ⟨_, rfl⟩
    rw [hgb2] at PC ⊢
    clear hgb2
    obtain ⟨z, p0, p1, p2, p3⟩ := PC.out
    clear HC1 Hb1
    refine (implMof_any _ c _ HC.out).mono ?_
    rintro e w3 ⟨v3, rfl, hO3, hb⟩
    have HM := Lib.hid (OwnMachE.at hO3)
    obtain ⟨Am, cm, Ax, cx, hvm, -⟩ := (OwnMachE.at hO3).shape
    subst hvm
    obtain ⟨m, hm⟩ : ∃ m, Cir.machI c = m := ⟨_, rfl⟩
    have Hm := Lib.hid hm
    rw [hm] at HM ⊢
    clear hO3 z p0 p1 p2 p3 hm
    replace PC := Lib.hid (PC.out.below hb)
    replace HC := Lib.hid (HC.out.below hb)
    replace B := Lib.hid (B.out.trans (hb.mono B.out.size))
    clear hb
    have hb := bel_alloc w3 (.cells #[.int .i64 m.ins, .slice Am m.next.length cm, .slice Ax m.out.length cx] 40)
    have PM := Lib.hid (MCells.boxed w3 m.ins (.slice Am m.next.length cm) (.slice Ax m.out.length cx) 40)
    replace PC := Lib.hid (PC.out.below hb)
    replace HC := Lib.hid (HC.out.below hb)
    replace HM := Lib.hid (HM.out.below hb)
    replace B := Lib.hid (B.out.trans (hb.mono B.out.size))
    clear hb
    obtain ⟨w4, hw4⟩ : ∃ w4, w3.alloc (.cells #[.int .i64 m.ins, .slice Am m.next.length cm, .slice Ax m.out.length cx] 40) = w4 := ⟨_, rfl⟩
    rw [hw4] at PC HC HM PM B
    obtain ⟨gq, hgq⟩ : ∃ gq, w3.heap.size = gq := ⟨_, rfl⟩
    rw [hgq] at PM
    obtain ⟨z, p0, p1, p2, p3⟩ := PC.out
    obtain ⟨zm, m0, m1, m2⟩ := PM.out
    go_wp2_with fail
    clear hw4 hgq
    refine wp_region_rs (quietRS Try.prog _ w4 _) quietRS_ok (by kernel_rfl) (by kernel_rfl) (by kernel_rfl) (Nat.le_of_ble_eq_true rfl) trivial trivial ?_
    apply rs_eq quietRS_ok quiet_any
    · intro ρ w' ho hK
      have ho : Only _ w4 w' := ho
      obtain ⟨h0, -⟩ := hK
      have h0' : ρ (.tmp 4) = _ := h0
      have hb := only_below ho
      have q0 := (hb.cell (p := ⟨gb, 0, none⟩) z).trans p0
      have q1 := (hb.cell (p := ⟨gb, 1, none⟩) z).trans p1
      have q2 := (hb.cell (p := ⟨gb, 2, none⟩) z).trans p2
      have q3 := (hb.cell (p := ⟨gb, 3, none⟩) z).trans p3
      have r0 := (hb.cell (p := ⟨gq, 0, none⟩) zm).trans m0
      have r1 := (hb.cell (p := ⟨gq, 1, none⟩) zm).trans m1
      have r2 := (hb.cell (p := ⟨gq, 2, none⟩) zm).trans m2
      go_simp
      try exact rfl
    apply rs_eq quietRS_ok quiet_any
    · intro ρ w' ho hK
      have ho : Only _ w4 w' := ho
      obtain ⟨h0, -⟩ := hK
      have h0' : ρ (.tmp 3) = _ := h0
      have hb := only_below ho
      have q0 := (hb.cell (p := ⟨gb, 0, none⟩) z).trans p0
      have q1 := (hb.cell (p := ⟨gb, 1, none⟩) z).trans p1
      have q2 := (hb.cell (p := ⟨gb, 2, none⟩) z).trans p2
      have q3 := (hb.cell (p := ⟨gb, 3, none⟩) z).trans p3
      have r0 := (hb.cell (p := ⟨gq, 0, none⟩) zm).trans m0
      have r1 := (hb.cell (p := ⟨gq, 1, none⟩) zm).trans m1
      have r2 := (hb.cell (p := ⟨gq, 2, none⟩) zm).trans m2
      go_simp
      try exact rfl
    refine rs_call quietRS_ok quiet_any (TMachL m) (stb_machL _) 16 _ _ rfl (fun ρ w' ho hK => by
      have ho : Only _ w4 w' := ho
      obtain ⟨h0, h1, -⟩ := hK
      have h0' : ρ (.func 16) = .func (.func 16) #[] #[] := h0
      have h1' : ρ (.tmp 13) = _ := h1
      refine ⟨#[ρ (.tmp 13)], ?_, ?_⟩
      · go_simp
      · rw [h1']
        refine (specMof_any _ c w' (HC.out.below (only_below ho))).mono ?_
        rintro e w2 ⟨⟨v2, rfl, hO⟩, hb⟩
        exact ⟨v2, rfl, by rw [Hm.out] at hO; exact hO, hb⟩) ?_
    refine rs_call quietRS_ok quiet_any (TEq (.bool true)) (stb_eq _ _) 15 _ _ rfl (fun ρ w' ho hK => by
      have ho : Only _ w4 w' := ho
      obtain ⟨h0, h1, h2, -⟩ := hK
      have h0' : ρ (.func 15) = .func (.func 15) #[] #[] := h0
      have h1' : ρ (.tmp 12) = _ := h1
      have h2' : (TMachL m) w' (ρ (.tmp 14)) := h2
      refine ⟨#[ρ (.tmp 12), ρ (.tmp 14)], ?_, ?_⟩
      · go_simp
      · rw [h1']
        refine (sameMachine_same _ _ m w' (HM.out.below (only_below ho)) h2').mono ?_
        rintro e w2 ⟨rfl, hb⟩
        exact ⟨_, rfl, rfl, hb⟩) ?_
    apply rs_eq quietRS_ok quiet_any
    · intro ρ w' ho hK
      have ho : Only _ w4 w' := ho
      obtain ⟨h0, -⟩ := hK
      have h0' : ρ (.tmp 15) = _ := h0
      go_simp
      try exact rfl
    intro f w9 k9 hk9 hI9 ht9 hcp9
    have E0 : f 0 = _ := ht9 0 (Nat.le_of_ble_eq_true rfl)
    have E1 : f 1 = _ := ht9 1 (Nat.le_of_ble_eq_true rfl)
    have E2 : (TMachL m) w9 (f 2) := ht9 2 (Nat.le_of_ble_eq_true rfl)
    have E3 : f 3 = _ := ht9 3 (Nat.le_of_ble_eq_true rfl)
    have E4 : f 4 = _ := ht9 4 (Nat.le_of_ble_eq_true rfl)
    have Ho9 : Only _ w4 w9 := hI9.2.1
    simp only [putAll, E0, E1, E3, E4, Nat.zero_add, Nat.reduceAdd, Act.put, List.setIfInBounds_toArray, List.set_cons_succ, List.set_cons_zero]
    clear E0 E1 E3 E4
    clear hI9 ht9 hcp9 hk9
    generalize f 2 = r2 at *
    have hb := only_below Ho9
    clear z p0 p1 p2 p3 zm m0 m1 m2 Ho9 E2
    replace PC := Lib.hid (PC.out.below hb)
    replace HC := Lib.hid (HC.out.below hb)
    replace HM := Lib.hid (HM.out.below hb)
    replace PM := Lib.hid (PM.out.below hb)
    replace B := Lib.hid (B.out.trans (hb.mono B.out.size))
    clear hb
    obtain ⟨w5, hw5⟩ : ∃ w5, w5 = w9 := ⟨_, rfl⟩
    subst hw5
    obtain ⟨z, p0, p1, p2, p3⟩ := PC.out
    obtain ⟨zm, m0, m1, m2⟩ := PM.out
    have HSd := Lib.hid (stb_machL (Cir.machI (Cir.optZ c)))
    go_wp2_with fail
    cases hv : Cir.valid c
    · have HV := Lib.hid hv
      clear hv
      refine wp_region_rsG [(7, some true), (11, some true), (17, none)] (quietRS Try.prog _ w5 _) quietRS_ok (by kernel_rfl) (by kernel_rfl) (by kernel_rfl) (Nat.le_of_ble_eq_true rfl) trivial trivial ?_
      refine rs_peel ?_
      apply rs_eq quietRS_ok quiet_any
      · intro ρ w' ho hK
        have ho : Only _ w5 w' := ho
        obtain ⟨h0, -⟩ := hK
        have h0' : ρ (.tmp 3) = _ := h0
        have hb := only_below ho
        have q0 := (hb.cell (p := ⟨gb, 0, none⟩) z).trans p0
        have q1 := (hb.cell (p := ⟨gb, 1, none⟩) z).trans p1
        have q2 := (hb.cell (p := ⟨gb, 2, none⟩) z).trans p2
        have q3 := (hb.cell (p := ⟨gb, 3, none⟩) z).trans p3
        have r0 := (hb.cell (p := ⟨gq, 0, none⟩) zm).trans m0
        have r1 := (hb.cell (p := ⟨gq, 1, none⟩) zm).trans m1
        have r2 := (hb.cell (p := ⟨gq, 2, none⟩) zm).trans m2
        go_simp
        try exact rfl
      refine rs_peel ?_
      refine rs_call quietRS_ok quiet_any (TCOwn (Cir.optZ c)) (stb_cown _) 10 _ _ rfl (fun ρ w' ho hK => by
        have ho : Only _ w5 w' := ho
        obtain ⟨h0, h1, -⟩ := hK
        have h0' : ρ (.func 10) = .func (.func 10) #[] #[] := h0
        have h1' : ρ (.tmp 17) = _ := h1
        refine ⟨#[ρ (.tmp 17)], ?_, ?_⟩
        · go_simp
        · rw [h1']
          refine (implOpt_any _ c w' (HC.out.below (only_below ho))).mono ?_
          rintro e w2 ⟨⟨v2, rfl, hO⟩, hb⟩
          exact ⟨v2, rfl, hO, hb⟩) ?_
      refine rs_peel ?_
      refine rs_call quietRS_ok quiet_any (TMachL (Cir.machI (Cir.optZ c))) (stb_machL _) 14 _ _ rfl (fun ρ w' ho hK => by
        have ho : Only _ w5 w' := ho
        obtain ⟨h0, h1, -⟩ := hK
        have h0' : ρ (.func 14) = .func (.func 14) #[] #[] := h0
        have h1' : (TCOwn (Cir.optZ c)) w' (ρ (.tmp 18)) := h1
        refine ⟨#[ρ (.tmp 18)], ?_, ?_⟩
        · go_simp
        · skip
          refine (implMof_any _ (Cir.optZ c) w' (CircOwn.at h1')).mono ?_
          rintro e w2 ⟨v2, rfl, hO, hb⟩
          exact ⟨v2, rfl, OwnMachE.at hO, hb⟩) ?_
      refine rs_peel ?_
      apply rs_eq quietRS_ok quiet_any
      · intro ρ w' ho hK
        have ho : Only _ w5 w' := ho
        obtain ⟨h0, -⟩ := hK
        have h0' : ρ (.tmp 3) = _ := h0
        have hb := only_below ho
        have q0 := (hb.cell (p := ⟨gb, 0, none⟩) z).trans p0
        have q1 := (hb.cell (p := ⟨gb, 1, none⟩) z).trans p1
        have q2 := (hb.cell (p := ⟨gb, 2, none⟩) z).trans p2
        have q3 := (hb.cell (p := ⟨gb, 3, none⟩) z).trans p3
        have r0 := (hb.cell (p := ⟨gq, 0, none⟩) zm).trans m0
        have r1 := (hb.cell (p := ⟨gq, 1, none⟩) zm).trans m1
        have r2 := (hb.cell (p := ⟨gq, 2, none⟩) zm).trans m2
        go_simp
        try exact rfl
      refine rs_peel ?_
      refine rs_call quietRS_ok quiet_any (TOptOf c) (stb_optOf _) 17 _ _ rfl (fun ρ w' ho hK => by
        have ho : Only _ w5 w' := ho
        obtain ⟨h0, h1, -⟩ := hK
        have h0' : ρ (.func 17) = .func (.func 17) #[] #[] := h0
        have h1' : ρ (.tmp 20) = _ := h1
        refine ⟨#[ρ (.tmp 20)], ?_, ?_⟩
        · go_simp
        · rw [h1']
          refine (specOpt_any _ c w' (HC.out.below (only_below ho))).mono ?_
          rintro e w2 ⟨⟨v2, d, rfl, hO, hE⟩, hb⟩
          exact ⟨v2, rfl, ⟨d, hO, hE⟩, hb⟩) ?_
      refine rs_peel ?_
      refine rs_call quietRS_ok quiet_any (TMachL (Cir.machI (Cir.optZ c))) (stb_machL _) 16 _ _ rfl (fun ρ w' ho hK => by
        have ho : Only _ w5 w' := ho
        obtain ⟨h0, h1, -⟩ := hK
        have h0' : ρ (.func 16) = .func (.func 16) #[] #[] := h0
        have h1' : (TOptOf c) w' (ρ (.tmp 21)) := h1
        refine ⟨#[ρ (.tmp 21)], ?_, ?_⟩
        · go_simp
        · skip
          refine (specMof_any _ _ w' h1'.choose_spec.1.at).mono ?_
          rintro e w2 ⟨⟨v2, rfl, hO⟩, hb⟩
          exact ⟨v2, rfl, by rw [machI_optOf h1'.choose_spec.2] at hO; exact hO, hb⟩) ?_
      refine rs_peel ?_
      refine rs_call quietRS_ok quiet_any (TEq (.bool true)) (stb_eq _ _) 15 _ _ rfl (fun ρ w' ho hK => by
        have ho : Only _ w5 w' := ho
        obtain ⟨h0, h1, h2, -⟩ := hK
        have h0' : ρ (.func 15) = .func (.func 15) #[] #[] := h0
        have h1' : (TMachL (Cir.machI (Cir.optZ c))) w' (ρ (.tmp 19)) := h1
        have h2' : (TMachL (Cir.machI (Cir.optZ c))) w' (ρ (.tmp 22)) := h2
        refine ⟨#[ρ (.tmp 19), ρ (.tmp 22)], ?_, ?_⟩
        · go_simp
        · skip
          refine (sameMachine_same _ _ (Cir.machI (Cir.optZ c)) w' h1' h2').mono ?_
          rintro e w2 ⟨rfl, hb⟩
          exact ⟨_, rfl, rfl, hb⟩) ?_
      refine rs_peel ?_
      refine rs_same quietRS_ok quiet_any 23 6 (.inl rfl) rfl _ rfl ?_
      refine rs_run rfl ?_
      apply rs_eq quietRS_ok quiet_any
      · intro ρ w' ho hK
        have ho : Only _ w5 w' := ho
        obtain ⟨h0, -⟩ := hK
        have h0' : ρ (.tmp 3) = _ := h0
        have hb := only_below ho
        have q0 := (hb.cell (p := ⟨gb, 0, none⟩) z).trans p0
        have q1 := (hb.cell (p := ⟨gb, 1, none⟩) z).trans p1
        have q2 := (hb.cell (p := ⟨gb, 2, none⟩) z).trans p2
        have q3 := (hb.cell (p := ⟨gb, 3, none⟩) z).trans p3
        have r0 := (hb.cell (p := ⟨gq, 0, none⟩) zm).trans m0
        have r1 := (hb.cell (p := ⟨gq, 1, none⟩) zm).trans m1
        have r2 := (hb.cell (p := ⟨gq, 2, none⟩) zm).trans m2
        go_simp
        try exact rfl
      refine rs_run rfl ?_
      refine rs_call quietRS_ok quiet_any (TEq (.bool false)) (stb_eq _ _) 11 _ _ rfl (fun ρ w' ho hK => by
        have ho : Only _ w5 w' := ho
        obtain ⟨h0, h1, -⟩ := hK
        have h0' : ρ (.func 11) = .func (.func 11) #[] #[] := h0
        have h1' : ρ (.tmp 25) = _ := h1
        refine ⟨#[ρ (.tmp 25)], ?_, ?_⟩
        · go_simp
        · rw [h1']
          refine (specValid_any _ c w' (HC.out.below (only_below ho))).mono ?_
          rintro e w2 ⟨rfl, hb⟩
          exact ⟨_, rfl, by rw [HV.out]; rfl, hb⟩) ?_
      refine rs_run rfl ?_
      apply rs_eq quietRS_ok quiet_any
      · intro ρ w' ho hK
        have ho : Only _ w5 w' := ho
        obtain ⟨h0, -⟩ := hK
        have h0' : ρ (.tmp 26) = _ := h0
        go_simp
        try exact rfl
      refine rs_run rfl ?_
      refine rs_same quietRS_ok quiet_any 27 10 (.inl rfl) rfl _ rfl ?_
      refine rs_skip rfl (by decide) ?_
      refine rs_old quietRS_ok quiet_any (.const undef) (.inl rfl) _ rfl rfl ?_
      refine rs_skip rfl (by decide) ?_
      refine rs_old quietRS_ok quiet_any (.const undef) (.inl rfl) _ rfl rfl ?_
      refine rs_skip rfl (by decide) ?_
      refine rs_old quietRS_ok quiet_any (.const undef) (.inl rfl) _ rfl rfl ?_
      refine rs_skip rfl (by decide) ?_
      refine rs_old quietRS_ok quiet_any (.const undef) (.inl rfl) _ rfl rfl ?_
      refine rs_skip rfl (by decide) ?_
      refine rs_old quietRS_ok quiet_any (.const undef) (.inl rfl) _ rfl rfl ?_
      refine rs_skip rfl (by decide) ?_
      refine rs_old quietRS_ok quiet_any (.const undef) (.inl rfl) _ rfl rfl ?_
      refine rs_skip rfl (by decide) ?_
      refine rs_old quietRS_ok quiet_any (.const undef) (.inl rfl) _ rfl rfl ?_
      refine rs_skip rfl (by decide) ?_
      refine rs_old quietRS_ok quiet_any (.const undef) (.inl rfl) _ rfl rfl ?_
      refine rs_skip rfl (by decide) ?_
      refine rs_old quietRS_ok quiet_any (.const undef) (.inl rfl) _ rfl rfl ?_
      refine rs_skip rfl (by decide) ?_
      refine rs_old quietRS_ok quiet_any (.const undef) (.inl rfl) _ rfl rfl ?_
      refine rs_skip rfl (by decide) ?_
      refine rs_old quietRS_ok quiet_any (.const undef) (.inl rfl) _ rfl rfl ?_
      refine rs_skip rfl (by decide) ?_
      refine rs_old quietRS_ok quiet_any (.const undef) (.inl rfl) _ rfl rfl ?_
      refine rs_run rfl ?_
      apply rs_eq quietRS_ok quiet_any
      · intro ρ w' ho hK
        have ho : Only _ w5 w' := ho
        obtain ⟨h0, h1, h2, -⟩ := hK
        have h0' : ρ (.tmp 28) = _ := h0
        have h1' : ρ (.const (Value.bool true)) = (Value.bool true) := h1
        have h2' : ρ (.tmp 40) = _ := h2
        go_simp
        try exact rfl
      refine rs_peel ?_
      apply rs_eq quietRS_ok quiet_any
      · intro ρ w' ho hK
        have ho : Only _ w5 w' := ho
        obtain ⟨h0, h1, h2, -⟩ := hK
        have h0' : ρ (.tmp 24) = _ := h0
        have h1' : ρ (.tmp 41) = _ := h1
        have h2' : ρ (.const (Value.bool false)) = (Value.bool false) := h2
        go_simp
        try exact rfl
      refine rs_peel ?_
      refine rs_same quietRS_ok quiet_any 42 25 (.inr rfl) rfl _ rfl ?_
      refine ⟨⟨rfl, rfl, rfl, trivial⟩, ?_⟩
      intro f w9 k9 hk9 hI9 ht9 hcp9
      have E0 : f 0 = _ := ht9 0 (Nat.le_of_ble_eq_true rfl)
      have E1 : (TCOwn (Cir.optZ c)) w9 (f 1) := ht9 1 (Nat.le_of_ble_eq_true rfl)
      have E2 : (TMachL (Cir.machI (Cir.optZ c))) w9 (f 2) := ht9 2 (Nat.le_of_ble_eq_true rfl)
      have E3 : f 3 = _ := ht9 3 (Nat.le_of_ble_eq_true rfl)
      have E4 : (TOptOf c) w9 (f 4) := ht9 4 (Nat.le_of_ble_eq_true rfl)
      have E5 : (TMachL (Cir.machI (Cir.optZ c))) w9 (f 5) := ht9 5 (Nat.le_of_ble_eq_true rfl)
      have E6 : f 6 = _ := ht9 6 (Nat.le_of_ble_eq_true rfl)
      have E7 : f 7 = _ := ht9 7 (Nat.le_of_ble_eq_true rfl)
      have E8 : f 8 = _ := ht9 8 (Nat.le_of_ble_eq_true rfl)
      have E9 : f 9 = _ := ht9 9 (Nat.le_of_ble_eq_true rfl)
      have E10 : f 10 = _ := ht9 10 (Nat.le_of_ble_eq_true rfl)
      have E11 : f 11 = _ := ht9 11 (Nat.le_of_ble_eq_true rfl)
      have E12 : f 12 = _ := ht9 12 (Nat.le_of_ble_eq_true rfl)
      conv at E12 => rhs; whnf
      have E13 : f 13 = _ := ht9 13 (Nat.le_of_ble_eq_true rfl)
      conv at E13 => rhs; whnf
      have E14 : f 14 = _ := ht9 14 (Nat.le_of_ble_eq_true rfl)
      conv at E14 => rhs; whnf
      have E15 : f 15 = _ := ht9 15 (Nat.le_of_ble_eq_true rfl)
      conv at E15 => rhs; whnf
      have E16 : f 16 = _ := ht9 16 (Nat.le_of_ble_eq_true rfl)
      conv at E16 => rhs; whnf
      have E17 : f 17 = _ := ht9 17 (Nat.le_of_ble_eq_true rfl)
      conv at E17 => rhs; whnf
      have E18 : f 18 = _ := ht9 18 (Nat.le_of_ble_eq_true rfl)
      conv at E18 => rhs; whnf
      have E19 : f 19 = _ := ht9 19 (Nat.le_of_ble_eq_true rfl)
      conv at E19 => rhs; whnf
      have E20 : f 20 = _ := ht9 20 (Nat.le_of_ble_eq_true rfl)
      conv at E20 => rhs; whnf
      have E21 : f 21 = _ := ht9 21 (Nat.le_of_ble_eq_true rfl)
      conv at E21 => rhs; whnf
      have E22 : f 22 = _ := ht9 22 (Nat.le_of_ble_eq_true rfl)
      conv at E22 => rhs; whnf
      have E23 : f 23 = _ := ht9 23 (Nat.le_of_ble_eq_true rfl)
      conv at E23 => rhs; whnf
      have E24 : f 24 = _ := ht9 24 (Nat.le_of_ble_eq_true rfl)
      have E25 : f 25 = _ := ht9 25 (Nat.le_of_ble_eq_true rfl)
      have E26 : f 26 = _ := ht9 26 (Nat.le_of_ble_eq_true rfl)
      have Ho9 : Only _ w5 w9 := hI9.2.1
      simp only [putAll, E0, E3, E6, E7, E8, E9, E10, E11, E12, E13, E14, E15, E16, E17, E18, E19, E20, E21, E22, E23, E24, E25, E26, Nat.zero_add, Nat.reduceAdd, Act.put, List.setIfInBounds_toArray, List.set_cons_succ, List.set_cons_zero]
      clear E0 E3 E6 E7 E8 E9 E10 E11 E12 E13 E14 E15 E16 E17 E18 E19 E20 E21 E22 E23 E24 E25 E26
      clear hI9 ht9 hcp9 hk9
      generalize f 1 = r1 at *
      generalize f 2 = r2 at *
      generalize f 4 = r4 at *
      generalize f 5 = r5 at *
      have hb := only_below Ho9
      replace B := Lib.hid (B.out.trans (hb.mono B.out.size))
      clear hb Ho9 z p0 p1 p2 p3 zm m0 m1 m2
      go_wp2_with fail
      go_ret
      exact ⟨rfl, B.out⟩
    · have HV := Lib.hid hv
      have Hopt := Lib.hid ((Cir.machI_opt hv).trans Hm.out)
      have Hswp := Lib.hid ((Cir.machI_sweep hv).trans Hm.out)
      clear hv
      refine wp_region_rsG [(7, some true), (11, some false), (17, some true)] (quietRS Try.prog _ w5 _) quietRS_ok (by kernel_rfl) (by kernel_rfl) (by kernel_rfl) (Nat.le_of_ble_eq_true rfl) trivial trivial ?_
      refine rs_peel ?_
      apply rs_eq quietRS_ok quiet_any
      · intro ρ w' ho hK
        have ho : Only _ w5 w' := ho
        obtain ⟨h0, -⟩ := hK
        have h0' : ρ (.tmp 3) = _ := h0
        have hb := only_below ho
        have q0 := (hb.cell (p := ⟨gb, 0, none⟩) z).trans p0
        have q1 := (hb.cell (p := ⟨gb, 1, none⟩) z).trans p1
        have q2 := (hb.cell (p := ⟨gb, 2, none⟩) z).trans p2
        have q3 := (hb.cell (p := ⟨gb, 3, none⟩) z).trans p3
        have r0 := (hb.cell (p := ⟨gq, 0, none⟩) zm).trans m0
        have r1 := (hb.cell (p := ⟨gq, 1, none⟩) zm).trans m1
        have r2 := (hb.cell (p := ⟨gq, 2, none⟩) zm).trans m2
        go_simp
        try exact rfl
      refine rs_peel ?_
      refine rs_call quietRS_ok quiet_any (TCOwn (Cir.optZ c)) (stb_cown _) 10 _ _ rfl (fun ρ w' ho hK => by
        have ho : Only _ w5 w' := ho
        obtain ⟨h0, h1, -⟩ := hK
        have h0' : ρ (.func 10) = .func (.func 10) #[] #[] := h0
        have h1' : ρ (.tmp 17) = _ := h1
        refine ⟨#[ρ (.tmp 17)], ?_, ?_⟩
        · go_simp
        · rw [h1']
          refine (implOpt_any _ c w' (HC.out.below (only_below ho))).mono ?_
          rintro e w2 ⟨⟨v2, rfl, hO⟩, hb⟩
          exact ⟨v2, rfl, hO, hb⟩) ?_
      refine rs_peel ?_
      refine rs_call quietRS_ok quiet_any (TMachL (Cir.machI (Cir.optZ c))) (stb_machL _) 14 _ _ rfl (fun ρ w' ho hK => by
        have ho : Only _ w5 w' := ho
        obtain ⟨h0, h1, -⟩ := hK
        have h0' : ρ (.func 14) = .func (.func 14) #[] #[] := h0
        have h1' : (TCOwn (Cir.optZ c)) w' (ρ (.tmp 18)) := h1
        refine ⟨#[ρ (.tmp 18)], ?_, ?_⟩
        · go_simp
        · skip
          refine (implMof_any _ (Cir.optZ c) w' (CircOwn.at h1')).mono ?_
          rintro e w2 ⟨v2, rfl, hO, hb⟩
          exact ⟨v2, rfl, OwnMachE.at hO, hb⟩) ?_
      refine rs_peel ?_
      apply rs_eq quietRS_ok quiet_any
      · intro ρ w' ho hK
        have ho : Only _ w5 w' := ho
        obtain ⟨h0, -⟩ := hK
        have h0' : ρ (.tmp 3) = _ := h0
        have hb := only_below ho
        have q0 := (hb.cell (p := ⟨gb, 0, none⟩) z).trans p0
        have q1 := (hb.cell (p := ⟨gb, 1, none⟩) z).trans p1
        have q2 := (hb.cell (p := ⟨gb, 2, none⟩) z).trans p2
        have q3 := (hb.cell (p := ⟨gb, 3, none⟩) z).trans p3
        have r0 := (hb.cell (p := ⟨gq, 0, none⟩) zm).trans m0
        have r1 := (hb.cell (p := ⟨gq, 1, none⟩) zm).trans m1
        have r2 := (hb.cell (p := ⟨gq, 2, none⟩) zm).trans m2
        go_simp
        try exact rfl
      refine rs_peel ?_
      refine rs_call quietRS_ok quiet_any (TOptOf c) (stb_optOf _) 17 _ _ rfl (fun ρ w' ho hK => by
        have ho : Only _ w5 w' := ho
        obtain ⟨h0, h1, -⟩ := hK
        have h0' : ρ (.func 17) = .func (.func 17) #[] #[] := h0
        have h1' : ρ (.tmp 20) = _ := h1
        refine ⟨#[ρ (.tmp 20)], ?_, ?_⟩
        · go_simp
        · rw [h1']
          refine (specOpt_any _ c w' (HC.out.below (only_below ho))).mono ?_
          rintro e w2 ⟨⟨v2, d, rfl, hO, hE⟩, hb⟩
          exact ⟨v2, rfl, ⟨d, hO, hE⟩, hb⟩) ?_
      refine rs_peel ?_
      refine rs_call quietRS_ok quiet_any (TMachL (Cir.machI (Cir.optZ c))) (stb_machL _) 16 _ _ rfl (fun ρ w' ho hK => by
        have ho : Only _ w5 w' := ho
        obtain ⟨h0, h1, -⟩ := hK
        have h0' : ρ (.func 16) = .func (.func 16) #[] #[] := h0
        have h1' : (TOptOf c) w' (ρ (.tmp 21)) := h1
        refine ⟨#[ρ (.tmp 21)], ?_, ?_⟩
        · go_simp
        · skip
          refine (specMof_any _ _ w' h1'.choose_spec.1.at).mono ?_
          rintro e w2 ⟨⟨v2, rfl, hO⟩, hb⟩
          exact ⟨v2, rfl, by rw [machI_optOf h1'.choose_spec.2] at hO; exact hO, hb⟩) ?_
      refine rs_peel ?_
      refine rs_call quietRS_ok quiet_any (TEq (.bool true)) (stb_eq _ _) 15 _ _ rfl (fun ρ w' ho hK => by
        have ho : Only _ w5 w' := ho
        obtain ⟨h0, h1, h2, -⟩ := hK
        have h0' : ρ (.func 15) = .func (.func 15) #[] #[] := h0
        have h1' : (TMachL (Cir.machI (Cir.optZ c))) w' (ρ (.tmp 19)) := h1
        have h2' : (TMachL (Cir.machI (Cir.optZ c))) w' (ρ (.tmp 22)) := h2
        refine ⟨#[ρ (.tmp 19), ρ (.tmp 22)], ?_, ?_⟩
        · go_simp
        · skip
          refine (sameMachine_same _ _ (Cir.machI (Cir.optZ c)) w' h1' h2').mono ?_
          rintro e w2 ⟨rfl, hb⟩
          exact ⟨_, rfl, rfl, hb⟩) ?_
      refine rs_peel ?_
      refine rs_same quietRS_ok quiet_any 23 6 (.inl rfl) rfl _ rfl ?_
      refine rs_run rfl ?_
      apply rs_eq quietRS_ok quiet_any
      · intro ρ w' ho hK
        have ho : Only _ w5 w' := ho
        obtain ⟨h0, -⟩ := hK
        have h0' : ρ (.tmp 3) = _ := h0
        have hb := only_below ho
        have q0 := (hb.cell (p := ⟨gb, 0, none⟩) z).trans p0
        have q1 := (hb.cell (p := ⟨gb, 1, none⟩) z).trans p1
        have q2 := (hb.cell (p := ⟨gb, 2, none⟩) z).trans p2
        have q3 := (hb.cell (p := ⟨gb, 3, none⟩) z).trans p3
        have r0 := (hb.cell (p := ⟨gq, 0, none⟩) zm).trans m0
        have r1 := (hb.cell (p := ⟨gq, 1, none⟩) zm).trans m1
        have r2 := (hb.cell (p := ⟨gq, 2, none⟩) zm).trans m2
        go_simp
        try exact rfl
      refine rs_run rfl ?_
      refine rs_call quietRS_ok quiet_any (TEq (.bool true)) (stb_eq _ _) 11 _ _ rfl (fun ρ w' ho hK => by
        have ho : Only _ w5 w' := ho
        obtain ⟨h0, h1, -⟩ := hK
        have h0' : ρ (.func 11) = .func (.func 11) #[] #[] := h0
        have h1' : ρ (.tmp 25) = _ := h1
        refine ⟨#[ρ (.tmp 25)], ?_, ?_⟩
        · go_simp
        · rw [h1']
          refine (specValid_any _ c w' (HC.out.below (only_below ho))).mono ?_
          rintro e w2 ⟨rfl, hb⟩
          exact ⟨_, rfl, by rw [HV.out]; rfl, hb⟩) ?_
      refine rs_run rfl ?_
      apply rs_eq quietRS_ok quiet_any
      · intro ρ w' ho hK
        have ho : Only _ w5 w' := ho
        obtain ⟨h0, -⟩ := hK
        have h0' : ρ (.tmp 26) = _ := h0
        go_simp
        try exact rfl
      refine rs_run rfl ?_
      refine rs_same quietRS_ok quiet_any 27 10 (.inl rfl) rfl _ rfl ?_
      refine rs_run rfl ?_
      apply rs_eq quietRS_ok quiet_any
      · intro ρ w' ho hK
        have ho : Only _ w5 w' := ho
        obtain ⟨h0, -⟩ := hK
        have h0' : ρ (.tmp 3) = _ := h0
        have hb := only_below ho
        have q0 := (hb.cell (p := ⟨gb, 0, none⟩) z).trans p0
        have q1 := (hb.cell (p := ⟨gb, 1, none⟩) z).trans p1
        have q2 := (hb.cell (p := ⟨gb, 2, none⟩) z).trans p2
        have q3 := (hb.cell (p := ⟨gb, 3, none⟩) z).trans p3
        have r0 := (hb.cell (p := ⟨gq, 0, none⟩) zm).trans m0
        have r1 := (hb.cell (p := ⟨gq, 1, none⟩) zm).trans m1
        have r2 := (hb.cell (p := ⟨gq, 2, none⟩) zm).trans m2
        go_simp
        try exact rfl
      refine rs_run rfl ?_
      refine rs_call quietRS_ok quiet_any (TCOwn (Cir.optZ c)) (stb_cown _) 10 _ _ rfl (fun ρ w' ho hK => by
        have ho : Only _ w5 w' := ho
        obtain ⟨h0, h1, -⟩ := hK
        have h0' : ρ (.func 10) = .func (.func 10) #[] #[] := h0
        have h1' : ρ (.tmp 29) = _ := h1
        refine ⟨#[ρ (.tmp 29)], ?_, ?_⟩
        · go_simp
        · rw [h1']
          refine (implOpt_any _ c w' (HC.out.below (only_below ho))).mono ?_
          rintro e w2 ⟨⟨v2, rfl, hO⟩, hb⟩
          exact ⟨v2, rfl, hO, hb⟩) ?_
      refine rs_run rfl ?_
      refine rs_call quietRS_ok quiet_any (TMachL m) (stb_machL _) 14 _ _ rfl (fun ρ w' ho hK => by
        have ho : Only _ w5 w' := ho
        obtain ⟨h0, h1, -⟩ := hK
        have h0' : ρ (.func 14) = .func (.func 14) #[] #[] := h0
        have h1' : (TCOwn (Cir.optZ c)) w' (ρ (.tmp 30)) := h1
        refine ⟨#[ρ (.tmp 30)], ?_, ?_⟩
        · go_simp
        · skip
          refine (implMof_any _ (Cir.optZ c) w' (CircOwn.at h1')).mono ?_
          rintro e w2 ⟨v2, rfl, hO, hb⟩
          rw [Hopt.out] at hO
          exact ⟨v2, rfl, OwnMachE.at hO, hb⟩) ?_
      refine rs_run rfl ?_
      apply rs_eq quietRS_ok quiet_any
      · intro ρ w' ho hK
        have ho : Only _ w5 w' := ho
        obtain ⟨h0, -⟩ := hK
        have h0' : ρ (.tmp 4) = _ := h0
        have hb := only_below ho
        have q0 := (hb.cell (p := ⟨gb, 0, none⟩) z).trans p0
        have q1 := (hb.cell (p := ⟨gb, 1, none⟩) z).trans p1
        have q2 := (hb.cell (p := ⟨gb, 2, none⟩) z).trans p2
        have q3 := (hb.cell (p := ⟨gb, 3, none⟩) z).trans p3
        have r0 := (hb.cell (p := ⟨gq, 0, none⟩) zm).trans m0
        have r1 := (hb.cell (p := ⟨gq, 1, none⟩) zm).trans m1
        have r2 := (hb.cell (p := ⟨gq, 2, none⟩) zm).trans m2
        go_simp
        try exact rfl
      refine rs_run rfl ?_
      refine rs_call quietRS_ok quiet_any (TEq (.bool true)) (stb_eq _ _) 15 _ _ rfl (fun ρ w' ho hK => by
        have ho : Only _ w5 w' := ho
        obtain ⟨h0, h1, h2, -⟩ := hK
        have h0' : ρ (.func 15) = .func (.func 15) #[] #[] := h0
        have h1' : (TMachL m) w' (ρ (.tmp 31)) := h1
        have h2' : ρ (.tmp 32) = _ := h2
        refine ⟨#[ρ (.tmp 31), ρ (.tmp 32)], ?_, ?_⟩
        · go_simp
        · rw [h2']
          refine (sameMachine_same _ _ m w' h1' (HM.out.below (only_below ho))).mono ?_
          rintro e w2 ⟨rfl, hb⟩
          exact ⟨_, rfl, rfl, hb⟩) ?_
      refine rs_run rfl ?_
      refine rs_same quietRS_ok quiet_any 33 16 (.inl rfl) rfl _ rfl ?_
      refine rs_run rfl ?_
      apply rs_eq quietRS_ok quiet_any
      · intro ρ w' ho hK
        have ho : Only _ w5 w' := ho
        obtain ⟨h0, -⟩ := hK
        have h0' : ρ (.tmp 3) = _ := h0
        have hb := only_below ho
        have q0 := (hb.cell (p := ⟨gb, 0, none⟩) z).trans p0
        have q1 := (hb.cell (p := ⟨gb, 1, none⟩) z).trans p1
        have q2 := (hb.cell (p := ⟨gb, 2, none⟩) z).trans p2
        have q3 := (hb.cell (p := ⟨gb, 3, none⟩) z).trans p3
        have r0 := (hb.cell (p := ⟨gq, 0, none⟩) zm).trans m0
        have r1 := (hb.cell (p := ⟨gq, 1, none⟩) zm).trans m1
        have r2 := (hb.cell (p := ⟨gq, 2, none⟩) zm).trans m2
        go_simp
        try exact rfl
      refine rs_run rfl ?_
      refine rs_call quietRS_ok quiet_any (TCOwn (Cir.sweepZ c)) (stb_cown _) 18 _ _ rfl (fun ρ w' ho hK => by
        have ho : Only _ w5 w' := ho
        obtain ⟨h0, h1, -⟩ := hK
        have h0' : ρ (.func 18) = .func (.func 18) #[] #[] := h0
        have h1' : ρ (.tmp 35) = _ := h1
        refine ⟨#[ρ (.tmp 35)], ?_, ?_⟩
        · go_simp
        · rw [h1']
          refine (implSweep_any _ c w' (HC.out.below (only_below ho))).mono ?_
          rintro e w2 ⟨⟨v2, rfl, hO⟩, hb⟩
          exact ⟨v2, rfl, hO, hb⟩) ?_
      refine rs_run rfl ?_
      refine rs_call quietRS_ok quiet_any (TMachL m) (stb_machL _) 14 _ _ rfl (fun ρ w' ho hK => by
        have ho : Only _ w5 w' := ho
        obtain ⟨h0, h1, -⟩ := hK
        have h0' : ρ (.func 14) = .func (.func 14) #[] #[] := h0
        have h1' : (TCOwn (Cir.sweepZ c)) w' (ρ (.tmp 36)) := h1
        refine ⟨#[ρ (.tmp 36)], ?_, ?_⟩
        · go_simp
        · skip
          refine (implMof_any _ (Cir.sweepZ c) w' (CircOwn.at h1')).mono ?_
          rintro e w2 ⟨v2, rfl, hO, hb⟩
          rw [Hswp.out] at hO
          exact ⟨v2, rfl, OwnMachE.at hO, hb⟩) ?_
      refine rs_run rfl ?_
      apply rs_eq quietRS_ok quiet_any
      · intro ρ w' ho hK
        have ho : Only _ w5 w' := ho
        obtain ⟨h0, -⟩ := hK
        have h0' : ρ (.tmp 4) = _ := h0
        have hb := only_below ho
        have q0 := (hb.cell (p := ⟨gb, 0, none⟩) z).trans p0
        have q1 := (hb.cell (p := ⟨gb, 1, none⟩) z).trans p1
        have q2 := (hb.cell (p := ⟨gb, 2, none⟩) z).trans p2
        have q3 := (hb.cell (p := ⟨gb, 3, none⟩) z).trans p3
        have r0 := (hb.cell (p := ⟨gq, 0, none⟩) zm).trans m0
        have r1 := (hb.cell (p := ⟨gq, 1, none⟩) zm).trans m1
        have r2 := (hb.cell (p := ⟨gq, 2, none⟩) zm).trans m2
        go_simp
        try exact rfl
      refine rs_run rfl ?_
      refine rs_call quietRS_ok quiet_any (TEq (.bool true)) (stb_eq _ _) 15 _ _ rfl (fun ρ w' ho hK => by
        have ho : Only _ w5 w' := ho
        obtain ⟨h0, h1, h2, -⟩ := hK
        have h0' : ρ (.func 15) = .func (.func 15) #[] #[] := h0
        have h1' : (TMachL m) w' (ρ (.tmp 37)) := h1
        have h2' : ρ (.tmp 38) = _ := h2
        refine ⟨#[ρ (.tmp 37), ρ (.tmp 38)], ?_, ?_⟩
        · go_simp
        · rw [h2']
          refine (sameMachine_same _ _ m w' h1' (HM.out.below (only_below ho))).mono ?_
          rintro e w2 ⟨rfl, hb⟩
          exact ⟨_, rfl, rfl, hb⟩) ?_
      refine rs_run rfl ?_
      apply rs_eq quietRS_ok quiet_any
      · intro ρ w' ho hK
        have ho : Only _ w5 w' := ho
        obtain ⟨h0, h1, h2, -⟩ := hK
        have h0' : ρ (.tmp 34) = _ := h0
        have h1' : ρ (.tmp 39) = _ := h1
        have h2' : ρ (.const (Value.bool false)) = (Value.bool false) := h2
        go_simp
        try exact rfl
      refine rs_run rfl ?_
      apply rs_eq quietRS_ok quiet_any
      · intro ρ w' ho hK
        have ho : Only _ w5 w' := ho
        obtain ⟨h0, h1, h2, -⟩ := hK
        have h0' : ρ (.tmp 28) = _ := h0
        have h1' : ρ (.const (Value.bool true)) = (Value.bool true) := h1
        have h2' : ρ (.tmp 40) = _ := h2
        go_simp
        try exact rfl
      refine rs_peel ?_
      apply rs_eq quietRS_ok quiet_any
      · intro ρ w' ho hK
        have ho : Only _ w5 w' := ho
        obtain ⟨h0, h1, h2, -⟩ := hK
        have h0' : ρ (.tmp 24) = _ := h0
        have h1' : ρ (.tmp 41) = _ := h1
        have h2' : ρ (.const (Value.bool false)) = (Value.bool false) := h2
        go_simp
        try exact rfl
      refine rs_peel ?_
      refine rs_same quietRS_ok quiet_any 42 25 (.inr rfl) rfl _ rfl ?_
      refine ⟨⟨rfl, rfl, rfl, trivial⟩, ?_⟩
      intro f w9 k9 hk9 hI9 ht9 hcp9
      have E0 : f 0 = _ := ht9 0 (Nat.le_of_ble_eq_true rfl)
      have E1 : (TCOwn (Cir.optZ c)) w9 (f 1) := ht9 1 (Nat.le_of_ble_eq_true rfl)
      have E2 : (TMachL (Cir.machI (Cir.optZ c))) w9 (f 2) := ht9 2 (Nat.le_of_ble_eq_true rfl)
      have E3 : f 3 = _ := ht9 3 (Nat.le_of_ble_eq_true rfl)
      have E4 : (TOptOf c) w9 (f 4) := ht9 4 (Nat.le_of_ble_eq_true rfl)
      have E5 : (TMachL (Cir.machI (Cir.optZ c))) w9 (f 5) := ht9 5 (Nat.le_of_ble_eq_true rfl)
      have E6 : f 6 = _ := ht9 6 (Nat.le_of_ble_eq_true rfl)
      have E7 : f 7 = _ := ht9 7 (Nat.le_of_ble_eq_true rfl)
      have E8 : f 8 = _ := ht9 8 (Nat.le_of_ble_eq_true rfl)
      have E9 : f 9 = _ := ht9 9 (Nat.le_of_ble_eq_true rfl)
      have E10 : f 10 = _ := ht9 10 (Nat.le_of_ble_eq_true rfl)
      have E11 : f 11 = _ := ht9 11 (Nat.le_of_ble_eq_true rfl)
      have E12 : f 12 = _ := ht9 12 (Nat.le_of_ble_eq_true rfl)
      have E13 : (TCOwn (Cir.optZ c)) w9 (f 13) := ht9 13 (Nat.le_of_ble_eq_true rfl)
      have E14 : (TMachL m) w9 (f 14) := ht9 14 (Nat.le_of_ble_eq_true rfl)
      have E15 : f 15 = _ := ht9 15 (Nat.le_of_ble_eq_true rfl)
      have E16 : f 16 = _ := ht9 16 (Nat.le_of_ble_eq_true rfl)
      have E17 : f 17 = _ := ht9 17 (Nat.le_of_ble_eq_true rfl)
      have E18 : f 18 = _ := ht9 18 (Nat.le_of_ble_eq_true rfl)
      have E19 : (TCOwn (Cir.sweepZ c)) w9 (f 19) := ht9 19 (Nat.le_of_ble_eq_true rfl)
      have E20 : (TMachL m) w9 (f 20) := ht9 20 (Nat.le_of_ble_eq_true rfl)
      have E21 : f 21 = _ := ht9 21 (Nat.le_of_ble_eq_true rfl)
      have E22 : f 22 = _ := ht9 22 (Nat.le_of_ble_eq_true rfl)
      have E23 : f 23 = _ := ht9 23 (Nat.le_of_ble_eq_true rfl)
      have E24 : f 24 = _ := ht9 24 (Nat.le_of_ble_eq_true rfl)
      have E25 : f 25 = _ := ht9 25 (Nat.le_of_ble_eq_true rfl)
      have E26 : f 26 = _ := ht9 26 (Nat.le_of_ble_eq_true rfl)
      have Ho9 : Only _ w5 w9 := hI9.2.1
      simp only [putAll, E0, E3, E6, E7, E8, E9, E10, E11, E12, E15, E16, E17, E18, E21, E22, E23, E24, E25, E26, Nat.zero_add, Nat.reduceAdd, Act.put, List.setIfInBounds_toArray, List.set_cons_succ, List.set_cons_zero]
      clear E0 E3 E6 E7 E8 E9 E10 E11 E12 E15 E16 E17 E18 E21 E22 E23 E24 E25 E26
      clear hI9 ht9 hcp9 hk9
      generalize f 1 = r1 at *
      generalize f 2 = r2 at *
      generalize f 4 = r4 at *
      generalize f 5 = r5 at *
      generalize f 13 = r13 at *
      generalize f 14 = r14 at *
      generalize f 19 = r19 at *
      generalize f 20 = r20 at *
      have hb := only_below Ho9
      replace B := Lib.hid (B.out.trans (hb.mono B.out.size))
      clear hb Ho9 z p0 p1 p2 p3 zm m0 m1 m2
      go_wp2_with fail
      go_ret
      exact ⟨rfl, B.out⟩
  · have hd1 : decide ((1048576 : Int) < (bs.length : Int)) = true := decide_eq_true (by omega)
    go_enter Try.func4, Try.ntmps4
    go_wp2_with fail
    go_ret
    exact ⟨rfl, Below.refl _ _⟩

/-! The step from the walk to the row. -/
set_option maxRecDepth 100000 in
theorem lifted (os : Os) (started : os.Started) (H : Type) (enc : TypeId × Value → H) :
    ReturnsInHanded {} Try.checked os 4 .any (Rows.fnOptimizeMachineSpec.pre6 enc Try.prog Try.f4 Rows.fnOptimizeMachineRow.domain false) (Rows.fnOptimizeMachineSpec.post enc Try.prog Try.f4 false true false false) := by
  refine returnsInHanded_of_change (C := Try.checked) own started (by kernel_rfl) Try.func4
    (ChangeSpec.witness6 (enc := enc) (C := Try.checked) false ⟨#[], #[.slice none 0 0], []⟩ 8 (by kernel_rfl) (by kernel_rfl) (by kernel_rfl) (by kernel_rfl)) ?_
  intro W base args ds gs before hval0 hW hcnd _
  have hval : ∀ (j : Nat) t v, Try.f4.params[j]? = some t → args[j]? = some v → Value.okWide Try.prog W .any base t v := hval0
  have hW' := hW
  obtain ⟨p, q, hA0, hV, rfl, hfz, hnd⟩ := hW
  have hA : DataW.TrodAll enc Try.prog W 0 (fun _ => true) true Try.f4.params.toList args.toList ds p := hA0
  rw [Try.params4] at hA hval
  obtain ⟨v0, vs0, d0, ds0, p0, q0, hargs, rfl, rfl, h0, r0⟩ := trodAll_cons hA
  obtain ⟨rfl, rfl, rfl⟩ := trodAll_nil r0
  obtain rfl : args = #[v0] := by cases args; simp_all
  obtain ⟨rfl, rfl⟩ := trodVars_none hV
  obtain ⟨a0, len0, cap0, rfl⟩ := okWide_slice Try.underlying22 (hval 0 22 v0 rfl rfl)
  have k0 := h0
  have lt0 : ∀ x ∈ p0, x.block < W.heap.size := by obtain ⟨m, hm⟩ := k0; exact DataW.trod_lt m _ _ _ hm
  obtain ⟨z0, w0⟩ : ∃ zs, IsRow .u8 W a0 len0 cap0 zs := by
    obtain ⟨fuel, hf⟩ := h0
    rcases open_ints Try.underlying22 Try.underlying5 (by kernel_rfl) hf with ⟨hcs, _⟩ | ⟨x, l, c, zs, hcs, _, hl, hm, hz, _, hcell, hwz⟩
    · simp [Value.cells] at hcs
      obtain ⟨rfl, rfl, rfl⟩ := hcs
      exact ⟨[], .inl ⟨rfl, rfl, rfl, rfl⟩⟩
    · simp [Value.cells] at hcs
      obtain ⟨rfl, rfl, rfl⟩ := hcs
      exact ⟨zs, .inr ⟨_, rfl, hl, hm, by simpa using hz, hcell, hwz⟩⟩
  clear hA0 hval0
  refine (walk a0 len0 cap0 z0 W w0).mono fun e W' ⟨he, bel⟩ => ?_
  subst he
  exact ⟨_, rfl, _, _, _, [], _, [], hW', trodAll_mk1 (shut_bool Try.underlying4 _), (trodAll_cons_mk (Below.trod laidOut (by kernel_rfl) (of_decide_eq_true (by kernel_rfl)) k0 bel lt0) trodAll_mk0), rfl, bel.frame _, fun h => by cases h⟩

theorem over : Rows.fnOptimizeMachineRow.holds Try.pinned (OpenSpec.ofChange Rows.fnOptimizeMachineSpec) :=
  OpenClaim.holds_of_wide 4 Try.f4 rfl rfl rfl rfl rfl rfl rfl ⟨rfl, rfl, rfl, rfl, rfl⟩ rfl rfl rfl rfl rfl (by kernel_rfl) Try.func4 (by kernel_rfl)
    (of_decide_eq_true (by kernel_rfl)) (by unfold Func.isWrapper; first | (rw [if_pos (by decide +kernel)]; kernel_rfl) | (rw [if_neg (by decide +kernel)]; exact ⟨rfl, rfl⟩))
    (fun os started H enc _ => lifted os started H enc)

/-- The statement. -/
theorem proved : Rows.FnOptimizeMachineSaid := over
#print axioms proved
end Go.Proofs.Ytdgminjbgjbamaa.fnOptimizeMachine
