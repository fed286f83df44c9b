/-
  FnMinimizeClasses: The minimized machine of a circuit has as many states as there are classes among its reachable states, and two circuits with as many inputs and outputs are sequentially equivalent if and only if their minimized machines are equal.
  Conditions: none. For every input that the row reads, the Go function laws.FnMinimizeClasses returns true and leaves its arguments as they were.
-/
import Derived.Test.YtkkkjbinfdohpaaS11
import Derived.Test.YtkkkjbinfdohpaaS12
import Derived.Test.YtkkkjbinfdohpaaS13
import Derived.Test.YtkkkjbinfdohpaaS14
import Derived.Test.YtkkkjbinfdohpaaS10
import Derived.StillTailTactics
import Derived.Test.YtkkkjbinfdohpaaRows
import Derived.WalkKit
import Derived.ProofKit
import Derived.OpenShut
import Derived.ShutString
import Derived.ChangeOld
import Derived.Below
set_option linter.unusedVariables false
set_option linter.unusedSimpArgs false
namespace Go.Proofs.Ytkkkjbinfdohpaa.fnMinimizeClasses
open Go.ChangeShapes Go.WideShapes Go.ChangeAt Go.RowKit
open Go.ChangeMaps (open_string shut_string)
set_option linter.unusedVariables false

theorem own : ownKnob Try.prog.godebug = none := by kernel_rfl
theorem laidOut : laidOutB Try.prog = true := by kernel_rfl

/-- A slice of integers that came in: nil, or a row of cells. -/
def IsRow (k : IntKind) (w : World) (a : Option Addr) (len cap : Nat) (zs : List Int) : Prop :=
  (a = none ∧ len = 0 ∧ cap = 0 ∧ zs = []) ∨
  ∃ x, a = some x ∧ len ≤ cap ∧ cap ≤ maxLen ∧ zs.length = cap ∧ (∀ i, i < zs.length → w.cell? (x.add i) = some (.int k (zs.getD i 0))) ∧ ∀ n ∈ zs, (Lit.int k n).wf = true


set_option maxHeartbeats 8000000 in
set_option maxRecDepth 100000 in
/-- The walk: the Go text returns true. -/
theorem walk (a0 : Option Addr) (len0 cap0 : Nat) (z0 : List Int) (w : World) (w0 : IsRow .u8 w a0 len0 cap0 z0) :
    Calls Try.prog 6 #[.slice a0 len0 cap0] w fun e w' => e = .returned (.bool true) ∧ Below w.heap.size w w' := by
  obtain ⟨bs, rfl, hwf, hr⟩ := Row.given w0
  clear w0
  by_cases hl : bs.length ≤ 1048576
  · have hd1 : decide ((1048576 : Int) < (bs.length : Int)) = false := decide_eq_false (by omega)
    have Hr := Lib.hid hr
    clear hr
    go_enter Try.func6, Try.ntmps6
    go_wp2_with fail
    refine (drawTwins_any _ bs w Hr.out hwf hl).mono ?_
    rintro e w1 ⟨va, vb, ca, cb, rfl, hCa, hCb, hb1⟩
    obtain ⟨An, cn, Ag, cg, Ao, co, rfl⟩ := hCa.shape
    obtain ⟨B1, b1, B2, b2, B4, b4, rfl⟩ := hCb.shape
    have hx1 := bel_new w1 (.cells #[.int .i64 ca.ins, .slice An ca.next.length cn, .slice Ag ca.gates.length cg, .slice Ao ca.outs.length co] 26)
    have hx2 := bel_new (w1.alloc (.cells #[.int .i64 ca.ins, .slice An ca.next.length cn, .slice Ag ca.gates.length cg, .slice Ao ca.outs.length co] 26)) (.cells #[.int .i64 cb.ins, .slice B1 cb.next.length b1, .slice B2 cb.gates.length b2, .slice B4 cb.outs.length b4] 26)
    have PA := Lib.hid ((PCells.boxed w1 ca.ins (.slice An ca.next.length cn) (.slice Ag ca.gates.length cg) (.slice Ao ca.outs.length co) 26).below hx2)
    have PB := PCells.boxed (w1.alloc (.cells #[.int .i64 ca.ins, .slice An ca.next.length cn, .slice Ag ca.gates.length cg, .slice Ao ca.outs.length co] 26)) cb.ins (.slice B1 cb.next.length b1) (.slice B2 cb.gates.length b2) (.slice B4 cb.outs.length b4) 26
    rw [World.size_alloc] at PB
    replace PB := Lib.hid PB
    have hx := hx1.trans (hx2.mono hx1.size)
    have HA := Lib.hid (hCa.at.below hx)
    have HB := Lib.hid (hCb.at.below hx)
    have B := Lib.hid (hb1.trans (hx.mono hb1.size))
    clear hCa hCb hb1 Hr hwf hd1 hx1 hx2 hx
    go_wp2_with fail
    generalize (w1.alloc (.cells #[.int .i64 ca.ins, .slice An ca.next.length cn, .slice Ag ca.gates.length cg, .slice Ao ca.outs.length co] 26)).alloc (.cells #[.int .i64 cb.ins, .slice B1 cb.next.length b1, .slice B2 cb.gates.length b2, .slice B4 cb.outs.length b4] 26) = w2 at *
    obtain ⟨ga, hga⟩ : ∃ g, w1.heap.size = g := ⟨_, rfl⟩
    obtain ⟨gb, hgb⟩ : ∃ g, w1.heap.size + 1 = g := ⟨_, rfl⟩
    rw [hgb] at PB
    rw [hga] at PA
    try rw [hgb]
    try rw [hga]
    clear hga hgb
    refine (implMof_any _ ca _ HA.out).mono ?_
    rintro e w3 ⟨v3, rfl, hO3, hb⟩
    have HM := Lib.hid (OwnMachE.at hO3)
    obtain ⟨Am, cm, Ax, cx, hvm, -⟩ := (OwnMachE.at hO3).shape
    subst hvm
    clear hO3
    replace PA := Lib.hid (PA.out.below hb)
    replace PB := Lib.hid (PB.out.below hb)
    replace HA := Lib.hid (HA.out.below hb)
    replace HB := Lib.hid (HB.out.below hb)
    replace B := Lib.hid (B.out.trans (hb.mono B.out.size))
    clear hb
    go_wp2_with fail
    refine (implMinz_any _ (Cir.machI ca) _ HM.out).mono ?_
    rintro e w4 ⟨v4, rfl, hO4, hb⟩
    have HX := Lib.hid (OwnMachE.at hO4)
    obtain ⟨Am2, cm2, Ax2, cx2, hvm2, -⟩ := (OwnMachE.at hO4).shape
    subst hvm2
    obtain ⟨x, hx⟩ : ∃ x, Mac.minI (Cir.machI ca) = x := ⟨_, rfl⟩
    have Hx := Lib.hid hx
    rw [hx] at HX ⊢
    clear hO4 hx
    replace PA := Lib.hid (PA.out.below hb)
    replace PB := Lib.hid (PB.out.below hb)
    replace HA := Lib.hid (HA.out.below hb)
    replace HB := Lib.hid (HB.out.below hb)
    replace B := Lib.hid (B.out.trans (hb.mono B.out.size))
    clear hb HM
    have hb := bel_alloc w4 (.cells #[.int .i64 x.ins, .slice Am2 x.next.length cm2, .slice Ax2 x.out.length cx2] 53)
    have PM := Lib.hid (MCells.boxed w4 x.ins (.slice Am2 x.next.length cm2) (.slice Ax2 x.out.length cx2) 53)
    replace PA := Lib.hid (PA.out.below hb)
    replace PB := Lib.hid (PB.out.below hb)
    replace HA := Lib.hid (HA.out.below hb)
    replace HB := Lib.hid (HB.out.below hb)
    replace HX := Lib.hid (HX.out.below hb)
    replace B := Lib.hid (B.out.trans (hb.mono B.out.size))
    clear hb
    obtain ⟨w5, hw5⟩ : ∃ w5, w4.alloc (.cells #[.int .i64 x.ins, .slice Am2 x.next.length cm2, .slice Ax2 x.out.length cx2] 53) = w5 := ⟨_, rfl⟩
    rw [hw5] at PA PB HA HB HX PM B
    obtain ⟨gq, hgq⟩ : ∃ gq, w4.heap.size = gq := ⟨_, rfl⟩
    rw [hgq] at PM
    obtain ⟨za, a0, a1, a2, a3⟩ := PA.out
    obtain ⟨zm, m0, m1, m2⟩ := PM.out
    go_wp2_with fail
    clear hw5 hgq
    refine wp_region_rs (quietRS Try.prog _ w5 _) quietRS_ok (by kernel_rfl) (by kernel_rfl) (by kernel_rfl) (Nat.le_of_ble_eq_true rfl) trivial trivial ?_
    apply rs_eq quietRS_ok quiet_any
    · intro ρ w' ho hK
      have ho : Only _ w5 w' := ho
      obtain ⟨h0, -⟩ := hK
      have h0' : ρ (.tmp 5) = _ := h0
      have hb := only_below ho
      have q0 := (hb.cell (p := ⟨ga, 0, none⟩) za).trans a0
      have q1 := (hb.cell (p := ⟨ga, 1, none⟩) za).trans a1
      have q2 := (hb.cell (p := ⟨ga, 2, none⟩) za).trans a2
      have q3 := (hb.cell (p := ⟨ga, 3, none⟩) za).trans a3
      have r0 := (hb.cell (p := ⟨gq, 0, none⟩) zm).trans m0
      have r1 := (hb.cell (p := ⟨gq, 1, none⟩) zm).trans m1
      have r2 := (hb.cell (p := ⟨gq, 2, none⟩) zm).trans m2
      go_simp
      try exact rfl
    apply rs_eq quietRS_ok quiet_any
    · intro ρ w' ho hK
      have ho : Only _ w5 w' := ho
      obtain ⟨h0, -⟩ := hK
      have h0' : ρ (.tmp 3) = _ := h0
      have hb := only_below ho
      have q0 := (hb.cell (p := ⟨ga, 0, none⟩) za).trans a0
      have q1 := (hb.cell (p := ⟨ga, 1, none⟩) za).trans a1
      have q2 := (hb.cell (p := ⟨ga, 2, none⟩) za).trans a2
      have q3 := (hb.cell (p := ⟨ga, 3, none⟩) za).trans a3
      have r0 := (hb.cell (p := ⟨gq, 0, none⟩) zm).trans m0
      have r1 := (hb.cell (p := ⟨gq, 1, none⟩) zm).trans m1
      have r2 := (hb.cell (p := ⟨gq, 2, none⟩) zm).trans m2
      go_simp
      try exact rfl
    refine rs_call quietRS_ok quiet_any (TMachL (Cir.machI ca)) (stb_machL _) 29 _ _ rfl (fun ρ w' ho hK => by
      have ho : Only _ w5 w' := ho
      obtain ⟨h0, h1, -⟩ := hK
      have h0' : ρ (.func 29) = .func (.func 29) #[] #[] := h0
      have h1' : ρ (.tmp 23) = _ := h1
      refine ⟨#[ρ (.tmp 23)], ?_, ?_⟩
      · go_simp
      · rw [h1']
        refine (specMof_any _ ca w' (HA.out.below (only_below ho))).mono ?_
        rintro e w2 ⟨⟨v2, rfl, hO⟩, hb⟩
        exact ⟨v2, rfl, hO, hb⟩) ?_
    refine rs_call quietRS_ok quiet_any (TMachL x) (stb_machL _) 28 _ _ rfl (fun ρ w' ho hK => by
      have ho : Only _ w5 w' := ho
      obtain ⟨h0, h1, -⟩ := hK
      have h0' : ρ (.func 28) = .func (.func 28) #[] #[] := h0
      have h1' : (TMachL (Cir.machI ca)) w' (ρ (.tmp 24)) := h1
      refine ⟨#[ρ (.tmp 24)], ?_, ?_⟩
      · go_simp
      · skip
        refine (specMinz_read _ (Cir.machI ca) w' h1').mono ?_
        rintro e w2 ⟨⟨v2, rfl, hO⟩, hb⟩
        exact ⟨v2, rfl, by rw [Hx.out] at hO; exact hO, hb⟩) ?_
    refine rs_call quietRS_ok quiet_any (TEq (.bool true)) (stb_eq _ _) 27 _ _ rfl (fun ρ w' ho hK => by
      have ho : Only _ w5 w' := ho
      obtain ⟨h0, h1, h2, -⟩ := hK
      have h0' : ρ (.func 27) = .func (.func 27) #[] #[] := h0
      have h1' : ρ (.tmp 22) = _ := h1
      have h2' : (TMachL x) w' (ρ (.tmp 25)) := h2
      refine ⟨#[ρ (.tmp 22), ρ (.tmp 25)], ?_, ?_⟩
      · go_simp
      · rw [h1']
        refine (sameMachine_same _ _ x w' (HX.out.below (only_below ho)) h2').mono ?_
        rintro e w2 ⟨rfl, hb⟩
        exact ⟨_, rfl, rfl, hb⟩) ?_
    apply rs_eq quietRS_ok quiet_any
    · intro ρ w' ho hK
      have ho : Only _ w5 w' := ho
      obtain ⟨h0, -⟩ := hK
      have h0' : ρ (.tmp 26) = _ := h0
      go_simp
      try exact rfl
    intro f w9 k9 hk9 hI9 ht9 hcp9
    have E0 : f 0 = _ := ht9 0 (Nat.le_of_ble_eq_true rfl)
    have E1 : f 1 = _ := ht9 1 (Nat.le_of_ble_eq_true rfl)
    have E2 : (TMachL (Cir.machI ca)) w9 (f 2) := ht9 2 (Nat.le_of_ble_eq_true rfl)
    have E3 : (TMachL x) w9 (f 3) := ht9 3 (Nat.le_of_ble_eq_true rfl)
    have E4 : f 4 = _ := ht9 4 (Nat.le_of_ble_eq_true rfl)
    have E5 : f 5 = _ := ht9 5 (Nat.le_of_ble_eq_true rfl)
    have Ho9 : Only _ w5 w9 := hI9.2.1
    simp only [putAll, E0, E1, E4, E5, Nat.zero_add, Nat.reduceAdd, Act.put, List.setIfInBounds_toArray, List.set_cons_succ, List.set_cons_zero]
    clear E0 E1 E4 E5
    clear hI9 ht9 hcp9 hk9
    generalize f 2 = r2 at *
    generalize f 3 = r3 at *
    have hb := only_below Ho9
    clear za a0 a1 a2 a3 zm m0 m1 m2 Ho9
    replace PA := Lib.hid (PA.out.below hb)
    replace PB := Lib.hid (PB.out.below hb)
    replace HA := Lib.hid (HA.out.below hb)
    replace HB := Lib.hid (HB.out.below hb)
    replace HX := Lib.hid (HX.out.below hb)
    replace PM := Lib.hid (PM.out.below hb)
    replace B := Lib.hid (B.out.trans (hb.mono B.out.size))
    clear hb
    obtain ⟨za, a0, a1, a2, a3⟩ := PA.out
    go_wp2_with fail
    refine (specValid_any _ ca _ HA.out).mono ?_
    rintro e w6 ⟨rfl, hb⟩
    clear za a0 a1 a2 a3
    replace PA := Lib.hid (PA.out.below hb)
    replace PB := Lib.hid (PB.out.below hb)
    replace HA := Lib.hid (HA.out.below hb)
    replace HB := Lib.hid (HB.out.below hb)
    replace HX := Lib.hid (HX.out.below hb)
    replace PM := Lib.hid (PM.out.below hb)
    replace B := Lib.hid (B.out.trans (hb.mono B.out.size))
    clear hb
    cases hva : Cir.valid ca
    · clear hva
      go_wp2_with fail
      refine (alive_any _).mono ?_
      rintro e w8 ⟨rfl, hb⟩
      replace B := Lib.hid (B.out.trans (hb.mono B.out.size))
      clear hb
      go_wp2_with fail
      go_ret
      exact ⟨rfl, B.out⟩
    · obtain ⟨zb, b0', b1', b2', b3'⟩ := PB.out
      go_wp2_with fail
      refine (specValid_any _ cb _ HB.out).mono ?_
      rintro e w7 ⟨rfl, hb⟩
      clear zb b0' b1' b2' b3'
      replace PA := Lib.hid (PA.out.below hb)
      replace PB := Lib.hid (PB.out.below hb)
      replace HA := Lib.hid (HA.out.below hb)
      replace HB := Lib.hid (HB.out.below hb)
      replace HX := Lib.hid (HX.out.below hb)
      replace PM := Lib.hid (PM.out.below hb)
      replace B := Lib.hid (B.out.trans (hb.mono B.out.size))
      clear hb
      cases hvb : Cir.valid cb
      · clear hvb hva
        go_wp2_with fail
        refine (alive_any _).mono ?_
        rintro e w8 ⟨rfl, hb⟩
        replace B := Lib.hid (B.out.trans (hb.mono B.out.size))
        clear hb
        go_wp2_with fail
        go_ret
        exact ⟨rfl, B.out⟩
      · obtain ⟨ea, da⟩ := Cir.nat_ok hva
        obtain ⟨eb, db⟩ := Cir.nat_ok hvb
        have Hva := Lib.hid hva
        have Hvb := Lib.hid hvb
        have HDa := Lib.hid da
        have HDb := Lib.hid db
        have Hea := Lib.hid ea
        have Heb := Lib.hid eb
        have HAd : Hid (∀ w' v', CircAt w' v' ca → CircAt w' v' (Cir.toCz (Cir.nat ca))) := Lib.hid fun w' v' h => by rw [← ea]; exact h
        clear hva hvb da db ea eb
        obtain ⟨za, a0, a1, a2, a3⟩ := PA.out
        go_wp2_with fail
        refine (stateClasses_any _ (Cir.nat ca) _ (HAd.out _ _ HA.out) HDa.out (by rw [← Hea.out]; exact Hva.out)).mono ?_
        rintro e w8 ⟨vc, rfl, hc, hb⟩
        have HCl := Lib.hid (own_nats (v := vc) (xs := Cir.clsC (Cir.nat ca)) (by rw [nats_length] at hc; exact hc))
        clear za a0 a1 a2 a3 hc
        replace PA := Lib.hid (PA.out.below hb)
        replace PB := Lib.hid (PB.out.below hb)
        replace HA := Lib.hid (HA.out.below hb)
        replace HB := Lib.hid (HB.out.below hb)
        replace HX := Lib.hid (HX.out.below hb)
        replace PM := Lib.hid (PM.out.below hb)
        replace B := Lib.hid (B.out.trans (hb.mono B.out.size))
        clear hb
        obtain ⟨za, a0, a1, a2, a3⟩ := PA.out
        go_wp2_with fail
        refine (implReach_any _ ca _ HA.out).mono ?_
        rintro e w9 ⟨vr, rfl, hR, hb⟩
        rw [show Cir.reachI ca = nats (Cir.reach (Cir.nat ca)) from by unfold Cir.reachI; rw [Hva.out]; rfl] at hR
        have HRe := Lib.hid (own_nats (v := vr) (xs := Cir.reach (Cir.nat ca)) (by rw [nats_length] at hR; exact hR))
        replace HCl := Lib.hid (HCl.out.below hb)
        clear za a0 a1 a2 a3 hR
        replace PA := Lib.hid (PA.out.below hb)
        replace PB := Lib.hid (PB.out.below hb)
        replace HA := Lib.hid (HA.out.below hb)
        replace HB := Lib.hid (HB.out.below hb)
        replace HX := Lib.hid (HX.out.below hb)
        replace PM := Lib.hid (PM.out.below hb)
        replace B := Lib.hid (B.out.trans (hb.mono B.out.size))
        clear hb
        obtain ⟨w10, hw10⟩ : ∃ W, W = w9 := ⟨_, rfl⟩
        subst hw10
        obtain ⟨Ar, cr, er, hcr, hcrm⟩ := NatsAt.shape HRe.out
        obtain ⟨Ac, cc, ec, hcc, hccm⟩ := NatsAt.shape HCl.out
        subst er ec
        unfold maxLen at hcrm hccm
        have hR8 : (Cir.reach (Cir.nat ca)).length ≤ 8 := (Cir.reach_sts (Cir.nat ca)).len HDa.out
        have HRlt : Hid (∀ s ∈ Cir.reach (Cir.nat ca), s < (Cir.clsC (Cir.nat ca)).length) := Lib.hid fun s hs => by
          have h := (Cir.reach_sts (Cir.nat ca)).lt s hs
          have e : (Cir.clsC (Cir.nat ca)).length = 2 ^ (Cir.nat ca).next.length := by
            have h1 := (Mac.seqI_cl (Cir.allN (Cir.nat ca)) (Cir.allO (Cir.nat ca)) ((Cir.allN (Cir.nat ca)).length + 1)).len
            unfold Cir.clsC Mac.classI
            rw [h1]
            unfold Cir.allN
            simp
          omega
        have HCb : Hid (∀ s, s < (Cir.clsC (Cir.nat ca)).length → Mac.cg (Cir.clsC (Cir.nat ca)) s ≤ 1000) := Lib.hid fun s hs => by
          have h1 := Mac.seqI_cl (Cir.allN (Cir.nat ca)) (Cir.allO (Cir.nat ca)) ((Cir.allN (Cir.nat ca)).length + 1)
          have h2 : (Cir.allN (Cir.nat ca)).length ≤ 8 := (Cir.nrows_all HDa.out).2.2.2
          have h3 := h1.le s (by have := h1.len; unfold Cir.clsC Mac.classI at hs; omega)
          unfold Cir.clsC Mac.classI at hs ⊢
          have h4 := h1.len
          omega
        have HE : Hid ((w10.alloc (.cells #[] 3)).ownsRow w10.heap.size 3 1 (.slice (some ⟨w10.heap.size, 0, none⟩) 0 0) 0 (nints [])) := Lib.hid (World.ownsRow_lit (base := w10.heap.size) (e := 3) (size := 1) w10 #[] 0 (Nat.le_refl _) (by unfold maxLen; omega) rfl)
        have HbE := Lib.hid (bel_new w10 (.cells #[] 3))
        go_wp2_with fail
        generalize w10.alloc (.cells #[] 3) = w11 at *
        have HSC : Hid (Cir.seenC (Cir.nat ca) ((Cir.reach (Cir.nat ca)).take 0) = []) := Lib.hid rfl
        obtain ⟨R, hR⟩ : ∃ R, Cir.reach (Cir.nat ca) = R := ⟨_, rfl⟩
        obtain ⟨C, hC⟩ : ∃ C, Cir.clsC (Cir.nat ca) = C := ⟨_, rfl⟩
        have HSd : Hid (∀ l, Cir.seenC (Cir.nat ca) l = Mac.pushesG [] (l.map fun s => Mac.cg C s)) := Lib.hid fun l => by unfold Cir.seenC; rw [hC]
        rw [hR] at HRe HRlt hR8 hcr
        rw [hC] at HCl HRlt HCb hcc
        rw [hR, hC]
        have HR := Lib.hid hR
        have HC := Lib.hid hC
        clear hR hC HSC
        go_loopw [8, 9] (fun v i wr => ∃ (vv : Value) (k : Nat), vv = v ∧ k ≤ R.length ∧ i = .int .i64 k ∧ Hid (wr.ownsRow w10.heap.size 3 1 v (Mac.pushesG [] ((R.take k).map fun s => Mac.cg C s)).length (nints (Mac.pushesG [] ((R.take k).map fun s => Mac.cg C s)))) ∧ Hid (Below w10.heap.size w10 wr)) (fun _ i _ => R.length - (intOf i).toNat)
        case atStart => exact ⟨_, 0, rfl, Nat.zero_le _, rfl, HE, HbE⟩
        case round =>
          obtain ⟨vv, k, hvv, hk, rfl, HS, Hb⟩ := hrel
          subst hvv
          clear HE HbE
          by_cases hlt : k < R.length
          · obtain ⟨br, orr, s, er, hbr, hs, hs0⟩ := nats_cell (nats_row HRe.out) rfl hlt
            subst er
            have hsC := HRlt.out s (List.mem_of_getElem? hs.out)
            obtain ⟨bc, oc, q, ec, hbc, hq, hq0⟩ := nats_cell (nats_row HCl.out) rfl hsC
            subst ec
            have hcg : Mac.cg C s = q := by unfold Mac.cg; rw [List.getD_eq_getElem?_getD, hq.out, Option.getD_some]
            have hqb := HCb.out s hsC
            rw [hcg] at hqb
            have HSn : Hid (Mac.pushesG [] ((R.take (k + 1)).map fun s => Mac.cg C s) = Mac.pushG (Mac.pushesG [] ((R.take k).map fun s => Mac.cg C s)) q) := Lib.hid (by
              rw [take_snoc hs.out, List.map_append, List.map_singleton, hcg]
              unfold Mac.pushesG
              rw [List.foldl_append]
              rfl)
            have HSl : Hid ((Mac.pushesG [] ((R.take k).map fun s => Mac.cg C s)).length ≤ 1000) := Lib.hid (by
              have h1 : ∀ (xs l : List Nat), (Mac.pushesG l xs).length ≤ l.length + xs.length := by
                intro xs
                induction xs with
                | nil => intro l; exact Nat.le_refl _
                | cons a xs ih =>
                  intro l
                  have h2 := ih (Mac.pushG l a)
                  have h3 : (Mac.pushG l a).length ≤ l.length + 1 := by unfold Mac.pushG; split <;> simp
                  show (Mac.pushesG (Mac.pushG l a) xs).length ≤ _
                  rw [List.length_cons]
                  omega
              have h2 := h1 ((R.take k).map fun s => Mac.cg C s) []
              rw [List.length_map, List.length_take] at h2
              simp only [List.length_nil] at h2
              omega)
            generalize Mac.pushesG [] ((R.take k).map fun s => Mac.cg C s) = S at *
            have c1 := (Hb.out.cell (p := ⟨br, orr + k, none⟩) hbr).trans hs0
            have c2 := (Hb.out.cell (p := ⟨bc, oc + s, none⟩) hbc).trans hq0
            clear hcg hs hq
            go_wp2_with fail
            refine (lawContains_any _ S q _ (own_nats HS.out) (by omega)).mono ?_
            rintro e w' ⟨rfl, rfl⟩
            have hSl := HSl.out
            cases hm : Cir.memB S q
            · have HP : Hid (Mac.pushG S q = S ++ [q]) := Lib.hid (by
                unfold Mac.pushG
                rw [if_neg (fun h => by rw [Cir.memB_iff.2 h] at hm; cases hm)])
              have Hlit := Lib.hid (Row.of_own (World.ownsRow_lit (base := wr.heap.size) (e := 3) (size := 1) wr #[.int .i64 (q : Nat)] 1 (Nat.le_refl _) (by unfold maxLen; omega) rfl))
              have HOa := Lib.hid (HS.out.alloc (.cells #[.int .i64 (q : Nat)] 3))
              have hza : (wr.alloc (.cells #[.int .i64 (q : Nat)] 3)).heap.size = wr.heap.size + 1 := by simp
              have hzb := Hb.out.size
              clear hm
              go_wp2_with (at_builtin; refine append_ints rfl (.tmp 58) (.tmp 66) rfl w10.heap.size _ S.length _ rfl HOa.out _ 1 [.int .i64 (q : Nat)] rfl Hlit.out (by simp [Value.oneCell']) (by omega) (by omega) ?_; intro v4 w5 hown4 hg4 hat4; have Hown4 := Lib.hid hown4; have Hg4 := Lib.hid hg4; clear hown4 hg4 hat4)
              go_roundw
              case rel => exact ⟨_, k + 1, rfl, by omega, by go_num, Lib.hid (by rw [HSn.out, HP.out, List.length_append, List.length_singleton, nints_snoc]; exact Hown4.out), Lib.hid ((Hb.out.alloc Hb.out.size _).grown Hg4.out (by omega) (fun q hq => (HOa.out.lt q hq).1))⟩
              case measure => simp [intOf] <;> omega
            · have HP : Hid (Mac.pushG S q = S) := Lib.hid (by
                unfold Mac.pushG
                rw [if_pos (Cir.memB_iff.1 hm)])
              clear hm
              go_wp2_with fail
              go_roundw
              case rel => exact ⟨_, k + 1, rfl, by omega, by go_num, Lib.hid (by rw [HSn.out, HP.out]; exact HS.out), Hb⟩
              case measure => simp [intOf] <;> omega
          · obtain rfl : k = R.length := by omega
            rw [List.take_length] at HS
            go_wp2_with fail
            have hb := Hb.out
            replace PA := Lib.hid (PA.out.below hb)
            replace PB := Lib.hid (PB.out.below hb)
            replace HA := Lib.hid (HA.out.below hb)
            replace HB := Lib.hid (HB.out.below hb)
            replace HX := Lib.hid (HX.out.below hb)
            replace PM := Lib.hid (PM.out.below hb)
            replace B := Lib.hid (B.out.trans (hb.mono B.out.size))
            clear hb
            obtain ⟨y, hy⟩ : ∃ y, Mac.minI (Cir.machI cb) = y := ⟨_, rfl⟩
            have HY := Lib.hid hy
            obtain ⟨Avs, cvs, evs⟩ := slice_of_own HS.out
            subst evs
            have HcntL : Hid ((((x.next.length : Nat) : Int) == ((Mac.pushesG [] (R.map fun s => Mac.cg C s)).length : Int)) = true) := Lib.hid (by
              have h1 := Cir.min_count HDa.out
              rw [HSd.out, HR.out, ← Cir.machI_ok Hva.out, Hx.out] at h1
              rw [h1]
              simp)
            have hSle := HS.out.1
            generalize (Mac.pushesG [] (R.map fun s => Mac.cg C s)).length = SL at *
            obtain ⟨zb, e0, e1, e2, e3⟩ := PB.out
            obtain ⟨zm, m0, m1, m2⟩ := PM.out
            clear hy
            refine wp_region_rs (quietRS Try.prog _ wr _) quietRS_ok (by kernel_rfl) (by kernel_rfl) (by kernel_rfl) (Nat.le_of_ble_eq_true rfl) trivial trivial ?_
            apply rs_eq quietRS_ok quiet_any
            · intro ρ w' ho hK
              have ho : Only _ wr w' := ho
              obtain ⟨h0, -⟩ := hK
              have h0' : ρ (.tmp 5) = _ := h0
              have hb := only_below ho
              have q0 := (hb.cell (p := ⟨gb, 0, none⟩) zb).trans e0
              have q1 := (hb.cell (p := ⟨gb, 1, none⟩) zb).trans e1
              have q2 := (hb.cell (p := ⟨gb, 2, none⟩) zb).trans e2
              have q3 := (hb.cell (p := ⟨gb, 3, none⟩) zb).trans e3
              have r0 := (hb.cell (p := ⟨gq, 0, none⟩) zm).trans m0
              have r1 := (hb.cell (p := ⟨gq, 1, none⟩) zm).trans m1
              have r2 := (hb.cell (p := ⟨gq, 2, none⟩) zm).trans m2
              go_simp
              try exact rfl
            apply rs_eq quietRS_ok quiet_any
            · intro ρ w' ho hK
              have ho : Only _ wr w' := ho
              obtain ⟨h0, -⟩ := hK
              have h0' : ρ (.tmp 4) = _ := h0
              have hb := only_below ho
              have q0 := (hb.cell (p := ⟨gb, 0, none⟩) zb).trans e0
              have q1 := (hb.cell (p := ⟨gb, 1, none⟩) zb).trans e1
              have q2 := (hb.cell (p := ⟨gb, 2, none⟩) zb).trans e2
              have q3 := (hb.cell (p := ⟨gb, 3, none⟩) zb).trans e3
              have r0 := (hb.cell (p := ⟨gq, 0, none⟩) zm).trans m0
              have r1 := (hb.cell (p := ⟨gq, 1, none⟩) zm).trans m1
              have r2 := (hb.cell (p := ⟨gq, 2, none⟩) zm).trans m2
              go_simp
              try exact rfl
            refine rs_call quietRS_ok quiet_any (TMachL (Cir.machI cb)) (stb_machL _) 26 _ _ rfl (fun ρ w' ho hK => by
              have ho : Only _ wr w' := ho
              obtain ⟨h0, h1, -⟩ := hK
              have h0' : ρ (.func 26) = .func (.func 26) #[] #[] := h0
              have h1' : ρ (.tmp 69) = _ := h1
              refine ⟨#[ρ (.tmp 69)], ?_, ?_⟩
              · go_simp
              · rw [h1']
                refine (implMof_any _ cb w' (HB.out.below (only_below ho))).mono ?_
                rintro e w2 ⟨v2, rfl, hO, hb⟩
                exact ⟨v2, rfl, OwnMachE.at hO, hb⟩) ?_
            refine rs_call quietRS_ok quiet_any (TMachL y) (stb_machL _) 25 _ _ rfl (fun ρ w' ho hK => by
              have ho : Only _ wr w' := ho
              obtain ⟨h0, h1, -⟩ := hK
              have h0' : ρ (.func 25) = .func (.func 25) #[] #[] := h0
              have h1' : (TMachL (Cir.machI cb)) w' (ρ (.tmp 70)) := h1
              refine ⟨#[ρ (.tmp 70)], ?_, ?_⟩
              · go_simp
              · skip
                refine (implMinz_any _ (Cir.machI cb) w' h1').mono ?_
                rintro e w2 ⟨v2, rfl, hO, hb⟩
                rw [HY.out] at hO
                exact ⟨v2, rfl, OwnMachE.at hO, hb⟩) ?_
            refine rs_call quietRS_ok quiet_any (TEq (.bool (eqM x y))) (stb_eq _ _) 27 _ _ rfl (fun ρ w' ho hK => by
              have ho : Only _ wr w' := ho
              obtain ⟨h0, h1, h2, -⟩ := hK
              have h0' : ρ (.func 27) = .func (.func 27) #[] #[] := h0
              have h1' : ρ (.tmp 68) = _ := h1
              have h2' : (TMachL y) w' (ρ (.tmp 71)) := h2
              refine ⟨#[ρ (.tmp 68), ρ (.tmp 71)], ?_, ?_⟩
              · go_simp
              · rw [h1']
                refine (sameMachine_two _ _ x y w' (HX.out.below (only_below ho)) h2').mono ?_
                rintro e w2 ⟨rfl, hb⟩
                exact ⟨_, rfl, rfl, hb⟩) ?_
            refine rs_same quietRS_ok quiet_any 72 4 (.inr rfl) rfl _ rfl ?_
            intro f w9 k9 hk9 hI9 ht9 hcp9
            have E0 : f 0 = _ := ht9 0 (Nat.le_of_ble_eq_true rfl)
            have E1 : f 1 = _ := ht9 1 (Nat.le_of_ble_eq_true rfl)
            have E2 : (TMachL (Cir.machI cb)) w9 (f 2) := ht9 2 (Nat.le_of_ble_eq_true rfl)
            have E3 : (TMachL y) w9 (f 3) := ht9 3 (Nat.le_of_ble_eq_true rfl)
            have E4 : f 4 = _ := ht9 4 (Nat.le_of_ble_eq_true rfl)
            have E5 : f 5 = _ := ht9 5 (Nat.le_of_ble_eq_true rfl)
            have Ho9 : Only _ wr w9 := hI9.2.1
            simp only [putAll, E0, E1, E4, E5, Nat.zero_add, Nat.reduceAdd, Act.put, List.setIfInBounds_toArray, List.set_cons_succ, List.set_cons_zero]
            clear E0 E1 E4 E5
            clear hI9 ht9 hcp9 hk9
            generalize f 2 = r2 at *
            generalize f 3 = r3 at *
            have hb := only_below Ho9
            clear zb e0 e1 e2 e3 zm m0 m1 m2 Ho9
            replace PA := Lib.hid (PA.out.below hb)
            replace PB := Lib.hid (PB.out.below hb)
            replace HA := Lib.hid (HA.out.below hb)
            replace HB := Lib.hid (HB.out.below hb)
            replace HX := Lib.hid (HX.out.below hb)
            replace PM := Lib.hid (PM.out.below hb)
            replace B := Lib.hid (B.out.trans (hb.mono B.out.size))
            clear hb
            obtain ⟨za, a0, a1, a2, a3⟩ := PA.out
            obtain ⟨zb, e0, e1, e2, e3⟩ := PB.out
            obtain ⟨zm, m0, m1, m2⟩ := PM.out
            have hcnt := HcntL.out
            by_cases hi : ca.ins = cb.ins
            · have hne : (ca.ins != cb.ins) = false := by simpa using hi
              by_cases ho : ca.outs.length = cb.outs.length
              · have hne2 : ((ca.outs.length : Int) != (cb.outs.length : Int)) = false := by rw [ho]; simp
                have hin : (Cir.nat ca).ins = (Cir.nat cb).ins := by
                  have h1 := congrArg Cz.ins Hea.out
                  have h2 := congrArg Cz.ins Heb.out
                  have e1 : ca.ins = ((Cir.nat ca).ins : Int) := h1
                  have e2 : cb.ins = ((Cir.nat cb).ins : Int) := h2
                  omega
                have hon : (Cir.nat ca).outs.length = (Cir.nat cb).outs.length := by
                  have h1 := congrArg (fun c => c.outs.length) Hea.out
                  have h2 := congrArg (fun c => c.outs.length) Heb.out
                  have e1 : ca.outs.length = (Cir.nat ca).outs.length := h1.trans (List.length_map _)
                  have e2 : cb.outs.length = (Cir.nat cb).outs.length := h2.trans (List.length_map _)
                  omega
                have HQ := Lib.hid (seqEquiv_ok _ _ (Cir.nat ca) (Cir.nat cb) _ (HAd.out _ _ HA.out) (by rw [← Heb.out]; exact HB.out) HDa.out HDb.out (by rw [← Hea.out]; exact Hva.out) (by rw [← Heb.out]; exact Hvb.out) hin hon)
                have HEq : Hid ((Cir.pdist (Cir.nat ca) (Cir.nat cb)).isNone = eqM x y) := Lib.hid (by
                  rw [Bool.eq_iff_iff, Option.isNone_iff_eq_none, Cir.pdist_none HDa.out HDb.out, ← Cir.min_alike HDa.out HDb.out hin, eqM_iff, ← Cir.machI_ok Hva.out, ← Cir.machI_ok Hvb.out, Hx.out, HY.out])
                rw [HEq.out] at HQ
                generalize eqM x y = eb at *
                have hbb : (eb == eb) = true := by simp
                clear hi ho hin hon
                go_wp2_with fail
                refine HQ.out.mono ?_
                rintro e w12 ⟨rfl, hb⟩
                replace B := Lib.hid (B.out.trans (hb.mono B.out.size))
                clear hb
                go_wp2_with fail
                go_ret
                exact ⟨rfl, B.out⟩
              · have hne2 : ((ca.outs.length : Int) != (cb.outs.length : Int)) = true := by rw [bne_iff_ne]; omega
                clear hi ho
                go_wp2_with fail
                go_ret
                exact ⟨rfl, B.out⟩
            · have hne : (ca.ins != cb.ins) = true := by simpa using hi
              clear hi
              go_wp2_with fail
              go_ret
              exact ⟨rfl, B.out⟩
  · have hd1 : decide ((1048576 : Int) < (bs.length : Int)) = true := decide_eq_true (by omega)
    go_enter Try.func6, Try.ntmps6
    go_wp2_with fail
    go_ret
    exact ⟨rfl, Below.refl _ _⟩

/-! The step from the walk to the row. -/
set_option maxRecDepth 100000 in
theorem lifted (os : Os) (started : os.Started) (H : Type) (enc : TypeId × Value → H) :
    ReturnsInHanded {} Try.checked os 6 .any (Rows.fnMinimizeClassesSpec.pre6 enc Try.prog Try.f6 Rows.fnMinimizeClassesRow.domain false) (Rows.fnMinimizeClassesSpec.post enc Try.prog Try.f6 false true false false) := by
  refine returnsInHanded_of_change (C := Try.checked) own started (by kernel_rfl) Try.func6
    (ChangeSpec.witness6 (enc := enc) (C := Try.checked) false ⟨#[], #[.slice none 0 0], []⟩ 8 (by kernel_rfl) (by kernel_rfl) (by kernel_rfl) (by kernel_rfl)) ?_
  intro W base args ds gs before hval0 hW hcnd _
  have hval : ∀ (j : Nat) t v, Try.f6.params[j]? = some t → args[j]? = some v → Value.okWide Try.prog W .any base t v := hval0
  have hW' := hW
  obtain ⟨p, q, hA0, hV, rfl, hfz, hnd⟩ := hW
  have hA : DataW.TrodAll enc Try.prog W 0 (fun _ => true) true Try.f6.params.toList args.toList ds p := hA0
  rw [Try.params6] at hA hval
  obtain ⟨v0, vs0, d0, ds0, p0, q0, hargs, rfl, rfl, h0, r0⟩ := trodAll_cons hA
  obtain ⟨rfl, rfl, rfl⟩ := trodAll_nil r0
  obtain rfl : args = #[v0] := by cases args; simp_all
  obtain ⟨rfl, rfl⟩ := trodVars_none hV
  obtain ⟨a0, len0, cap0, rfl⟩ := okWide_slice Try.underlying22 (hval 0 22 v0 rfl rfl)
  have k0 := h0
  have lt0 : ∀ x ∈ p0, x.block < W.heap.size := by obtain ⟨m, hm⟩ := k0; exact DataW.trod_lt m _ _ _ hm
  obtain ⟨z0, w0⟩ : ∃ zs, IsRow .u8 W a0 len0 cap0 zs := by
    obtain ⟨fuel, hf⟩ := h0
    rcases open_ints Try.underlying22 Try.underlying5 (by kernel_rfl) hf with ⟨hcs, _⟩ | ⟨x, l, c, zs, hcs, _, hl, hm, hz, _, hcell, hwz⟩
    · simp [Value.cells] at hcs
      obtain ⟨rfl, rfl, rfl⟩ := hcs
      exact ⟨[], .inl ⟨rfl, rfl, rfl, rfl⟩⟩
    · simp [Value.cells] at hcs
      obtain ⟨rfl, rfl, rfl⟩ := hcs
      exact ⟨zs, .inr ⟨_, rfl, hl, hm, by simpa using hz, hcell, hwz⟩⟩
  clear hA0 hval0
  refine (walk a0 len0 cap0 z0 W w0).mono fun e W' ⟨he, bel⟩ => ?_
  subst he
  exact ⟨_, rfl, _, _, _, [], _, [], hW', trodAll_mk1 (shut_bool Try.underlying4 _), (trodAll_cons_mk (Below.trod laidOut (by kernel_rfl) (of_decide_eq_true (by kernel_rfl)) k0 bel lt0) trodAll_mk0), rfl, bel.frame _, fun h => by cases h⟩

theorem over : Rows.fnMinimizeClassesRow.holds Try.pinned (OpenSpec.ofChange Rows.fnMinimizeClassesSpec) :=
  OpenClaim.holds_of_wide 6 Try.f6 rfl rfl rfl rfl rfl rfl rfl ⟨rfl, rfl, rfl, rfl, rfl⟩ rfl rfl rfl rfl rfl (by kernel_rfl) Try.func6 (by kernel_rfl)
    (of_decide_eq_true (by kernel_rfl)) (by unfold Func.isWrapper; first | (rw [if_pos (by decide +kernel)]; kernel_rfl) | (rw [if_neg (by decide +kernel)]; exact ⟨rfl, rfl⟩))
    (fun os started H enc _ => lifted os started H enc)

/-- The statement. -/
theorem proved : Rows.FnMinimizeClassesSaid := over
#print axioms proved
end Go.Proofs.Ytkkkjbinfdohpaa.fnMinimizeClasses
