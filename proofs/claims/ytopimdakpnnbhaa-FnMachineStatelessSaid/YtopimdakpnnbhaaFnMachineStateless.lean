/-
  FnMachineStateless: A circuit without latches has a machine of one state, whose outputs are those of one clock cycle.
  Conditions: none. For every input that the row reads, the Go function laws.FnMachineStateless returns true and leaves its arguments as they were.
-/
import Derived.Test.YtopimdakpnnbhaaS04
import Derived.Test.YtopimdakpnnbhaaS05
import Derived.Test.YtopimdakpnnbhaaS01
import Derived.Test.YtopimdakpnnbhaaS06
import Derived.StillTailTactics
import Derived.Test.YtopimdakpnnbhaaRows
import Derived.WalkKit
import Derived.ProofKit
import Derived.OpenShut
import Derived.ShutString
import Derived.ChangeOld
import Derived.Below
namespace Go.Proofs.Ytopimdakpnnbhaa.fnMachineStateless
open Go.ChangeShapes Go.WideShapes Go.ChangeAt Go.RowKit
open Go.ChangeMaps (open_string shut_string)
set_option linter.unusedVariables false

theorem own : ownKnob Try.prog.godebug = none := by kernel_rfl
theorem laidOut : laidOutB Try.prog = true := by kernel_rfl

/-- A slice of integers that came in: nil, or a row of cells. -/
def IsRow (k : IntKind) (w : World) (a : Option Addr) (len cap : Nat) (zs : List Int) : Prop :=
  (a = none ∧ len = 0 ∧ cap = 0 ∧ zs = []) ∨
  ∃ x, a = some x ∧ len ≤ cap ∧ cap ≤ maxLen ∧ zs.length = cap ∧ (∀ i, i < zs.length → w.cell? (x.add i) = some (.int k (zs.getD i 0))) ∧ ∀ n ∈ zs, (Lit.int k n).wf = true


set_option maxHeartbeats 8000000 in
set_option maxRecDepth 100000 in
/-- The walk: the Go text returns true. -/
theorem walk (a0 : Option Addr) (len0 cap0 : Nat) (z0 : List Int) (w : World) (w0 : IsRow .u8 w a0 len0 cap0 z0) :
    Calls Try.prog 12 #[.slice a0 len0 cap0] w fun e w' => e = .returned (.bool true) ∧ Below w.heap.size w w' := by
  obtain ⟨bs, rfl, hwf, hr⟩ := Row.given w0
  clear w0
  by_cases hl : bs.length ≤ 1048576
  · have Hr := Lib.hid hr
    clear hr
    go_enter Try.func12, Try.ntmps12
    go_wp2_with fail
    refine (drawMachineOf_any _ bs w Hr.out hwf hl).mono ?_
    rintro e w1 ⟨v1, c', rfl, hO, hS, hb1⟩
    have HO := Lib.hid hO
    have Hb1 := Lib.hid hb1
    obtain ⟨An, cn, Ag, cg, Ao, co, rfl⟩ := hO.shape
    obtain ⟨c, hc⟩ : ∃ c : Cz, c = { c' with next := [] } := ⟨_, rfl⟩
    have e0 : c'.ins = c.ins := by rw [hc]
    have e1 : c'.gates.length = c.gates.length := by rw [hc]
    have e2 : c'.outs.length = c.outs.length := by rw [hc]
    have hn0 : c.next = [] := by rw [hc]
    have HC : Hid (CircAt w1 (.agg #[.int .i64 c.ins, .slice none 0 0, .slice Ag c.gates.length cg, .slice Ao c.outs.length co]) c) := Lib.hid (by
      obtain ⟨vn, vg, vo, hv, r1, r2, r3⟩ := hO.at
      simp at hv
      obtain ⟨hv0, hv1, hv2⟩ := hv
      subst hv0 hv1 hv2
      rw [← e0, ← e1, ← e2]
      rw [hc]
      exact ⟨_, _, _, rfl, Row.nil _ _, r2, r3⟩)
    rw [e0, e1, e2] at *
    clear e0 e1 e2 hc hO hS hb1 Hr hwf HO
    have Hn0 := Lib.hid hn0
    clear hn0
    go_wp2_with fail
    have hb2 := bel_new w1 (.cells #[.int .i64 c.ins, .slice none 0 0, .slice Ag c.gates.length cg, .slice Ao c.outs.length co] 26)
    have PC := Lib.hid (PCells.boxed w1 c.ins (.slice none 0 0) (.slice Ag c.gates.length cg) (.slice Ao c.outs.length co) 26)
    have HC2 := Lib.hid (HC.out.below hb2)
    have B2 := Lib.hid (Hb1.out.trans (hb2.mono Hb1.out.size))
    have hgb : (w1.alloc (.cells #[.int .i64 c.ins, .slice none 0 0, .slice Ag c.gates.length cg, .slice Ao c.outs.length co] 26)).heap.size = w1.heap.size + 1 := by simp
    clear hb2 HC Hb1 
    generalize w1.alloc (.cells #[.int .i64 c.ins, .slice none 0 0, .slice Ag c.gates.length cg, .slice Ao c.outs.length co] 26) = w2 at *
    obtain ⟨gb, hgb2⟩ : ∃ gb, w1.heap.size = gb := ⟨_, rfl⟩
    rw [hgb2] at PC hgb ⊢
    clear hgb2
    refine (implMof_any _ c _ HC2.out).mono ?_
    rintro e w3 ⟨v3, rfl, hO3, hb3⟩
    have HM3 := Lib.hid hO3.at
    obtain ⟨Am, cm, Ax, cx, hvm, -⟩ := hO3.at.shape
    subst hvm
    have PC3 := Lib.hid (PC.out.below hb3)
    have HC3 := Lib.hid (HC2.out.below hb3)
    have B3 := Lib.hid (B2.out.trans (hb3.mono B2.out.size))
    clear hO3 hb3 PC HC2 B2 hgb
    obtain ⟨z, p0, p1, p2, p3⟩ := PC3.out
    obtain ⟨m, hm⟩ : ∃ m, Cir.machI c = m := ⟨_, rfl⟩
    have Hm := Lib.hid hm
    rw [hm] at HM3 ⊢
    clear hm
    go_wp2_with fail
    have hb4 := bel_alloc w3 (.cells #[.int .i64 m.ins, .slice Am m.next.length cm, .slice Ax m.out.length cx] 39)
    have PM := Lib.hid (MCells.boxed w3 m.ins (.slice Am m.next.length cm) (.slice Ax m.out.length cx) 39)
    have HM4 := Lib.hid (HM3.out.below hb4)
    have PC4 := Lib.hid (PC3.out.below hb4)
    have HC4 := Lib.hid (HC3.out.below hb4)
    have B4 := Lib.hid (B3.out.trans (hb4.mono B3.out.size))
    obtain ⟨gq, hgq2⟩ : ∃ gq, w3.heap.size = gq := ⟨_, rfl⟩
    rw [hgq2] at PM ⊢
    clear hb4 hgq2 z p0 p1 p2 p3 PC3 HC3 B3 HM3
    obtain ⟨z, p0, p1, p2, p3⟩ := PC4.out
    obtain ⟨zm, m0, m1, m2⟩ := PM.out
    generalize w3.alloc (.cells #[.int .i64 m.ins, .slice Am m.next.length cm, .slice Ax m.out.length cx] 39) = w4 at *
    refine wp_region_rs (quietRS Try.prog _ w4 _) quietRS_ok (by kernel_rfl) (by kernel_rfl) (by kernel_rfl) (Nat.le_of_ble_eq_true rfl) trivial trivial ?_
    apply rs_eq quietRS_ok quiet_any
    · intro ρ w' ho hK
      have ho : Only _ w4 w' := ho
      obtain ⟨h0, -⟩ := hK
      have h0' : ρ (.tmp 4) = _ := h0
      have hb := only_below ho
      have q0 := (hb.cell (p := ⟨gb, 0, none⟩) z).trans p0
      have q1 := (hb.cell (p := ⟨gb, 1, none⟩) z).trans p1
      have q2 := (hb.cell (p := ⟨gb, 2, none⟩) z).trans p2
      have q3 := (hb.cell (p := ⟨gb, 3, none⟩) z).trans p3
      have r0 := (hb.cell (p := ⟨gq, 0, none⟩) zm).trans m0
      have r1 := (hb.cell (p := ⟨gq, 1, none⟩) zm).trans m1
      have r2 := (hb.cell (p := ⟨gq, 2, none⟩) zm).trans m2
      go_simp
      try exact rfl
    apply rs_eq quietRS_ok quiet_any
    · intro ρ w' ho hK
      have ho : Only _ w4 w' := ho
      obtain ⟨h0, -⟩ := hK
      have h0' : ρ (.tmp 3) = _ := h0
      have hb := only_below ho
      have q0 := (hb.cell (p := ⟨gb, 0, none⟩) z).trans p0
      have q1 := (hb.cell (p := ⟨gb, 1, none⟩) z).trans p1
      have q2 := (hb.cell (p := ⟨gb, 2, none⟩) z).trans p2
      have q3 := (hb.cell (p := ⟨gb, 3, none⟩) z).trans p3
      have r0 := (hb.cell (p := ⟨gq, 0, none⟩) zm).trans m0
      have r1 := (hb.cell (p := ⟨gq, 1, none⟩) zm).trans m1
      have r2 := (hb.cell (p := ⟨gq, 2, none⟩) zm).trans m2
      go_simp
      try exact rfl
    refine rs_call quietRS_ok quiet_any (TMachL m) (stb_machL _) 58 _ _ rfl (fun ρ w' ho hK => by
      have ho : Only _ w4 w' := ho
      obtain ⟨h0, h1, -⟩ := hK
      have h0' : ρ (.func 58) = .func (.func 58) #[] #[] := h0
      have h1' : ρ (.tmp 15) = _ := h1
      refine ⟨#[ρ (.tmp 15)], ?_, ?_⟩
      · go_simp
      · rw [h1']
        refine (specMof_any _ c w' (HC4.out.below (only_below ho))).mono ?_
        rintro e w2 ⟨⟨v2, rfl, hO⟩, hb⟩
        exact ⟨v2, rfl, by rw [Hm.out] at hO; exact hO, hb⟩) ?_
    refine rs_call quietRS_ok quiet_any (TEq (.bool true)) (stb_eq _ _) 57 _ _ rfl (fun ρ w' ho hK => by
      have ho : Only _ w4 w' := ho
      obtain ⟨h0, h1, h2, -⟩ := hK
      have h0' : ρ (.func 57) = .func (.func 57) #[] #[] := h0
      have h1' : ρ (.tmp 14) = _ := h1
      have h2' : (TMachL m) w' (ρ (.tmp 16)) := h2
      refine ⟨#[ρ (.tmp 14), ρ (.tmp 16)], ?_, ?_⟩
      · go_simp
      · rw [h1']
        refine (sameMachine_same _ _ m w' (HM4.out.below (only_below ho)) h2').mono ?_
        rintro e w2 ⟨rfl, hb⟩
        exact ⟨_, rfl, rfl, hb⟩) ?_
    apply rs_eq quietRS_ok quiet_any
    · intro ρ w' ho hK
      have ho : Only _ w4 w' := ho
      obtain ⟨h0, -⟩ := hK
      have h0' : ρ (.tmp 17) = _ := h0
      go_simp
      try exact rfl
    intro f w9 k9 hk9 hI9 ht9 hcp9
    have E0 : f 0 = _ := ht9 0 (Nat.le_of_ble_eq_true rfl)
    have E1 : f 1 = _ := ht9 1 (Nat.le_of_ble_eq_true rfl)
    have E2 : (TMachL m) w9 (f 2) := ht9 2 (Nat.le_of_ble_eq_true rfl)
    have E3 : f 3 = _ := ht9 3 (Nat.le_of_ble_eq_true rfl)
    have E4 : f 4 = _ := ht9 4 (Nat.le_of_ble_eq_true rfl)
    have Ho9 : Only _ w4 w9 := hI9.2.1
    simp only [putAll, E0, E1, E3, E4, Nat.zero_add, Nat.reduceAdd, Act.put, List.setIfInBounds_toArray, List.set_cons_succ, List.set_cons_zero]
    clear E0 E1 E3 E4
    clear hI9 ht9 hcp9 hk9
    generalize f 2 = r2 at *
    have hb9 := only_below Ho9
    have HM9 := Lib.hid (HM4.out.below hb9)
    have PC9 := Lib.hid (PC4.out.below hb9)
    have HC9 := Lib.hid (HC4.out.below hb9)
    have PM9 := Lib.hid (PM.out.below hb9)
    have B9 := Lib.hid (B4.out.trans (hb9.mono B4.out.size))
    clear hb9 Ho9 E2 HM4 PC4 HC4 PM B4 z p0 p1 p2 p3 zm m0 m1 m2
    obtain ⟨z, p0, p1, p2, p3⟩ := PC9.out
    obtain ⟨zm, m0, m1, m2⟩ := PM9.out
    go_wp2_with fail
    refine (specValid_any _ c _ HC9.out).mono ?_
    rintro e w5 ⟨rfl, hb5⟩
    have HM5 := Lib.hid (HM9.out.below hb5)
    have PC5 := Lib.hid (PC9.out.below hb5)
    have HC5 := Lib.hid (HC9.out.below hb5)
    have PM5 := Lib.hid (PM9.out.below hb5)
    have B5 := Lib.hid (B9.out.trans (hb5.mono B9.out.size))
    clear hb5 HM9 PC9 HC9 PM9 B9 z p0 p1 p2 p3 zm m0 m1 m2
    obtain ⟨z, p0, p1, p2, p3⟩ := PC5.out
    obtain ⟨zm, m0, m1, m2⟩ := PM5.out
    cases hv : Cir.valid c
    · have hm0 : m.next.length = 0 := by rw [← Hm.out, Cir.machI_no hv]; rfl
      have hm0' : ((m.next.length : Int) == 0) = true := by rw [hm0]; rfl
      clear hm0
      go_wp2_with fail
      refine (alive_any _).mono ?_
      rintro e w6 ⟨rfl, hb6⟩
      go_wp2_with fail
      go_ret
      exact ⟨rfl, B5.out.trans (hb6.mono B5.out.size)⟩
    · obtain ⟨hd1, hd2⟩ := Cir.nat_ok hv
      obtain ⟨hq1, hq2⟩ := Cir.machN_zero (nat_next0 c Hn0.out)
      rw [← Cir.machI_ok hv, Hm.out] at hq1 hq2
      have HV := Lib.hid hv
      obtain ⟨d, hd⟩ : ∃ d, Cir.nat c = d := ⟨_, rfl⟩
      rw [hd] at hd1 hd2 hq2
      have hi : c.ins = (d.ins : Int) := by rw [hd1]; rfl
      have hdn : d.next = [] := by rw [← hd]; exact nat_next0 c Hn0.out
      have l1 := hd2.ins
      have Hd := Lib.hid hd2
      have Hq2 := Lib.hid hq2
      have Hd1 := Lib.hid hd1
      have Hq1 := Lib.hid hq1
      have Hdn := Lib.hid hdn
      obtain ⟨M, hM⟩ : ∃ M : Nat, M = 2 ^ d.ins := ⟨_, rfl⟩
      have eM : (2 : Int) ^ d.ins = (M : Int) := by rw [hM]; exact two_pow _
      have hM16 : M ≤ 16 := by rw [hM]; exact Nat.pow_le_pow_right (show 0 < 2 by decide) l1
      rw [← hM] at Hq2
      have hol : m.out.length = 1 := by rw [Hq2.out]; rfl
      have hwM := IntWalk.i64_in (M : Int) (by omega)
      have HMo := Lib.hid hM
      rw [hi] at PC5 HC5 p0 ⊢
      clear hd1 hd2 hq2 hd hv hdn hi hM hq1
      go_wp2_with fail
      clear z p0 p1 p2 p3 zm m0 m1 m2 eM hwM
      go_loopw [5] (fun i wr => ∃ k : Nat, i = .int .i64 k ∧ k ≤ M ∧ Below w5.heap.size w5 wr) (fun i _ => M - (intOf i).toNat)
      case atStart => exact ⟨0, rfl, Nat.zero_le _, Below.refl _ _⟩
      case round =>
        obtain ⟨k, rfl, hk, hb⟩ := hrel
        have eM : (2 : Int) ^ d.ins = (M : Int) := by rw [HMo.out]; exact two_pow _
        have hwM := IntWalk.i64_in (M : Int) (by omega)
        have HM6 := Lib.hid (HM5.out.below hb)
        have PC6 := Lib.hid (PC5.out.below hb)
        have HC6 := Lib.hid (HC5.out.below hb)
        have PM6 := Lib.hid (PM5.out.below hb)
        have B6 := Lib.hid (B5.out.trans (hb.mono B5.out.size))
        have hz6 := hb.size
        have Hb := Lib.hid hb
        clear hb
        obtain ⟨z, p0, p1, p2, p3⟩ := PC6.out
        obtain ⟨zm, m0, m1, m2⟩ := PM6.out
        by_cases hlt : k < M
        · have hdk : decide (k < M) = true := decide_eq_true hlt
          go_wp2_with fail
          have hx := rowG_get hlt (fun x => Cir.num (Cir.lits (Cir.vals d [] (Cir.bits x d.ins)) d.outs))
          obtain ⟨row, hrow⟩ : ∃ row, nats ((List.range M).map fun x => Cir.num (Cir.lits (Cir.vals d [] (Cir.bits x d.ins)) d.outs)) = row := ⟨_, rfl⟩
          have hq := Hq2.out
          rw [hrow] at hx hq
          obtain ⟨vn2, vo2, hv2, -, so⟩ := HM6.out
          simp at hv2
          obtain ⟨rfl, rfl⟩ := hv2
          obtain ⟨b, o, B, q, rfl, hbl, hs1, hql, hqm, hrr⟩ := ss_open so (Below.refl _ _) (i := 0) (x := row) (by rw [hq]; rfl)
          rw [Nat.add_zero] at hs1
          obtain ⟨b2, o2, x2, rfl, hbl2, hx2, hs2⟩ := ints_open (show Row wr 1 (.slice B row.length q) row.length (ints row) from hrr) (Below.refl _ _) rfl (List.getElem?_eq_some_iff.1 hx).1
          have hx2e := Option.some.inj (hx2.out.symm.trans hx)
          rw [hx2e] at hs2
          have hne : (((Cir.num (Cir.lits (Cir.vals d [] (Cir.bits k d.ins)) d.outs) : Nat) : Int) != ((Cir.num (Cir.lits (Cir.vals d [] (Cir.bits k d.ins)) d.outs) : Nat) : Int)) = false := by simp
          have hrl : row.length = M := by rw [← hrow, nats_length, List.length_map, List.length_range]
          obtain ⟨W6, hW6⟩ : ∃ W6, W6 = wr := ⟨_, rfl⟩
          subst hW6
          clear hx2e hx hx2 hrow hq so hrr
          refine wp_region_rs (quietRS Try.prog _ W6 _) quietRS_ok (by kernel_rfl) (by kernel_rfl) (by kernel_rfl) (Nat.le_of_ble_eq_true rfl) trivial trivial ?_
          apply rs_eq quietRS_ok quiet_any
          · intro ρ w' ho hK
            have ho : Only _ W6 w' := ho
            obtain ⟨h0, -⟩ := hK
            have h0' : ρ (.tmp 4) = _ := h0
            go_simp
            try exact rfl
          apply rs_eq quietRS_ok quiet_any
          · intro ρ w' ho hK
            have ho : Only _ W6 w' := ho
            obtain ⟨h0, -⟩ := hK
            have h0' : ρ (.tmp 36) = _ := h0
            have hb := only_below ho
            have q0 := (hb.cell (p := ⟨gb, 0, none⟩) z).trans p0
            have q1 := (hb.cell (p := ⟨gb, 1, none⟩) z).trans p1
            have q2 := (hb.cell (p := ⟨gb, 2, none⟩) z).trans p2
            have q3 := (hb.cell (p := ⟨gb, 3, none⟩) z).trans p3
            have r0 := (hb.cell (p := ⟨gq, 0, none⟩) zm).trans m0
            have r1 := (hb.cell (p := ⟨gq, 1, none⟩) zm).trans m1
            have r2 := (hb.cell (p := ⟨gq, 2, none⟩) zm).trans m2
            have t1 := (hb.cell (p := ⟨b, o, none⟩) hbl).trans hs1
            have t2 := (hb.cell (p := ⟨b2, o2 + k, none⟩) hbl2).trans hs2
            go_simp
            try exact rfl
          apply rs_eq quietRS_ok quiet_any
          · intro ρ w' ho hK
            have ho : Only _ W6 w' := ho
            obtain ⟨h0, h1, -⟩ := hK
            have h0' : ρ (.tmp 37) = _ := h0
            have h1' : ρ (.const (Value.int IntKind.i64 0)) = (Value.int IntKind.i64 0) := h1
            go_simp
            try exact rfl
          apply rs_eq quietRS_ok quiet_any
          · intro ρ w' ho hK
            have ho : Only _ W6 w' := ho
            obtain ⟨h0, -⟩ := hK
            have h0' : ρ (.tmp 38) = _ := h0
            have hb := only_below ho
            have q0 := (hb.cell (p := ⟨gb, 0, none⟩) z).trans p0
            have q1 := (hb.cell (p := ⟨gb, 1, none⟩) z).trans p1
            have q2 := (hb.cell (p := ⟨gb, 2, none⟩) z).trans p2
            have q3 := (hb.cell (p := ⟨gb, 3, none⟩) z).trans p3
            have r0 := (hb.cell (p := ⟨gq, 0, none⟩) zm).trans m0
            have r1 := (hb.cell (p := ⟨gq, 1, none⟩) zm).trans m1
            have r2 := (hb.cell (p := ⟨gq, 2, none⟩) zm).trans m2
            have t1 := (hb.cell (p := ⟨b, o, none⟩) hbl).trans hs1
            have t2 := (hb.cell (p := ⟨b2, o2 + k, none⟩) hbl2).trans hs2
            go_simp
            try exact rfl
          refine rs_old quietRS_ok quiet_any _ (.inl rfl) _ rfl rfl ?_
          apply rs_eq quietRS_ok quiet_any
          · intro ρ w' ho hK
            have ho : Only _ W6 w' := ho
            obtain ⟨h0, h1, -⟩ := hK
            have h0' : ρ (.tmp 39) = _ := h0
            have h1' : ρ (.tmp 40) = _ := h1
            go_simp
            try exact rfl
          apply rs_eq quietRS_ok quiet_any
          · intro ρ w' ho hK
            have ho : Only _ W6 w' := ho
            obtain ⟨h0, -⟩ := hK
            have h0' : ρ (.tmp 41) = _ := h0
            have hb := only_below ho
            have q0 := (hb.cell (p := ⟨gb, 0, none⟩) z).trans p0
            have q1 := (hb.cell (p := ⟨gb, 1, none⟩) z).trans p1
            have q2 := (hb.cell (p := ⟨gb, 2, none⟩) z).trans p2
            have q3 := (hb.cell (p := ⟨gb, 3, none⟩) z).trans p3
            have r0 := (hb.cell (p := ⟨gq, 0, none⟩) zm).trans m0
            have r1 := (hb.cell (p := ⟨gq, 1, none⟩) zm).trans m1
            have r2 := (hb.cell (p := ⟨gq, 2, none⟩) zm).trans m2
            have t1 := (hb.cell (p := ⟨b, o, none⟩) hbl).trans hs1
            have t2 := (hb.cell (p := ⟨b2, o2 + k, none⟩) hbl2).trans hs2
            go_simp
            try exact rfl
          apply rs_eq quietRS_ok quiet_any
          · intro ρ w' ho hK
            have ho : Only _ W6 w' := ho
            obtain ⟨h0, -⟩ := hK
            have h0' : ρ (.tmp 3) = _ := h0
            have hb := only_below ho
            have q0 := (hb.cell (p := ⟨gb, 0, none⟩) z).trans p0
            have q1 := (hb.cell (p := ⟨gb, 1, none⟩) z).trans p1
            have q2 := (hb.cell (p := ⟨gb, 2, none⟩) z).trans p2
            have q3 := (hb.cell (p := ⟨gb, 3, none⟩) z).trans p3
            have r0 := (hb.cell (p := ⟨gq, 0, none⟩) zm).trans m0
            have r1 := (hb.cell (p := ⟨gq, 1, none⟩) zm).trans m1
            have r2 := (hb.cell (p := ⟨gq, 2, none⟩) zm).trans m2
            have t1 := (hb.cell (p := ⟨b, o, none⟩) hbl).trans hs1
            have t2 := (hb.cell (p := ⟨b2, o2 + k, none⟩) hbl2).trans hs2
            go_simp
            try exact rfl
          refine rs_alloc quietRS_ok quiet_any (TBools []) (stb_bools _) (fun ρ w' ho hK => by
            refine ⟨.slice (some ⟨w'.heap.size, 0, none⟩) 0 0, .cells #[] 4, ?_, bools_lit0 w' _⟩
            go_simp) ?_
          refine rs_old quietRS_ok quiet_any _ (.inl rfl) _ rfl rfl ?_
          apply rs_eq quietRS_ok quiet_any
          · intro ρ w' ho hK
            have ho : Only _ W6 w' := ho
            obtain ⟨h0, -⟩ := hK
            have h0' : ρ (.tmp 3) = _ := h0
            go_simp
            try exact rfl
          apply rs_eq quietRS_ok quiet_any
          · intro ρ w' ho hK
            have ho : Only _ W6 w' := ho
            obtain ⟨h0, -⟩ := hK
            have h0' : ρ (.tmp 46) = _ := h0
            have hb := only_below ho
            have q0 := (hb.cell (p := ⟨gb, 0, none⟩) z).trans p0
            have q1 := (hb.cell (p := ⟨gb, 1, none⟩) z).trans p1
            have q2 := (hb.cell (p := ⟨gb, 2, none⟩) z).trans p2
            have q3 := (hb.cell (p := ⟨gb, 3, none⟩) z).trans p3
            have r0 := (hb.cell (p := ⟨gq, 0, none⟩) zm).trans m0
            have r1 := (hb.cell (p := ⟨gq, 1, none⟩) zm).trans m1
            have r2 := (hb.cell (p := ⟨gq, 2, none⟩) zm).trans m2
            have t1 := (hb.cell (p := ⟨b, o, none⟩) hbl).trans hs1
            have t2 := (hb.cell (p := ⟨b2, o2 + k, none⟩) hbl2).trans hs2
            go_simp
            try exact rfl
          refine rs_call quietRS_ok quiet_any (TBools (Cir.bits k d.ins)) (stb_bools _) 21 _ _ rfl (fun ρ w' ho hK => by
            have ho : Only _ W6 w' := ho
            obtain ⟨h0, h1, h2, -⟩ := hK
            have h0' : ρ (.func 21) = .func (.func 21) #[] #[] := h0
            have h1' : ρ (.tmp 45) = _ := h1
            have h2' : ρ (.tmp 47) = _ := h2
            refine ⟨#[ρ (.tmp 45), ρ (.tmp 47)], ?_, ?_⟩
            · go_simp
            · rw [h1', h2']
              refine (bits_any k d.ins w' (by omega) (by omega)).mono ?_
              rintro e w2 ⟨v2, rfl, hO, hb⟩
              exact ⟨v2, rfl, Row.of_own hO, hb⟩) ?_
          refine rs_call quietRS_ok quiet_any (fun w v => ∃ a b, v = .agg #[a, b] ∧ BoolsAt w a (Cir.lits (Cir.vals d [] (Cir.bits k d.ins)) d.outs) ∧ BoolsAt w b (Cir.lits (Cir.vals d [] (Cir.bits k d.ins)) d.next)) (stb_step _ _) 38 _ _ rfl (fun ρ w' ho hK => by
            have ho : Only _ W6 w' := ho
            obtain ⟨h0, h1, h2, h3, -⟩ := hK
            have h0' : ρ (.func 38) = .func (.func 38) #[] #[] := h0
            have h1' : ρ (.tmp 43) = _ := h1
            have h2' : (TBools []) w' (ρ (.tmp 44)) := h2
            have h3' : (TBools (Cir.bits k d.ins)) w' (ρ (.tmp 48)) := h3
            refine ⟨#[ρ (.tmp 43), ρ (.tmp 44), ρ (.tmp 48)], ?_, ?_⟩
            · go_simp
            · rw [h1']
              refine (implStep_ok _ _ _ d [] (Cir.bits k d.ins) w' (by rw [← Hd1.out]; exact HC6.out.below (only_below ho)) Hd.out (by rw [← Hd1.out]; exact HV.out) h2' h3' (Cir.bits_length _ _) (by rw [Hdn.out]; rfl)).mono ?_
              rintro e w2 ⟨⟨x, y, rfl, hx, hy⟩, hb⟩
              exact ⟨_, rfl, ⟨x, y, rfl, hx, hy⟩, hb⟩) ?_
          refine rs_look quietRS_ok quiet_any (TBools (Cir.lits (Cir.vals d [] (Cir.bits k d.ins)) d.outs)) (stb_bools _) (fun ρ w' ho hK => by
            obtain ⟨h0, -⟩ := hK
            obtain ⟨x, y, h0', hx, hy⟩ : ∃ x y, ρ (.tmp 49) = .agg #[x, y] ∧ BoolsAt w' x (Cir.lits (Cir.vals d [] (Cir.bits k d.ins)) d.outs) ∧ BoolsAt w' y (Cir.lits (Cir.vals d [] (Cir.bits k d.ins)) d.next) := h0
            obtain ⟨A0, c0, e0, -⟩ := Row.shape hx
            obtain ⟨A1, c1, e1, -⟩ := Row.shape hy
            subst e0 e1
            have hf := step_field0 A0 A1 (Cir.lits (Cir.vals d [] (Cir.bits k d.ins)) d.outs).length (Cir.lits (Cir.vals d [] (Cir.bits k d.ins)) d.next).length c0 c1 w'
            refine ⟨_, ?_, hx⟩
            go_simp) ?_
          refine rs_call quietRS_ok quiet_any (TEq (.int .i64 (Cir.num (Cir.lits (Cir.vals d [] (Cir.bits k d.ins)) d.outs) : Nat))) (stb_eq _ _) 59 _ _ rfl (fun ρ w' ho hK => by
            have ho : Only _ W6 w' := ho
            obtain ⟨h0, h1, -⟩ := hK
            have h0' : ρ (.func 59) = .func (.func 59) #[] #[] := h0
            have h1' : (TBools (Cir.lits (Cir.vals d [] (Cir.bits k d.ins)) d.outs)) w' (ρ (.tmp 50)) := h1
            refine ⟨#[ρ (.tmp 50)], ?_, ?_⟩
            · go_simp
            · skip
              refine (lawNumber_any _ _ w' h1' (by rw [lits_length]; have := Hd.out.outss; omega)).mono ?_
              rintro e w2 ⟨rfl, rfl⟩
              exact ⟨_, rfl, rfl, Below.refl _ _⟩) ?_
          apply rs_eq quietRS_ok quiet_any
          · intro ρ w' ho hK
            have ho : Only _ W6 w' := ho
            obtain ⟨h0, h1, -⟩ := hK
            have h0' : ρ (.tmp 42) = _ := h0
            have h1' : ρ (.tmp 51) = _ := h1
            go_simp
            try exact rfl
          intro f w9 k9 hk9 hI9 ht9 hcp9
          have E0 : f 0 = _ := ht9 0 (Nat.le_of_ble_eq_true rfl)
          have E1 : f 1 = _ := ht9 1 (Nat.le_of_ble_eq_true rfl)
          have E2 : f 2 = _ := ht9 2 (Nat.le_of_ble_eq_true rfl)
          have E3 : f 3 = _ := ht9 3 (Nat.le_of_ble_eq_true rfl)
          have E4 : f 4 = _ := ht9 4 (Nat.le_of_ble_eq_true rfl)
          have E5 : f 5 = _ := ht9 5 (Nat.le_of_ble_eq_true rfl)
          have E6 : f 6 = _ := ht9 6 (Nat.le_of_ble_eq_true rfl)
          have E7 : f 7 = _ := ht9 7 (Nat.le_of_ble_eq_true rfl)
          have E8 : (TBools []) w9 (f 8) := ht9 8 (Nat.le_of_ble_eq_true rfl)
          have E9 : f 9 = _ := ht9 9 (Nat.le_of_ble_eq_true rfl)
          have E10 : f 10 = _ := ht9 10 (Nat.le_of_ble_eq_true rfl)
          have E11 : f 11 = _ := ht9 11 (Nat.le_of_ble_eq_true rfl)
          have E12 : (TBools (Cir.bits k d.ins)) w9 (f 12) := ht9 12 (Nat.le_of_ble_eq_true rfl)
          have E13 : (fun w v => ∃ a b, v = .agg #[a, b] ∧ BoolsAt w a (Cir.lits (Cir.vals d [] (Cir.bits k d.ins)) d.outs) ∧ BoolsAt w b (Cir.lits (Cir.vals d [] (Cir.bits k d.ins)) d.next)) w9 (f 13) := ht9 13 (Nat.le_of_ble_eq_true rfl)
          have E14 : (TBools (Cir.lits (Cir.vals d [] (Cir.bits k d.ins)) d.outs)) w9 (f 14) := ht9 14 (Nat.le_of_ble_eq_true rfl)
          have E15 : f 15 = _ := ht9 15 (Nat.le_of_ble_eq_true rfl)
          have E16 : f 16 = _ := ht9 16 (Nat.le_of_ble_eq_true rfl)
          have Ho9 : Only _ W6 w9 := hI9.2.1
          simp only [putAll, E0, E1, E2, E3, E4, E5, E6, E7, E9, E10, E11, E15, E16, Nat.zero_add, Nat.reduceAdd, Act.put, List.setIfInBounds_toArray, List.set_cons_succ, List.set_cons_zero]
          clear E0 E1 E2 E3 E4 E5 E6 E7 E9 E10 E11 E15 E16
          clear hI9 ht9 hcp9 hk9
          generalize f 8 = r8 at *
          generalize f 12 = r12 at *
          generalize f 13 = r13 at *
          generalize f 14 = r14 at *
          have hb9 := only_below Ho9
          have Hb9 := Lib.hid (Hb.out.trans (hb9.mono hz6))
          clear hb9 Ho9 E8 E12 E13 E14 z p0 p1 p2 p3 zm m0 m1 m2
          go_wp2_with fail
          go_roundw
          case rel => exact ⟨k + 1, by go_num, by omega, Hb9.out⟩
          case measure => simp [intOf]; omega
        · have hdk : decide (k < M) = false := decide_eq_false (by omega)
          clear hlt hk
          go_wp2_with fail
          go_ret
          exact ⟨ret_bool (by rw [Hq1.out]; rfl), B6.out⟩
  · go_enter Try.func12, Try.ntmps12
    go_wp2_with fail
    go_ret
    exact ⟨rfl, Below.refl _ _⟩

/-! The step from the walk to the row. -/
set_option maxRecDepth 100000 in
theorem lifted (os : Os) (started : os.Started) (H : Type) (enc : TypeId × Value → H) :
    ReturnsInHanded {} Try.checked os 12 .any (Rows.fnMachineStatelessSpec.pre6 enc Try.prog Try.f12 Rows.fnMachineStatelessRow.domain false) (Rows.fnMachineStatelessSpec.post enc Try.prog Try.f12 false true false false) := by
  refine returnsInHanded_of_change (C := Try.checked) own started (by kernel_rfl) Try.func12
    (ChangeSpec.witness6 (enc := enc) (C := Try.checked) false ⟨#[], #[.slice none 0 0], []⟩ 8 (by kernel_rfl) (by kernel_rfl) (by kernel_rfl) (by kernel_rfl)) ?_
  intro W base args ds gs before hval0 hW hcnd _
  have hval : ∀ (j : Nat) t v, Try.f12.params[j]? = some t → args[j]? = some v → Value.okWide Try.prog W .any base t v := hval0
  have hW' := hW
  obtain ⟨p, q, hA0, hV, rfl, hfz, hnd⟩ := hW
  have hA : DataW.TrodAll enc Try.prog W 0 (fun _ => true) true Try.f12.params.toList args.toList ds p := hA0
  rw [Try.params12] at hA hval
  obtain ⟨v0, vs0, d0, ds0, p0, q0, hargs, rfl, rfl, h0, r0⟩ := trodAll_cons hA
  obtain ⟨rfl, rfl, rfl⟩ := trodAll_nil r0
  obtain rfl : args = #[v0] := by cases args; simp_all
  obtain ⟨rfl, rfl⟩ := trodVars_none hV
  obtain ⟨a0, len0, cap0, rfl⟩ := okWide_slice Try.underlying22 (hval 0 22 v0 rfl rfl)
  have k0 := h0
  have lt0 : ∀ x ∈ p0, x.block < W.heap.size := by obtain ⟨m, hm⟩ := k0; exact DataW.trod_lt m _ _ _ hm
  obtain ⟨z0, w0⟩ : ∃ zs, IsRow .u8 W a0 len0 cap0 zs := by
    obtain ⟨fuel, hf⟩ := h0
    rcases open_ints Try.underlying22 Try.underlying5 (by kernel_rfl) hf with ⟨hcs, _⟩ | ⟨x, l, c, zs, hcs, _, hl, hm, hz, _, hcell, hwz⟩
    · simp [Value.cells] at hcs
      obtain ⟨rfl, rfl, rfl⟩ := hcs
      exact ⟨[], .inl ⟨rfl, rfl, rfl, rfl⟩⟩
    · simp [Value.cells] at hcs
      obtain ⟨rfl, rfl, rfl⟩ := hcs
      exact ⟨zs, .inr ⟨_, rfl, hl, hm, by simpa using hz, hcell, hwz⟩⟩
  clear hA0 hval0
  refine (walk a0 len0 cap0 z0 W w0).mono fun e W' ⟨he, bel⟩ => ?_
  subst he
  exact ⟨_, rfl, _, _, _, [], _, [], hW', trodAll_mk1 (shut_bool Try.underlying4 _), (trodAll_cons_mk (Below.trod laidOut (by kernel_rfl) (of_decide_eq_true (by kernel_rfl)) k0 bel lt0) trodAll_mk0), rfl, bel.frame _, fun h => by cases h⟩

theorem over : Rows.fnMachineStatelessRow.holds Try.pinned (OpenSpec.ofChange Rows.fnMachineStatelessSpec) :=
  OpenClaim.holds_of_wide 12 Try.f12 rfl rfl rfl rfl rfl rfl rfl ⟨rfl, rfl, rfl, rfl, rfl⟩ rfl rfl rfl rfl rfl (by kernel_rfl) Try.func12 (by kernel_rfl)
    (of_decide_eq_true (by kernel_rfl)) (by unfold Func.isWrapper; first | (rw [if_pos (by decide +kernel)]; kernel_rfl) | (rw [if_neg (by decide +kernel)]; exact ⟨rfl, rfl⟩))
    (fun os started H enc _ => lifted os started H enc)

/-- The statement. -/
theorem proved : Rows.FnMachineStatelessSaid := over
#print axioms proved
end Go.Proofs.Ytopimdakpnnbhaa.fnMachineStateless
