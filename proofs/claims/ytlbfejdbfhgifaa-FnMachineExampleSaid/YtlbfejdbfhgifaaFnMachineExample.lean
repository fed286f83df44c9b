/-
  FnMachineExample: The machine of a counter of n bits has 2 to the n states and is its own minimized machine; with the lowest bit as its only output it is minimized to two states.
  Conditions: none. For every input that the row reads, the Go function laws.FnMachineExample returns true and leaves its arguments as they were.
-/
import Derived.Test.YtlbfejdbfhgifaaS13
import Derived.Test.YtlbfejdbfhgifaaS08
import Derived.Test.YtlbfejdbfhgifaaS14
import Derived.Test.YtlbfejdbfhgifaaS09
import Derived.StillTailTactics
import Derived.Test.YtlbfejdbfhgifaaRows
import Derived.WalkKit
import Derived.ProofKit
import Derived.OpenShut
import Derived.ShutString
import Derived.ChangeOld
import Derived.Below
set_option linter.unusedVariables false
set_option linter.unusedSimpArgs false
namespace Go.Proofs.Ytlbfejdbfhgifaa.fnMachineExample
open Go.ChangeShapes Go.WideShapes Go.ChangeAt Go.RowKit
open Go.ChangeMaps (open_string shut_string)
set_option linter.unusedVariables false

theorem own : ownKnob Try.prog.godebug = none := by kernel_rfl
theorem laidOut : laidOutB Try.prog = true := by kernel_rfl

/-- A slice of integers that came in: nil, or a row of cells. -/
def IsRow (k : IntKind) (w : World) (a : Option Addr) (len cap : Nat) (zs : List Int) : Prop :=
  (a = none ∧ len = 0 ∧ cap = 0 ∧ zs = []) ∨
  ∃ x, a = some x ∧ len ≤ cap ∧ cap ≤ maxLen ∧ zs.length = cap ∧ (∀ i, i < zs.length → w.cell? (x.add i) = some (.int k (zs.getD i 0))) ∧ ∀ n ∈ zs, (Lit.int k n).wf = true

theorem mach_field1 (i : Int) (A B : Option Addr) (n c m d : Nat) (w : World) : (Instr.field 43 (.agg #[.int .i64 i, .slice A n c, .slice B m d]) 1).run Try.prog w = .ok (.slice A n c) w := by kernel_rfl
set_option maxHeartbeats 8000000 in
set_option maxRecDepth 100000 in
/-- The walk: the Go text returns true. -/
theorem walk (a0 : Option Addr) (len0 cap0 : Nat) (z0 : List Int) (w : World) (w0 : IsRow .u8 w a0 len0 cap0 z0) :
    Calls Try.prog 8 #[.slice a0 len0 cap0] w fun e w' => e = .returned (.bool true) ∧ Below w.heap.size w w' := by
  obtain ⟨bs, rfl, hwf, hr⟩ := Row.given w0
  clear w0
  by_cases hl : bs.length ≤ 1048576
  · clear hr hwf
    go_enter Try.func8, Try.ntmps8
    go_wp2_with fail
    go_loopw [3] (fun n wr => ∃ k : Nat, 1 ≤ k ∧ k ≤ 4 ∧ n = .int .i64 k ∧ Hid (Below w.heap.size w wr)) (fun n _ => 4 - (intOf n).toNat)
    case atStart => exact ⟨1, Nat.le_refl _, by omega, rfl, Lib.hid (Below.refl _ _)⟩
    case round =>
      obtain ⟨k, hk1, hk4, rfl, Hb⟩ := hrel
      by_cases hlt : k ≤ 3
      · obtain ⟨c1, c2, c3⟩ := Cir.cnt_mach k hk1 hlt
        have hlow : Cir.lowI k = { Cir.toCz (Cir.cntI k) with outs := (Cir.toCz (Cir.cntI k)).outs.take 1 } := rfl
        have hol : (Cir.toCz (Cir.cntI k)).outs.length = k := by simp [Cir.toCz, Cir.cntI, Cir.cntO]
        have HCn := Lib.hid (fun w' => counter_any k w' hk1 hlt)
        obtain ⟨c, hc⟩ : ∃ c, c = Cir.toCz (Cir.cntI k) := ⟨_, rfl⟩
        rw [← hc] at c1 c2 hlow hol HCn
        obtain ⟨m, hm⟩ : ∃ m, m = Cir.machI c := ⟨_, rfl⟩
        rw [← hm] at c1 c2
        obtain ⟨lo, hlo⟩ : ∃ lo, lo = Cir.lowI k := ⟨_, rfl⟩
        rw [← hlo] at c3 hlow
        have HM := Lib.hid hm
        have HK := Lib.hid (And.intro c1 (And.intro c2 c3))
        have HLo := Lib.hid hlow
        have Hol := Lib.hid hol
        clear c1 c2 c3 hc hm hlo hlow hol
        go_wp2_with fail
        refine (HCn.out wr).mono ?_
        rintro e w1 ⟨⟨v1, rfl, hC⟩, hb1⟩
        obtain ⟨An, cn, Ag, cg, Ao, co, e1⟩ := hC.shape
        subst e1
        have HC1 := Lib.hid hC
        have Hb1 := Lib.hid (Hb.out.trans (hb1.mono Hb.out.size))
        clear hC hb1 Hb HCn
        go_wp2_with fail
        have hbx := bel_new w1 (.cells #[.int .i64 c.ins, .slice An c.next.length cn, .slice Ag c.gates.length cg, .slice Ao c.outs.length co] 31)
        have PC := Lib.hid (PCells.boxed w1 c.ins (.slice An c.next.length cn) (.slice Ag c.gates.length cg) (.slice Ao c.outs.length co) 31)
        have HC := Lib.hid (HC1.out.below hbx)
        have B := Lib.hid (Hb1.out.trans (hbx.mono Hb1.out.size))
        clear hbx
        generalize w1.alloc (.cells #[.int .i64 c.ins, .slice An c.next.length cn, .slice Ag c.gates.length cg, .slice Ao c.outs.length co] 31) = w2 at *
        obtain ⟨gb, hgb2⟩ : ∃ gb, w1.heap.size = gb := ⟨_, rfl⟩
        rw [hgb2] at PC ⊢
        clear hgb2
        obtain ⟨z, p0, p1, p2, p3⟩ := PC.out
        clear HC1 Hb1
        refine (implMof_any _ c _ HC.out).mono ?_
        rintro e w3 ⟨v3, rfl, hO3, hb⟩
        have HMm := Lib.hid (OwnMachE.at hO3)
        obtain ⟨Am, cm, Ax, cx, hvm, -⟩ := (OwnMachE.at hO3).shape
        subst hvm
        rw [← HM.out] at HMm ⊢
        clear hO3 z p0 p1 p2 p3
        replace PC := Lib.hid (PC.out.below hb)
        replace HC := Lib.hid (HC.out.below hb)
        replace B := Lib.hid (B.out.trans (hb.mono B.out.size))
        clear hb
        have hb := bel_new w3 (.cells #[.int .i64 m.ins, .slice Am m.next.length cm, .slice Ax m.out.length cx] 43)
        have PM := Lib.hid (MCells.boxed w3 m.ins (.slice Am m.next.length cm) (.slice Ax m.out.length cx) 43)
        replace PC := Lib.hid (PC.out.below hb)
        replace HC := Lib.hid (HC.out.below hb)
        replace HMm := Lib.hid (HMm.out.below hb)
        replace B := Lib.hid (B.out.trans (hb.mono B.out.size))
        clear hb
        obtain ⟨w4, hw4⟩ : ∃ w4, w3.alloc (.cells #[.int .i64 m.ins, .slice Am m.next.length cm, .slice Ax m.out.length cx] 43) = w4 := ⟨_, rfl⟩
        rw [hw4] at PC HC HMm PM B
        obtain ⟨gq, hgq⟩ : ∃ gq, w3.heap.size = gq := ⟨_, rfl⟩
        rw [hgq] at PM
        have hzg : gq < w4.heap.size := PM.out.1
        have hkol : 0 < c.outs.length := by rw [Hol.out]; omega
        have HO := HC.out
        obtain ⟨vn', vg', vo', eo, i1, i2, i3⟩ := HO
        injection eo with eo
        simp only [Array.mk.injEq, List.cons.injEq, and_true] at eo
        obtain ⟨-, eo1, eo2, eo3⟩ := eo
        subst eo1 eo2 eo3
        obtain ⟨bo, oo, xo, hAo, hbo, -, -⟩ := ints_open i3 (Below.refl _ _) rfl hkol
        subst hAo
        have hco : c.outs.length ≤ co := by obtain ⟨A, cc, e, h1, -⟩ := Row.shape i3; injection e with e1 e2 e3; omega
        have hcom : co ≤ maxLen := by obtain ⟨A, cc, e, h1, h2⟩ := Row.shape i3; injection e with e1 e2 e3; subst e3; exact h2
        have hco1 : (1 : Int) ≤ co := by omega
        obtain ⟨z, p0, p1, p2, p3⟩ := PC.out
        unfold maxLen at hcom
        have hLC : CircAt w4 (.agg #[.int .i64 c.ins, .slice An c.next.length cn, .slice Ag c.gates.length cg, .slice (some ⟨bo, oo, none⟩) 1 co]) lo := by
          rw [HLo.out]
          refine ⟨_, _, _, rfl, i1, i2, ?_⟩
          have hlen : (c.outs.take 1).length = 1 := by rw [List.length_take]; omega
          unfold IntsAt
          show Row w4 1 _ (c.outs.take 1).length (ints (c.outs.take 1))
          rw [hlen]
          obtain ⟨b', o', c', e', h1, h2, h3, h4⟩ := Row.open i3 hkol
          injection e' with e1 e2 e3
          injection e1 with e1
          injection e1 with e4 e5
          subst e4 e5 e3
          refine ⟨by rw [ints_length, hlen], _, _, rfl, by omega, h2, fun _ => ⟨_, _, rfl, h3, fun j u hj => h4 j u ?_⟩⟩
          have : ints (c.outs.take 1) = (ints c.outs).take 1 := by unfold ints; rw [List.map_take]
          rw [this, List.getElem?_take] at hj
          split at hj
          · exact hj
          · cases hj
        have HLC := Lib.hid hLC
        clear i1 i2 i3 hLC
        go_wp2_with fail
        have hb := bel_new w4 (.cells #[.int .i64 c.ins, .slice An c.next.length cn, .slice Ag c.gates.length cg, .slice (some ⟨bo, oo, none⟩) 1 co] 31)
        have PL := Lib.hid (PCells.boxed w4 c.ins (.slice An c.next.length cn) (.slice Ag c.gates.length cg) (.slice (some ⟨bo, oo, none⟩) 1 co) 31)
        clear z p0 p1 p2 p3 hw4 hgq hzg
        replace PC := Lib.hid (PC.out.below hb)
        replace HC := Lib.hid (HC.out.below hb)
        replace HMm := Lib.hid (HMm.out.below hb)
        replace PM := Lib.hid (PM.out.below hb)
        replace HLC := Lib.hid (HLC.out.below hb)
        replace B := Lib.hid (B.out.trans (hb.mono B.out.size))
        clear hb
        generalize w4.alloc (.cells #[.int .i64 c.ins, .slice An c.next.length cn, .slice Ag c.gates.length cg, .slice (some ⟨bo, oo, none⟩) 1 co] 31) = w5 at *
        obtain ⟨gl, hgl⟩ : ∃ gl, w4.heap.size = gl := ⟨_, rfl⟩
        rw [hgl] at PL ⊢
        clear hgl
        obtain ⟨zm, m0, m1, m2⟩ := PM.out
        obtain ⟨zl, l0, l1, l2, l3⟩ := PL.out
        obtain ⟨M, hM⟩ : ∃ M, M = 2 ^ k := ⟨_, rfl⟩
        have e2 : (2 : Int) ^ k = (M : Int) := by rw [hM]; exact two_pow k
        have hMb : M ≤ 8 := by rw [hM]; exact Nat.pow_le_pow_right (show 0 < 2 by decide) hlt
        have hwM := IntWalk.i64_in (M : Int) (by omega)
        have hwu : IntKind.u64.wrap (k : Int) = k := by rw [IntKind.wrap_u64]; omega
        have hne : ((m.next.length : Int) != (M : Int)) = false := by rw [HK.out.1, ← hM]; simp
        clear hM
        refine wp_region_rsG [(6, false), (13, false)] (quietRS Try.prog _ w5 _) quietRS_ok (by kernel_rfl) (by kernel_rfl) (by kernel_rfl) (Nat.le_of_ble_eq_true rfl) trivial trivial ?_
        refine rs_peel ?_
        apply rs_eq quietRS_ok quiet_any
        · intro ρ w' ho hK
          have ho : Only _ w5 w' := ho
          obtain ⟨h0, -⟩ := hK
          have h0' : ρ (.tmp 5) = _ := h0
          go_simp
          try exact rfl
        refine rs_peel ?_
        apply rs_eq quietRS_ok quiet_any
        · intro ρ w' ho hK
          have ho : Only _ w5 w' := ho
          obtain ⟨h0, -⟩ := hK
          have h0' : ρ (.tmp 23) = _ := h0
          have hb := only_below ho
          have q0 := (hb.cell (p := ⟨gq, 0, none⟩) zm).trans m0
          have q1 := (hb.cell (p := ⟨gq, 1, none⟩) zm).trans m1
          have q2 := (hb.cell (p := ⟨gq, 2, none⟩) zm).trans m2
          have r0 := (hb.cell (p := ⟨gl, 0, none⟩) zl).trans l0
          have r1 := (hb.cell (p := ⟨gl, 1, none⟩) zl).trans l1
          have r2 := (hb.cell (p := ⟨gl, 2, none⟩) zl).trans l2
          have r3 := (hb.cell (p := ⟨gl, 3, none⟩) zl).trans l3
          go_simp
          try exact rfl
        refine rs_peel ?_
        apply rs_eq quietRS_ok quiet_any
        · intro ρ w' ho hK
          have ho : Only _ w5 w' := ho
          obtain ⟨h0, -⟩ := hK
          have h0' : ρ (.tmp 24) = _ := h0
          go_simp
          try exact rfl
        refine rs_peel ?_
        refine rs_old quietRS_ok quiet_any _ (.inl rfl) _ rfl rfl ?_
        refine rs_peel ?_
        apply rs_eq quietRS_ok quiet_any
        · intro ρ w' ho hK
          have ho : Only _ w5 w' := ho
          obtain ⟨h0, h1, -⟩ := hK
          have h0' : ρ (.const (Value.int IntKind.i64 1)) = (Value.int IntKind.i64 1) := h0
          have h1' : ρ (.tmp 26) = _ := h1
          go_simp
          try exact rfl
        refine rs_peel ?_
        apply rs_eq quietRS_ok quiet_any
        · intro ρ w' ho hK
          have ho : Only _ w5 w' := ho
          obtain ⟨h0, h1, -⟩ := hK
          have h0' : ρ (.tmp 25) = _ := h0
          have h1' : ρ (.tmp 27) = _ := h1
          go_simp
          try exact rfl
        refine rs_peel ?_
        refine rs_same quietRS_ok quiet_any 28 5 (.inl rfl) rfl _ rfl ?_
        refine rs_run rfl ?_
        apply rs_eq quietRS_ok quiet_any
        · intro ρ w' ho hK
          have ho : Only _ w5 w' := ho
          obtain ⟨h0, -⟩ := hK
          have h0' : ρ (.tmp 5) = _ := h0
          have hb := only_below ho
          have q0 := (hb.cell (p := ⟨gq, 0, none⟩) zm).trans m0
          have q1 := (hb.cell (p := ⟨gq, 1, none⟩) zm).trans m1
          have q2 := (hb.cell (p := ⟨gq, 2, none⟩) zm).trans m2
          have r0 := (hb.cell (p := ⟨gl, 0, none⟩) zl).trans l0
          have r1 := (hb.cell (p := ⟨gl, 1, none⟩) zl).trans l1
          have r2 := (hb.cell (p := ⟨gl, 2, none⟩) zl).trans l2
          have r3 := (hb.cell (p := ⟨gl, 3, none⟩) zl).trans l3
          go_simp
          try exact rfl
        refine rs_run rfl ?_
        refine rs_call quietRS_ok quiet_any (TMachL m) (stb_machL _) 24 _ _ rfl (fun ρ w' ho hK => by
          have ho : Only _ w5 w' := ho
          obtain ⟨h0, h1, -⟩ := hK
          have h0' : ρ (.func 24) = .func (.func 24) #[] #[] := h0
          have h1' : ρ (.tmp 30) = _ := h1
          refine ⟨#[ρ (.tmp 30)], ?_, ?_⟩
          · go_simp
          · rw [h1']
            refine (implMinz_any _ m w' (HMm.out.below (only_below ho))).mono ?_
            rintro e w2 ⟨v2, rfl, hO, hb⟩
            exact ⟨v2, rfl, by rw [HK.out.2.1] at hO; exact OwnMachE.at hO, hb⟩) ?_
        refine rs_run rfl ?_
        apply rs_eq quietRS_ok quiet_any
        · intro ρ w' ho hK
          have ho : Only _ w5 w' := ho
          obtain ⟨h0, -⟩ := hK
          have h0' : ρ (.tmp 5) = _ := h0
          have hb := only_below ho
          have q0 := (hb.cell (p := ⟨gq, 0, none⟩) zm).trans m0
          have q1 := (hb.cell (p := ⟨gq, 1, none⟩) zm).trans m1
          have q2 := (hb.cell (p := ⟨gq, 2, none⟩) zm).trans m2
          have r0 := (hb.cell (p := ⟨gl, 0, none⟩) zl).trans l0
          have r1 := (hb.cell (p := ⟨gl, 1, none⟩) zl).trans l1
          have r2 := (hb.cell (p := ⟨gl, 2, none⟩) zl).trans l2
          have r3 := (hb.cell (p := ⟨gl, 3, none⟩) zl).trans l3
          go_simp
          try exact rfl
        refine rs_run rfl ?_
        refine rs_call quietRS_ok quiet_any (TEq (.bool true)) (stb_eq _ _) 35 _ _ rfl (fun ρ w' ho hK => by
          have ho : Only _ w5 w' := ho
          obtain ⟨h0, h1, h2, -⟩ := hK
          have h0' : ρ (.func 35) = .func (.func 35) #[] #[] := h0
          have h1' : (TMachL m) w' (ρ (.tmp 31)) := h1
          have h2' : ρ (.tmp 32) = _ := h2
          refine ⟨#[ρ (.tmp 31), ρ (.tmp 32)], ?_, ?_⟩
          · go_simp
          · rw [h2']
            refine (sameMachine_same _ _ m w' h1' (HMm.out.below (only_below ho))).mono ?_
            rintro e w2 ⟨rfl, hb⟩
            exact ⟨_, rfl, rfl, hb⟩) ?_
        refine rs_run rfl ?_
        apply rs_eq quietRS_ok quiet_any
        · intro ρ w' ho hK
          have ho : Only _ w5 w' := ho
          obtain ⟨h0, -⟩ := hK
          have h0' : ρ (.tmp 33) = _ := h0
          go_simp
          try exact rfl
        refine rs_peel ?_
        apply rs_eq quietRS_ok quiet_any
        · intro ρ w' ho hK
          have ho : Only _ w5 w' := ho
          obtain ⟨h0, h1, h2, -⟩ := hK
          have h0' : ρ (.tmp 29) = _ := h0
          have h1' : ρ (.const (Value.bool true)) = (Value.bool true) := h1
          have h2' : ρ (.tmp 34) = _ := h2
          go_simp
          try exact rfl
        refine rs_peel ?_
        refine rs_same quietRS_ok quiet_any 35 12 (.inl rfl) rfl _ rfl ?_
        refine rs_run rfl ?_
        apply rs_eq quietRS_ok quiet_any
        · intro ρ w' ho hK
          have ho : Only _ w5 w' := ho
          obtain ⟨h0, -⟩ := hK
          have h0' : ρ (.tmp 6) = _ := h0
          have hb := only_below ho
          have q0 := (hb.cell (p := ⟨gq, 0, none⟩) zm).trans m0
          have q1 := (hb.cell (p := ⟨gq, 1, none⟩) zm).trans m1
          have q2 := (hb.cell (p := ⟨gq, 2, none⟩) zm).trans m2
          have r0 := (hb.cell (p := ⟨gl, 0, none⟩) zl).trans l0
          have r1 := (hb.cell (p := ⟨gl, 1, none⟩) zl).trans l1
          have r2 := (hb.cell (p := ⟨gl, 2, none⟩) zl).trans l2
          have r3 := (hb.cell (p := ⟨gl, 3, none⟩) zl).trans l3
          go_simp
          try exact rfl
        refine rs_run rfl ?_
        refine rs_call quietRS_ok quiet_any (TMachL (Cir.machI lo)) (stb_machL _) 34 _ _ rfl (fun ρ w' ho hK => by
          have ho : Only _ w5 w' := ho
          obtain ⟨h0, h1, -⟩ := hK
          have h0' : ρ (.func 34) = .func (.func 34) #[] #[] := h0
          have h1' : ρ (.tmp 37) = _ := h1
          refine ⟨#[ρ (.tmp 37)], ?_, ?_⟩
          · go_simp
          · rw [h1']
            refine (implMof_any _ lo w' (HLC.out.below (only_below ho))).mono ?_
            rintro e w2 ⟨v2, rfl, hO, hb⟩
            exact ⟨v2, rfl, OwnMachE.at hO, hb⟩) ?_
        refine rs_run rfl ?_
        refine rs_call quietRS_ok quiet_any (TMachL (Mac.minI (Cir.machI lo))) (stb_machL _) 24 _ _ rfl (fun ρ w' ho hK => by
          have ho : Only _ w5 w' := ho
          obtain ⟨h0, h1, -⟩ := hK
          have h0' : ρ (.func 24) = .func (.func 24) #[] #[] := h0
          have h1' : (TMachL (Cir.machI lo)) w' (ρ (.tmp 38)) := h1
          refine ⟨#[ρ (.tmp 38)], ?_, ?_⟩
          · go_simp
          · skip
            refine (implMinz_any _ (Cir.machI lo) w' h1').mono ?_
            rintro e w2 ⟨v2, rfl, hO, hb⟩
            exact ⟨v2, rfl, OwnMachE.at hO, hb⟩) ?_
        refine rs_run rfl ?_
        refine rs_look quietRS_ok quiet_any (TOf (fun v => ∃ A c, v = .slice A 2 c)) (stb_of _ _) (fun ρ w' ho hK => by
          obtain ⟨h0, -⟩ := hK
          have h0' : MachAt w' (ρ (.tmp 39)) (Mac.minI (Cir.machI lo)) := h0
          obtain ⟨A, c', B', d', e, -⟩ := h0'.shape
          rw [HK.out.2.2] at e
          have hf := mach_field1 (Mac.minI (Cir.machI lo)).ins A B' 2 c' (Mac.minI (Cir.machI lo)).out.length d' w'
          refine ⟨.slice A 2 c', ?_, ⟨_, _, rfl⟩⟩
          go_simp) ?_
        refine rs_run rfl ?_
        refine rs_look quietRS_ok quiet_any (TEq (.int .i64 2)) (stb_eq _ _) (fun ρ w' ho hK => by
          obtain ⟨h0, -⟩ := hK
          obtain ⟨A, c, h0'⟩ : ∃ A c, ρ (.tmp 40) = .slice A 2 c := h0
          refine ⟨.int .i64 2, ?_, rfl⟩
          go_simp) ?_
        refine rs_run rfl ?_
        apply rs_eq quietRS_ok quiet_any
        · intro ρ w' ho hK
          have ho : Only _ w5 w' := ho
          obtain ⟨h0, h1, -⟩ := hK
          have h0' : ρ (.tmp 41) = _ := h0
          have h1' : ρ (.const (Value.int IntKind.i64 2)) = (Value.int IntKind.i64 2) := h1
          go_simp
          try exact rfl
        refine rs_peel ?_
        apply rs_eq quietRS_ok quiet_any
        · intro ρ w' ho hK
          have ho : Only _ w5 w' := ho
          obtain ⟨h0, h1, h2, -⟩ := hK
          have h0' : ρ (.tmp 36) = _ := h0
          have h1' : ρ (.const (Value.bool true)) = (Value.bool true) := h1
          have h2' : ρ (.tmp 42) = _ := h2
          go_simp
          try exact rfl
        refine ⟨⟨rfl, rfl, trivial⟩, ?_⟩
        intro f w9 k9 hk9 hI9 ht9 hcp9
        have E0 : f 0 = _ := ht9 0 (Nat.le_of_ble_eq_true rfl)
        have E1 : f 1 = _ := ht9 1 (Nat.le_of_ble_eq_true rfl)
        have E2 : f 2 = _ := ht9 2 (Nat.le_of_ble_eq_true rfl)
        have E3 : f 3 = _ := ht9 3 (Nat.le_of_ble_eq_true rfl)
        conv at E3 => rhs; whnf
        have E4 : f 4 = _ := ht9 4 (Nat.le_of_ble_eq_true rfl)
        have E5 : f 5 = _ := ht9 5 (Nat.le_of_ble_eq_true rfl)
        have E6 : f 6 = _ := ht9 6 (Nat.le_of_ble_eq_true rfl)
        have E7 : f 7 = _ := ht9 7 (Nat.le_of_ble_eq_true rfl)
        have E8 : (TMachL m) w9 (f 8) := ht9 8 (Nat.le_of_ble_eq_true rfl)
        have E9 : f 9 = _ := ht9 9 (Nat.le_of_ble_eq_true rfl)
        have E10 : f 10 = _ := ht9 10 (Nat.le_of_ble_eq_true rfl)
        have E11 : f 11 = _ := ht9 11 (Nat.le_of_ble_eq_true rfl)
        have E12 : f 12 = _ := ht9 12 (Nat.le_of_ble_eq_true rfl)
        have E13 : f 13 = _ := ht9 13 (Nat.le_of_ble_eq_true rfl)
        have E14 : f 14 = _ := ht9 14 (Nat.le_of_ble_eq_true rfl)
        have E15 : (TMachL (Cir.machI lo)) w9 (f 15) := ht9 15 (Nat.le_of_ble_eq_true rfl)
        have E16 : (TMachL (Mac.minI (Cir.machI lo))) w9 (f 16) := ht9 16 (Nat.le_of_ble_eq_true rfl)
        have E17 : (TOf (fun v => ∃ A c, v = .slice A 2 c)) w9 (f 17) := ht9 17 (Nat.le_of_ble_eq_true rfl)
        have E18 : f 18 = _ := ht9 18 (Nat.le_of_ble_eq_true rfl)
        have E19 : f 19 = _ := ht9 19 (Nat.le_of_ble_eq_true rfl)
        have E20 : f 20 = _ := ht9 20 (Nat.le_of_ble_eq_true rfl)
        have Ho9 : Only _ w5 w9 := hI9.2.1
        simp only [putAll, E0, E1, E2, E3, E4, E5, E6, E7, E9, E10, E11, E12, E13, E14, E18, E19, E20, Nat.zero_add, Nat.reduceAdd, Act.put, List.setIfInBounds_toArray, List.set_cons_succ, List.set_cons_zero]
        clear E0 E1 E2 E3 E4 E5 E6 E7 E9 E10 E11 E12 E13 E14 E18 E19 E20
        clear hI9 ht9 hcp9 hk9
        generalize f 8 = r8 at *
        generalize f 15 = r15 at *
        generalize f 16 = r16 at *
        generalize f 17 = r17 at *
        have hb := only_below Ho9
        replace B := Lib.hid (B.out.trans (hb.mono B.out.size))
        clear hb Ho9 zm m0 m1 m2 zl l0 l1 l2 l3
        go_wp2_with fail
        go_roundw
        case rel => exact ⟨k + 1, by omega, by omega, by go_num, B⟩
        case measure => simp [intOf]; omega
      · obtain rfl : k = 4 := by omega
        go_wp2_with fail
        go_ret
        exact ⟨rfl, Hb.out⟩
  · go_enter Try.func8, Try.ntmps8
    go_wp2_with fail
    go_ret
    exact ⟨rfl, Below.refl _ _⟩

/-! The step from the walk to the row. -/
set_option maxRecDepth 100000 in
theorem lifted (os : Os) (started : os.Started) (H : Type) (enc : TypeId × Value → H) :
    ReturnsInHanded {} Try.checked os 8 .any (Rows.fnMachineExampleSpec.pre6 enc Try.prog Try.f8 Rows.fnMachineExampleRow.domain false) (Rows.fnMachineExampleSpec.post enc Try.prog Try.f8 false true false false) := by
  refine returnsInHanded_of_change (C := Try.checked) own started (by kernel_rfl) Try.func8
    (ChangeSpec.witness6 (enc := enc) (C := Try.checked) false ⟨#[], #[.slice none 0 0], []⟩ 8 (by kernel_rfl) (by kernel_rfl) (by kernel_rfl) (by kernel_rfl)) ?_
  intro W base args ds gs before hval0 hW hcnd _
  have hval : ∀ (j : Nat) t v, Try.f8.params[j]? = some t → args[j]? = some v → Value.okWide Try.prog W .any base t v := hval0
  have hW' := hW
  obtain ⟨p, q, hA0, hV, rfl, hfz, hnd⟩ := hW
  have hA : DataW.TrodAll enc Try.prog W 0 (fun _ => true) true Try.f8.params.toList args.toList ds p := hA0
  rw [Try.params8] at hA hval
  obtain ⟨v0, vs0, d0, ds0, p0, q0, hargs, rfl, rfl, h0, r0⟩ := trodAll_cons hA
  obtain ⟨rfl, rfl, rfl⟩ := trodAll_nil r0
  obtain rfl : args = #[v0] := by cases args; simp_all
  obtain ⟨rfl, rfl⟩ := trodVars_none hV
  obtain ⟨a0, len0, cap0, rfl⟩ := okWide_slice Try.underlying49 (hval 0 49 v0 rfl rfl)
  have k0 := h0
  have lt0 : ∀ x ∈ p0, x.block < W.heap.size := by obtain ⟨m, hm⟩ := k0; exact DataW.trod_lt m _ _ _ hm
  obtain ⟨z0, w0⟩ : ∃ zs, IsRow .u8 W a0 len0 cap0 zs := by
    obtain ⟨fuel, hf⟩ := h0
    rcases open_ints Try.underlying49 Try.underlying5 (by kernel_rfl) hf with ⟨hcs, _⟩ | ⟨x, l, c, zs, hcs, _, hl, hm, hz, _, hcell, hwz⟩
    · simp [Value.cells] at hcs
      obtain ⟨rfl, rfl, rfl⟩ := hcs
      exact ⟨[], .inl ⟨rfl, rfl, rfl, rfl⟩⟩
    · simp [Value.cells] at hcs
      obtain ⟨rfl, rfl, rfl⟩ := hcs
      exact ⟨zs, .inr ⟨_, rfl, hl, hm, by simpa using hz, hcell, hwz⟩⟩
  clear hA0 hval0
  refine (walk a0 len0 cap0 z0 W w0).mono fun e W' ⟨he, bel⟩ => ?_
  subst he
  exact ⟨_, rfl, _, _, _, [], _, [], hW', trodAll_mk1 (shut_bool Try.underlying4 _), (trodAll_cons_mk (Below.trod laidOut (by kernel_rfl) (of_decide_eq_true (by kernel_rfl)) k0 bel lt0) trodAll_mk0), rfl, bel.frame _, fun h => by cases h⟩

theorem over : Rows.fnMachineExampleRow.holds Try.pinned (OpenSpec.ofChange Rows.fnMachineExampleSpec) :=
  OpenClaim.holds_of_wide 8 Try.f8 rfl rfl rfl rfl rfl rfl rfl ⟨rfl, rfl, rfl, rfl, rfl⟩ rfl rfl rfl rfl rfl (by kernel_rfl) Try.func8 (by kernel_rfl)
    (of_decide_eq_true (by kernel_rfl)) (by unfold Func.isWrapper; first | (rw [if_pos (by decide +kernel)]; kernel_rfl) | (rw [if_neg (by decide +kernel)]; exact ⟨rfl, rfl⟩))
    (fun os started H enc _ => lifted os started H enc)

/-- The statement. -/
theorem proved : Rows.FnMachineExampleSaid := over
#print axioms proved
end Go.Proofs.Ytlbfejdbfhgifaa.fnMachineExample
