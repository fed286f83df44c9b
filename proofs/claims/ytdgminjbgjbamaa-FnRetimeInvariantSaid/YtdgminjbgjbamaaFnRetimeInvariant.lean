/-
  FnRetimeInvariant: The program retimes a drawn circuit as the reference does; an output is an invariant of a valid drawn circuit exactly if it is one without the latches that nothing needs, optimized, and retimed.
  Conditions: none. For every input that the row reads, the Go function laws.FnRetimeInvariant returns true and leaves its arguments as they were.
-/
import Derived.Test.YtdgminjbgjbamaaS09
import Derived.Test.YtdgminjbgjbamaaS12
import Derived.Test.YtdgminjbgjbamaaS05
import Derived.StillTailTactics
import Derived.Test.YtdgminjbgjbamaaRows
import Derived.WalkKit
import Derived.ProofKit
import Derived.OpenShut
import Derived.ShutString
import Derived.ChangeOld
import Derived.Below
set_option linter.unusedVariables false
set_option linter.unusedSimpArgs false
namespace Go.Proofs.Ytdgminjbgjbamaa.fnRetimeInvariant
open Go.ChangeShapes Go.WideShapes Go.ChangeAt Go.RowKit
open Go.ChangeMaps (open_string shut_string)
set_option linter.unusedVariables false

theorem own : ownKnob Try.prog.godebug = none := by kernel_rfl
theorem laidOut : laidOutB Try.prog = true := by kernel_rfl

/-- A slice of integers that came in: nil, or a row of cells. -/
def IsRow (k : IntKind) (w : World) (a : Option Addr) (len cap : Nat) (zs : List Int) : Prop :=
  (a = none ∧ len = 0 ∧ cap = 0 ∧ zs = []) ∨
  ∃ x, a = some x ∧ len ≤ cap ∧ cap ≤ maxLen ∧ zs.length = cap ∧ (∀ i, i < zs.length → w.cell? (x.add i) = some (.int k (zs.getD i 0))) ∧ ∀ n ∈ zs, (Lit.int k n).wf = true


set_option maxHeartbeats 8000000 in
set_option maxRecDepth 100000 in
/-- The walk: the Go text returns true. -/
theorem walk (a0 : Option Addr) (len0 cap0 : Nat) (z0 : List Int) (w : World) (w0 : IsRow .u8 w a0 len0 cap0 z0) :
    Calls Try.prog 5 #[.slice a0 len0 cap0] w fun e w' => e = .returned (.bool true) ∧ Below w.heap.size w w' := by
  obtain ⟨bs, rfl, hwf, hr⟩ := Row.given w0
  clear w0
  by_cases hl : bs.length ≤ 1048576
  · have Hr := Lib.hid hr
    clear hr
    go_enter Try.func5, Try.ntmps5
    go_wp2_with fail
    refine (drawRetime_any _ bs w Hr.out hwf hl).mono ?_
    rintro e w1 ⟨v1, c, i, rfl, hO, hi1, hi2, hb1⟩
    have hi : -1000000 ≤ i ∧ i ≤ 1000000 := ⟨by omega, by omega⟩
    have Hi := Lib.hid hi
    obtain ⟨An, cn, Ag, cg, Ao, co, rfl⟩ := hO.shape
    have HC1 := Lib.hid hO.at
    have Hb1 := Lib.hid hb1
    clear hO hb1 Hr hwf hi1 hi2 hi
    go_wp2_with fail
    have hbx := bel_new w1 (.cells #[.int .i64 c.ins, .slice An c.next.length cn, .slice Ag c.gates.length cg, .slice Ao c.outs.length co] 26)
    have PC := Lib.hid (PCells.boxed w1 c.ins (.slice An c.next.length cn) (.slice Ag c.gates.length cg) (.slice Ao c.outs.length co) 26)
    have HC := Lib.hid (HC1.out.below hbx)
    have B := Lib.hid (Hb1.out.trans (hbx.mono Hb1.out.size))
    clear hbx
    generalize w1.alloc (.cells #[.int .i64 c.ins, .slice An c.next.length cn, .slice Ag c.gates.length cg, .slice Ao c.outs.length co] 26) = w2 at *
    obtain ⟨gb, hgb2⟩ : ∃ gb, w1.heap.size = gb := ⟨_, rfl⟩
    rw [hgb2] at PC ⊢
    clear hgb2
    obtain ⟨z, p0, p1, p2, p3⟩ := PC.out
    clear HC1 Hb1
    refine (implRetime_any _ c i _ HC.out Hi.out).mono ?_
    rintro e w3 ⟨⟨v3, rfl, hO3⟩, hb⟩
    obtain ⟨Bn, bn, Bg, bg, Bo, bo, e3⟩ := hO3.at.shape
    subst e3
    have HX3 := Lib.hid hO3.at
    clear hO3 z p0 p1 p2 p3
    replace PC := Lib.hid (PC.out.below hb)
    replace HC := Lib.hid (HC.out.below hb)
    replace B := Lib.hid (B.out.trans (hb.mono B.out.size))
    clear hb
    obtain ⟨Z, hZ⟩ : ∃ Z, Cir.retZ c i = Z := ⟨_, rfl⟩
    have HZ := Lib.hid hZ
    have HZl := Lib.hid (Cir.retZ_len c i)
    rw [hZ] at HX3 HZl ⊢
    clear hZ
    have hb := bel_new w3 (.cells #[.int .i64 Z.ins, .slice Bn Z.next.length bn, .slice Bg Z.gates.length bg, .slice Bo Z.outs.length bo] 26)
    have PX := Lib.hid (PCells.boxed w3 Z.ins (.slice Bn Z.next.length bn) (.slice Bg Z.gates.length bg) (.slice Bo Z.outs.length bo) 26)
    replace PC := Lib.hid (PC.out.below hb)
    replace HC := Lib.hid (HC.out.below hb)
    replace HX3 := Lib.hid (HX3.out.below hb)
    replace B := Lib.hid (B.out.trans (hb.mono B.out.size))
    clear hb
    obtain ⟨w4, hw4⟩ : ∃ w4, w3.alloc (.cells #[.int .i64 Z.ins, .slice Bn Z.next.length bn, .slice Bg Z.gates.length bg, .slice Bo Z.outs.length bo] 26) = w4 := ⟨_, rfl⟩
    rw [hw4] at PC HC HX3 PX B
    obtain ⟨gq, hgq⟩ : ∃ gq, w3.heap.size = gq := ⟨_, rfl⟩
    rw [hgq] at PX
    obtain ⟨z, p0, p1, p2, p3⟩ := PC.out
    obtain ⟨zm, m0, m1, m2, m3⟩ := PX.out
    go_wp2_with fail
    clear hw4 hgq
    refine wp_region_rs (quietRS Try.prog _ w4 _) quietRS_ok (by kernel_rfl) (by kernel_rfl) (by kernel_rfl) (Nat.le_of_ble_eq_true rfl) trivial trivial ?_
    apply rs_eq quietRS_ok quiet_any
    · intro ρ w' ho hK
      have ho : Only _ w4 w' := ho
      obtain ⟨h0, -⟩ := hK
      have h0' : ρ (.tmp 5) = _ := h0
      have hb := only_below ho
      have q0 := (hb.cell (p := ⟨gb, 0, none⟩) z).trans p0
      have q1 := (hb.cell (p := ⟨gb, 1, none⟩) z).trans p1
      have q2 := (hb.cell (p := ⟨gb, 2, none⟩) z).trans p2
      have q3 := (hb.cell (p := ⟨gb, 3, none⟩) z).trans p3
      have r0 := (hb.cell (p := ⟨gq, 0, none⟩) zm).trans m0
      have r1 := (hb.cell (p := ⟨gq, 1, none⟩) zm).trans m1
      have r2 := (hb.cell (p := ⟨gq, 2, none⟩) zm).trans m2
      have r3 := (hb.cell (p := ⟨gq, 3, none⟩) zm).trans m3
      go_simp
      try exact rfl
    apply rs_eq quietRS_ok quiet_any
    · intro ρ w' ho hK
      have ho : Only _ w4 w' := ho
      obtain ⟨h0, -⟩ := hK
      have h0' : ρ (.tmp 3) = _ := h0
      have hb := only_below ho
      have q0 := (hb.cell (p := ⟨gb, 0, none⟩) z).trans p0
      have q1 := (hb.cell (p := ⟨gb, 1, none⟩) z).trans p1
      have q2 := (hb.cell (p := ⟨gb, 2, none⟩) z).trans p2
      have q3 := (hb.cell (p := ⟨gb, 3, none⟩) z).trans p3
      have r0 := (hb.cell (p := ⟨gq, 0, none⟩) zm).trans m0
      have r1 := (hb.cell (p := ⟨gq, 1, none⟩) zm).trans m1
      have r2 := (hb.cell (p := ⟨gq, 2, none⟩) zm).trans m2
      have r3 := (hb.cell (p := ⟨gq, 3, none⟩) zm).trans m3
      go_simp
      try exact rfl
    refine rs_old quietRS_ok quiet_any _ (.inl rfl) _ rfl rfl ?_
    refine rs_call quietRS_ok quiet_any (TCOwn Z) (stb_cown _) 22 _ _ rfl (fun ρ w' ho hK => by
      have ho : Only _ w4 w' := ho
      obtain ⟨h0, h1, h2, -⟩ := hK
      have h0' : ρ (.func 22) = .func (.func 22) #[] #[] := h0
      have h1' : ρ (.tmp 20) = _ := h1
      have h2' : ρ (.tmp 21) = _ := h2
      refine ⟨#[ρ (.tmp 20), ρ (.tmp 21)], ?_, ?_⟩
      · go_simp
      · rw [h1', h2']
        refine (specRetime_any _ c i w' (HC.out.below (only_below ho)) Hi.out).mono ?_
        rintro e w2 ⟨⟨v2, rfl, hO⟩, hb⟩
        exact ⟨v2, rfl, by rw [HZ.out] at hO; exact hO, hb⟩) ?_
    refine rs_call quietRS_ok quiet_any (TEq (.bool true)) (stb_eq _ _) 21 _ _ rfl (fun ρ w' ho hK => by
      have ho : Only _ w4 w' := ho
      obtain ⟨h0, h1, h2, -⟩ := hK
      have h0' : ρ (.func 21) = .func (.func 21) #[] #[] := h0
      have h1' : ρ (.tmp 19) = _ := h1
      have h2' : (TCOwn Z) w' (ρ (.tmp 22)) := h2
      refine ⟨#[ρ (.tmp 19), ρ (.tmp 22)], ?_, ?_⟩
      · go_simp
      · rw [h1']
        refine (sameCircuit_same _ _ Z w' (HX3.out.below (only_below ho)) (CircOwn.at h2') HZl.out.1 HZl.out.2.1 HZl.out.2.2).mono ?_
        rintro e w2 ⟨rfl, hb⟩
        exact ⟨_, rfl, rfl, hb⟩) ?_
    apply rs_eq quietRS_ok quiet_any
    · intro ρ w' ho hK
      have ho : Only _ w4 w' := ho
      obtain ⟨h0, -⟩ := hK
      have h0' : ρ (.tmp 23) = _ := h0
      go_simp
      try exact rfl
    intro f w9 k9 hk9 hI9 ht9 hcp9
    have E0 : f 0 = _ := ht9 0 (Nat.le_of_ble_eq_true rfl)
    have E1 : f 1 = _ := ht9 1 (Nat.le_of_ble_eq_true rfl)
    have E2 : f 2 = _ := ht9 2 (Nat.le_of_ble_eq_true rfl)
    conv at E2 => rhs; whnf
    have E3 : (TCOwn Z) w9 (f 3) := ht9 3 (Nat.le_of_ble_eq_true rfl)
    have E4 : f 4 = _ := ht9 4 (Nat.le_of_ble_eq_true rfl)
    have E5 : f 5 = _ := ht9 5 (Nat.le_of_ble_eq_true rfl)
    have Ho9 : Only _ w4 w9 := hI9.2.1
    simp only [putAll, E0, E1, E2, E4, E5, Nat.zero_add, Nat.reduceAdd, Act.put, List.setIfInBounds_toArray, List.set_cons_succ, List.set_cons_zero]
    clear E0 E1 E2 E4 E5
    clear hI9 ht9 hcp9 hk9
    generalize f 3 = r3 at *
    have hb := only_below Ho9
    clear z p0 p1 p2 p3 zm m0 m1 m2 m3 Ho9
    replace PC := Lib.hid (PC.out.below hb)
    replace HC := Lib.hid (HC.out.below hb)
    replace HX3 := Lib.hid (HX3.out.below hb)
    replace PX := Lib.hid (PX.out.below hb)
    replace B := Lib.hid (B.out.trans (hb.mono B.out.size))
    clear hb
    obtain ⟨w5, hw5⟩ : ∃ w5, w5 = w9 := ⟨_, rfl⟩
    subst hw5
    obtain ⟨z, p0, p1, p2, p3⟩ := PC.out
    go_wp2_with fail
    refine (specValid_any _ c _ HC.out).mono ?_
    rintro e w6 ⟨rfl, hb⟩
    clear z p0 p1 p2 p3
    replace PC := Lib.hid (PC.out.below hb)
    replace HC := Lib.hid (HC.out.below hb)
    replace HX3 := Lib.hid (HX3.out.below hb)
    replace PX := Lib.hid (PX.out.below hb)
    replace B := Lib.hid (B.out.trans (hb.mono B.out.size))
    clear hb
    cases hv : Cir.valid c
    · clear hv
      go_wp2_with fail
      refine (alive_any _).mono ?_
      rintro e wb ⟨rfl, hb⟩
      replace B := Lib.hid (B.out.trans (hb.mono B.out.size))
      clear hb
      go_wp2_with fail
      go_ret
      exact ⟨rfl, B.out⟩
    · obtain ⟨d1, d2⟩ := Cir.nat_ok hv
      have HRem : Hid (∀ w' v, CircAt w' v c → Calls Try.prog 24 #[v] w' (fun e w'' => (∃ v' V, e = .returned v' ∧ Cir.Needs (Cir.nat c) V ∧ CircOwn 0 w'' v' (Cir.toCz (Cir.optI (Cir.remC (Cir.nat c) V)))) ∧ Below w'.heap.size w' w'')) := Lib.hid fun w' v h => implRem_ok v (Cir.nat c) w' (by rw [← d1]; exact h) d2 (by rw [← d1]; exact hv)
      have HIr : Hid (∀ V o, Cir.Needs (Cir.nat c) V → Cir.invI (Cir.toCz (Cir.optI (Cir.remC (Cir.nat c) V))) (o : Nat) = Cir.invI c (o : Nat)) := Lib.hid fun V o h => Cir.inv_rem hv h o
      have HIo : Hid (∀ o, Cir.invI (Cir.optZ c) (o : Nat) = Cir.invI c (o : Nat)) := Lib.hid fun o => Cir.inv_opt hv o
      have HIx : Hid (Cir.canI c i = true → ∀ o, Cir.invI Z (o : Nat) = Cir.invI c (o : Nat)) := Lib.hid fun h o => by rw [← HZ.out]; exact Cir.inv_ret h o
      have hcb : c.outs.length ≤ 3 := by
        have h := d2.outss
        unfold Cir.nat at h
        simpa using h
      clear d1 d2 hv
      go_wp2_with fail
      go_loopw [6] (fun j wr => ∃ k : Nat, k ≤ c.outs.length ∧ j = .int .i64 k ∧ Hid (PCells wr gb c.ins (.slice An c.next.length cn) (.slice Ag c.gates.length cg) (.slice Ao c.outs.length co)) ∧ Hid (CircAt wr (.agg #[.int .i64 c.ins, .slice An c.next.length cn, .slice Ag c.gates.length cg, .slice Ao c.outs.length co]) c) ∧ Hid (CircAt wr (.agg #[.int .i64 Z.ins, .slice Bn Z.next.length bn, .slice Bg Z.gates.length bg, .slice Bo Z.outs.length bo]) Z) ∧ Hid (PCells wr gq Z.ins (.slice Bn Z.next.length bn) (.slice Bg Z.gates.length bg) (.slice Bo Z.outs.length bo)) ∧ Hid (Below w.heap.size w wr)) (fun j _ => c.outs.length - (intOf j).toNat)
      case atStart => exact ⟨0, Nat.zero_le _, rfl, PC, HC, HX3, PX, B⟩
      case round =>
        obtain ⟨k, hk, rfl, PC', HC', HX', PX', B'⟩ := hrel
        clear PC HC HX3 PX B
        obtain ⟨wu, hwu⟩ : ∃ wu, wu = wr := ⟨_, rfl⟩
        rw [← hwu] at PC' HC' HX' PX' B' ⊢
        clear hwu
        obtain ⟨PC, hPC⟩ : ∃ P : Hid (PCells wu gb c.ins (.slice An c.next.length cn) (.slice Ag c.gates.length cg) (.slice Ao c.outs.length co)), True := ⟨PC', trivial⟩
        obtain ⟨HC, hHC⟩ : ∃ P : Hid (CircAt wu (.agg #[.int .i64 c.ins, .slice An c.next.length cn, .slice Ag c.gates.length cg, .slice Ao c.outs.length co]) c), True := ⟨HC', trivial⟩
        obtain ⟨HX3, hHX⟩ : ∃ P : Hid (CircAt wu (.agg #[.int .i64 Z.ins, .slice Bn Z.next.length bn, .slice Bg Z.gates.length bg, .slice Bo Z.outs.length bo]) Z), True := ⟨HX', trivial⟩
        obtain ⟨PX, hPX⟩ : ∃ P : Hid (PCells wu gq Z.ins (.slice Bn Z.next.length bn) (.slice Bg Z.gates.length bg) (.slice Bo Z.outs.length bo)), True := ⟨PX', trivial⟩
        obtain ⟨B, hBt⟩ : ∃ P : Hid (Below w.heap.size w wu), True := ⟨B', trivial⟩
        clear PC' HC' HX' PX' B' hPC hHC hHX hPX hBt
        obtain ⟨z, p0, p1, p2, p3⟩ := PC.out
        by_cases hlt : k < c.outs.length
        · obtain ⟨ok, hok⟩ : ∃ ok, Cir.invI c (k : Nat) = ok := ⟨_, rfl⟩
          have Hok := Lib.hid hok
          have hoo : (ok != ok) = false := by simp
          clear hok
          go_wp2_with fail
          refine (implInv_any _ c (k : Nat) _ HC.out).mono ?_
          rintro e w7 ⟨rfl, hb⟩
          rw [Hok.out]
          clear z p0 p1 p2 p3
          replace PC := Lib.hid (PC.out.below hb)
          replace HC := Lib.hid (HC.out.below hb)
          replace HX3 := Lib.hid (HX3.out.below hb)
          replace PX := Lib.hid (PX.out.below hb)
          replace B := Lib.hid (B.out.trans (hb.mono B.out.size))
          clear hb
          obtain ⟨z, p0, p1, p2, p3⟩ := PC.out
          go_wp2_with fail
          refine (HRem.out _ _ HC.out).mono ?_
          rintro e w8 ⟨⟨v8, V, rfl, hne, hO8⟩, hb⟩
          have HI8 := Lib.hid (HIr.out V k hne)
          have HO8 := Lib.hid hO8.at
          clear z p0 p1 p2 p3 hne hO8
          replace PC := Lib.hid (PC.out.below hb)
          replace HC := Lib.hid (HC.out.below hb)
          replace HX3 := Lib.hid (HX3.out.below hb)
          replace PX := Lib.hid (PX.out.below hb)
          replace B := Lib.hid (B.out.trans (hb.mono B.out.size))
          clear hb
          generalize Cir.toCz (Cir.optI (Cir.remC (Cir.nat c) V)) = Y at *
          go_wp2_with fail
          refine (implInv_any _ Y (k : Nat) _ HO8.out).mono ?_
          rintro e w9 ⟨rfl, hb⟩
          rw [HI8.out, Hok.out]
          clear HO8 HI8
          replace PC := Lib.hid (PC.out.below hb)
          replace HC := Lib.hid (HC.out.below hb)
          replace HX3 := Lib.hid (HX3.out.below hb)
          replace PX := Lib.hid (PX.out.below hb)
          replace B := Lib.hid (B.out.trans (hb.mono B.out.size))
          clear hb
          obtain ⟨z, p0, p1, p2, p3⟩ := PC.out
          go_wp2_with fail
          refine (implOpt_any _ c _ HC.out).mono ?_
          rintro e wa ⟨⟨va, rfl, hOa⟩, hb⟩
          have HOa := Lib.hid hOa.at
          clear z p0 p1 p2 p3 hOa
          replace PC := Lib.hid (PC.out.below hb)
          replace HC := Lib.hid (HC.out.below hb)
          replace HX3 := Lib.hid (HX3.out.below hb)
          replace PX := Lib.hid (PX.out.below hb)
          replace B := Lib.hid (B.out.trans (hb.mono B.out.size))
          clear hb
          go_wp2_with fail
          refine (implInv_any _ (Cir.optZ c) (k : Nat) _ HOa.out).mono ?_
          rintro e wb ⟨rfl, hb⟩
          rw [HIo.out, Hok.out]
          clear HOa
          replace PC := Lib.hid (PC.out.below hb)
          replace HC := Lib.hid (HC.out.below hb)
          replace HX3 := Lib.hid (HX3.out.below hb)
          replace PX := Lib.hid (PX.out.below hb)
          replace B := Lib.hid (B.out.trans (hb.mono B.out.size))
          clear hb
          obtain ⟨z, p0, p1, p2, p3⟩ := PC.out
          go_wp2_with fail
          refine (specCan_any _ c i _ HC.out Hi.out).mono ?_
          rintro e wc ⟨rfl, hb⟩
          clear z p0 p1 p2 p3
          replace PC := Lib.hid (PC.out.below hb)
          replace HC := Lib.hid (HC.out.below hb)
          replace HX3 := Lib.hid (HX3.out.below hb)
          replace PX := Lib.hid (PX.out.below hb)
          replace B := Lib.hid (B.out.trans (hb.mono B.out.size))
          clear hb
          cases hcan : Cir.canI c i
          · clear hcan
            go_wp2_with fail
            go_roundw
            case rel => exact ⟨k + 1, by omega, by go_num, PC, HC, HX3, PX, B⟩
            case measure => simp [intOf]; omega
          · have HIz := Lib.hid (HIx.out hcan k)
            clear hcan
            obtain ⟨z, p0, p1, p2, p3⟩ := PX.out
            go_wp2_with fail
            refine (implInv_any _ Z (k : Nat) _ HX3.out).mono ?_
            rintro e wd ⟨rfl, hb⟩
            rw [HIz.out, Hok.out]
            clear z p0 p1 p2 p3
            replace PC := Lib.hid (PC.out.below hb)
            replace HC := Lib.hid (HC.out.below hb)
            replace HX3 := Lib.hid (HX3.out.below hb)
            replace PX := Lib.hid (PX.out.below hb)
            replace B := Lib.hid (B.out.trans (hb.mono B.out.size))
            clear hb
            go_wp2_with fail
            go_roundw
            case rel => exact ⟨k + 1, by omega, by go_num, PC, HC, HX3, PX, B⟩
            case measure => simp [intOf]; omega
        · obtain rfl : k = c.outs.length := by omega
          go_wp2_with fail
          go_ret
          exact ⟨rfl, B.out⟩
  · have hd1 : decide ((1048576 : Int) < (bs.length : Int)) = true := decide_eq_true (by omega)
    go_enter Try.func5, Try.ntmps5
    go_wp2_with fail
    go_ret
    exact ⟨rfl, Below.refl _ _⟩

/-! The step from the walk to the row. -/
set_option maxRecDepth 100000 in
theorem lifted (os : Os) (started : os.Started) (H : Type) (enc : TypeId × Value → H) :
    ReturnsInHanded {} Try.checked os 5 .any (Rows.fnRetimeInvariantSpec.pre6 enc Try.prog Try.f5 Rows.fnRetimeInvariantRow.domain false) (Rows.fnRetimeInvariantSpec.post enc Try.prog Try.f5 false true false false) := by
  refine returnsInHanded_of_change (C := Try.checked) own started (by kernel_rfl) Try.func5
    (ChangeSpec.witness6 (enc := enc) (C := Try.checked) false ⟨#[], #[.slice none 0 0], []⟩ 8 (by kernel_rfl) (by kernel_rfl) (by kernel_rfl) (by kernel_rfl)) ?_
  intro W base args ds gs before hval0 hW hcnd _
  have hval : ∀ (j : Nat) t v, Try.f5.params[j]? = some t → args[j]? = some v → Value.okWide Try.prog W .any base t v := hval0
  have hW' := hW
  obtain ⟨p, q, hA0, hV, rfl, hfz, hnd⟩ := hW
  have hA : DataW.TrodAll enc Try.prog W 0 (fun _ => true) true Try.f5.params.toList args.toList ds p := hA0
  rw [Try.params5] at hA hval
  obtain ⟨v0, vs0, d0, ds0, p0, q0, hargs, rfl, rfl, h0, r0⟩ := trodAll_cons hA
  obtain ⟨rfl, rfl, rfl⟩ := trodAll_nil r0
  obtain rfl : args = #[v0] := by cases args; simp_all
  obtain ⟨rfl, rfl⟩ := trodVars_none hV
  obtain ⟨a0, len0, cap0, rfl⟩ := okWide_slice Try.underlying22 (hval 0 22 v0 rfl rfl)
  have k0 := h0
  have lt0 : ∀ x ∈ p0, x.block < W.heap.size := by obtain ⟨m, hm⟩ := k0; exact DataW.trod_lt m _ _ _ hm
  obtain ⟨z0, w0⟩ : ∃ zs, IsRow .u8 W a0 len0 cap0 zs := by
    obtain ⟨fuel, hf⟩ := h0
    rcases open_ints Try.underlying22 Try.underlying5 (by kernel_rfl) hf with ⟨hcs, _⟩ | ⟨x, l, c, zs, hcs, _, hl, hm, hz, _, hcell, hwz⟩
    · simp [Value.cells] at hcs
      obtain ⟨rfl, rfl, rfl⟩ := hcs
      exact ⟨[], .inl ⟨rfl, rfl, rfl, rfl⟩⟩
    · simp [Value.cells] at hcs
      obtain ⟨rfl, rfl, rfl⟩ := hcs
      exact ⟨zs, .inr ⟨_, rfl, hl, hm, by simpa using hz, hcell, hwz⟩⟩
  clear hA0 hval0
  refine (walk a0 len0 cap0 z0 W w0).mono fun e W' ⟨he, bel⟩ => ?_
  subst he
  exact ⟨_, rfl, _, _, _, [], _, [], hW', trodAll_mk1 (shut_bool Try.underlying4 _), (trodAll_cons_mk (Below.trod laidOut (by kernel_rfl) (of_decide_eq_true (by kernel_rfl)) k0 bel lt0) trodAll_mk0), rfl, bel.frame _, fun h => by cases h⟩

theorem over : Rows.fnRetimeInvariantRow.holds Try.pinned (OpenSpec.ofChange Rows.fnRetimeInvariantSpec) :=
  OpenClaim.holds_of_wide 5 Try.f5 rfl rfl rfl rfl rfl rfl rfl ⟨rfl, rfl, rfl, rfl, rfl⟩ rfl rfl rfl rfl rfl (by kernel_rfl) Try.func5 (by kernel_rfl)
    (of_decide_eq_true (by kernel_rfl)) (by unfold Func.isWrapper; first | (rw [if_pos (by decide +kernel)]; kernel_rfl) | (rw [if_neg (by decide +kernel)]; exact ⟨rfl, rfl⟩))
    (fun os started H enc _ => lifted os started H enc)

/-- The statement. -/
theorem proved : Rows.FnRetimeInvariantSaid := over
#print axioms proved
end Go.Proofs.Ytdgminjbgjbamaa.fnRetimeInvariant
