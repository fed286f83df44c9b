/-
  FnDecoderTable: The decoder of v over n inputs has the table 1 << v, whose cover is the one cube of all inputs with the values v.
  Conditions: none. For every input that the row reads, the Go function laws.FnDecoderTable returns true and leaves its arguments as they were.
-/
import Derived.Test.YtdgminjbgjbamaaS09
import Derived.Test.YtdgminjbgjbamaaS10
import Derived.Test.YtdgminjbgjbamaaS05
import Derived.Test.YtdgminjbgjbamaaS03
import Derived.Test.YtdgminjbgjbamaaS11
import Derived.Test.YtdgminjbgjbamaaS06
import Derived.StillTailTactics
import Derived.Test.YtdgminjbgjbamaaRows
import Derived.WalkKit
import Derived.ProofKit
import Derived.OpenShut
import Derived.ShutString
import Derived.ChangeOld
import Derived.Below
set_option linter.unusedVariables false
set_option linter.unusedSimpArgs false
namespace Go.Proofs.Ytdgminjbgjbamaa.fnDecoderTable
open Go.ChangeShapes Go.WideShapes Go.ChangeAt Go.RowKit
open Go.ChangeMaps (open_string shut_string)
set_option linter.unusedVariables false

theorem own : ownKnob Try.prog.godebug = none := by kernel_rfl
theorem laidOut : laidOutB Try.prog = true := by kernel_rfl

/-- A slice of integers that came in: nil, or a row of cells. -/
def IsRow (k : IntKind) (w : World) (a : Option Addr) (len cap : Nat) (zs : List Int) : Prop :=
  (a = none ∧ len = 0 ∧ cap = 0 ∧ zs = []) ∨
  ∃ x, a = some x ∧ len ≤ cap ∧ cap ≤ maxLen ∧ zs.length = cap ∧ (∀ i, i < zs.length → w.cell? (x.add i) = some (.int k (zs.getD i 0))) ∧ ∀ n ∈ zs, (Lit.int k n).wf = true

theorem dec_small (x y : Int) : (Cir.decZ x y).next.length ≤ 1000000 ∧ (Cir.decZ x y).gates.length ≤ 1000000 ∧ (Cir.decZ x y).outs.length ≤ 1000000 := by
  unfold Cir.decZ
  split
  · rename_i h
    have hg := (Cir.dec_inv (1 + x.toNat) y.toNat (by omega) x.toNat (by omega)).1
    refine ⟨by simp [Cir.toCz, Cir.decI], ?_, by simp [Cir.toCz, Cir.decI]⟩
    have : (Cir.toCz (Cir.decI x.toNat y.toNat)).gates.length = (Cir.decGo (1 + x.toNat) y.toNat x.toNat).2.length := by simp [Cir.toCz, Cir.decI]
    omega
  · exact ⟨by simp, by simp, by simp⟩
theorem outs_cell {w : World} {c : Cz} {vi vn vg : Value} {Ao : Option Addr} {co : Nat} {L : Int} (h : CircAt w (.agg #[vi, vn, vg, .slice Ao c.outs.length co]) c) (hL : c.outs = [L]) :
    ∃ bo oo, Ao = some ⟨bo, oo, none⟩ ∧ ∀ w', Below w.heap.size w w' → w'.cell? ⟨bo, oo, none⟩ = some (.int .i64 L) := by
  obtain ⟨un, ug, uo, e, r1, r2, r3⟩ := h
  injection e with e
  simp only [Array.mk.injEq, List.cons.injEq, and_true] at e
  obtain ⟨-, -, -, e3⟩ := e
  subst e3
  obtain ⟨bo, oo, x0, hAo, hbl, hx0, -⟩ := ints_open r3 (Below.refl _ _) rfl (show 0 < c.outs.length by rw [hL]; exact Nat.zero_lt_one)
  subst hAo
  refine ⟨bo, oo, rfl, fun w' hb => ?_⟩
  obtain ⟨b1, o1, x1, e1, -, y1, z1⟩ := ints_open r3 hb (i := 0) rfl (show 0 < c.outs.length by rw [hL]; exact Nat.zero_lt_one)
  injection e1 with e1
  injection e1 with e3 e4
  subst e3 e4
  have f1 : x1 = L := by
    have := y1.out
    rw [hL] at this
    exact (Option.some.inj this).symm
  subst f1
  exact z1
theorem one_cube {w : World} {b : Nat} {v : Value} {F V : Int} (h : w.ownsRow b 53 2 v 1 (cubes [(F, V)])) : ∃ bc oc k, v = .slice (some ⟨bc, oc, none⟩) 1 k ∧ ∀ w', Below w.heap.size w w' → w'.cell? ⟨bc, oc, none⟩ = some (.int .i64 F) ∧ w'.cell? ⟨bc, oc + 1, none⟩ = some (.int .i64 V) := by
  have h' : CubesAt w v [(F, V)] := Row.of_own h
  obtain ⟨A, k, rfl, -, -⟩ := h'.shape
  obtain ⟨bo, oo, x0, hAo, -, -, -, -⟩ := cubes_open h' (Below.refl _ _) rfl (i := 0) (Nat.zero_lt_one)
  subst hAo
  refine ⟨bo, oo, k, rfl, fun w' hb => ?_⟩
  obtain ⟨b1, o1, x1, e1, -, y1, z1, z2⟩ := cubes_open h' hb rfl (i := 0) (Nat.zero_lt_one)
  injection e1 with e1
  injection e1 with e3 e4
  subst e3 e4
  have f1 : x1 = (F, V) := (Option.some.inj y1.out).symm
  subst f1
  exact ⟨z1, z2⟩
theorem dt10 : (Cir.decZ 1 0).outs = [3] ∧ Cir.tabI (Cir.decZ 1 0) 3 = 1 := by decide +kernel
theorem dm10 : minimalI 1 1 = [(1, 0)] := by decide +kernel
theorem dt11 : (Cir.decZ 1 1).outs = [2] ∧ Cir.tabI (Cir.decZ 1 1) 2 = 2 := by decide +kernel
theorem dm11 : minimalI 2 1 = [(1, 1)] := by decide +kernel
theorem dt20 : (Cir.decZ 2 0).outs = [6] ∧ Cir.tabI (Cir.decZ 2 0) 6 = 1 := by decide +kernel
theorem dm20 : minimalI 1 2 = [(3, 0)] := by decide +kernel
theorem dt21 : (Cir.decZ 2 1).outs = [6] ∧ Cir.tabI (Cir.decZ 2 1) 6 = 2 := by decide +kernel
theorem dm21 : minimalI 2 2 = [(3, 1)] := by decide +kernel
theorem dt22 : (Cir.decZ 2 2).outs = [6] ∧ Cir.tabI (Cir.decZ 2 2) 6 = 4 := by decide +kernel
theorem dm22 : minimalI 4 2 = [(3, 2)] := by decide +kernel
theorem dt23 : (Cir.decZ 2 3).outs = [6] ∧ Cir.tabI (Cir.decZ 2 3) 6 = 8 := by decide +kernel
theorem dm23 : minimalI 8 2 = [(3, 3)] := by decide +kernel
set_option maxHeartbeats 8000000 in
set_option maxRecDepth 100000 in
/-- The walk: the Go text returns true. -/
theorem walk (a0 : Option Addr) (len0 cap0 : Nat) (z0 : List Int) (w : World) (w0 : IsRow .u8 w a0 len0 cap0 z0) :
    Calls Try.prog 6 #[.slice a0 len0 cap0] w fun e w' => e = .returned (.bool true) ∧ Below w.heap.size w w' := by
  obtain ⟨bs, rfl, hwf, hr⟩ := Row.given w0
  clear w0
  by_cases hl : bs.length ≤ 1048576
  · have Hr := Lib.hid hr
    clear hr
    go_enter Try.func6, Try.ntmps6
    go_wp2_with fail
    refine (drawDecoder_any _ bs w Hr.out hwf hl).mono ?_
    rintro e w0 ⟨x, y, rfl, hx1, hx2, hy1, hy2, hb0⟩
    have Hb0 := Lib.hid hb0
    clear hb0 Hr hwf
    go_wp2_with fail
    refine (decoder_any x y _ (by omega)).mono ?_
    rintro e w1 ⟨⟨v1, rfl, hC⟩, hb⟩
    obtain ⟨c, hc⟩ : ∃ c, c = Cir.decZ x y := ⟨_, rfl⟩
    rw [← hc] at hC
    obtain ⟨An, cn, Ag, cg, Ao, co, rfl⟩ := hC.shape
    have HC1 := Lib.hid hC
    have Hb1 := Lib.hid (Hb0.out.trans (hb.mono Hb0.out.size))
    have hcs := dec_small x y
    rw [← hc] at hcs
    have Hcs := Lib.hid hcs
    have Hc := Lib.hid hc
    clear hc hC hb Hb0 hcs
    go_wp2_with fail
    have hbx := bel_new w1 (.cells #[.int .i64 c.ins, .slice An c.next.length cn, .slice Ag c.gates.length cg, .slice Ao c.outs.length co] 26)
    have PC := Lib.hid (PCells.boxed w1 c.ins (.slice An c.next.length cn) (.slice Ag c.gates.length cg) (.slice Ao c.outs.length co) 26)
    have HC := Lib.hid (HC1.out.below hbx)
    have B := Lib.hid (Hb1.out.trans (hbx.mono Hb1.out.size))
    clear hbx
    generalize w1.alloc (.cells #[.int .i64 c.ins, .slice An c.next.length cn, .slice Ag c.gates.length cg, .slice Ao c.outs.length co] 26) = w2 at *
    obtain ⟨gb, hgb2⟩ : ∃ gb, w1.heap.size = gb := ⟨_, rfl⟩
    rw [hgb2] at PC ⊢
    clear hgb2
    obtain ⟨z, p0, p1, p2, p3⟩ := PC.out
    clear HC1 Hb1
    refine wp_region_rs (quietRS Try.prog _ w2 _) quietRS_ok (by kernel_rfl) (by kernel_rfl) (by kernel_rfl) (Nat.le_of_ble_eq_true rfl) trivial trivial ?_
    apply rs_eq quietRS_ok quiet_any
    · intro ρ w' ho hK
      have ho : Only _ w2 w' := ho
      obtain ⟨h0, -⟩ := hK
      have h0' : ρ (.tmp 5) = _ := h0
      have hb := only_below ho
      have q0 := (hb.cell (p := ⟨gb, 0, none⟩) z).trans p0
      have q1 := (hb.cell (p := ⟨gb, 1, none⟩) z).trans p1
      have q2 := (hb.cell (p := ⟨gb, 2, none⟩) z).trans p2
      have q3 := (hb.cell (p := ⟨gb, 3, none⟩) z).trans p3
      go_simp
      try exact rfl
    refine rs_old quietRS_ok quiet_any _ (.inl rfl) _ rfl rfl ?_
    refine rs_old quietRS_ok quiet_any _ (.inl rfl) _ rfl rfl ?_
    refine rs_call quietRS_ok quiet_any (TCirc c) (stb_circ _) 28 _ _ rfl (fun ρ w' ho hK => by
      have ho : Only _ w2 w' := ho
      obtain ⟨h0, h1, h2, -⟩ := hK
      have h0' : ρ (.func 28) = .func (.func 28) #[] #[] := h0
      have h1' : ρ (.tmp 19) = _ := h1
      have h2' : ρ (.tmp 20) = _ := h2
      refine ⟨#[ρ (.tmp 19), ρ (.tmp 20)], ?_, ?_⟩
      · go_simp
      · rw [h1', h2']
        refine (specDecoder_any x y w' (by omega)).mono ?_
        rintro e w2 ⟨⟨v2, rfl, h2⟩, hb⟩
        exact ⟨v2, rfl, by rw [Hc.out]; exact h2, hb⟩) ?_
    refine rs_call quietRS_ok quiet_any (TEq (.bool true)) (stb_eq _ _) 21 _ _ rfl (fun ρ w' ho hK => by
      have ho : Only _ w2 w' := ho
      obtain ⟨h0, h1, h2, -⟩ := hK
      have h0' : ρ (.func 21) = .func (.func 21) #[] #[] := h0
      have h1' : ρ (.tmp 18) = _ := h1
      have h2' : (TCirc c) w' (ρ (.tmp 21)) := h2
      refine ⟨#[ρ (.tmp 18), ρ (.tmp 21)], ?_, ?_⟩
      · go_simp
      · rw [h1']
        refine (sameCircuit_same _ _ c w' (HC.out.below (only_below ho)) h2' Hcs.out.1 Hcs.out.2.1 Hcs.out.2.2).mono ?_
        rintro e w2 ⟨rfl, hb⟩
        exact ⟨_, rfl, rfl, hb⟩) ?_
    apply rs_eq quietRS_ok quiet_any
    · intro ρ w' ho hK
      have ho : Only _ w2 w' := ho
      obtain ⟨h0, -⟩ := hK
      have h0' : ρ (.tmp 22) = _ := h0
      go_simp
      try exact rfl
    intro f w9 k9 hk9 hI9 ht9 hcp9
    have E0 : f 0 = _ := ht9 0 (Nat.le_of_ble_eq_true rfl)
    have E1 : f 1 = _ := ht9 1 (Nat.le_of_ble_eq_true rfl)
    conv at E1 => rhs; whnf
    have E2 : f 2 = _ := ht9 2 (Nat.le_of_ble_eq_true rfl)
    conv at E2 => rhs; whnf
    have E3 : (TCirc c) w9 (f 3) := ht9 3 (Nat.le_of_ble_eq_true rfl)
    have E4 : f 4 = _ := ht9 4 (Nat.le_of_ble_eq_true rfl)
    have E5 : f 5 = _ := ht9 5 (Nat.le_of_ble_eq_true rfl)
    have Ho9 : Only _ w2 w9 := hI9.2.1
    simp only [putAll, E0, E1, E2, E4, E5, Nat.zero_add, Nat.reduceAdd, Act.put, List.setIfInBounds_toArray, List.set_cons_succ, List.set_cons_zero]
    clear E0 E1 E2 E4 E5
    clear hI9 ht9 hcp9 hk9
    generalize f 3 = r3 at *
    have hb := only_below Ho9
    clear z p0 p1 p2 p3
    replace PC := Lib.hid (PC.out.below hb)
    replace HC := Lib.hid (HC.out.below hb)
    replace B := Lib.hid (B.out.trans (hb.mono B.out.size))
    clear hb Ho9 Hcs
    obtain ⟨w5, hw5⟩ : ∃ w5, w5 = w9 := ⟨_, rfl⟩
    subst hw5
    by_cases c1 : x < 1
    · have d1 : decide (x < 1) = true := decide_eq_true c1
      clear Hc
      go_wp2_with fail
      refine (alive_any _).mono ?_
      rintro e wb ⟨rfl, hb⟩
      replace B := Lib.hid (B.out.trans (hb.mono B.out.size))
      clear hb
      go_wp2_with fail
      go_ret
      exact ⟨rfl, B.out⟩
    have d1 : decide (x < 1) = false := decide_eq_false c1
    by_cases c2 : x > 2
    · have d2 : decide (x > 2) = true := decide_eq_true c2
      clear Hc
      go_wp2_with fail
      refine (alive_any _).mono ?_
      rintro e wb ⟨rfl, hb⟩
      replace B := Lib.hid (B.out.trans (hb.mono B.out.size))
      clear hb
      go_wp2_with fail
      go_ret
      exact ⟨rfl, B.out⟩
    have d2 : decide (x > 2) = false := decide_eq_false c2
    by_cases c3 : y < 0
    · have d3 : decide (y < 0) = true := decide_eq_true c3
      clear Hc
      go_wp2_with fail
      refine (alive_any _).mono ?_
      rintro e wb ⟨rfl, hb⟩
      replace B := Lib.hid (B.out.trans (hb.mono B.out.size))
      clear hb
      go_wp2_with fail
      go_ret
      exact ⟨rfl, B.out⟩
    clear d1 d2
    rcases (show x = 1 ∨ x = 2 by omega) with rfl | rfl
    · by_cases c4 : y ≥ 2
      · have d4 : decide (y ≥ 2) = true := decide_eq_true c4
        clear Hc
        go_wp2_with fail
        refine (alive_any _).mono ?_
        rintro e wb ⟨rfl, hb⟩
        replace B := Lib.hid (B.out.trans (hb.mono B.out.size))
        clear hb
        go_wp2_with fail
        go_ret
        exact ⟨rfl, B.out⟩
      rcases (show y = 0 ∨ y = 1 by omega) with rfl | rfl
      · go_wp2_with fail
        refine (implMin_any 1 1 _).mono ?_
        rintro e w6 ⟨v6, rfl, hO6, hb⟩
        rw [dm10] at hO6
        obtain ⟨bc, oc, kc, e6, hcube⟩ := one_cube (F := 1) (V := 0) hO6
        subst e6
        replace PC := Lib.hid (PC.out.below hb)
        replace HC := Lib.hid (HC.out.below hb)
        replace B := Lib.hid (B.out.trans (hb.mono B.out.size))
        clear hb hO6
        have hT := dt10
        rw [← Hc.out] at hT
        obtain ⟨bo, oo, hAo, hout⟩ := outs_cell HC.out hT.1
        subst hAo
        have hl1 : c.outs.length = 1 := by rw [hT.1]; rfl
        rw [hl1] at PC HC
        have HT := Lib.hid hT.2
        have Hout := Lib.hid hout
        have Hcube := Lib.hid hcube
        clear hT hl1 hout hcube Hc
        obtain ⟨z, p0, p1, p2, p3⟩ := PC.out
        go_wp2_with fail
        refine wp_region_rsG [(9, true), (14, true)] (quietRS Try.prog _ w6 _) quietRS_ok (by kernel_rfl) (by kernel_rfl) (by kernel_rfl) (Nat.le_of_ble_eq_true rfl) trivial trivial ?_
        refine rs_peel ?_
        apply rs_eq quietRS_ok quiet_any
        · intro ρ w' ho hK
          have ho : Only _ w6 w' := ho
          obtain ⟨h0, -⟩ := hK
          have h0' : ρ (.tmp 5) = _ := h0
          have hb := only_below ho
          have q0 := (hb.cell (p := ⟨gb, 0, none⟩) z).trans p0
          have q1 := (hb.cell (p := ⟨gb, 1, none⟩) z).trans p1
          have q2 := (hb.cell (p := ⟨gb, 2, none⟩) z).trans p2
          have q3 := (hb.cell (p := ⟨gb, 3, none⟩) z).trans p3
          have q4 := Hout.out _ hb
          obtain ⟨q5, q6⟩ := Hcube.out _ hb
          go_simp
          try exact rfl
        refine rs_peel ?_
        apply rs_eq quietRS_ok quiet_any
        · intro ρ w' ho hK
          have ho : Only _ w6 w' := ho
          obtain ⟨h0, -⟩ := hK
          have h0' : ρ (.tmp 5) = _ := h0
          go_simp
          try exact rfl
        refine rs_peel ?_
        apply rs_eq quietRS_ok quiet_any
        · intro ρ w' ho hK
          have ho : Only _ w6 w' := ho
          obtain ⟨h0, -⟩ := hK
          have h0' : ρ (.tmp 46) = _ := h0
          have hb := only_below ho
          have q0 := (hb.cell (p := ⟨gb, 0, none⟩) z).trans p0
          have q1 := (hb.cell (p := ⟨gb, 1, none⟩) z).trans p1
          have q2 := (hb.cell (p := ⟨gb, 2, none⟩) z).trans p2
          have q3 := (hb.cell (p := ⟨gb, 3, none⟩) z).trans p3
          have q4 := Hout.out _ hb
          obtain ⟨q5, q6⟩ := Hcube.out _ hb
          go_simp
          try exact rfl
        refine rs_peel ?_
        apply rs_eq quietRS_ok quiet_any
        · intro ρ w' ho hK
          have ho : Only _ w6 w' := ho
          obtain ⟨h0, h1, -⟩ := hK
          have h0' : ρ (.tmp 47) = _ := h0
          have h1' : ρ (.const (Value.int IntKind.i64 0)) = (Value.int IntKind.i64 0) := h1
          go_simp
          try exact rfl
        refine rs_peel ?_
        apply rs_eq quietRS_ok quiet_any
        · intro ρ w' ho hK
          have ho : Only _ w6 w' := ho
          obtain ⟨h0, -⟩ := hK
          have h0' : ρ (.tmp 48) = _ := h0
          have hb := only_below ho
          have q0 := (hb.cell (p := ⟨gb, 0, none⟩) z).trans p0
          have q1 := (hb.cell (p := ⟨gb, 1, none⟩) z).trans p1
          have q2 := (hb.cell (p := ⟨gb, 2, none⟩) z).trans p2
          have q3 := (hb.cell (p := ⟨gb, 3, none⟩) z).trans p3
          have q4 := Hout.out _ hb
          obtain ⟨q5, q6⟩ := Hcube.out _ hb
          go_simp
          try exact rfl
        refine rs_peel ?_
        refine rs_call quietRS_ok quiet_any (TEq (.int .i64 1)) (stb_eq _ _) 30 _ _ rfl (fun ρ w' ho hK => by
          have ho : Only _ w6 w' := ho
          obtain ⟨h0, h1, h2, -⟩ := hK
          have h0' : ρ (.func 30) = .func (.func 30) #[] #[] := h0
          have h1' : ρ (.tmp 45) = _ := h1
          have h2' : ρ (.tmp 49) = _ := h2
          refine ⟨#[ρ (.tmp 45), ρ (.tmp 49)], ?_, ?_⟩
          · go_simp
          · rw [h1', h2']
            refine (implTable_any _ c 3 w' (HC.out.below (only_below ho))).mono ?_
            rintro e w2 ⟨rfl, hb⟩
            exact ⟨_, rfl, by rw [HT.out]; rfl, hb⟩) ?_
        refine rs_peel ?_
        refine rs_old quietRS_ok quiet_any _ (.inl rfl) _ rfl rfl ?_
        refine rs_peel ?_
        apply rs_eq quietRS_ok quiet_any
        · intro ρ w' ho hK
          have ho : Only _ w6 w' := ho
          obtain ⟨h0, h1, -⟩ := hK
          have h0' : ρ (.const (Value.int IntKind.i64 1)) = (Value.int IntKind.i64 1) := h0
          have h1' : ρ (.tmp 51) = _ := h1
          go_simp
          try exact rfl
        refine rs_peel ?_
        apply rs_eq quietRS_ok quiet_any
        · intro ρ w' ho hK
          have ho : Only _ w6 w' := ho
          obtain ⟨h0, h1, -⟩ := hK
          have h0' : ρ (.tmp 50) = _ := h0
          have h1' : ρ (.tmp 52) = _ := h1
          go_simp
          try exact rfl
        refine rs_peel ?_
        refine rs_same quietRS_ok quiet_any 53 8 (.inl rfl) rfl _ rfl ?_
        refine rs_run rfl ?_
        refine rs_old quietRS_ok quiet_any _ (.inl rfl) _ rfl rfl ?_
        refine rs_run rfl ?_
        apply rs_eq quietRS_ok quiet_any
        · intro ρ w' ho hK
          have ho : Only _ w6 w' := ho
          obtain ⟨h0, -⟩ := hK
          have h0' : ρ (.tmp 55) = _ := h0
          go_simp
          try exact rfl
        refine rs_run rfl ?_
        apply rs_eq quietRS_ok quiet_any
        · intro ρ w' ho hK
          have ho : Only _ w6 w' := ho
          obtain ⟨h0, h1, -⟩ := hK
          have h0' : ρ (.tmp 56) = _ := h0
          have h1' : ρ (.const (Value.int IntKind.i64 1)) = (Value.int IntKind.i64 1) := h1
          go_simp
          try exact rfl
        refine rs_peel ?_
        apply rs_eq quietRS_ok quiet_any
        · intro ρ w' ho hK
          have ho : Only _ w6 w' := ho
          obtain ⟨h0, h1, h2, -⟩ := hK
          have h0' : ρ (.tmp 54) = _ := h0
          have h1' : ρ (.tmp 57) = _ := h1
          have h2' : ρ (.const (Value.bool false)) = (Value.bool false) := h2
          go_simp
          try exact rfl
        refine rs_peel ?_
        refine rs_same quietRS_ok quiet_any 58 13 (.inl rfl) rfl _ rfl ?_
        refine rs_run rfl ?_
        refine rs_old quietRS_ok quiet_any _ (.inl rfl) _ rfl rfl ?_
        refine rs_run rfl ?_
        apply rs_eq quietRS_ok quiet_any
        · intro ρ w' ho hK
          have ho : Only _ w6 w' := ho
          obtain ⟨h0, h1, -⟩ := hK
          have h0' : ρ (.tmp 60) = _ := h0
          have h1' : ρ (.const (Value.int IntKind.i64 0)) = (Value.int IntKind.i64 0) := h1
          go_simp
          try exact rfl
        refine rs_run rfl ?_
        apply rs_eq quietRS_ok quiet_any
        · intro ρ w' ho hK
          have ho : Only _ w6 w' := ho
          obtain ⟨h0, -⟩ := hK
          have h0' : ρ (.tmp 61) = _ := h0
          have hb := only_below ho
          have q0 := (hb.cell (p := ⟨gb, 0, none⟩) z).trans p0
          have q1 := (hb.cell (p := ⟨gb, 1, none⟩) z).trans p1
          have q2 := (hb.cell (p := ⟨gb, 2, none⟩) z).trans p2
          have q3 := (hb.cell (p := ⟨gb, 3, none⟩) z).trans p3
          have q4 := Hout.out _ hb
          obtain ⟨q5, q6⟩ := Hcube.out _ hb
          go_simp
          try exact rfl
        refine rs_run rfl ?_
        refine rs_old quietRS_ok quiet_any _ (.inl rfl) _ rfl rfl ?_
        refine rs_run rfl ?_
        apply rs_eq quietRS_ok quiet_any
        · intro ρ w' ho hK
          have ho : Only _ w6 w' := ho
          obtain ⟨h0, h1, -⟩ := hK
          have h0' : ρ (.const (Value.int IntKind.i64 1)) = (Value.int IntKind.i64 1) := h0
          have h1' : ρ (.tmp 63) = _ := h1
          go_simp
          try exact rfl
        refine rs_run rfl ?_
        apply rs_eq quietRS_ok quiet_any
        · intro ρ w' ho hK
          have ho : Only _ w6 w' := ho
          obtain ⟨h0, h1, -⟩ := hK
          have h0' : ρ (.tmp 64) = _ := h0
          have h1' : ρ (.const (Value.int IntKind.i64 1)) = (Value.int IntKind.i64 1) := h1
          go_simp
          try exact rfl
        refine rs_run rfl ?_
        refine rs_old quietRS_ok quiet_any _ (.inl rfl) _ rfl rfl ?_
        refine rs_run rfl ?_
        apply rs_eq quietRS_ok quiet_any
        · intro ρ w' ho hK
          have ho : Only _ w6 w' := ho
          obtain ⟨h0, h1, -⟩ := hK
          have h0' : ρ (.tmp 65) = _ := h0
          have h1' : ρ (.tmp 66) = _ := h1
          go_simp
          try exact rfl
        refine rs_run rfl ?_
        apply rs_eq quietRS_ok quiet_any
        · intro ρ w' ho hK
          have ho : Only _ w6 w' := ho
          obtain ⟨h0, h1, -⟩ := hK
          have h0' : ρ (.tmp 62) = _ := h0
          have h1' : ρ (.tmp 67) = _ := h1
          go_simp
          try exact rfl
        refine rs_peel ?_
        apply rs_eq quietRS_ok quiet_any
        · intro ρ w' ho hK
          have ho : Only _ w6 w' := ho
          obtain ⟨h0, h1, h2, -⟩ := hK
          have h0' : ρ (.tmp 59) = _ := h0
          have h1' : ρ (.tmp 68) = _ := h1
          have h2' : ρ (.const (Value.bool false)) = (Value.bool false) := h2
          go_simp
          try exact rfl
        refine rs_peel ?_
        refine rs_same quietRS_ok quiet_any 69 24 (.inr rfl) rfl _ rfl ?_
        refine ⟨⟨rfl, rfl, trivial⟩, ?_⟩
        intro f w9 k9 hk9 hI9 ht9 hcp9
        have E0 : f 0 = _ := ht9 0 (Nat.le_of_ble_eq_true rfl)
        have E1 : f 1 = _ := ht9 1 (Nat.le_of_ble_eq_true rfl)
        have E2 : f 2 = _ := ht9 2 (Nat.le_of_ble_eq_true rfl)
        have E3 : f 3 = _ := ht9 3 (Nat.le_of_ble_eq_true rfl)
        have E4 : f 4 = _ := ht9 4 (Nat.le_of_ble_eq_true rfl)
        have E5 : f 5 = _ := ht9 5 (Nat.le_of_ble_eq_true rfl)
        have E6 : f 6 = _ := ht9 6 (Nat.le_of_ble_eq_true rfl)
        conv at E6 => rhs; whnf
        have E7 : f 7 = _ := ht9 7 (Nat.le_of_ble_eq_true rfl)
        have E8 : f 8 = _ := ht9 8 (Nat.le_of_ble_eq_true rfl)
        have E9 : f 9 = _ := ht9 9 (Nat.le_of_ble_eq_true rfl)
        have E10 : f 10 = _ := ht9 10 (Nat.le_of_ble_eq_true rfl)
        conv at E10 => rhs; whnf
        have E11 : f 11 = _ := ht9 11 (Nat.le_of_ble_eq_true rfl)
        have E12 : f 12 = _ := ht9 12 (Nat.le_of_ble_eq_true rfl)
        have E13 : f 13 = _ := ht9 13 (Nat.le_of_ble_eq_true rfl)
        have E14 : f 14 = _ := ht9 14 (Nat.le_of_ble_eq_true rfl)
        have E15 : f 15 = _ := ht9 15 (Nat.le_of_ble_eq_true rfl)
        conv at E15 => rhs; whnf
        have E16 : f 16 = _ := ht9 16 (Nat.le_of_ble_eq_true rfl)
        have E17 : f 17 = _ := ht9 17 (Nat.le_of_ble_eq_true rfl)
        have E18 : f 18 = _ := ht9 18 (Nat.le_of_ble_eq_true rfl)
        conv at E18 => rhs; whnf
        have E19 : f 19 = _ := ht9 19 (Nat.le_of_ble_eq_true rfl)
        have E20 : f 20 = _ := ht9 20 (Nat.le_of_ble_eq_true rfl)
        have E21 : f 21 = _ := ht9 21 (Nat.le_of_ble_eq_true rfl)
        conv at E21 => rhs; whnf
        have E22 : f 22 = _ := ht9 22 (Nat.le_of_ble_eq_true rfl)
        have E23 : f 23 = _ := ht9 23 (Nat.le_of_ble_eq_true rfl)
        have E24 : f 24 = _ := ht9 24 (Nat.le_of_ble_eq_true rfl)
        have E25 : f 25 = _ := ht9 25 (Nat.le_of_ble_eq_true rfl)
        have Ho9 : Only _ w6 w9 := hI9.2.1
        simp only [putAll, E0, E1, E2, E3, E4, E5, E6, E7, E8, E9, E10, E11, E12, E13, E14, E15, E16, E17, E18, E19, E20, E21, E22, E23, E24, E25, Nat.zero_add, Nat.reduceAdd, Act.put, List.setIfInBounds_toArray, List.set_cons_succ, List.set_cons_zero]
        clear E0 E1 E2 E3 E4 E5 E6 E7 E8 E9 E10 E11 E12 E13 E14 E15 E16 E17 E18 E19 E20 E21 E22 E23 E24 E25
        clear hI9 ht9 hcp9 hk9
        have B9 := Lib.hid (B.out.trans ((only_below Ho9).mono B.out.size))
        go_wp2_with fail
        go_ret
        exact ⟨rfl, B9.out⟩
      · go_wp2_with fail
        refine (implMin_any 2 1 _).mono ?_
        rintro e w6 ⟨v6, rfl, hO6, hb⟩
        rw [dm11] at hO6
        obtain ⟨bc, oc, kc, e6, hcube⟩ := one_cube (F := 1) (V := 1) hO6
        subst e6
        replace PC := Lib.hid (PC.out.below hb)
        replace HC := Lib.hid (HC.out.below hb)
        replace B := Lib.hid (B.out.trans (hb.mono B.out.size))
        clear hb hO6
        have hT := dt11
        rw [← Hc.out] at hT
        obtain ⟨bo, oo, hAo, hout⟩ := outs_cell HC.out hT.1
        subst hAo
        have hl1 : c.outs.length = 1 := by rw [hT.1]; rfl
        rw [hl1] at PC HC
        have HT := Lib.hid hT.2
        have Hout := Lib.hid hout
        have Hcube := Lib.hid hcube
        clear hT hl1 hout hcube Hc
        obtain ⟨z, p0, p1, p2, p3⟩ := PC.out
        go_wp2_with fail
        refine wp_region_rsG [(9, true), (14, true)] (quietRS Try.prog _ w6 _) quietRS_ok (by kernel_rfl) (by kernel_rfl) (by kernel_rfl) (Nat.le_of_ble_eq_true rfl) trivial trivial ?_
        refine rs_peel ?_
        apply rs_eq quietRS_ok quiet_any
        · intro ρ w' ho hK
          have ho : Only _ w6 w' := ho
          obtain ⟨h0, -⟩ := hK
          have h0' : ρ (.tmp 5) = _ := h0
          have hb := only_below ho
          have q0 := (hb.cell (p := ⟨gb, 0, none⟩) z).trans p0
          have q1 := (hb.cell (p := ⟨gb, 1, none⟩) z).trans p1
          have q2 := (hb.cell (p := ⟨gb, 2, none⟩) z).trans p2
          have q3 := (hb.cell (p := ⟨gb, 3, none⟩) z).trans p3
          have q4 := Hout.out _ hb
          obtain ⟨q5, q6⟩ := Hcube.out _ hb
          go_simp
          try exact rfl
        refine rs_peel ?_
        apply rs_eq quietRS_ok quiet_any
        · intro ρ w' ho hK
          have ho : Only _ w6 w' := ho
          obtain ⟨h0, -⟩ := hK
          have h0' : ρ (.tmp 5) = _ := h0
          go_simp
          try exact rfl
        refine rs_peel ?_
        apply rs_eq quietRS_ok quiet_any
        · intro ρ w' ho hK
          have ho : Only _ w6 w' := ho
          obtain ⟨h0, -⟩ := hK
          have h0' : ρ (.tmp 46) = _ := h0
          have hb := only_below ho
          have q0 := (hb.cell (p := ⟨gb, 0, none⟩) z).trans p0
          have q1 := (hb.cell (p := ⟨gb, 1, none⟩) z).trans p1
          have q2 := (hb.cell (p := ⟨gb, 2, none⟩) z).trans p2
          have q3 := (hb.cell (p := ⟨gb, 3, none⟩) z).trans p3
          have q4 := Hout.out _ hb
          obtain ⟨q5, q6⟩ := Hcube.out _ hb
          go_simp
          try exact rfl
        refine rs_peel ?_
        apply rs_eq quietRS_ok quiet_any
        · intro ρ w' ho hK
          have ho : Only _ w6 w' := ho
          obtain ⟨h0, h1, -⟩ := hK
          have h0' : ρ (.tmp 47) = _ := h0
          have h1' : ρ (.const (Value.int IntKind.i64 0)) = (Value.int IntKind.i64 0) := h1
          go_simp
          try exact rfl
        refine rs_peel ?_
        apply rs_eq quietRS_ok quiet_any
        · intro ρ w' ho hK
          have ho : Only _ w6 w' := ho
          obtain ⟨h0, -⟩ := hK
          have h0' : ρ (.tmp 48) = _ := h0
          have hb := only_below ho
          have q0 := (hb.cell (p := ⟨gb, 0, none⟩) z).trans p0
          have q1 := (hb.cell (p := ⟨gb, 1, none⟩) z).trans p1
          have q2 := (hb.cell (p := ⟨gb, 2, none⟩) z).trans p2
          have q3 := (hb.cell (p := ⟨gb, 3, none⟩) z).trans p3
          have q4 := Hout.out _ hb
          obtain ⟨q5, q6⟩ := Hcube.out _ hb
          go_simp
          try exact rfl
        refine rs_peel ?_
        refine rs_call quietRS_ok quiet_any (TEq (.int .i64 2)) (stb_eq _ _) 30 _ _ rfl (fun ρ w' ho hK => by
          have ho : Only _ w6 w' := ho
          obtain ⟨h0, h1, h2, -⟩ := hK
          have h0' : ρ (.func 30) = .func (.func 30) #[] #[] := h0
          have h1' : ρ (.tmp 45) = _ := h1
          have h2' : ρ (.tmp 49) = _ := h2
          refine ⟨#[ρ (.tmp 45), ρ (.tmp 49)], ?_, ?_⟩
          · go_simp
          · rw [h1', h2']
            refine (implTable_any _ c 2 w' (HC.out.below (only_below ho))).mono ?_
            rintro e w2 ⟨rfl, hb⟩
            exact ⟨_, rfl, by rw [HT.out]; rfl, hb⟩) ?_
        refine rs_peel ?_
        refine rs_old quietRS_ok quiet_any _ (.inl rfl) _ rfl rfl ?_
        refine rs_peel ?_
        apply rs_eq quietRS_ok quiet_any
        · intro ρ w' ho hK
          have ho : Only _ w6 w' := ho
          obtain ⟨h0, h1, -⟩ := hK
          have h0' : ρ (.const (Value.int IntKind.i64 1)) = (Value.int IntKind.i64 1) := h0
          have h1' : ρ (.tmp 51) = _ := h1
          go_simp
          try exact rfl
        refine rs_peel ?_
        apply rs_eq quietRS_ok quiet_any
        · intro ρ w' ho hK
          have ho : Only _ w6 w' := ho
          obtain ⟨h0, h1, -⟩ := hK
          have h0' : ρ (.tmp 50) = _ := h0
          have h1' : ρ (.tmp 52) = _ := h1
          go_simp
          try exact rfl
        refine rs_peel ?_
        refine rs_same quietRS_ok quiet_any 53 8 (.inl rfl) rfl _ rfl ?_
        refine rs_run rfl ?_
        refine rs_old quietRS_ok quiet_any _ (.inl rfl) _ rfl rfl ?_
        refine rs_run rfl ?_
        apply rs_eq quietRS_ok quiet_any
        · intro ρ w' ho hK
          have ho : Only _ w6 w' := ho
          obtain ⟨h0, -⟩ := hK
          have h0' : ρ (.tmp 55) = _ := h0
          go_simp
          try exact rfl
        refine rs_run rfl ?_
        apply rs_eq quietRS_ok quiet_any
        · intro ρ w' ho hK
          have ho : Only _ w6 w' := ho
          obtain ⟨h0, h1, -⟩ := hK
          have h0' : ρ (.tmp 56) = _ := h0
          have h1' : ρ (.const (Value.int IntKind.i64 1)) = (Value.int IntKind.i64 1) := h1
          go_simp
          try exact rfl
        refine rs_peel ?_
        apply rs_eq quietRS_ok quiet_any
        · intro ρ w' ho hK
          have ho : Only _ w6 w' := ho
          obtain ⟨h0, h1, h2, -⟩ := hK
          have h0' : ρ (.tmp 54) = _ := h0
          have h1' : ρ (.tmp 57) = _ := h1
          have h2' : ρ (.const (Value.bool false)) = (Value.bool false) := h2
          go_simp
          try exact rfl
        refine rs_peel ?_
        refine rs_same quietRS_ok quiet_any 58 13 (.inl rfl) rfl _ rfl ?_
        refine rs_run rfl ?_
        refine rs_old quietRS_ok quiet_any _ (.inl rfl) _ rfl rfl ?_
        refine rs_run rfl ?_
        apply rs_eq quietRS_ok quiet_any
        · intro ρ w' ho hK
          have ho : Only _ w6 w' := ho
          obtain ⟨h0, h1, -⟩ := hK
          have h0' : ρ (.tmp 60) = _ := h0
          have h1' : ρ (.const (Value.int IntKind.i64 0)) = (Value.int IntKind.i64 0) := h1
          go_simp
          try exact rfl
        refine rs_run rfl ?_
        apply rs_eq quietRS_ok quiet_any
        · intro ρ w' ho hK
          have ho : Only _ w6 w' := ho
          obtain ⟨h0, -⟩ := hK
          have h0' : ρ (.tmp 61) = _ := h0
          have hb := only_below ho
          have q0 := (hb.cell (p := ⟨gb, 0, none⟩) z).trans p0
          have q1 := (hb.cell (p := ⟨gb, 1, none⟩) z).trans p1
          have q2 := (hb.cell (p := ⟨gb, 2, none⟩) z).trans p2
          have q3 := (hb.cell (p := ⟨gb, 3, none⟩) z).trans p3
          have q4 := Hout.out _ hb
          obtain ⟨q5, q6⟩ := Hcube.out _ hb
          go_simp
          try exact rfl
        refine rs_run rfl ?_
        refine rs_old quietRS_ok quiet_any _ (.inl rfl) _ rfl rfl ?_
        refine rs_run rfl ?_
        apply rs_eq quietRS_ok quiet_any
        · intro ρ w' ho hK
          have ho : Only _ w6 w' := ho
          obtain ⟨h0, h1, -⟩ := hK
          have h0' : ρ (.const (Value.int IntKind.i64 1)) = (Value.int IntKind.i64 1) := h0
          have h1' : ρ (.tmp 63) = _ := h1
          go_simp
          try exact rfl
        refine rs_run rfl ?_
        apply rs_eq quietRS_ok quiet_any
        · intro ρ w' ho hK
          have ho : Only _ w6 w' := ho
          obtain ⟨h0, h1, -⟩ := hK
          have h0' : ρ (.tmp 64) = _ := h0
          have h1' : ρ (.const (Value.int IntKind.i64 1)) = (Value.int IntKind.i64 1) := h1
          go_simp
          try exact rfl
        refine rs_run rfl ?_
        refine rs_old quietRS_ok quiet_any _ (.inl rfl) _ rfl rfl ?_
        refine rs_run rfl ?_
        apply rs_eq quietRS_ok quiet_any
        · intro ρ w' ho hK
          have ho : Only _ w6 w' := ho
          obtain ⟨h0, h1, -⟩ := hK
          have h0' : ρ (.tmp 65) = _ := h0
          have h1' : ρ (.tmp 66) = _ := h1
          go_simp
          try exact rfl
        refine rs_run rfl ?_
        apply rs_eq quietRS_ok quiet_any
        · intro ρ w' ho hK
          have ho : Only _ w6 w' := ho
          obtain ⟨h0, h1, -⟩ := hK
          have h0' : ρ (.tmp 62) = _ := h0
          have h1' : ρ (.tmp 67) = _ := h1
          go_simp
          try exact rfl
        refine rs_peel ?_
        apply rs_eq quietRS_ok quiet_any
        · intro ρ w' ho hK
          have ho : Only _ w6 w' := ho
          obtain ⟨h0, h1, h2, -⟩ := hK
          have h0' : ρ (.tmp 59) = _ := h0
          have h1' : ρ (.tmp 68) = _ := h1
          have h2' : ρ (.const (Value.bool false)) = (Value.bool false) := h2
          go_simp
          try exact rfl
        refine rs_peel ?_
        refine rs_same quietRS_ok quiet_any 69 24 (.inr rfl) rfl _ rfl ?_
        refine ⟨⟨rfl, rfl, trivial⟩, ?_⟩
        intro f w9 k9 hk9 hI9 ht9 hcp9
        have E0 : f 0 = _ := ht9 0 (Nat.le_of_ble_eq_true rfl)
        have E1 : f 1 = _ := ht9 1 (Nat.le_of_ble_eq_true rfl)
        have E2 : f 2 = _ := ht9 2 (Nat.le_of_ble_eq_true rfl)
        have E3 : f 3 = _ := ht9 3 (Nat.le_of_ble_eq_true rfl)
        have E4 : f 4 = _ := ht9 4 (Nat.le_of_ble_eq_true rfl)
        have E5 : f 5 = _ := ht9 5 (Nat.le_of_ble_eq_true rfl)
        have E6 : f 6 = _ := ht9 6 (Nat.le_of_ble_eq_true rfl)
        conv at E6 => rhs; whnf
        have E7 : f 7 = _ := ht9 7 (Nat.le_of_ble_eq_true rfl)
        have E8 : f 8 = _ := ht9 8 (Nat.le_of_ble_eq_true rfl)
        have E9 : f 9 = _ := ht9 9 (Nat.le_of_ble_eq_true rfl)
        have E10 : f 10 = _ := ht9 10 (Nat.le_of_ble_eq_true rfl)
        conv at E10 => rhs; whnf
        have E11 : f 11 = _ := ht9 11 (Nat.le_of_ble_eq_true rfl)
        have E12 : f 12 = _ := ht9 12 (Nat.le_of_ble_eq_true rfl)
        have E13 : f 13 = _ := ht9 13 (Nat.le_of_ble_eq_true rfl)
        have E14 : f 14 = _ := ht9 14 (Nat.le_of_ble_eq_true rfl)
        have E15 : f 15 = _ := ht9 15 (Nat.le_of_ble_eq_true rfl)
        conv at E15 => rhs; whnf
        have E16 : f 16 = _ := ht9 16 (Nat.le_of_ble_eq_true rfl)
        have E17 : f 17 = _ := ht9 17 (Nat.le_of_ble_eq_true rfl)
        have E18 : f 18 = _ := ht9 18 (Nat.le_of_ble_eq_true rfl)
        conv at E18 => rhs; whnf
        have E19 : f 19 = _ := ht9 19 (Nat.le_of_ble_eq_true rfl)
        have E20 : f 20 = _ := ht9 20 (Nat.le_of_ble_eq_true rfl)
        have E21 : f 21 = _ := ht9 21 (Nat.le_of_ble_eq_true rfl)
        conv at E21 => rhs; whnf
        have E22 : f 22 = _ := ht9 22 (Nat.le_of_ble_eq_true rfl)
        have E23 : f 23 = _ := ht9 23 (Nat.le_of_ble_eq_true rfl)
        have E24 : f 24 = _ := ht9 24 (Nat.le_of_ble_eq_true rfl)
        have E25 : f 25 = _ := ht9 25 (Nat.le_of_ble_eq_true rfl)
        have Ho9 : Only _ w6 w9 := hI9.2.1
        simp only [putAll, E0, E1, E2, E3, E4, E5, E6, E7, E8, E9, E10, E11, E12, E13, E14, E15, E16, E17, E18, E19, E20, E21, E22, E23, E24, E25, Nat.zero_add, Nat.reduceAdd, Act.put, List.setIfInBounds_toArray, List.set_cons_succ, List.set_cons_zero]
        clear E0 E1 E2 E3 E4 E5 E6 E7 E8 E9 E10 E11 E12 E13 E14 E15 E16 E17 E18 E19 E20 E21 E22 E23 E24 E25
        clear hI9 ht9 hcp9 hk9
        have B9 := Lib.hid (B.out.trans ((only_below Ho9).mono B.out.size))
        go_wp2_with fail
        go_ret
        exact ⟨rfl, B9.out⟩
    · by_cases c4 : y ≥ 4
      · have d4 : decide (y ≥ 4) = true := decide_eq_true c4
        clear Hc
        go_wp2_with fail
        refine (alive_any _).mono ?_
        rintro e wb ⟨rfl, hb⟩
        replace B := Lib.hid (B.out.trans (hb.mono B.out.size))
        clear hb
        go_wp2_with fail
        go_ret
        exact ⟨rfl, B.out⟩
      rcases (show y = 0 ∨ y = 1 ∨ y = 2 ∨ y = 3 by omega) with rfl | rfl | rfl | rfl
      · go_wp2_with fail
        refine (implMin_any 1 2 _).mono ?_
        rintro e w6 ⟨v6, rfl, hO6, hb⟩
        rw [dm20] at hO6
        obtain ⟨bc, oc, kc, e6, hcube⟩ := one_cube (F := 3) (V := 0) hO6
        subst e6
        replace PC := Lib.hid (PC.out.below hb)
        replace HC := Lib.hid (HC.out.below hb)
        replace B := Lib.hid (B.out.trans (hb.mono B.out.size))
        clear hb hO6
        have hT := dt20
        rw [← Hc.out] at hT
        obtain ⟨bo, oo, hAo, hout⟩ := outs_cell HC.out hT.1
        subst hAo
        have hl1 : c.outs.length = 1 := by rw [hT.1]; rfl
        rw [hl1] at PC HC
        have HT := Lib.hid hT.2
        have Hout := Lib.hid hout
        have Hcube := Lib.hid hcube
        clear hT hl1 hout hcube Hc
        obtain ⟨z, p0, p1, p2, p3⟩ := PC.out
        go_wp2_with fail
        refine wp_region_rsG [(9, true), (14, true)] (quietRS Try.prog _ w6 _) quietRS_ok (by kernel_rfl) (by kernel_rfl) (by kernel_rfl) (Nat.le_of_ble_eq_true rfl) trivial trivial ?_
        refine rs_peel ?_
        apply rs_eq quietRS_ok quiet_any
        · intro ρ w' ho hK
          have ho : Only _ w6 w' := ho
          obtain ⟨h0, -⟩ := hK
          have h0' : ρ (.tmp 5) = _ := h0
          have hb := only_below ho
          have q0 := (hb.cell (p := ⟨gb, 0, none⟩) z).trans p0
          have q1 := (hb.cell (p := ⟨gb, 1, none⟩) z).trans p1
          have q2 := (hb.cell (p := ⟨gb, 2, none⟩) z).trans p2
          have q3 := (hb.cell (p := ⟨gb, 3, none⟩) z).trans p3
          have q4 := Hout.out _ hb
          obtain ⟨q5, q6⟩ := Hcube.out _ hb
          go_simp
          try exact rfl
        refine rs_peel ?_
        apply rs_eq quietRS_ok quiet_any
        · intro ρ w' ho hK
          have ho : Only _ w6 w' := ho
          obtain ⟨h0, -⟩ := hK
          have h0' : ρ (.tmp 5) = _ := h0
          go_simp
          try exact rfl
        refine rs_peel ?_
        apply rs_eq quietRS_ok quiet_any
        · intro ρ w' ho hK
          have ho : Only _ w6 w' := ho
          obtain ⟨h0, -⟩ := hK
          have h0' : ρ (.tmp 46) = _ := h0
          have hb := only_below ho
          have q0 := (hb.cell (p := ⟨gb, 0, none⟩) z).trans p0
          have q1 := (hb.cell (p := ⟨gb, 1, none⟩) z).trans p1
          have q2 := (hb.cell (p := ⟨gb, 2, none⟩) z).trans p2
          have q3 := (hb.cell (p := ⟨gb, 3, none⟩) z).trans p3
          have q4 := Hout.out _ hb
          obtain ⟨q5, q6⟩ := Hcube.out _ hb
          go_simp
          try exact rfl
        refine rs_peel ?_
        apply rs_eq quietRS_ok quiet_any
        · intro ρ w' ho hK
          have ho : Only _ w6 w' := ho
          obtain ⟨h0, h1, -⟩ := hK
          have h0' : ρ (.tmp 47) = _ := h0
          have h1' : ρ (.const (Value.int IntKind.i64 0)) = (Value.int IntKind.i64 0) := h1
          go_simp
          try exact rfl
        refine rs_peel ?_
        apply rs_eq quietRS_ok quiet_any
        · intro ρ w' ho hK
          have ho : Only _ w6 w' := ho
          obtain ⟨h0, -⟩ := hK
          have h0' : ρ (.tmp 48) = _ := h0
          have hb := only_below ho
          have q0 := (hb.cell (p := ⟨gb, 0, none⟩) z).trans p0
          have q1 := (hb.cell (p := ⟨gb, 1, none⟩) z).trans p1
          have q2 := (hb.cell (p := ⟨gb, 2, none⟩) z).trans p2
          have q3 := (hb.cell (p := ⟨gb, 3, none⟩) z).trans p3
          have q4 := Hout.out _ hb
          obtain ⟨q5, q6⟩ := Hcube.out _ hb
          go_simp
          try exact rfl
        refine rs_peel ?_
        refine rs_call quietRS_ok quiet_any (TEq (.int .i64 1)) (stb_eq _ _) 30 _ _ rfl (fun ρ w' ho hK => by
          have ho : Only _ w6 w' := ho
          obtain ⟨h0, h1, h2, -⟩ := hK
          have h0' : ρ (.func 30) = .func (.func 30) #[] #[] := h0
          have h1' : ρ (.tmp 45) = _ := h1
          have h2' : ρ (.tmp 49) = _ := h2
          refine ⟨#[ρ (.tmp 45), ρ (.tmp 49)], ?_, ?_⟩
          · go_simp
          · rw [h1', h2']
            refine (implTable_any _ c 6 w' (HC.out.below (only_below ho))).mono ?_
            rintro e w2 ⟨rfl, hb⟩
            exact ⟨_, rfl, by rw [HT.out]; rfl, hb⟩) ?_
        refine rs_peel ?_
        refine rs_old quietRS_ok quiet_any _ (.inl rfl) _ rfl rfl ?_
        refine rs_peel ?_
        apply rs_eq quietRS_ok quiet_any
        · intro ρ w' ho hK
          have ho : Only _ w6 w' := ho
          obtain ⟨h0, h1, -⟩ := hK
          have h0' : ρ (.const (Value.int IntKind.i64 1)) = (Value.int IntKind.i64 1) := h0
          have h1' : ρ (.tmp 51) = _ := h1
          go_simp
          try exact rfl
        refine rs_peel ?_
        apply rs_eq quietRS_ok quiet_any
        · intro ρ w' ho hK
          have ho : Only _ w6 w' := ho
          obtain ⟨h0, h1, -⟩ := hK
          have h0' : ρ (.tmp 50) = _ := h0
          have h1' : ρ (.tmp 52) = _ := h1
          go_simp
          try exact rfl
        refine rs_peel ?_
        refine rs_same quietRS_ok quiet_any 53 8 (.inl rfl) rfl _ rfl ?_
        refine rs_run rfl ?_
        refine rs_old quietRS_ok quiet_any _ (.inl rfl) _ rfl rfl ?_
        refine rs_run rfl ?_
        apply rs_eq quietRS_ok quiet_any
        · intro ρ w' ho hK
          have ho : Only _ w6 w' := ho
          obtain ⟨h0, -⟩ := hK
          have h0' : ρ (.tmp 55) = _ := h0
          go_simp
          try exact rfl
        refine rs_run rfl ?_
        apply rs_eq quietRS_ok quiet_any
        · intro ρ w' ho hK
          have ho : Only _ w6 w' := ho
          obtain ⟨h0, h1, -⟩ := hK
          have h0' : ρ (.tmp 56) = _ := h0
          have h1' : ρ (.const (Value.int IntKind.i64 1)) = (Value.int IntKind.i64 1) := h1
          go_simp
          try exact rfl
        refine rs_peel ?_
        apply rs_eq quietRS_ok quiet_any
        · intro ρ w' ho hK
          have ho : Only _ w6 w' := ho
          obtain ⟨h0, h1, h2, -⟩ := hK
          have h0' : ρ (.tmp 54) = _ := h0
          have h1' : ρ (.tmp 57) = _ := h1
          have h2' : ρ (.const (Value.bool false)) = (Value.bool false) := h2
          go_simp
          try exact rfl
        refine rs_peel ?_
        refine rs_same quietRS_ok quiet_any 58 13 (.inl rfl) rfl _ rfl ?_
        refine rs_run rfl ?_
        refine rs_old quietRS_ok quiet_any _ (.inl rfl) _ rfl rfl ?_
        refine rs_run rfl ?_
        apply rs_eq quietRS_ok quiet_any
        · intro ρ w' ho hK
          have ho : Only _ w6 w' := ho
          obtain ⟨h0, h1, -⟩ := hK
          have h0' : ρ (.tmp 60) = _ := h0
          have h1' : ρ (.const (Value.int IntKind.i64 0)) = (Value.int IntKind.i64 0) := h1
          go_simp
          try exact rfl
        refine rs_run rfl ?_
        apply rs_eq quietRS_ok quiet_any
        · intro ρ w' ho hK
          have ho : Only _ w6 w' := ho
          obtain ⟨h0, -⟩ := hK
          have h0' : ρ (.tmp 61) = _ := h0
          have hb := only_below ho
          have q0 := (hb.cell (p := ⟨gb, 0, none⟩) z).trans p0
          have q1 := (hb.cell (p := ⟨gb, 1, none⟩) z).trans p1
          have q2 := (hb.cell (p := ⟨gb, 2, none⟩) z).trans p2
          have q3 := (hb.cell (p := ⟨gb, 3, none⟩) z).trans p3
          have q4 := Hout.out _ hb
          obtain ⟨q5, q6⟩ := Hcube.out _ hb
          go_simp
          try exact rfl
        refine rs_run rfl ?_
        refine rs_old quietRS_ok quiet_any _ (.inl rfl) _ rfl rfl ?_
        refine rs_run rfl ?_
        apply rs_eq quietRS_ok quiet_any
        · intro ρ w' ho hK
          have ho : Only _ w6 w' := ho
          obtain ⟨h0, h1, -⟩ := hK
          have h0' : ρ (.const (Value.int IntKind.i64 1)) = (Value.int IntKind.i64 1) := h0
          have h1' : ρ (.tmp 63) = _ := h1
          go_simp
          try exact rfl
        refine rs_run rfl ?_
        apply rs_eq quietRS_ok quiet_any
        · intro ρ w' ho hK
          have ho : Only _ w6 w' := ho
          obtain ⟨h0, h1, -⟩ := hK
          have h0' : ρ (.tmp 64) = _ := h0
          have h1' : ρ (.const (Value.int IntKind.i64 1)) = (Value.int IntKind.i64 1) := h1
          go_simp
          try exact rfl
        refine rs_run rfl ?_
        refine rs_old quietRS_ok quiet_any _ (.inl rfl) _ rfl rfl ?_
        refine rs_run rfl ?_
        apply rs_eq quietRS_ok quiet_any
        · intro ρ w' ho hK
          have ho : Only _ w6 w' := ho
          obtain ⟨h0, h1, -⟩ := hK
          have h0' : ρ (.tmp 65) = _ := h0
          have h1' : ρ (.tmp 66) = _ := h1
          go_simp
          try exact rfl
        refine rs_run rfl ?_
        apply rs_eq quietRS_ok quiet_any
        · intro ρ w' ho hK
          have ho : Only _ w6 w' := ho
          obtain ⟨h0, h1, -⟩ := hK
          have h0' : ρ (.tmp 62) = _ := h0
          have h1' : ρ (.tmp 67) = _ := h1
          go_simp
          try exact rfl
        refine rs_peel ?_
        apply rs_eq quietRS_ok quiet_any
        · intro ρ w' ho hK
          have ho : Only _ w6 w' := ho
          obtain ⟨h0, h1, h2, -⟩ := hK
          have h0' : ρ (.tmp 59) = _ := h0
          have h1' : ρ (.tmp 68) = _ := h1
          have h2' : ρ (.const (Value.bool false)) = (Value.bool false) := h2
          go_simp
          try exact rfl
        refine rs_peel ?_
        refine rs_same quietRS_ok quiet_any 69 24 (.inr rfl) rfl _ rfl ?_
        refine ⟨⟨rfl, rfl, trivial⟩, ?_⟩
        intro f w9 k9 hk9 hI9 ht9 hcp9
        have E0 : f 0 = _ := ht9 0 (Nat.le_of_ble_eq_true rfl)
        have E1 : f 1 = _ := ht9 1 (Nat.le_of_ble_eq_true rfl)
        have E2 : f 2 = _ := ht9 2 (Nat.le_of_ble_eq_true rfl)
        have E3 : f 3 = _ := ht9 3 (Nat.le_of_ble_eq_true rfl)
        have E4 : f 4 = _ := ht9 4 (Nat.le_of_ble_eq_true rfl)
        have E5 : f 5 = _ := ht9 5 (Nat.le_of_ble_eq_true rfl)
        have E6 : f 6 = _ := ht9 6 (Nat.le_of_ble_eq_true rfl)
        conv at E6 => rhs; whnf
        have E7 : f 7 = _ := ht9 7 (Nat.le_of_ble_eq_true rfl)
        have E8 : f 8 = _ := ht9 8 (Nat.le_of_ble_eq_true rfl)
        have E9 : f 9 = _ := ht9 9 (Nat.le_of_ble_eq_true rfl)
        have E10 : f 10 = _ := ht9 10 (Nat.le_of_ble_eq_true rfl)
        conv at E10 => rhs; whnf
        have E11 : f 11 = _ := ht9 11 (Nat.le_of_ble_eq_true rfl)
        have E12 : f 12 = _ := ht9 12 (Nat.le_of_ble_eq_true rfl)
        have E13 : f 13 = _ := ht9 13 (Nat.le_of_ble_eq_true rfl)
        have E14 : f 14 = _ := ht9 14 (Nat.le_of_ble_eq_true rfl)
        have E15 : f 15 = _ := ht9 15 (Nat.le_of_ble_eq_true rfl)
        conv at E15 => rhs; whnf
        have E16 : f 16 = _ := ht9 16 (Nat.le_of_ble_eq_true rfl)
        have E17 : f 17 = _ := ht9 17 (Nat.le_of_ble_eq_true rfl)
        have E18 : f 18 = _ := ht9 18 (Nat.le_of_ble_eq_true rfl)
        conv at E18 => rhs; whnf
        have E19 : f 19 = _ := ht9 19 (Nat.le_of_ble_eq_true rfl)
        have E20 : f 20 = _ := ht9 20 (Nat.le_of_ble_eq_true rfl)
        have E21 : f 21 = _ := ht9 21 (Nat.le_of_ble_eq_true rfl)
        conv at E21 => rhs; whnf
        have E22 : f 22 = _ := ht9 22 (Nat.le_of_ble_eq_true rfl)
        have E23 : f 23 = _ := ht9 23 (Nat.le_of_ble_eq_true rfl)
        have E24 : f 24 = _ := ht9 24 (Nat.le_of_ble_eq_true rfl)
        have E25 : f 25 = _ := ht9 25 (Nat.le_of_ble_eq_true rfl)
        have Ho9 : Only _ w6 w9 := hI9.2.1
        simp only [putAll, E0, E1, E2, E3, E4, E5, E6, E7, E8, E9, E10, E11, E12, E13, E14, E15, E16, E17, E18, E19, E20, E21, E22, E23, E24, E25, Nat.zero_add, Nat.reduceAdd, Act.put, List.setIfInBounds_toArray, List.set_cons_succ, List.set_cons_zero]
        clear E0 E1 E2 E3 E4 E5 E6 E7 E8 E9 E10 E11 E12 E13 E14 E15 E16 E17 E18 E19 E20 E21 E22 E23 E24 E25
        clear hI9 ht9 hcp9 hk9
        have B9 := Lib.hid (B.out.trans ((only_below Ho9).mono B.out.size))
        go_wp2_with fail
        go_ret
        exact ⟨rfl, B9.out⟩
      · go_wp2_with fail
        refine (implMin_any 2 2 _).mono ?_
        rintro e w6 ⟨v6, rfl, hO6, hb⟩
        rw [dm21] at hO6
        obtain ⟨bc, oc, kc, e6, hcube⟩ := one_cube (F := 3) (V := 1) hO6
        subst e6
        replace PC := Lib.hid (PC.out.below hb)
        replace HC := Lib.hid (HC.out.below hb)
        replace B := Lib.hid (B.out.trans (hb.mono B.out.size))
        clear hb hO6
        have hT := dt21
        rw [← Hc.out] at hT
        obtain ⟨bo, oo, hAo, hout⟩ := outs_cell HC.out hT.1
        subst hAo
        have hl1 : c.outs.length = 1 := by rw [hT.1]; rfl
        rw [hl1] at PC HC
        have HT := Lib.hid hT.2
        have Hout := Lib.hid hout
        have Hcube := Lib.hid hcube
        clear hT hl1 hout hcube Hc
        obtain ⟨z, p0, p1, p2, p3⟩ := PC.out
        go_wp2_with fail
        refine wp_region_rsG [(9, true), (14, true)] (quietRS Try.prog _ w6 _) quietRS_ok (by kernel_rfl) (by kernel_rfl) (by kernel_rfl) (Nat.le_of_ble_eq_true rfl) trivial trivial ?_
        refine rs_peel ?_
        apply rs_eq quietRS_ok quiet_any
        · intro ρ w' ho hK
          have ho : Only _ w6 w' := ho
          obtain ⟨h0, -⟩ := hK
          have h0' : ρ (.tmp 5) = _ := h0
          have hb := only_below ho
          have q0 := (hb.cell (p := ⟨gb, 0, none⟩) z).trans p0
          have q1 := (hb.cell (p := ⟨gb, 1, none⟩) z).trans p1
          have q2 := (hb.cell (p := ⟨gb, 2, none⟩) z).trans p2
          have q3 := (hb.cell (p := ⟨gb, 3, none⟩) z).trans p3
          have q4 := Hout.out _ hb
          obtain ⟨q5, q6⟩ := Hcube.out _ hb
          go_simp
          try exact rfl
        refine rs_peel ?_
        apply rs_eq quietRS_ok quiet_any
        · intro ρ w' ho hK
          have ho : Only _ w6 w' := ho
          obtain ⟨h0, -⟩ := hK
          have h0' : ρ (.tmp 5) = _ := h0
          go_simp
          try exact rfl
        refine rs_peel ?_
        apply rs_eq quietRS_ok quiet_any
        · intro ρ w' ho hK
          have ho : Only _ w6 w' := ho
          obtain ⟨h0, -⟩ := hK
          have h0' : ρ (.tmp 46) = _ := h0
          have hb := only_below ho
          have q0 := (hb.cell (p := ⟨gb, 0, none⟩) z).trans p0
          have q1 := (hb.cell (p := ⟨gb, 1, none⟩) z).trans p1
          have q2 := (hb.cell (p := ⟨gb, 2, none⟩) z).trans p2
          have q3 := (hb.cell (p := ⟨gb, 3, none⟩) z).trans p3
          have q4 := Hout.out _ hb
          obtain ⟨q5, q6⟩ := Hcube.out _ hb
          go_simp
          try exact rfl
        refine rs_peel ?_
        apply rs_eq quietRS_ok quiet_any
        · intro ρ w' ho hK
          have ho : Only _ w6 w' := ho
          obtain ⟨h0, h1, -⟩ := hK
          have h0' : ρ (.tmp 47) = _ := h0
          have h1' : ρ (.const (Value.int IntKind.i64 0)) = (Value.int IntKind.i64 0) := h1
          go_simp
          try exact rfl
        refine rs_peel ?_
        apply rs_eq quietRS_ok quiet_any
        · intro ρ w' ho hK
          have ho : Only _ w6 w' := ho
          obtain ⟨h0, -⟩ := hK
          have h0' : ρ (.tmp 48) = _ := h0
          have hb := only_below ho
          have q0 := (hb.cell (p := ⟨gb, 0, none⟩) z).trans p0
          have q1 := (hb.cell (p := ⟨gb, 1, none⟩) z).trans p1
          have q2 := (hb.cell (p := ⟨gb, 2, none⟩) z).trans p2
          have q3 := (hb.cell (p := ⟨gb, 3, none⟩) z).trans p3
          have q4 := Hout.out _ hb
          obtain ⟨q5, q6⟩ := Hcube.out _ hb
          go_simp
          try exact rfl
        refine rs_peel ?_
        refine rs_call quietRS_ok quiet_any (TEq (.int .i64 2)) (stb_eq _ _) 30 _ _ rfl (fun ρ w' ho hK => by
          have ho : Only _ w6 w' := ho
          obtain ⟨h0, h1, h2, -⟩ := hK
          have h0' : ρ (.func 30) = .func (.func 30) #[] #[] := h0
          have h1' : ρ (.tmp 45) = _ := h1
          have h2' : ρ (.tmp 49) = _ := h2
          refine ⟨#[ρ (.tmp 45), ρ (.tmp 49)], ?_, ?_⟩
          · go_simp
          · rw [h1', h2']
            refine (implTable_any _ c 6 w' (HC.out.below (only_below ho))).mono ?_
            rintro e w2 ⟨rfl, hb⟩
            exact ⟨_, rfl, by rw [HT.out]; rfl, hb⟩) ?_
        refine rs_peel ?_
        refine rs_old quietRS_ok quiet_any _ (.inl rfl) _ rfl rfl ?_
        refine rs_peel ?_
        apply rs_eq quietRS_ok quiet_any
        · intro ρ w' ho hK
          have ho : Only _ w6 w' := ho
          obtain ⟨h0, h1, -⟩ := hK
          have h0' : ρ (.const (Value.int IntKind.i64 1)) = (Value.int IntKind.i64 1) := h0
          have h1' : ρ (.tmp 51) = _ := h1
          go_simp
          try exact rfl
        refine rs_peel ?_
        apply rs_eq quietRS_ok quiet_any
        · intro ρ w' ho hK
          have ho : Only _ w6 w' := ho
          obtain ⟨h0, h1, -⟩ := hK
          have h0' : ρ (.tmp 50) = _ := h0
          have h1' : ρ (.tmp 52) = _ := h1
          go_simp
          try exact rfl
        refine rs_peel ?_
        refine rs_same quietRS_ok quiet_any 53 8 (.inl rfl) rfl _ rfl ?_
        refine rs_run rfl ?_
        refine rs_old quietRS_ok quiet_any _ (.inl rfl) _ rfl rfl ?_
        refine rs_run rfl ?_
        apply rs_eq quietRS_ok quiet_any
        · intro ρ w' ho hK
          have ho : Only _ w6 w' := ho
          obtain ⟨h0, -⟩ := hK
          have h0' : ρ (.tmp 55) = _ := h0
          go_simp
          try exact rfl
        refine rs_run rfl ?_
        apply rs_eq quietRS_ok quiet_any
        · intro ρ w' ho hK
          have ho : Only _ w6 w' := ho
          obtain ⟨h0, h1, -⟩ := hK
          have h0' : ρ (.tmp 56) = _ := h0
          have h1' : ρ (.const (Value.int IntKind.i64 1)) = (Value.int IntKind.i64 1) := h1
          go_simp
          try exact rfl
        refine rs_peel ?_
        apply rs_eq quietRS_ok quiet_any
        · intro ρ w' ho hK
          have ho : Only _ w6 w' := ho
          obtain ⟨h0, h1, h2, -⟩ := hK
          have h0' : ρ (.tmp 54) = _ := h0
          have h1' : ρ (.tmp 57) = _ := h1
          have h2' : ρ (.const (Value.bool false)) = (Value.bool false) := h2
          go_simp
          try exact rfl
        refine rs_peel ?_
        refine rs_same quietRS_ok quiet_any 58 13 (.inl rfl) rfl _ rfl ?_
        refine rs_run rfl ?_
        refine rs_old quietRS_ok quiet_any _ (.inl rfl) _ rfl rfl ?_
        refine rs_run rfl ?_
        apply rs_eq quietRS_ok quiet_any
        · intro ρ w' ho hK
          have ho : Only _ w6 w' := ho
          obtain ⟨h0, h1, -⟩ := hK
          have h0' : ρ (.tmp 60) = _ := h0
          have h1' : ρ (.const (Value.int IntKind.i64 0)) = (Value.int IntKind.i64 0) := h1
          go_simp
          try exact rfl
        refine rs_run rfl ?_
        apply rs_eq quietRS_ok quiet_any
        · intro ρ w' ho hK
          have ho : Only _ w6 w' := ho
          obtain ⟨h0, -⟩ := hK
          have h0' : ρ (.tmp 61) = _ := h0
          have hb := only_below ho
          have q0 := (hb.cell (p := ⟨gb, 0, none⟩) z).trans p0
          have q1 := (hb.cell (p := ⟨gb, 1, none⟩) z).trans p1
          have q2 := (hb.cell (p := ⟨gb, 2, none⟩) z).trans p2
          have q3 := (hb.cell (p := ⟨gb, 3, none⟩) z).trans p3
          have q4 := Hout.out _ hb
          obtain ⟨q5, q6⟩ := Hcube.out _ hb
          go_simp
          try exact rfl
        refine rs_run rfl ?_
        refine rs_old quietRS_ok quiet_any _ (.inl rfl) _ rfl rfl ?_
        refine rs_run rfl ?_
        apply rs_eq quietRS_ok quiet_any
        · intro ρ w' ho hK
          have ho : Only _ w6 w' := ho
          obtain ⟨h0, h1, -⟩ := hK
          have h0' : ρ (.const (Value.int IntKind.i64 1)) = (Value.int IntKind.i64 1) := h0
          have h1' : ρ (.tmp 63) = _ := h1
          go_simp
          try exact rfl
        refine rs_run rfl ?_
        apply rs_eq quietRS_ok quiet_any
        · intro ρ w' ho hK
          have ho : Only _ w6 w' := ho
          obtain ⟨h0, h1, -⟩ := hK
          have h0' : ρ (.tmp 64) = _ := h0
          have h1' : ρ (.const (Value.int IntKind.i64 1)) = (Value.int IntKind.i64 1) := h1
          go_simp
          try exact rfl
        refine rs_run rfl ?_
        refine rs_old quietRS_ok quiet_any _ (.inl rfl) _ rfl rfl ?_
        refine rs_run rfl ?_
        apply rs_eq quietRS_ok quiet_any
        · intro ρ w' ho hK
          have ho : Only _ w6 w' := ho
          obtain ⟨h0, h1, -⟩ := hK
          have h0' : ρ (.tmp 65) = _ := h0
          have h1' : ρ (.tmp 66) = _ := h1
          go_simp
          try exact rfl
        refine rs_run rfl ?_
        apply rs_eq quietRS_ok quiet_any
        · intro ρ w' ho hK
          have ho : Only _ w6 w' := ho
          obtain ⟨h0, h1, -⟩ := hK
          have h0' : ρ (.tmp 62) = _ := h0
          have h1' : ρ (.tmp 67) = _ := h1
          go_simp
          try exact rfl
        refine rs_peel ?_
        apply rs_eq quietRS_ok quiet_any
        · intro ρ w' ho hK
          have ho : Only _ w6 w' := ho
          obtain ⟨h0, h1, h2, -⟩ := hK
          have h0' : ρ (.tmp 59) = _ := h0
          have h1' : ρ (.tmp 68) = _ := h1
          have h2' : ρ (.const (Value.bool false)) = (Value.bool false) := h2
          go_simp
          try exact rfl
        refine rs_peel ?_
        refine rs_same quietRS_ok quiet_any 69 24 (.inr rfl) rfl _ rfl ?_
        refine ⟨⟨rfl, rfl, trivial⟩, ?_⟩
        intro f w9 k9 hk9 hI9 ht9 hcp9
        have E0 : f 0 = _ := ht9 0 (Nat.le_of_ble_eq_true rfl)
        have E1 : f 1 = _ := ht9 1 (Nat.le_of_ble_eq_true rfl)
        have E2 : f 2 = _ := ht9 2 (Nat.le_of_ble_eq_true rfl)
        have E3 : f 3 = _ := ht9 3 (Nat.le_of_ble_eq_true rfl)
        have E4 : f 4 = _ := ht9 4 (Nat.le_of_ble_eq_true rfl)
        have E5 : f 5 = _ := ht9 5 (Nat.le_of_ble_eq_true rfl)
        have E6 : f 6 = _ := ht9 6 (Nat.le_of_ble_eq_true rfl)
        conv at E6 => rhs; whnf
        have E7 : f 7 = _ := ht9 7 (Nat.le_of_ble_eq_true rfl)
        have E8 : f 8 = _ := ht9 8 (Nat.le_of_ble_eq_true rfl)
        have E9 : f 9 = _ := ht9 9 (Nat.le_of_ble_eq_true rfl)
        have E10 : f 10 = _ := ht9 10 (Nat.le_of_ble_eq_true rfl)
        conv at E10 => rhs; whnf
        have E11 : f 11 = _ := ht9 11 (Nat.le_of_ble_eq_true rfl)
        have E12 : f 12 = _ := ht9 12 (Nat.le_of_ble_eq_true rfl)
        have E13 : f 13 = _ := ht9 13 (Nat.le_of_ble_eq_true rfl)
        have E14 : f 14 = _ := ht9 14 (Nat.le_of_ble_eq_true rfl)
        have E15 : f 15 = _ := ht9 15 (Nat.le_of_ble_eq_true rfl)
        conv at E15 => rhs; whnf
        have E16 : f 16 = _ := ht9 16 (Nat.le_of_ble_eq_true rfl)
        have E17 : f 17 = _ := ht9 17 (Nat.le_of_ble_eq_true rfl)
        have E18 : f 18 = _ := ht9 18 (Nat.le_of_ble_eq_true rfl)
        conv at E18 => rhs; whnf
        have E19 : f 19 = _ := ht9 19 (Nat.le_of_ble_eq_true rfl)
        have E20 : f 20 = _ := ht9 20 (Nat.le_of_ble_eq_true rfl)
        have E21 : f 21 = _ := ht9 21 (Nat.le_of_ble_eq_true rfl)
        conv at E21 => rhs; whnf
        have E22 : f 22 = _ := ht9 22 (Nat.le_of_ble_eq_true rfl)
        have E23 : f 23 = _ := ht9 23 (Nat.le_of_ble_eq_true rfl)
        have E24 : f 24 = _ := ht9 24 (Nat.le_of_ble_eq_true rfl)
        have E25 : f 25 = _ := ht9 25 (Nat.le_of_ble_eq_true rfl)
        have Ho9 : Only _ w6 w9 := hI9.2.1
        simp only [putAll, E0, E1, E2, E3, E4, E5, E6, E7, E8, E9, E10, E11, E12, E13, E14, E15, E16, E17, E18, E19, E20, E21, E22, E23, E24, E25, Nat.zero_add, Nat.reduceAdd, Act.put, List.setIfInBounds_toArray, List.set_cons_succ, List.set_cons_zero]
        clear E0 E1 E2 E3 E4 E5 E6 E7 E8 E9 E10 E11 E12 E13 E14 E15 E16 E17 E18 E19 E20 E21 E22 E23 E24 E25
        clear hI9 ht9 hcp9 hk9
        have B9 := Lib.hid (B.out.trans ((only_below Ho9).mono B.out.size))
        go_wp2_with fail
        go_ret
        exact ⟨rfl, B9.out⟩
      · go_wp2_with fail
        refine (implMin_any 4 2 _).mono ?_
        rintro e w6 ⟨v6, rfl, hO6, hb⟩
        rw [dm22] at hO6
        obtain ⟨bc, oc, kc, e6, hcube⟩ := one_cube (F := 3) (V := 2) hO6
        subst e6
        replace PC := Lib.hid (PC.out.below hb)
        replace HC := Lib.hid (HC.out.below hb)
        replace B := Lib.hid (B.out.trans (hb.mono B.out.size))
        clear hb hO6
        have hT := dt22
        rw [← Hc.out] at hT
        obtain ⟨bo, oo, hAo, hout⟩ := outs_cell HC.out hT.1
        subst hAo
        have hl1 : c.outs.length = 1 := by rw [hT.1]; rfl
        rw [hl1] at PC HC
        have HT := Lib.hid hT.2
        have Hout := Lib.hid hout
        have Hcube := Lib.hid hcube
        clear hT hl1 hout hcube Hc
        obtain ⟨z, p0, p1, p2, p3⟩ := PC.out
        go_wp2_with fail
        refine wp_region_rsG [(9, true), (14, true)] (quietRS Try.prog _ w6 _) quietRS_ok (by kernel_rfl) (by kernel_rfl) (by kernel_rfl) (Nat.le_of_ble_eq_true rfl) trivial trivial ?_
        refine rs_peel ?_
        apply rs_eq quietRS_ok quiet_any
        · intro ρ w' ho hK
          have ho : Only _ w6 w' := ho
          obtain ⟨h0, -⟩ := hK
          have h0' : ρ (.tmp 5) = _ := h0
          have hb := only_below ho
          have q0 := (hb.cell (p := ⟨gb, 0, none⟩) z).trans p0
          have q1 := (hb.cell (p := ⟨gb, 1, none⟩) z).trans p1
          have q2 := (hb.cell (p := ⟨gb, 2, none⟩) z).trans p2
          have q3 := (hb.cell (p := ⟨gb, 3, none⟩) z).trans p3
          have q4 := Hout.out _ hb
          obtain ⟨q5, q6⟩ := Hcube.out _ hb
          go_simp
          try exact rfl
        refine rs_peel ?_
        apply rs_eq quietRS_ok quiet_any
        · intro ρ w' ho hK
          have ho : Only _ w6 w' := ho
          obtain ⟨h0, -⟩ := hK
          have h0' : ρ (.tmp 5) = _ := h0
          go_simp
          try exact rfl
        refine rs_peel ?_
        apply rs_eq quietRS_ok quiet_any
        · intro ρ w' ho hK
          have ho : Only _ w6 w' := ho
          obtain ⟨h0, -⟩ := hK
          have h0' : ρ (.tmp 46) = _ := h0
          have hb := only_below ho
          have q0 := (hb.cell (p := ⟨gb, 0, none⟩) z).trans p0
          have q1 := (hb.cell (p := ⟨gb, 1, none⟩) z).trans p1
          have q2 := (hb.cell (p := ⟨gb, 2, none⟩) z).trans p2
          have q3 := (hb.cell (p := ⟨gb, 3, none⟩) z).trans p3
          have q4 := Hout.out _ hb
          obtain ⟨q5, q6⟩ := Hcube.out _ hb
          go_simp
          try exact rfl
        refine rs_peel ?_
        apply rs_eq quietRS_ok quiet_any
        · intro ρ w' ho hK
          have ho : Only _ w6 w' := ho
          obtain ⟨h0, h1, -⟩ := hK
          have h0' : ρ (.tmp 47) = _ := h0
          have h1' : ρ (.const (Value.int IntKind.i64 0)) = (Value.int IntKind.i64 0) := h1
          go_simp
          try exact rfl
        refine rs_peel ?_
        apply rs_eq quietRS_ok quiet_any
        · intro ρ w' ho hK
          have ho : Only _ w6 w' := ho
          obtain ⟨h0, -⟩ := hK
          have h0' : ρ (.tmp 48) = _ := h0
          have hb := only_below ho
          have q0 := (hb.cell (p := ⟨gb, 0, none⟩) z).trans p0
          have q1 := (hb.cell (p := ⟨gb, 1, none⟩) z).trans p1
          have q2 := (hb.cell (p := ⟨gb, 2, none⟩) z).trans p2
          have q3 := (hb.cell (p := ⟨gb, 3, none⟩) z).trans p3
          have q4 := Hout.out _ hb
          obtain ⟨q5, q6⟩ := Hcube.out _ hb
          go_simp
          try exact rfl
        refine rs_peel ?_
        refine rs_call quietRS_ok quiet_any (TEq (.int .i64 4)) (stb_eq _ _) 30 _ _ rfl (fun ρ w' ho hK => by
          have ho : Only _ w6 w' := ho
          obtain ⟨h0, h1, h2, -⟩ := hK
          have h0' : ρ (.func 30) = .func (.func 30) #[] #[] := h0
          have h1' : ρ (.tmp 45) = _ := h1
          have h2' : ρ (.tmp 49) = _ := h2
          refine ⟨#[ρ (.tmp 45), ρ (.tmp 49)], ?_, ?_⟩
          · go_simp
          · rw [h1', h2']
            refine (implTable_any _ c 6 w' (HC.out.below (only_below ho))).mono ?_
            rintro e w2 ⟨rfl, hb⟩
            exact ⟨_, rfl, by rw [HT.out]; rfl, hb⟩) ?_
        refine rs_peel ?_
        refine rs_old quietRS_ok quiet_any _ (.inl rfl) _ rfl rfl ?_
        refine rs_peel ?_
        apply rs_eq quietRS_ok quiet_any
        · intro ρ w' ho hK
          have ho : Only _ w6 w' := ho
          obtain ⟨h0, h1, -⟩ := hK
          have h0' : ρ (.const (Value.int IntKind.i64 1)) = (Value.int IntKind.i64 1) := h0
          have h1' : ρ (.tmp 51) = _ := h1
          go_simp
          try exact rfl
        refine rs_peel ?_
        apply rs_eq quietRS_ok quiet_any
        · intro ρ w' ho hK
          have ho : Only _ w6 w' := ho
          obtain ⟨h0, h1, -⟩ := hK
          have h0' : ρ (.tmp 50) = _ := h0
          have h1' : ρ (.tmp 52) = _ := h1
          go_simp
          try exact rfl
        refine rs_peel ?_
        refine rs_same quietRS_ok quiet_any 53 8 (.inl rfl) rfl _ rfl ?_
        refine rs_run rfl ?_
        refine rs_old quietRS_ok quiet_any _ (.inl rfl) _ rfl rfl ?_
        refine rs_run rfl ?_
        apply rs_eq quietRS_ok quiet_any
        · intro ρ w' ho hK
          have ho : Only _ w6 w' := ho
          obtain ⟨h0, -⟩ := hK
          have h0' : ρ (.tmp 55) = _ := h0
          go_simp
          try exact rfl
        refine rs_run rfl ?_
        apply rs_eq quietRS_ok quiet_any
        · intro ρ w' ho hK
          have ho : Only _ w6 w' := ho
          obtain ⟨h0, h1, -⟩ := hK
          have h0' : ρ (.tmp 56) = _ := h0
          have h1' : ρ (.const (Value.int IntKind.i64 1)) = (Value.int IntKind.i64 1) := h1
          go_simp
          try exact rfl
        refine rs_peel ?_
        apply rs_eq quietRS_ok quiet_any
        · intro ρ w' ho hK
          have ho : Only _ w6 w' := ho
          obtain ⟨h0, h1, h2, -⟩ := hK
          have h0' : ρ (.tmp 54) = _ := h0
          have h1' : ρ (.tmp 57) = _ := h1
          have h2' : ρ (.const (Value.bool false)) = (Value.bool false) := h2
          go_simp
          try exact rfl
        refine rs_peel ?_
        refine rs_same quietRS_ok quiet_any 58 13 (.inl rfl) rfl _ rfl ?_
        refine rs_run rfl ?_
        refine rs_old quietRS_ok quiet_any _ (.inl rfl) _ rfl rfl ?_
        refine rs_run rfl ?_
        apply rs_eq quietRS_ok quiet_any
        · intro ρ w' ho hK
          have ho : Only _ w6 w' := ho
          obtain ⟨h0, h1, -⟩ := hK
          have h0' : ρ (.tmp 60) = _ := h0
          have h1' : ρ (.const (Value.int IntKind.i64 0)) = (Value.int IntKind.i64 0) := h1
          go_simp
          try exact rfl
        refine rs_run rfl ?_
        apply rs_eq quietRS_ok quiet_any
        · intro ρ w' ho hK
          have ho : Only _ w6 w' := ho
          obtain ⟨h0, -⟩ := hK
          have h0' : ρ (.tmp 61) = _ := h0
          have hb := only_below ho
          have q0 := (hb.cell (p := ⟨gb, 0, none⟩) z).trans p0
          have q1 := (hb.cell (p := ⟨gb, 1, none⟩) z).trans p1
          have q2 := (hb.cell (p := ⟨gb, 2, none⟩) z).trans p2
          have q3 := (hb.cell (p := ⟨gb, 3, none⟩) z).trans p3
          have q4 := Hout.out _ hb
          obtain ⟨q5, q6⟩ := Hcube.out _ hb
          go_simp
          try exact rfl
        refine rs_run rfl ?_
        refine rs_old quietRS_ok quiet_any _ (.inl rfl) _ rfl rfl ?_
        refine rs_run rfl ?_
        apply rs_eq quietRS_ok quiet_any
        · intro ρ w' ho hK
          have ho : Only _ w6 w' := ho
          obtain ⟨h0, h1, -⟩ := hK
          have h0' : ρ (.const (Value.int IntKind.i64 1)) = (Value.int IntKind.i64 1) := h0
          have h1' : ρ (.tmp 63) = _ := h1
          go_simp
          try exact rfl
        refine rs_run rfl ?_
        apply rs_eq quietRS_ok quiet_any
        · intro ρ w' ho hK
          have ho : Only _ w6 w' := ho
          obtain ⟨h0, h1, -⟩ := hK
          have h0' : ρ (.tmp 64) = _ := h0
          have h1' : ρ (.const (Value.int IntKind.i64 1)) = (Value.int IntKind.i64 1) := h1
          go_simp
          try exact rfl
        refine rs_run rfl ?_
        refine rs_old quietRS_ok quiet_any _ (.inl rfl) _ rfl rfl ?_
        refine rs_run rfl ?_
        apply rs_eq quietRS_ok quiet_any
        · intro ρ w' ho hK
          have ho : Only _ w6 w' := ho
          obtain ⟨h0, h1, -⟩ := hK
          have h0' : ρ (.tmp 65) = _ := h0
          have h1' : ρ (.tmp 66) = _ := h1
          go_simp
          try exact rfl
        refine rs_run rfl ?_
        apply rs_eq quietRS_ok quiet_any
        · intro ρ w' ho hK
          have ho : Only _ w6 w' := ho
          obtain ⟨h0, h1, -⟩ := hK
          have h0' : ρ (.tmp 62) = _ := h0
          have h1' : ρ (.tmp 67) = _ := h1
          go_simp
          try exact rfl
        refine rs_peel ?_
        apply rs_eq quietRS_ok quiet_any
        · intro ρ w' ho hK
          have ho : Only _ w6 w' := ho
          obtain ⟨h0, h1, h2, -⟩ := hK
          have h0' : ρ (.tmp 59) = _ := h0
          have h1' : ρ (.tmp 68) = _ := h1
          have h2' : ρ (.const (Value.bool false)) = (Value.bool false) := h2
          go_simp
          try exact rfl
        refine rs_peel ?_
        refine rs_same quietRS_ok quiet_any 69 24 (.inr rfl) rfl _ rfl ?_
        refine ⟨⟨rfl, rfl, trivial⟩, ?_⟩
        intro f w9 k9 hk9 hI9 ht9 hcp9
        have E0 : f 0 = _ := ht9 0 (Nat.le_of_ble_eq_true rfl)
        have E1 : f 1 = _ := ht9 1 (Nat.le_of_ble_eq_true rfl)
        have E2 : f 2 = _ := ht9 2 (Nat.le_of_ble_eq_true rfl)
        have E3 : f 3 = _ := ht9 3 (Nat.le_of_ble_eq_true rfl)
        have E4 : f 4 = _ := ht9 4 (Nat.le_of_ble_eq_true rfl)
        have E5 : f 5 = _ := ht9 5 (Nat.le_of_ble_eq_true rfl)
        have E6 : f 6 = _ := ht9 6 (Nat.le_of_ble_eq_true rfl)
        conv at E6 => rhs; whnf
        have E7 : f 7 = _ := ht9 7 (Nat.le_of_ble_eq_true rfl)
        have E8 : f 8 = _ := ht9 8 (Nat.le_of_ble_eq_true rfl)
        have E9 : f 9 = _ := ht9 9 (Nat.le_of_ble_eq_true rfl)
        have E10 : f 10 = _ := ht9 10 (Nat.le_of_ble_eq_true rfl)
        conv at E10 => rhs; whnf
        have E11 : f 11 = _ := ht9 11 (Nat.le_of_ble_eq_true rfl)
        have E12 : f 12 = _ := ht9 12 (Nat.le_of_ble_eq_true rfl)
        have E13 : f 13 = _ := ht9 13 (Nat.le_of_ble_eq_true rfl)
        have E14 : f 14 = _ := ht9 14 (Nat.le_of_ble_eq_true rfl)
        have E15 : f 15 = _ := ht9 15 (Nat.le_of_ble_eq_true rfl)
        conv at E15 => rhs; whnf
        have E16 : f 16 = _ := ht9 16 (Nat.le_of_ble_eq_true rfl)
        have E17 : f 17 = _ := ht9 17 (Nat.le_of_ble_eq_true rfl)
        have E18 : f 18 = _ := ht9 18 (Nat.le_of_ble_eq_true rfl)
        conv at E18 => rhs; whnf
        have E19 : f 19 = _ := ht9 19 (Nat.le_of_ble_eq_true rfl)
        have E20 : f 20 = _ := ht9 20 (Nat.le_of_ble_eq_true rfl)
        have E21 : f 21 = _ := ht9 21 (Nat.le_of_ble_eq_true rfl)
        conv at E21 => rhs; whnf
        have E22 : f 22 = _ := ht9 22 (Nat.le_of_ble_eq_true rfl)
        have E23 : f 23 = _ := ht9 23 (Nat.le_of_ble_eq_true rfl)
        have E24 : f 24 = _ := ht9 24 (Nat.le_of_ble_eq_true rfl)
        have E25 : f 25 = _ := ht9 25 (Nat.le_of_ble_eq_true rfl)
        have Ho9 : Only _ w6 w9 := hI9.2.1
        simp only [putAll, E0, E1, E2, E3, E4, E5, E6, E7, E8, E9, E10, E11, E12, E13, E14, E15, E16, E17, E18, E19, E20, E21, E22, E23, E24, E25, Nat.zero_add, Nat.reduceAdd, Act.put, List.setIfInBounds_toArray, List.set_cons_succ, List.set_cons_zero]
        clear E0 E1 E2 E3 E4 E5 E6 E7 E8 E9 E10 E11 E12 E13 E14 E15 E16 E17 E18 E19 E20 E21 E22 E23 E24 E25
        clear hI9 ht9 hcp9 hk9
        have B9 := Lib.hid (B.out.trans ((only_below Ho9).mono B.out.size))
        go_wp2_with fail
        go_ret
        exact ⟨rfl, B9.out⟩
      · go_wp2_with fail
        refine (implMin_any 8 2 _).mono ?_
        rintro e w6 ⟨v6, rfl, hO6, hb⟩
        rw [dm23] at hO6
        obtain ⟨bc, oc, kc, e6, hcube⟩ := one_cube (F := 3) (V := 3) hO6
        subst e6
        replace PC := Lib.hid (PC.out.below hb)
        replace HC := Lib.hid (HC.out.below hb)
        replace B := Lib.hid (B.out.trans (hb.mono B.out.size))
        clear hb hO6
        have hT := dt23
        rw [← Hc.out] at hT
        obtain ⟨bo, oo, hAo, hout⟩ := outs_cell HC.out hT.1
        subst hAo
        have hl1 : c.outs.length = 1 := by rw [hT.1]; rfl
        rw [hl1] at PC HC
        have HT := Lib.hid hT.2
        have Hout := Lib.hid hout
        have Hcube := Lib.hid hcube
        clear hT hl1 hout hcube Hc
        obtain ⟨z, p0, p1, p2, p3⟩ := PC.out
        go_wp2_with fail
        refine wp_region_rsG [(9, true), (14, true)] (quietRS Try.prog _ w6 _) quietRS_ok (by kernel_rfl) (by kernel_rfl) (by kernel_rfl) (Nat.le_of_ble_eq_true rfl) trivial trivial ?_
        refine rs_peel ?_
        apply rs_eq quietRS_ok quiet_any
        · intro ρ w' ho hK
          have ho : Only _ w6 w' := ho
          obtain ⟨h0, -⟩ := hK
          have h0' : ρ (.tmp 5) = _ := h0
          have hb := only_below ho
          have q0 := (hb.cell (p := ⟨gb, 0, none⟩) z).trans p0
          have q1 := (hb.cell (p := ⟨gb, 1, none⟩) z).trans p1
          have q2 := (hb.cell (p := ⟨gb, 2, none⟩) z).trans p2
          have q3 := (hb.cell (p := ⟨gb, 3, none⟩) z).trans p3
          have q4 := Hout.out _ hb
          obtain ⟨q5, q6⟩ := Hcube.out _ hb
          go_simp
          try exact rfl
        refine rs_peel ?_
        apply rs_eq quietRS_ok quiet_any
        · intro ρ w' ho hK
          have ho : Only _ w6 w' := ho
          obtain ⟨h0, -⟩ := hK
          have h0' : ρ (.tmp 5) = _ := h0
          go_simp
          try exact rfl
        refine rs_peel ?_
        apply rs_eq quietRS_ok quiet_any
        · intro ρ w' ho hK
          have ho : Only _ w6 w' := ho
          obtain ⟨h0, -⟩ := hK
          have h0' : ρ (.tmp 46) = _ := h0
          have hb := only_below ho
          have q0 := (hb.cell (p := ⟨gb, 0, none⟩) z).trans p0
          have q1 := (hb.cell (p := ⟨gb, 1, none⟩) z).trans p1
          have q2 := (hb.cell (p := ⟨gb, 2, none⟩) z).trans p2
          have q3 := (hb.cell (p := ⟨gb, 3, none⟩) z).trans p3
          have q4 := Hout.out _ hb
          obtain ⟨q5, q6⟩ := Hcube.out _ hb
          go_simp
          try exact rfl
        refine rs_peel ?_
        apply rs_eq quietRS_ok quiet_any
        · intro ρ w' ho hK
          have ho : Only _ w6 w' := ho
          obtain ⟨h0, h1, -⟩ := hK
          have h0' : ρ (.tmp 47) = _ := h0
          have h1' : ρ (.const (Value.int IntKind.i64 0)) = (Value.int IntKind.i64 0) := h1
          go_simp
          try exact rfl
        refine rs_peel ?_
        apply rs_eq quietRS_ok quiet_any
        · intro ρ w' ho hK
          have ho : Only _ w6 w' := ho
          obtain ⟨h0, -⟩ := hK
          have h0' : ρ (.tmp 48) = _ := h0
          have hb := only_below ho
          have q0 := (hb.cell (p := ⟨gb, 0, none⟩) z).trans p0
          have q1 := (hb.cell (p := ⟨gb, 1, none⟩) z).trans p1
          have q2 := (hb.cell (p := ⟨gb, 2, none⟩) z).trans p2
          have q3 := (hb.cell (p := ⟨gb, 3, none⟩) z).trans p3
          have q4 := Hout.out _ hb
          obtain ⟨q5, q6⟩ := Hcube.out _ hb
          go_simp
          try exact rfl
        refine rs_peel ?_
        refine rs_call quietRS_ok quiet_any (TEq (.int .i64 8)) (stb_eq _ _) 30 _ _ rfl (fun ρ w' ho hK => by
          have ho : Only _ w6 w' := ho
          obtain ⟨h0, h1, h2, -⟩ := hK
          have h0' : ρ (.func 30) = .func (.func 30) #[] #[] := h0
          have h1' : ρ (.tmp 45) = _ := h1
          have h2' : ρ (.tmp 49) = _ := h2
          refine ⟨#[ρ (.tmp 45), ρ (.tmp 49)], ?_, ?_⟩
          · go_simp
          · rw [h1', h2']
            refine (implTable_any _ c 6 w' (HC.out.below (only_below ho))).mono ?_
            rintro e w2 ⟨rfl, hb⟩
            exact ⟨_, rfl, by rw [HT.out]; rfl, hb⟩) ?_
        refine rs_peel ?_
        refine rs_old quietRS_ok quiet_any _ (.inl rfl) _ rfl rfl ?_
        refine rs_peel ?_
        apply rs_eq quietRS_ok quiet_any
        · intro ρ w' ho hK
          have ho : Only _ w6 w' := ho
          obtain ⟨h0, h1, -⟩ := hK
          have h0' : ρ (.const (Value.int IntKind.i64 1)) = (Value.int IntKind.i64 1) := h0
          have h1' : ρ (.tmp 51) = _ := h1
          go_simp
          try exact rfl
        refine rs_peel ?_
        apply rs_eq quietRS_ok quiet_any
        · intro ρ w' ho hK
          have ho : Only _ w6 w' := ho
          obtain ⟨h0, h1, -⟩ := hK
          have h0' : ρ (.tmp 50) = _ := h0
          have h1' : ρ (.tmp 52) = _ := h1
          go_simp
          try exact rfl
        refine rs_peel ?_
        refine rs_same quietRS_ok quiet_any 53 8 (.inl rfl) rfl _ rfl ?_
        refine rs_run rfl ?_
        refine rs_old quietRS_ok quiet_any _ (.inl rfl) _ rfl rfl ?_
        refine rs_run rfl ?_
        apply rs_eq quietRS_ok quiet_any
        · intro ρ w' ho hK
          have ho : Only _ w6 w' := ho
          obtain ⟨h0, -⟩ := hK
          have h0' : ρ (.tmp 55) = _ := h0
          go_simp
          try exact rfl
        refine rs_run rfl ?_
        apply rs_eq quietRS_ok quiet_any
        · intro ρ w' ho hK
          have ho : Only _ w6 w' := ho
          obtain ⟨h0, h1, -⟩ := hK
          have h0' : ρ (.tmp 56) = _ := h0
          have h1' : ρ (.const (Value.int IntKind.i64 1)) = (Value.int IntKind.i64 1) := h1
          go_simp
          try exact rfl
        refine rs_peel ?_
        apply rs_eq quietRS_ok quiet_any
        · intro ρ w' ho hK
          have ho : Only _ w6 w' := ho
          obtain ⟨h0, h1, h2, -⟩ := hK
          have h0' : ρ (.tmp 54) = _ := h0
          have h1' : ρ (.tmp 57) = _ := h1
          have h2' : ρ (.const (Value.bool false)) = (Value.bool false) := h2
          go_simp
          try exact rfl
        refine rs_peel ?_
        refine rs_same quietRS_ok quiet_any 58 13 (.inl rfl) rfl _ rfl ?_
        refine rs_run rfl ?_
        refine rs_old quietRS_ok quiet_any _ (.inl rfl) _ rfl rfl ?_
        refine rs_run rfl ?_
        apply rs_eq quietRS_ok quiet_any
        · intro ρ w' ho hK
          have ho : Only _ w6 w' := ho
          obtain ⟨h0, h1, -⟩ := hK
          have h0' : ρ (.tmp 60) = _ := h0
          have h1' : ρ (.const (Value.int IntKind.i64 0)) = (Value.int IntKind.i64 0) := h1
          go_simp
          try exact rfl
        refine rs_run rfl ?_
        apply rs_eq quietRS_ok quiet_any
        · intro ρ w' ho hK
          have ho : Only _ w6 w' := ho
          obtain ⟨h0, -⟩ := hK
          have h0' : ρ (.tmp 61) = _ := h0
          have hb := only_below ho
          have q0 := (hb.cell (p := ⟨gb, 0, none⟩) z).trans p0
          have q1 := (hb.cell (p := ⟨gb, 1, none⟩) z).trans p1
          have q2 := (hb.cell (p := ⟨gb, 2, none⟩) z).trans p2
          have q3 := (hb.cell (p := ⟨gb, 3, none⟩) z).trans p3
          have q4 := Hout.out _ hb
          obtain ⟨q5, q6⟩ := Hcube.out _ hb
          go_simp
          try exact rfl
        refine rs_run rfl ?_
        refine rs_old quietRS_ok quiet_any _ (.inl rfl) _ rfl rfl ?_
        refine rs_run rfl ?_
        apply rs_eq quietRS_ok quiet_any
        · intro ρ w' ho hK
          have ho : Only _ w6 w' := ho
          obtain ⟨h0, h1, -⟩ := hK
          have h0' : ρ (.const (Value.int IntKind.i64 1)) = (Value.int IntKind.i64 1) := h0
          have h1' : ρ (.tmp 63) = _ := h1
          go_simp
          try exact rfl
        refine rs_run rfl ?_
        apply rs_eq quietRS_ok quiet_any
        · intro ρ w' ho hK
          have ho : Only _ w6 w' := ho
          obtain ⟨h0, h1, -⟩ := hK
          have h0' : ρ (.tmp 64) = _ := h0
          have h1' : ρ (.const (Value.int IntKind.i64 1)) = (Value.int IntKind.i64 1) := h1
          go_simp
          try exact rfl
        refine rs_run rfl ?_
        refine rs_old quietRS_ok quiet_any _ (.inl rfl) _ rfl rfl ?_
        refine rs_run rfl ?_
        apply rs_eq quietRS_ok quiet_any
        · intro ρ w' ho hK
          have ho : Only _ w6 w' := ho
          obtain ⟨h0, h1, -⟩ := hK
          have h0' : ρ (.tmp 65) = _ := h0
          have h1' : ρ (.tmp 66) = _ := h1
          go_simp
          try exact rfl
        refine rs_run rfl ?_
        apply rs_eq quietRS_ok quiet_any
        · intro ρ w' ho hK
          have ho : Only _ w6 w' := ho
          obtain ⟨h0, h1, -⟩ := hK
          have h0' : ρ (.tmp 62) = _ := h0
          have h1' : ρ (.tmp 67) = _ := h1
          go_simp
          try exact rfl
        refine rs_peel ?_
        apply rs_eq quietRS_ok quiet_any
        · intro ρ w' ho hK
          have ho : Only _ w6 w' := ho
          obtain ⟨h0, h1, h2, -⟩ := hK
          have h0' : ρ (.tmp 59) = _ := h0
          have h1' : ρ (.tmp 68) = _ := h1
          have h2' : ρ (.const (Value.bool false)) = (Value.bool false) := h2
          go_simp
          try exact rfl
        refine rs_peel ?_
        refine rs_same quietRS_ok quiet_any 69 24 (.inr rfl) rfl _ rfl ?_
        refine ⟨⟨rfl, rfl, trivial⟩, ?_⟩
        intro f w9 k9 hk9 hI9 ht9 hcp9
        have E0 : f 0 = _ := ht9 0 (Nat.le_of_ble_eq_true rfl)
        have E1 : f 1 = _ := ht9 1 (Nat.le_of_ble_eq_true rfl)
        have E2 : f 2 = _ := ht9 2 (Nat.le_of_ble_eq_true rfl)
        have E3 : f 3 = _ := ht9 3 (Nat.le_of_ble_eq_true rfl)
        have E4 : f 4 = _ := ht9 4 (Nat.le_of_ble_eq_true rfl)
        have E5 : f 5 = _ := ht9 5 (Nat.le_of_ble_eq_true rfl)
        have E6 : f 6 = _ := ht9 6 (Nat.le_of_ble_eq_true rfl)
        conv at E6 => rhs; whnf
        have E7 : f 7 = _ := ht9 7 (Nat.le_of_ble_eq_true rfl)
        have E8 : f 8 = _ := ht9 8 (Nat.le_of_ble_eq_true rfl)
        have E9 : f 9 = _ := ht9 9 (Nat.le_of_ble_eq_true rfl)
        have E10 : f 10 = _ := ht9 10 (Nat.le_of_ble_eq_true rfl)
        conv at E10 => rhs; whnf
        have E11 : f 11 = _ := ht9 11 (Nat.le_of_ble_eq_true rfl)
        have E12 : f 12 = _ := ht9 12 (Nat.le_of_ble_eq_true rfl)
        have E13 : f 13 = _ := ht9 13 (Nat.le_of_ble_eq_true rfl)
        have E14 : f 14 = _ := ht9 14 (Nat.le_of_ble_eq_true rfl)
        have E15 : f 15 = _ := ht9 15 (Nat.le_of_ble_eq_true rfl)
        conv at E15 => rhs; whnf
        have E16 : f 16 = _ := ht9 16 (Nat.le_of_ble_eq_true rfl)
        have E17 : f 17 = _ := ht9 17 (Nat.le_of_ble_eq_true rfl)
        have E18 : f 18 = _ := ht9 18 (Nat.le_of_ble_eq_true rfl)
        conv at E18 => rhs; whnf
        have E19 : f 19 = _ := ht9 19 (Nat.le_of_ble_eq_true rfl)
        have E20 : f 20 = _ := ht9 20 (Nat.le_of_ble_eq_true rfl)
        have E21 : f 21 = _ := ht9 21 (Nat.le_of_ble_eq_true rfl)
        conv at E21 => rhs; whnf
        have E22 : f 22 = _ := ht9 22 (Nat.le_of_ble_eq_true rfl)
        have E23 : f 23 = _ := ht9 23 (Nat.le_of_ble_eq_true rfl)
        have E24 : f 24 = _ := ht9 24 (Nat.le_of_ble_eq_true rfl)
        have E25 : f 25 = _ := ht9 25 (Nat.le_of_ble_eq_true rfl)
        have Ho9 : Only _ w6 w9 := hI9.2.1
        simp only [putAll, E0, E1, E2, E3, E4, E5, E6, E7, E8, E9, E10, E11, E12, E13, E14, E15, E16, E17, E18, E19, E20, E21, E22, E23, E24, E25, Nat.zero_add, Nat.reduceAdd, Act.put, List.setIfInBounds_toArray, List.set_cons_succ, List.set_cons_zero]
        clear E0 E1 E2 E3 E4 E5 E6 E7 E8 E9 E10 E11 E12 E13 E14 E15 E16 E17 E18 E19 E20 E21 E22 E23 E24 E25
        clear hI9 ht9 hcp9 hk9
        have B9 := Lib.hid (B.out.trans ((only_below Ho9).mono B.out.size))
        go_wp2_with fail
        go_ret
        exact ⟨rfl, B9.out⟩
  · go_enter Try.func6, Try.ntmps6
    go_wp2_with fail
    go_ret
    exact ⟨rfl, Below.refl _ _⟩

/-! The step from the walk to the row. -/
set_option maxRecDepth 100000 in
theorem lifted (os : Os) (started : os.Started) (H : Type) (enc : TypeId × Value → H) :
    ReturnsInHanded {} Try.checked os 6 .any (Rows.fnDecoderTableSpec.pre6 enc Try.prog Try.f6 Rows.fnDecoderTableRow.domain false) (Rows.fnDecoderTableSpec.post enc Try.prog Try.f6 false true false false) := by
  refine returnsInHanded_of_change (C := Try.checked) own started (by kernel_rfl) Try.func6
    (ChangeSpec.witness6 (enc := enc) (C := Try.checked) false ⟨#[], #[.slice none 0 0], []⟩ 8 (by kernel_rfl) (by kernel_rfl) (by kernel_rfl) (by kernel_rfl)) ?_
  intro W base args ds gs before hval0 hW hcnd _
  have hval : ∀ (j : Nat) t v, Try.f6.params[j]? = some t → args[j]? = some v → Value.okWide Try.prog W .any base t v := hval0
  have hW' := hW
  obtain ⟨p, q, hA0, hV, rfl, hfz, hnd⟩ := hW
  have hA : DataW.TrodAll enc Try.prog W 0 (fun _ => true) true Try.f6.params.toList args.toList ds p := hA0
  rw [Try.params6] at hA hval
  obtain ⟨v0, vs0, d0, ds0, p0, q0, hargs, rfl, rfl, h0, r0⟩ := trodAll_cons hA
  obtain ⟨rfl, rfl, rfl⟩ := trodAll_nil r0
  obtain rfl : args = #[v0] := by cases args; simp_all
  obtain ⟨rfl, rfl⟩ := trodVars_none hV
  obtain ⟨a0, len0, cap0, rfl⟩ := okWide_slice Try.underlying22 (hval 0 22 v0 rfl rfl)
  have k0 := h0
  have lt0 : ∀ x ∈ p0, x.block < W.heap.size := by obtain ⟨m, hm⟩ := k0; exact DataW.trod_lt m _ _ _ hm
  obtain ⟨z0, w0⟩ : ∃ zs, IsRow .u8 W a0 len0 cap0 zs := by
    obtain ⟨fuel, hf⟩ := h0
    rcases open_ints Try.underlying22 Try.underlying5 (by kernel_rfl) hf with ⟨hcs, _⟩ | ⟨x, l, c, zs, hcs, _, hl, hm, hz, _, hcell, hwz⟩
    · simp [Value.cells] at hcs
      obtain ⟨rfl, rfl, rfl⟩ := hcs
      exact ⟨[], .inl ⟨rfl, rfl, rfl, rfl⟩⟩
    · simp [Value.cells] at hcs
      obtain ⟨rfl, rfl, rfl⟩ := hcs
      exact ⟨zs, .inr ⟨_, rfl, hl, hm, by simpa using hz, hcell, hwz⟩⟩
  clear hA0 hval0
  refine (walk a0 len0 cap0 z0 W w0).mono fun e W' ⟨he, bel⟩ => ?_
  subst he
  exact ⟨_, rfl, _, _, _, [], _, [], hW', trodAll_mk1 (shut_bool Try.underlying4 _), (trodAll_cons_mk (Below.trod laidOut (by kernel_rfl) (of_decide_eq_true (by kernel_rfl)) k0 bel lt0) trodAll_mk0), rfl, bel.frame _, fun h => by cases h⟩

theorem over : Rows.fnDecoderTableRow.holds Try.pinned (OpenSpec.ofChange Rows.fnDecoderTableSpec) :=
  OpenClaim.holds_of_wide 6 Try.f6 rfl rfl rfl rfl rfl rfl rfl ⟨rfl, rfl, rfl, rfl, rfl⟩ rfl rfl rfl rfl rfl (by kernel_rfl) Try.func6 (by kernel_rfl)
    (of_decide_eq_true (by kernel_rfl)) (by unfold Func.isWrapper; first | (rw [if_pos (by decide +kernel)]; kernel_rfl) | (rw [if_neg (by decide +kernel)]; exact ⟨rfl, rfl⟩))
    (fun os started H enc _ => lifted os started H enc)

/-- The statement. -/
theorem proved : Rows.FnDecoderTableSaid := over
#print axioms proved
end Go.Proofs.Ytdgminjbgjbamaa.fnDecoderTable
