/-
  FnMachineOf: The program's MachineOf is the reference's; the machine of a valid circuit is valid, has one state per reachable state, and its outputs for a sequence of inputs are those of the simulation.
  Conditions: none. For every input that the row reads, the Go function laws.FnMachineOf returns true and leaves its arguments as they were.
-/
import Derived.Test.YtopimdakpnnbhaaS04
import Derived.Test.YtopimdakpnnbhaaS05
import Derived.Test.YtopimdakpnnbhaaS08
import Derived.Test.YtopimdakpnnbhaaS12
import Derived.Test.YtopimdakpnnbhaaS10
import Derived.Test.YtopimdakpnnbhaaS06
import Derived.StillTailTactics
import Derived.Test.YtopimdakpnnbhaaRows
import Derived.WalkKit
import Derived.ProofKit
import Derived.OpenShut
import Derived.ShutString
import Derived.ChangeOld
import Derived.Below
set_option linter.unusedVariables false
set_option linter.unusedSimpArgs false
namespace Go.Proofs.Ytopimdakpnnbhaa.fnMachineOf
open Go.ChangeShapes Go.WideShapes Go.ChangeAt Go.RowKit
open Go.ChangeMaps (open_string shut_string)
set_option linter.unusedVariables false

theorem own : ownKnob Try.prog.godebug = none := by kernel_rfl
theorem laidOut : laidOutB Try.prog = true := by kernel_rfl

/-- A slice of integers that came in: nil, or a row of cells. -/
def IsRow (k : IntKind) (w : World) (a : Option Addr) (len cap : Nat) (zs : List Int) : Prop :=
  (a = none ∧ len = 0 ∧ cap = 0 ∧ zs = []) ∨
  ∃ x, a = some x ∧ len ≤ cap ∧ cap ≤ maxLen ∧ zs.length = cap ∧ (∀ i, i < zs.length → w.cell? (x.add i) = some (.int k (zs.getD i 0))) ∧ ∀ n ∈ zs, (Lit.int k n).wf = true

def TLen (n : Nat) : Ty := fun _ v => ∃ A c, v = .slice A n c
theorem stb_len (E : Nat → Prop) (n : Nat) : Stb E (TLen n) := fun _ _ _ h _ => h
set_option maxHeartbeats 8000000 in
set_option maxRecDepth 100000 in
/-- The walk: the Go text returns true. -/
theorem walk (a0 : Option Addr) (len0 cap0 : Nat) (z0 : List Int) (a1 : Option Addr) (len1 cap1 : Nat) (z1 : List Int) (w : World) (w0 : IsRow .u8 w a0 len0 cap0 z0) (w1 : IsRow .u8 w a1 len1 cap1 z1) :
    Calls Try.prog 14 #[.slice a0 len0 cap0, .slice a1 len1 cap1] w fun e w' => e = .returned (.bool true) ∧ Below w.heap.size w w' := by
  obtain ⟨bs, rfl, hwf, hr⟩ := Row.given w0
  obtain ⟨ms, rfl, hwf2, hr2⟩ := Row.given w1
  clear w0 w1
  by_cases hl : bs.length ≤ 1048576
  · have hd1 : decide ((1048576 : Int) < (bs.length : Int)) = false := decide_eq_false (by omega)
    by_cases hl2 : ms.length ≤ 1048576
    · have hd2 : decide ((1048576 : Int) < (ms.length : Int)) = false := decide_eq_false (by omega)
      have Hr := Lib.hid hr
      have HR2 := Lib.hid hr2
      have Hwf2 := Lib.hid hwf2
      clear hr hr2 hwf2
      go_enter Try.func14, Try.ntmps14
      go_wp2_with fail
      refine (drawMachineOf_any _ bs w Hr.out hwf hl).mono ?_
      rintro e w1 ⟨v1, c, rfl, hO, hS, hb1⟩
      obtain ⟨An, cn, Ag, cg, Ao, co, rfl⟩ := hO.shape
      have HC1 := Lib.hid hO.at
      have Hb1 := Lib.hid hb1
      replace HR2 := Lib.hid (Row.below HR2.out hb1)
      clear hO hS hb1 Hr hwf hd1 hd2
      go_wp2_with fail
      replace HR2 := Lib.hid (Row.alloc HR2.out (.cells #[.int .i64 c.ins, .slice An c.next.length cn, .slice Ag c.gates.length cg, .slice Ao c.outs.length co] 26))
      have hbx := bel_new w1 (.cells #[.int .i64 c.ins, .slice An c.next.length cn, .slice Ag c.gates.length cg, .slice Ao c.outs.length co] 26)
      have PC := Lib.hid (PCells.boxed w1 c.ins (.slice An c.next.length cn) (.slice Ag c.gates.length cg) (.slice Ao c.outs.length co) 26)
      have HC := Lib.hid (HC1.out.below hbx)
      have B := Lib.hid (Hb1.out.trans (hbx.mono Hb1.out.size))
      clear hbx
      generalize w1.alloc (.cells #[.int .i64 c.ins, .slice An c.next.length cn, .slice Ag c.gates.length cg, .slice Ao c.outs.length co] 26) = w2 at *
      obtain ⟨gb, hgb2⟩ : ∃ gb, w1.heap.size = gb := ⟨_, rfl⟩
      rw [hgb2] at PC ⊢
      clear hgb2
      obtain ⟨z, p0, p1, p2, p3⟩ := PC.out
      clear HC1 Hb1
      refine (implMof_any _ c _ HC.out).mono ?_
      rintro e w3 ⟨v3, rfl, hO3, hb⟩
      have HM := Lib.hid (OwnMachE.at hO3)
      obtain ⟨Am, cm, Ax, cx, hvm, -⟩ := (OwnMachE.at hO3).shape
      subst hvm
      obtain ⟨m, hm⟩ : ∃ m, Cir.machI c = m := ⟨_, rfl⟩
      have Hm := Lib.hid hm
      rw [hm] at HM ⊢
      clear hO3 z p0 p1 p2 p3 hm
      replace PC := Lib.hid (PC.out.below hb)
      replace HC := Lib.hid (HC.out.below hb)
      replace HR2 := Lib.hid (Row.below HR2.out hb)
      replace B := Lib.hid (B.out.trans (hb.mono B.out.size))
      clear hb
      have hb := bel_alloc w3 (.cells #[.int .i64 m.ins, .slice Am m.next.length cm, .slice Ax m.out.length cx] 39)
      have PM := Lib.hid (MCells.boxed w3 m.ins (.slice Am m.next.length cm) (.slice Ax m.out.length cx) 39)
      replace PC := Lib.hid (PC.out.below hb)
      replace HC := Lib.hid (HC.out.below hb)
      replace HM := Lib.hid (HM.out.below hb)
      replace HR2 := Lib.hid (Row.below HR2.out hb)
      replace B := Lib.hid (B.out.trans (hb.mono B.out.size))
      clear hb
      obtain ⟨w4, hw4⟩ : ∃ w4, w3.alloc (.cells #[.int .i64 m.ins, .slice Am m.next.length cm, .slice Ax m.out.length cx] 39) = w4 := ⟨_, rfl⟩
      rw [hw4] at PC HC HM HR2 PM B
      obtain ⟨gq, hgq⟩ : ∃ gq, w3.heap.size = gq := ⟨_, rfl⟩
      rw [hgq] at PM
      obtain ⟨z, p0, p1, p2, p3⟩ := PC.out
      obtain ⟨zm, m0, m1, m2⟩ := PM.out
      go_wp2_with fail
      clear hw4 hgq
      refine wp_region_rs (quietRS Try.prog _ w4 _) quietRS_ok (by kernel_rfl) (by kernel_rfl) (by kernel_rfl) (Nat.le_of_ble_eq_true rfl) trivial trivial ?_
      apply rs_eq quietRS_ok quiet_any
      · intro ρ w' ho hK
        have ho : Only _ w4 w' := ho
        obtain ⟨h0, -⟩ := hK
        have h0' : ρ (.tmp 6) = _ := h0
        have hb := only_below ho
        have q0 := (hb.cell (p := ⟨gb, 0, none⟩) z).trans p0
        have q1 := (hb.cell (p := ⟨gb, 1, none⟩) z).trans p1
        have q2 := (hb.cell (p := ⟨gb, 2, none⟩) z).trans p2
        have q3 := (hb.cell (p := ⟨gb, 3, none⟩) z).trans p3
        have r0 := (hb.cell (p := ⟨gq, 0, none⟩) zm).trans m0
        have r1 := (hb.cell (p := ⟨gq, 1, none⟩) zm).trans m1
        have r2 := (hb.cell (p := ⟨gq, 2, none⟩) zm).trans m2
        go_simp
        try exact rfl
      apply rs_eq quietRS_ok quiet_any
      · intro ρ w' ho hK
        have ho : Only _ w4 w' := ho
        obtain ⟨h0, -⟩ := hK
        have h0' : ρ (.tmp 5) = _ := h0
        have hb := only_below ho
        have q0 := (hb.cell (p := ⟨gb, 0, none⟩) z).trans p0
        have q1 := (hb.cell (p := ⟨gb, 1, none⟩) z).trans p1
        have q2 := (hb.cell (p := ⟨gb, 2, none⟩) z).trans p2
        have q3 := (hb.cell (p := ⟨gb, 3, none⟩) z).trans p3
        have r0 := (hb.cell (p := ⟨gq, 0, none⟩) zm).trans m0
        have r1 := (hb.cell (p := ⟨gq, 1, none⟩) zm).trans m1
        have r2 := (hb.cell (p := ⟨gq, 2, none⟩) zm).trans m2
        go_simp
        try exact rfl
      refine rs_call quietRS_ok quiet_any (TMachL m) (stb_machL _) 58 _ _ rfl (fun ρ w' ho hK => by
        have ho : Only _ w4 w' := ho
        obtain ⟨h0, h1, -⟩ := hK
        have h0' : ρ (.func 58) = .func (.func 58) #[] #[] := h0
        have h1' : ρ (.tmp 27) = _ := h1
        refine ⟨#[ρ (.tmp 27)], ?_, ?_⟩
        · go_simp
        · rw [h1']
          refine (specMof_any _ c w' (HC.out.below (only_below ho))).mono ?_
          rintro e w2 ⟨⟨v2, rfl, hO⟩, hb⟩
          exact ⟨v2, rfl, by rw [Hm.out] at hO; exact hO, hb⟩) ?_
      refine rs_call quietRS_ok quiet_any (TEq (.bool true)) (stb_eq _ _) 57 _ _ rfl (fun ρ w' ho hK => by
        have ho : Only _ w4 w' := ho
        obtain ⟨h0, h1, h2, -⟩ := hK
        have h0' : ρ (.func 57) = .func (.func 57) #[] #[] := h0
        have h1' : ρ (.tmp 26) = _ := h1
        have h2' : (TMachL m) w' (ρ (.tmp 28)) := h2
        refine ⟨#[ρ (.tmp 26), ρ (.tmp 28)], ?_, ?_⟩
        · go_simp
        · rw [h1']
          refine (sameMachine_same _ _ m w' (HM.out.below (only_below ho)) h2').mono ?_
          rintro e w2 ⟨rfl, hb⟩
          exact ⟨_, rfl, rfl, hb⟩) ?_
      apply rs_eq quietRS_ok quiet_any
      · intro ρ w' ho hK
        have ho : Only _ w4 w' := ho
        obtain ⟨h0, -⟩ := hK
        have h0' : ρ (.tmp 29) = _ := h0
        go_simp
        try exact rfl
      intro f w9 k9 hk9 hI9 ht9 hcp9
      have E0 : f 0 = _ := ht9 0 (Nat.le_of_ble_eq_true rfl)
      have E1 : f 1 = _ := ht9 1 (Nat.le_of_ble_eq_true rfl)
      have E2 : (TMachL m) w9 (f 2) := ht9 2 (Nat.le_of_ble_eq_true rfl)
      have E3 : f 3 = _ := ht9 3 (Nat.le_of_ble_eq_true rfl)
      have E4 : f 4 = _ := ht9 4 (Nat.le_of_ble_eq_true rfl)
      have Ho9 : Only _ w4 w9 := hI9.2.1
      simp only [putAll, E0, E1, E3, E4, Nat.zero_add, Nat.reduceAdd, Act.put, List.setIfInBounds_toArray, List.set_cons_succ, List.set_cons_zero]
      clear E0 E1 E3 E4
      clear hI9 ht9 hcp9 hk9
      generalize f 2 = r2 at *
      have hb := only_below Ho9
      clear z p0 p1 p2 p3 zm m0 m1 m2 Ho9 E2
      replace PC := Lib.hid (PC.out.below hb)
      replace HC := Lib.hid (HC.out.below hb)
      replace HM := Lib.hid (HM.out.below hb)
      replace PM := Lib.hid (PM.out.below hb)
      replace HR2 := Lib.hid (Row.below HR2.out hb)
      replace B := Lib.hid (B.out.trans (hb.mono B.out.size))
      clear hb
      obtain ⟨z, p0, p1, p2, p3⟩ := PC.out
      obtain ⟨zm, m0, m1, m2⟩ := PM.out
      go_wp2_with fail
      refine (specValid_any _ c _ HC.out).mono ?_
      rintro e w5 ⟨rfl, hb⟩
      clear z p0 p1 p2 p3 zm m0 m1 m2
      replace PC := Lib.hid (PC.out.below hb)
      replace HC := Lib.hid (HC.out.below hb)
      replace HM := Lib.hid (HM.out.below hb)
      replace PM := Lib.hid (PM.out.below hb)
      replace HR2 := Lib.hid (Row.below HR2.out hb)
      replace B := Lib.hid (B.out.trans (hb.mono B.out.size))
      clear hb
      obtain ⟨z, p0, p1, p2, p3⟩ := PC.out
      obtain ⟨zm, m0, m1, m2⟩ := PM.out
      cases hv : Cir.valid c
      · have Hm0 : Hid (m = { ins := 0, next := [], out := [] }) := Lib.hid (by rw [← Hm.out, Cir.machI_no hv])
        go_wp2_with fail
        refine (sameMachine_same _ _ m _ HM.out (by rw [Hm0.out]; exact ⟨_, _, rfl, SSAt.nil _ _, SSAt.nil _ _⟩)).mono ?_
        rintro e w6 ⟨rfl, hb⟩
        clear z p0 p1 p2 p3 zm m0 m1 m2
        replace B := Lib.hid (B.out.trans (hb.mono B.out.size))
        clear hb
        go_wp2_with fail
        refine (alive_any _).mono ?_
        rintro e w8 ⟨rfl, hb⟩
        replace B := Lib.hid (B.out.trans (hb.mono B.out.size))
        clear hb
        go_wp2_with fail
        go_ret
        exact ⟨rfl, B.out⟩
      · obtain ⟨hd1, hd2⟩ := Cir.nat_ok hv
        have Hval := Lib.hid hv
        have hme : m = Cir.machN (Cir.nat c) := by rw [← Hm.out, Cir.machI_ok hv]
        have HRI : Hid (Cir.reachI c = nats (Cir.reach (Cir.nat c))) := Lib.hid (by unfold Cir.reachI; rw [hv]; rfl)
        have Hci : Hid (c.ins = ((Cir.nat c).ins : Int)) := Lib.hid (by rw [hd1]; rfl)
        obtain ⟨d, hd⟩ : ∃ d, Cir.nat c = d := ⟨_, rfl⟩
        rw [hd] at hd1 hd2 hme HRI Hci
        have Hd1 := Lib.hid hd1
        have Hd := Lib.hid hd2
        have Hme := Lib.hid hme
        have l1 := hd2.ins
        have l4 := hd2.outss
        have hp0 : 0 < 2 ^ d.ins := Nat.pow_pos (by decide)
        obtain ⟨M, hM⟩ : ∃ M : Nat, 2 ^ d.ins = M := ⟨_, rfl⟩
        have HMh := Lib.hid hM
        have hM16 : M ≤ 16 := by rw [← hM]; exact Nat.pow_le_pow_right (show 0 < 2 by decide) l1
        rw [hM] at hp0
        have eM : (2 : Int) ^ d.ins = (M : Int) := by rw [← hM]; exact two_pow _
        have hwM := IntWalk.i64_in (M : Int) (by omega)
        rw [Hci.out] at PC p0
        have hMne : ((M : Int) == 0) = false := by rw [beq_eq_false_iff_ne]; omega
        clear hv hd1 hd2 hme hd hM eM hwM
        have hb6 := bel_new w5 (.cells #[] 3)
        have hb7 := bel_new (w5.alloc (.cells #[] 3)) (.cells #[] 32)
        have hs1 : (w5.alloc (.cells #[] 3)).heap.size = w5.heap.size + 1 := by simp
        have HA0 : Hid (((w5.alloc (.cells #[] 3)).alloc (.cells #[] 32)).ownsRow w5.heap.size 3 1 (.slice (some ⟨w5.heap.size, 0, none⟩) 0 0) 0 (nints [])) := Lib.hid
          ((World.ownsRow_lit (base := w5.heap.size) (e := 3) (size := 1) w5 #[] 0 (Nat.le_refl _) (by unfold maxLen; omega) rfl).alloc (.cells #[] 32))
        have HS0 : Hid (OwnSE bools 32 4 w5.heap.size (fun g => g < ((w5.alloc (.cells #[] 3)).alloc (.cells #[] 32)).heap.size ∧ (Value.slice (some ⟨w5.heap.size, 0, none⟩) 0 0).ownBlock ≠ some g) ((w5.alloc (.cells #[] 3)).alloc (.cells #[] 32)) (.slice (some ⟨w5.heap.size + 1, 0, none⟩) 0 0) []) := Lib.hid (by
          have := own_mono (World.ownsRow_lit (base := w5.heap.size + 1) (e := 32) (size := 1) (w5.alloc (.cells #[] 3)) #[] 0 (by omega) (by unfold maxLen; omega) rfl) (show w5.heap.size ≤ w5.heap.size + 1 by omega)
          rw [hs1] at this
          refine ⟨[], rfl, this, fun i x u h => by simp at h, List.Pairwise.nil, fun u hu => (by cases hu), fun g hg => ?_, fun u hu => (by cases hu)⟩
          have hg2 := Option.some.inj hg
          simp only at hg2
          subst hg2
          refine ⟨by simp, fun e => ?_⟩
          have he := Option.some.inj e
          simp only at he
          omega)
        have HB0 := Lib.hid (hb6.trans (hb7.mono hb6.size))
        clear hb6 hb7 hs1
        go_wp2_with fail
        generalize (w5.alloc (.cells #[] 3)).alloc (.cells #[] 32) = w6 at *
        clear z p0 p1 p2 p3 zm m0 m1 m2
        go_loopw [7, 8, 9] (fun vi vr i wr => ∃ (ui ur : Value) (k : Nat) (xs : List Nat), ui = vi ∧ ur = vr ∧ i = .int .i64 k ∧ k ≤ ms.length ∧ k ≤ 40 ∧ xs.length = k ∧ Hid (Cir.Inputs d xs) ∧ Hid (wr.ownsRow w5.heap.size 3 1 vi k (nints xs)) ∧ Hid (OwnSE bools 32 4 w5.heap.size (fun g => g < wr.heap.size ∧ vi.ownBlock ≠ some g) wr vr (Cir.rowsN d.ins xs)) ∧ Below w5.heap.size w5 wr) (fun _ _ i _ => ms.length - (intOf i).toNat)
        case atStart => exact ⟨_, _, 0, [], rfl, rfl, rfl, Nat.zero_le _, Nat.zero_le _, rfl, Lib.hid (fun x hx => by cases hx), HA0, HS0, HB0.out⟩
        case round =>
          obtain ⟨ui, ur, k, xs, hui, hur, rfl, hk, hk40, hxl, Hin, Ha, Hs, hb⟩ := hrel
          subst hui hur
          clear HA0 HS0 HB0
          have Hb := Lib.hid hb
          have zb := hb.size
          clear hb
          by_cases hlt : k < ms.length ∧ k < 40
          · obtain ⟨hlt, h40⟩ := hlt
            have hdk : decide (k < ms.length) = true := decide_eq_true hlt
            have hd4 : decide (k < 40) = true := decide_eq_true h40
            have hd5 : decide ((k : Int) < 40) = true := decide_eq_true (by omega)
            obtain ⟨z, p0, p1, p2, p3⟩ := PC.out.below Hb.out
            obtain ⟨b, o, cm', hA, _, _, hbl, hcell⟩ := (Row.below HR2.out Hb.out).open (by omega)
            injection hA with hA1 _ hA2
            subst hA1 hA2
            have hy := List.getElem?_eq_getElem hlt
            have hyw := Go.bounds_u8 (Hwf2.out _ (List.getElem_mem hlt))
            have hs0 := hcell k (.int .u8 ms[k]) (by rw [List.getElem?_map, hy]; rfl)
            generalize ms[k] = y at *
            obtain ⟨yn, rfl⟩ := Int.eq_ofNat_of_zero_le hyw.1
            have hyn : yn ≤ 255 := by omega
            have hwy := IntWalk.i64_in (yn : Int) (by omega)
            have eM : (2 : Int) ^ d.ins = (M : Int) := by rw [← HMh.out]; exact two_pow _
            have hwM := IntWalk.i64_in (M : Int) (by omega)
            have hq : ((yn : Int)).tmod (M : Int) = ((yn % M : Nat) : Int) := (Int.ofNat_tmod yn M).symm
            have hxM : yn % M < M := Nat.mod_lt _ hp0
            obtain ⟨x, hx⟩ : ∃ x, yn % M = x := ⟨_, rfl⟩
            rw [hx] at hq hxM
            have g0 := gw_cell p0 z
            have g1 := gw_cell hs0 hbl
            clear hx hcell hy hyw hs0 z p0 p1 p2 p3
            go_wp2_with fail
            refine wp_region_grow (by kernel_rfl) (by kernel_rfl) ?_
            repeat (go_big_quiet_step ((fail)))
            refine wpQuiet_nil ?_
            intro _ hw'
            obtain ⟨nq, hw''⟩ := hw'
            subst hw''
            have hgq := gw_below nq
            generalize gw nq = wq at *
            clear nq
            have Hq := Lib.hid (Hb.out.trans (hgq.mono zb))
            have zq := hgq.size
            have HAq := Lib.hid (own_below Ha.out hgq)
            have HSq := Lib.hid (OwnSE.below Hs.out hgq)
            clear hgq g0 g1 Ha Hs eM hwM hwy hq
            have Hlit := Lib.hid (Row.of_own (World.ownsRow_lit (base := wq.heap.size) (e := 3) (size := 1) wq #[.int .i64 x] 1 (Nat.le_refl _) (by unfold maxLen; omega) rfl))
            have HSqa := Lib.hid (OwnSE.below HSq.out (bel_new wq (.cells #[.int .i64 x] 3)))
            clear HSq
            go_wp2_with (at_builtin
                         refine append_ints rfl (.tmp 61) (.tmp 63) rfl w5.heap.size _ k _ rfl (HAq.out.alloc _) _ 1 [.int .i64 x] rfl Hlit.out (by simp [Value.oneCell']) (by omega) (by simp; omega) ?_
                         intro v7 w7 hown7 hg7 hat7
                         have Hown7 := Lib.hid hown7
                         have Hat7 := Lib.hid hat7
                         have HS7 := Lib.hid (OwnSE.only HSqa.out (Only.grown (E := fun g => ui.ownBlock = some g) hg7 fun k h => h) (fun g _ he hx => he.2 hx))
                         have Hb7 := Lib.hid ((Hq.out.alloc Hq.out.size (.cells #[.int .i64 x] 3)).grown hg7 (Hq.out.alloc Hq.out.size _).size (own_ge0 HAq.out))
                         have Hz7 := Lib.hid hg7.size
                         obtain ⟨z, p0, p1, p2, p3⟩ := PC.out.below Hb7.out
                         clear hown7 hg7 hat7)
            refine (bits_any x d.ins _ (by omega) (by omega)).mono ?_
            rintro e w8 ⟨u, rfl, hou, hb8⟩
            have z7 : wq.heap.size + 1 ≤ w7.heap.size := by have := Hz7.out; rw [World.size_alloc] at this; exact this
            have HE7 : Hid (OwnSE bools 32 4 w5.heap.size (fun g => g < w7.heap.size ∧ v7.ownBlock ≠ some g) w7 ur (Cir.rowsN d.ins xs)) := Lib.hid (HS7.out.mono (Nat.le_refl _) (fun g hg => by
              refine ⟨by omega, fun e => ?_⟩
              rcases Hat7.out with h | h
              · exact hg.2 (h ▸ e)
              · rw [h] at e
                have := Option.some.inj e
                rw [World.size_alloc] at this
                omega))
            have z8 := hb8.size
            obtain ⟨Au, cu, eu⟩ := slice_of_own hou
            rw [Cir.bits_length] at eu
            subst eu
            have HA8 := Lib.hid (own_below Hown7.out hb8)
            have HS8 := OwnSE.below (OwnSE.below HE7.out hb8) (bel_new w8 (.cells #[.slice Au d.ins cu] 32))
            have Hb8 := Lib.hid (Hb7.out.trans (hb8.mono Hb7.out.size))
            have HUge := Lib.hid (own_ge0 hou)
            have HU8 := Lib.hid (show (w8.alloc (.cells #[.slice Au d.ins cu] 32)).ownsRow w5.heap.size 4 1 (.slice Au d.ins cu) (Cir.bits x d.ins).length (bools (Cir.bits x d.ins)) from (own_mono hou Hb7.out.size).alloc _)
            have Hlc := Lib.hid (Row.of_own (World.ownsRow_lit (base := w8.heap.size) (e := 32) (size := 1) w8 #[.slice Au d.ins cu] 1 (Nat.le_refl _) (by unfold maxLen; omega) rfl))
            obtain ⟨us, e1, e2, e3, e4, e5, e6, e7⟩ := HS8
            have HtL : Hid ((Cir.rowsN d.ins xs).length = k) := Lib.hid (by unfold Cir.rowsN; rw [List.length_map, hxl])
            rw [HtL.out] at e2
            have Q2 := Lib.hid e2
            have Q := Lib.hid (And.intro e1 (And.intro e3 (And.intro e4 (And.intro e5 (And.intro e6 e7)))))
            have H7lt := Lib.hid (fun g h => (Hown7.out.lt g h).2)
            have hz5 : w5.heap.size ≤ w8.heap.size := by omega
            clear e1 e2 e3 e4 e5 e6 e7 hou hb8 HS7 HSqa Hlit HAq z p0 p1 p2 p3
            go_wp2_with (at_builtin
                         refine append_rows rfl (.tmp 65) (.tmp 70) rfl w5.heap.size _ k us rfl Q2.out _ 1 [.slice Au d.ins cu] rfl Hlc.out (by simp [Value.oneCell']) (by omega) (by simp; omega) ?_
                         intro v9 w9 hown9 hg9 hat9
                         have HSE := Lib.hid (se_append Q.out.1 Q.out.2.1 Q.out.2.2.1 Q.out.2.2.2.1 Q.out.2.2.2.2.1 Q.out.2.2.2.2.2 HU8.out (fun g h1 h2 => by have := HUge.out g h1; omega) (by rw [HtL.out]; exact hown9) hg9 hat9)
                         have Hg9 := Lib.hid hg9
                         have Hown9 := Lib.hid hown9
                         have Hat9 := Lib.hid hat9
                         clear hown9 hg9 hat9)
            go_roundw
            case rel => exact ⟨_, _, k + 1, xs ++ [x], rfl, rfl, by go_num, by omega, by omega, by rw [List.length_append, hxl]; rfl, Lib.hid (Hin.out.snoc (by rw [HMh.out]; exact hxM)), Lib.hid (by
                rw [nints_snoc]
                exact own_kept (HA8.out.alloc _) Hg9.out (fun g h1 h2 => (Q.out.2.2.2.2.1 g h2).2 h1)), Lib.hid (by
                rw [show Cir.rowsN d.ins (xs ++ [x]) = Cir.rowsN d.ins xs ++ [Cir.bits x d.ins] from by unfold Cir.rowsN; rw [List.map_append]; rfl]
                have hz9 := Hg9.out.size
                rw [World.size_alloc] at hz9
                refine HSE.out.mono (Nat.le_refl _) (fun g hg => ?_)
                rcases hg with hg | hg | hg
                · exact ⟨by omega, hg.2⟩
                · have h1 := (HU8.out.lt g hg).2
                  rw [World.size_alloc] at h1
                  have h2 := HUge.out g hg
                  exact ⟨by omega, fun e => by have := H7lt.out g e; omega⟩
                · refine ⟨(Hown9.out.lt g hg).2, fun e => ?_⟩
                  rcases Hat9.out with h | h
                  · exact (Q.out.2.2.2.2.1 g (h ▸ hg)).2 e
                  · rw [h] at hg
                    have h3 := Option.some.inj hg
                    rw [World.size_alloc] at h3
                    have := H7lt.out g e
                    omega), (Hb8.out.alloc Hb8.out.size _).grown Hg9.out (Hb8.out.alloc Hb8.out.size _).size (own_ge0 Q2.out)⟩
            case measure => simp [intOf] <;> omega
          · have hex : (decide (k < ms.length) = true ∧ decide ((k : Int) < 40) = false ∧ decide (k < 40) = false) ∨ (decide (k < ms.length) = false ∧ True ∧ True) := by
              by_cases hkm : k < ms.length
              · exact .inl ⟨decide_eq_true hkm, decide_eq_false (by omega), decide_eq_false (by omega)⟩
              · exact .inr ⟨decide_eq_false hkm, trivial, trivial⟩
            obtain ⟨A7, c7, e7⟩ := slice_of_own Ha.out
            subst e7
            have HX := Lib.hid (nats_own Ha.out hxl)
            have HR := Lib.hid (OwnSE.at Hs.out)
            have hrl : (Cir.rowsN d.ins xs).length = k := by unfold Cir.rowsN; rw [List.length_map, hxl]
            obtain ⟨A8, c8, e8, -⟩ := HR.out.shape
            rw [hrl] at e8
            subst e8
            have HO : Hid (Mac.runI m (nats xs) = nats (Cir.outN d 0 xs)) := Lib.hid (by rw [Hme.out]; exact Cir.mach_run Hd.out Hin.out (by omega))
            have Hok : Hid (Cir.rowsOk (Cir.toCz d) (Cir.rowsN d.ins xs) = true) := Lib.hid (rowsOk_of (by rw [← Hd1.out]; exact Hval.out) (by omega) (fun r hr => by
              unfold Cir.rowsN at hr
              obtain ⟨y, _, rfl⟩ := List.mem_map.1 hr
              exact Cir.bits_length _ _))
            have HQ : Hid (∀ i, i < k → ∃ row, (Cir.simL d (Cir.bits 0 d.next.length) (Cir.rowsN d.ins xs))[i]? = some row ∧ (Cir.outN d 0 xs)[i]? = some (Cir.num row) ∧ row.length = d.outs.length) := Lib.hid (fun i hi => Cir.sim_out (by omega))
            have HOl : Hid ((Cir.outN d 0 xs).length = k) := Lib.hid (by rw [Cir.outN_length, hxl])
            have HSl : Hid ((Cir.simL d (Cir.bits 0 d.next.length) (Cir.rowsN d.ins xs)).length = k) := Lib.hid (by rw [Cir.simL_length, hrl])
            replace PC := Lib.hid (PC.out.below Hb.out)
            replace PM := Lib.hid (PM.out.below Hb.out)
            replace HC := Lib.hid (HC.out.below Hb.out)
            replace HM := Lib.hid (HM.out.below Hb.out)
            replace B := Lib.hid (B.out.trans (Hb.out.mono B.out.size))
            obtain ⟨z, p0, p1, p2, p3⟩ := PC.out
            obtain ⟨zm, m0, m1, m2⟩ := PM.out
            obtain ⟨wx, hwx⟩ : ∃ wx, wx = wr := ⟨_, rfl⟩
            subst hwx
            clear HR2 Ha Hs Hb zb Hin hxl HMh
            generalize Cir.outN d 0 xs = O at *
            obtain ⟨S, hS⟩ : ∃ S, Cir.simL d (Cir.bits 0 d.next.length) (Cir.rowsN d.ins xs) = S := ⟨_, rfl⟩
            have HSe := Lib.hid hS
            rw [hS] at HQ HSl
            clear hS
            have HMV : Hid (Mac.valid m = true) := Lib.hid (by rw [Hme.out]; exact Cir.machN_valid Hd.out)
            obtain ⟨R, hR⟩ : ∃ R, (Cir.reach d).length = R := ⟨_, rfl⟩
            have HRe := Lib.hid hR
            have hmR : ((m.next.length : Int) == (R : Int)) = true := by rw [Hme.out, Cir.machN_len, hR]; simp
            clear hR
            have hkk : ((k : Int) != (k : Int)) = false := by simp
            rcases hex with ⟨hdk, hd4, hd5⟩ | ⟨hdk, hd4, hd5⟩
            all_goals
              go_wp2_with fail
              refine (implRun_any _ _ m (nats xs) _ HM.out HX.out).mono ?_
              rintro e wa ⟨va, rfl, hown, hb⟩
              rw [HO.out] at hown
              have HOa := Lib.hid (show NatsAt wa va O from Row.of_own hown)
              obtain ⟨Aa, ca, ea, -, -⟩ := NatsAt.shape (xs := O) HOa.out
              rw [HOl.out] at ea
              subst ea
              clear hown z p0 p1 p2 p3 zm m0 m1 m2
              replace PC := Lib.hid (PC.out.below hb)
              replace HC := Lib.hid (HC.out.below hb)
              replace HM := Lib.hid (HM.out.below hb)
              replace PM := Lib.hid (PM.out.below hb)
              replace HR := Lib.hid (HR.out.below hb)
              replace B := Lib.hid (B.out.trans (hb.mono B.out.size))
              clear hb HX
              obtain ⟨z, p0, p1, p2, p3⟩ := PC.out
              obtain ⟨zm, m0, m1, m2⟩ := PM.out
              go_wp2_with fail
              refine (implSim_ok _ _ d (Cir.rowsN d.ins xs) _ (by rw [← Hd1.out, ← Hci.out]; exact HC.out) HR.out Hd.out Hok.out).mono ?_
              rintro e wb ⟨⟨vb, rfl, hS8⟩, hb⟩
              rw [HSe.out] at hS8
              have HU := Lib.hid hS8
              obtain ⟨Ab, cb, eb, -⟩ := HU.out.shape
              rw [HSl.out] at eb
              subst eb
              clear hS8 z p0 p1 p2 p3 zm m0 m1 m2 HR
              replace PC := Lib.hid (PC.out.below hb)
              replace HC := Lib.hid (HC.out.below hb)
              replace HM := Lib.hid (HM.out.below hb)
              replace PM := Lib.hid (PM.out.below hb)
              replace HOa := Lib.hid (Row.below HOa.out hb)
              replace B := Lib.hid (B.out.trans (hb.mono B.out.size))
              clear hb
              go_wp2_with fail
              clear hkk hdk hd4 hd5
              go_loopw [13] (fun i wr => ∃ j : Nat, i = .int .i64 j ∧ j ≤ k ∧ Below wb.heap.size wb wr) (fun i _ => k - (intOf i).toNat)
              case atStart => exact ⟨0, rfl, Nat.zero_le _, Below.refl _ _⟩
              case round =>
                obtain ⟨j, rfl, hj, hb⟩ := hrel
                have Hj := Lib.hid hb
                have zj := hb.size
                clear hb
                by_cases hlj : j < k
                · have hdj : decide (j < k) = true := decide_eq_true hlj
                  obtain ⟨row, h1, h2, h3⟩ := HQ.out j hlj
                  obtain ⟨b2, o2, B2, m2', hA8, hbl2, hs2, hm1, hm2, hrr⟩ := ss_open (show SSAt bools wb (.slice Ab k cb) S from HU.out) Hj.out h1
                  cases hA8
                  obtain ⟨b3, o3, y3, hA9, hbl3, hx3, hs3⟩ := nats_cell (A := Aa) (n := k) (c := ca) (xs := O) (i := j) (by have := Row.below HOa.out Hj.out; rw [nats_length, HOl.out] at this; exact this) HOl.out.symm (by rw [HOl.out]; exact hlj)
                  subst hA9
                  obtain rfl : y3 = Cir.num row := Option.some.inj (hx3.out.symm.trans h2)
                  have HN := Lib.hid (fun n : GW wr => lawNumber_any _ row (gw n) (Row.below (show BoolsAt wr (.slice B2 row.length m2') row from hrr) (gw_below n)) (by omega))
                  obtain ⟨N, hN⟩ : ∃ N, Cir.num row = N := ⟨_, rfl⟩
                  rw [hN] at hs3 HN
                  have hne : ((N : Int) != (N : Int)) = false := by simp
                  have g2 := gw_cell hs2 (Nat.lt_of_lt_of_le hbl2 zj)
                  have g3 := gw_cell hs3 hbl3
                  clear hN h1 h2 h3 hx3 hrr hs2 hs3
                  go_wp2_with fail
                  refine wp_region_grow (by kernel_rfl) (by kernel_rfl) ?_
                  repeat (go_big_quiet_step ((go_at_call 59; exact grow_same (HN.out _))))
                  refine wpQuiet_nil ?_
                  intro _ hw'
                  obtain ⟨nq, hw''⟩ := hw'
                  subst hw''
                  have hgq := gw_below nq
                  generalize gw nq = wq at *
                  clear nq
                  have Hbn := Lib.hid (Hj.out.trans (hgq.mono zj))
                  clear hgq g2 g3 HN
                  go_wp2_with fail
                  go_roundw
                  case rel => exact ⟨j + 1, by go_num, by omega, Hbn.out⟩
                  case measure => simp [intOf]; omega
                · obtain rfl : j = k := by omega
                  have hdj : decide (j < j) = false := decide_eq_false (by omega)
                  replace PC := Lib.hid (PC.out.below Hj.out)
                  replace PM := Lib.hid (PM.out.below Hj.out)
                  replace HC := Lib.hid (HC.out.below Hj.out)
                  replace HM := Lib.hid (HM.out.below Hj.out)
                  replace B := Lib.hid (B.out.trans (Hj.out.mono B.out.size))
                  obtain ⟨z, p0, p1, p2, p3⟩ := PC.out
                  obtain ⟨zm, m0, m1, m2⟩ := PM.out
                  obtain ⟨wy, hwy⟩ : ∃ wy, wy = wr := ⟨_, rfl⟩
                  subst hwy
                  clear Hj zj HQ HU HOa
                  go_wp2_with fail
                  refine wp_region_rsG [(2, true)] (quietRS Try.prog _ wy _) quietRS_ok (by kernel_rfl) (by kernel_rfl) (by kernel_rfl) (Nat.le_of_ble_eq_true rfl) trivial trivial ?_
                  refine rs_peel ?_
                  apply rs_eq quietRS_ok quiet_any
                  · intro ρ w' ho hK
                    have ho : Only _ wy w' := ho
                    obtain ⟨h0, -⟩ := hK
                    have h0' : ρ (.tmp 6) = _ := h0
                    have hb := only_below ho
                    have q0 := (hb.cell (p := ⟨gb, 0, none⟩) z).trans p0
                    have q1 := (hb.cell (p := ⟨gb, 1, none⟩) z).trans p1
                    have q2 := (hb.cell (p := ⟨gb, 2, none⟩) z).trans p2
                    have q3 := (hb.cell (p := ⟨gb, 3, none⟩) z).trans p3
                    have r0 := (hb.cell (p := ⟨gq, 0, none⟩) zm).trans m0
                    have r1 := (hb.cell (p := ⟨gq, 1, none⟩) zm).trans m1
                    have r2 := (hb.cell (p := ⟨gq, 2, none⟩) zm).trans m2
                    go_simp
                    try exact rfl
                  refine rs_peel ?_
                  refine rs_call quietRS_ok quiet_any (TEq (.bool true)) (stb_eq _ _) 24 _ _ rfl (fun ρ w' ho hK => by
                    have ho : Only _ wy w' := ho
                    obtain ⟨h0, h1, -⟩ := hK
                    have h0' : ρ (.func 24) = .func (.func 24) #[] #[] := h0
                    have h1' : ρ (.tmp 106) = _ := h1
                    refine ⟨#[ρ (.tmp 106)], ?_, ?_⟩
                    · go_simp
                    · rw [h1']
                      refine (implMValid_any _ m w' (HM.out.below (only_below ho))).mono ?_
                      rintro e w2 ⟨rfl, hb⟩
                      exact ⟨_, rfl, by rw [HMV.out]; rfl, hb⟩) ?_
                  refine rs_peel ?_
                  refine rs_same quietRS_ok quiet_any 107 1 (.inl rfl) rfl _ rfl ?_
                  refine rs_run rfl ?_
                  apply rs_eq quietRS_ok quiet_any
                  · intro ρ w' ho hK
                    have ho : Only _ wy w' := ho
                    obtain ⟨h0, -⟩ := hK
                    have h0' : ρ (.tmp 6) = _ := h0
                    go_simp
                    try exact rfl
                  refine rs_run rfl ?_
                  apply rs_eq quietRS_ok quiet_any
                  · intro ρ w' ho hK
                    have ho : Only _ wy w' := ho
                    obtain ⟨h0, -⟩ := hK
                    have h0' : ρ (.tmp 109) = _ := h0
                    have hb := only_below ho
                    have q0 := (hb.cell (p := ⟨gb, 0, none⟩) z).trans p0
                    have q1 := (hb.cell (p := ⟨gb, 1, none⟩) z).trans p1
                    have q2 := (hb.cell (p := ⟨gb, 2, none⟩) z).trans p2
                    have q3 := (hb.cell (p := ⟨gb, 3, none⟩) z).trans p3
                    have r0 := (hb.cell (p := ⟨gq, 0, none⟩) zm).trans m0
                    have r1 := (hb.cell (p := ⟨gq, 1, none⟩) zm).trans m1
                    have r2 := (hb.cell (p := ⟨gq, 2, none⟩) zm).trans m2
                    go_simp
                    try exact rfl
                  refine rs_run rfl ?_
                  apply rs_eq quietRS_ok quiet_any
                  · intro ρ w' ho hK
                    have ho : Only _ wy w' := ho
                    obtain ⟨h0, -⟩ := hK
                    have h0' : ρ (.tmp 110) = _ := h0
                    go_simp
                    try exact rfl
                  refine rs_run rfl ?_
                  apply rs_eq quietRS_ok quiet_any
                  · intro ρ w' ho hK
                    have ho : Only _ wy w' := ho
                    obtain ⟨h0, -⟩ := hK
                    have h0' : ρ (.tmp 5) = _ := h0
                    have hb := only_below ho
                    have q0 := (hb.cell (p := ⟨gb, 0, none⟩) z).trans p0
                    have q1 := (hb.cell (p := ⟨gb, 1, none⟩) z).trans p1
                    have q2 := (hb.cell (p := ⟨gb, 2, none⟩) z).trans p2
                    have q3 := (hb.cell (p := ⟨gb, 3, none⟩) z).trans p3
                    have r0 := (hb.cell (p := ⟨gq, 0, none⟩) zm).trans m0
                    have r1 := (hb.cell (p := ⟨gq, 1, none⟩) zm).trans m1
                    have r2 := (hb.cell (p := ⟨gq, 2, none⟩) zm).trans m2
                    go_simp
                    try exact rfl
                  refine rs_run rfl ?_
                  refine rs_call quietRS_ok quiet_any (TLen R) (stb_len _ _) 37 _ _ rfl (fun ρ w' ho hK => by
                    have ho : Only _ wy w' := ho
                    obtain ⟨h0, h1, -⟩ := hK
                    have h0' : ρ (.func 37) = .func (.func 37) #[] #[] := h0
                    have h1' : ρ (.tmp 112) = _ := h1
                    refine ⟨#[ρ (.tmp 112)], ?_, ?_⟩
                    · go_simp
                    · rw [h1']
                      refine (implReach_any _ c w' (by rw [← Hci.out]; exact HC.out.below (only_below ho))).mono ?_
                      rintro e w2 ⟨v2, rfl, hO, hb⟩
                      obtain ⟨A, cc, e⟩ := slice_of_own hO
                      exact ⟨v2, rfl, ⟨A, cc, by rw [e, HRI.out, nats_length, HRe.out]⟩, hb⟩) ?_
                  refine rs_run rfl ?_
                  refine rs_look quietRS_ok quiet_any (TEq (.int .i64 (R : Nat))) (stb_eq _ _) (fun ρ w' ho hK => by
                    obtain ⟨h0, -⟩ := hK
                    obtain ⟨A, cc, hv⟩ : (TLen R) w' (ρ (.tmp 113)) := h0
                    refine ⟨_, ?_, rfl⟩
                    go_simp) ?_
                  refine rs_run rfl ?_
                  apply rs_eq quietRS_ok quiet_any
                  · intro ρ w' ho hK
                    have ho : Only _ wy w' := ho
                    obtain ⟨h0, h1, -⟩ := hK
                    have h0' : ρ (.tmp 111) = _ := h0
                    have h1' : ρ (.tmp 114) = _ := h1
                    go_simp
                    try exact rfl
                  refine rs_peel ?_
                  apply rs_eq quietRS_ok quiet_any
                  · intro ρ w' ho hK
                    have ho : Only _ wy w' := ho
                    obtain ⟨h0, h1, h2, -⟩ := hK
                    have h0' : ρ (.tmp 108) = _ := h0
                    have h1' : ρ (.tmp 115) = _ := h1
                    have h2' : ρ (.const (Value.bool false)) = (Value.bool false) := h2
                    go_simp
                    try exact rfl
                  refine rs_peel ?_
                  refine rs_same quietRS_ok quiet_any 116 10 (.inr rfl) rfl _ rfl ?_
                  refine ⟨⟨rfl, trivial⟩, ?_⟩
                  intro f w9 k9 hk9 hI9 ht9 hcp9
                  have E0 : f 0 = _ := ht9 0 (Nat.le_of_ble_eq_true rfl)
                  have E1 : f 1 = _ := ht9 1 (Nat.le_of_ble_eq_true rfl)
                  have E2 : f 2 = _ := ht9 2 (Nat.le_of_ble_eq_true rfl)
                  have E3 : f 3 = _ := ht9 3 (Nat.le_of_ble_eq_true rfl)
                  have E4 : f 4 = _ := ht9 4 (Nat.le_of_ble_eq_true rfl)
                  have E5 : f 5 = _ := ht9 5 (Nat.le_of_ble_eq_true rfl)
                  have E6 : f 6 = _ := ht9 6 (Nat.le_of_ble_eq_true rfl)
                  have E7 : (TLen R) w9 (f 7) := ht9 7 (Nat.le_of_ble_eq_true rfl)
                  have E8 : f 8 = _ := ht9 8 (Nat.le_of_ble_eq_true rfl)
                  have E9 : f 9 = _ := ht9 9 (Nat.le_of_ble_eq_true rfl)
                  have E10 : f 10 = _ := ht9 10 (Nat.le_of_ble_eq_true rfl)
                  have E11 : f 11 = _ := ht9 11 (Nat.le_of_ble_eq_true rfl)
                  have Ho9 : Only _ wy w9 := hI9.2.1
                  simp only [putAll, E0, E1, E2, E3, E4, E5, E6, E8, E9, E10, E11, Nat.zero_add, Nat.reduceAdd, Act.put, List.setIfInBounds_toArray, List.set_cons_succ, List.set_cons_zero]
                  clear E0 E1 E2 E3 E4 E5 E6 E8 E9 E10 E11
                  clear hI9 ht9 hcp9 hk9
                  generalize f 7 = r7 at *
                  have hb := only_below Ho9
                  replace B := Lib.hid (B.out.trans (hb.mono B.out.size))
                  clear hb Ho9 E7 z p0 p1 p2 p3 zm m0 m1 m2
                  go_wp2_with fail
                  go_ret
                  exact ⟨rfl, B.out⟩
    · have hd2 : decide ((1048576 : Int) < (ms.length : Int)) = true := decide_eq_true (by omega)
      go_enter Try.func14, Try.ntmps14
      go_wp2_with fail
      go_ret
      exact ⟨rfl, Below.refl _ _⟩
  · have hd1 : decide ((1048576 : Int) < (bs.length : Int)) = true := decide_eq_true (by omega)
    go_enter Try.func14, Try.ntmps14
    go_wp2_with fail
    go_ret
    exact ⟨rfl, Below.refl _ _⟩

/-! The step from the walk to the row. -/
set_option maxRecDepth 100000 in
theorem lifted (os : Os) (started : os.Started) (H : Type) (enc : TypeId × Value → H) :
    ReturnsInHanded {} Try.checked os 14 .any (Rows.fnMachineOfSpec.pre6 enc Try.prog Try.f14 Rows.fnMachineOfRow.domain false) (Rows.fnMachineOfSpec.post enc Try.prog Try.f14 false true false false) := by
  refine returnsInHanded_of_change (C := Try.checked) own started (by kernel_rfl) Try.func14
    (ChangeSpec.witness6 (enc := enc) (C := Try.checked) false ⟨#[], #[.slice none 0 0, .slice none 0 0], []⟩ 8 (by kernel_rfl) (by kernel_rfl) (by kernel_rfl) (by kernel_rfl)) ?_
  intro W base args ds gs before hval0 hW hcnd _
  have hval : ∀ (j : Nat) t v, Try.f14.params[j]? = some t → args[j]? = some v → Value.okWide Try.prog W .any base t v := hval0
  have hW' := hW
  obtain ⟨p, q, hA0, hV, rfl, hfz, hnd⟩ := hW
  have hA : DataW.TrodAll enc Try.prog W 0 (fun _ => true) true Try.f14.params.toList args.toList ds p := hA0
  rw [Try.params14] at hA hval
  obtain ⟨v0, vs0, d0, ds0, p0, q0, hargs, rfl, rfl, h0, r0⟩ := trodAll_cons hA
  obtain ⟨v1, vs1, d1, ds1, p1, q1, rfl, rfl, rfl, h1, r1⟩ := trodAll_cons r0
  obtain ⟨rfl, rfl, rfl⟩ := trodAll_nil r1
  obtain rfl : args = #[v0, v1] := by cases args; simp_all
  obtain ⟨rfl, rfl⟩ := trodVars_none hV
  obtain ⟨a0, len0, cap0, rfl⟩ := okWide_slice Try.underlying22 (hval 0 22 v0 rfl rfl)
  have k0 := h0
  have lt0 : ∀ x ∈ p0, x.block < W.heap.size := by obtain ⟨m, hm⟩ := k0; exact DataW.trod_lt m _ _ _ hm
  obtain ⟨z0, w0⟩ : ∃ zs, IsRow .u8 W a0 len0 cap0 zs := by
    obtain ⟨fuel, hf⟩ := h0
    rcases open_ints Try.underlying22 Try.underlying5 (by kernel_rfl) hf with ⟨hcs, _⟩ | ⟨x, l, c, zs, hcs, _, hl, hm, hz, _, hcell, hwz⟩
    · simp [Value.cells] at hcs
      obtain ⟨rfl, rfl, rfl⟩ := hcs
      exact ⟨[], .inl ⟨rfl, rfl, rfl, rfl⟩⟩
    · simp [Value.cells] at hcs
      obtain ⟨rfl, rfl, rfl⟩ := hcs
      exact ⟨zs, .inr ⟨_, rfl, hl, hm, by simpa using hz, hcell, hwz⟩⟩
  obtain ⟨a1, len1, cap1, rfl⟩ := okWide_slice Try.underlying22 (hval 1 22 v1 rfl rfl)
  have k1 := h1
  have lt1 : ∀ x ∈ p1, x.block < W.heap.size := by obtain ⟨m, hm⟩ := k1; exact DataW.trod_lt m _ _ _ hm
  obtain ⟨z1, w1⟩ : ∃ zs, IsRow .u8 W a1 len1 cap1 zs := by
    obtain ⟨fuel, hf⟩ := h1
    rcases open_ints Try.underlying22 Try.underlying5 (by kernel_rfl) hf with ⟨hcs, _⟩ | ⟨x, l, c, zs, hcs, _, hl, hm, hz, _, hcell, hwz⟩
    · simp [Value.cells] at hcs
      obtain ⟨rfl, rfl, rfl⟩ := hcs
      exact ⟨[], .inl ⟨rfl, rfl, rfl, rfl⟩⟩
    · simp [Value.cells] at hcs
      obtain ⟨rfl, rfl, rfl⟩ := hcs
      exact ⟨zs, .inr ⟨_, rfl, hl, hm, by simpa using hz, hcell, hwz⟩⟩
  clear hA0 hval0
  refine (walk a0 len0 cap0 z0 a1 len1 cap1 z1 W w0 w1).mono fun e W' ⟨he, bel⟩ => ?_
  subst he
  exact ⟨_, rfl, _, _, _, [], _, [], hW', trodAll_mk1 (shut_bool Try.underlying4 _), (trodAll_cons_mk (Below.trod laidOut (by kernel_rfl) (of_decide_eq_true (by kernel_rfl)) k0 bel lt0) (trodAll_cons_mk (Below.trod laidOut (by kernel_rfl) (of_decide_eq_true (by kernel_rfl)) k1 bel lt1) trodAll_mk0)), rfl, bel.frame _, fun h => by cases h⟩

theorem over : Rows.fnMachineOfRow.holds Try.pinned (OpenSpec.ofChange Rows.fnMachineOfSpec) :=
  OpenClaim.holds_of_wide 14 Try.f14 rfl rfl rfl rfl rfl rfl rfl ⟨rfl, rfl, rfl, rfl, rfl⟩ rfl rfl rfl rfl rfl (by kernel_rfl) Try.func14 (by kernel_rfl)
    (of_decide_eq_true (by kernel_rfl)) (by unfold Func.isWrapper; first | (rw [if_pos (by decide +kernel)]; kernel_rfl) | (rw [if_neg (by decide +kernel)]; exact ⟨rfl, rfl⟩))
    (fun os started H enc _ => lifted os started H enc)

/-- The statement. -/
theorem proved : Rows.FnMachineOfSaid := over
#print axioms proved
end Go.Proofs.Ytopimdakpnnbhaa.fnMachineOf
