/-
  FnResetsReach: The program's Resets is the reference's; an initializing sequence leads state 0 and the state of ones to one and the same state, which is reachable.
  Conditions: none. For every input that the row reads, the Go function laws.FnResetsReach returns true and leaves its arguments as they were.
-/
import Derived.Test.YtopimdakpnnbhaaS13
import Derived.Test.YtopimdakpnnbhaaS05
import Derived.Test.YtopimdakpnnbhaaS10
import Derived.Test.YtopimdakpnnbhaaS06
import Derived.StillTailTactics
import Derived.Test.YtopimdakpnnbhaaRows
import Derived.WalkKit
import Derived.ProofKit
import Derived.OpenShut
import Derived.ShutString
import Derived.ChangeOld
import Derived.Below
set_option linter.unusedVariables false
set_option linter.unusedSimpArgs false
namespace Go.Proofs.Ytopimdakpnnbhaa.fnResetsReach
open Go.ChangeShapes Go.WideShapes Go.ChangeAt Go.RowKit
open Go.ChangeMaps (open_string shut_string)
set_option linter.unusedVariables false

theorem own : ownKnob Try.prog.godebug = none := by kernel_rfl
theorem laidOut : laidOutB Try.prog = true := by kernel_rfl

/-- A slice of integers that came in: nil, or a row of cells. -/
def IsRow (k : IntKind) (w : World) (a : Option Addr) (len cap : Nat) (zs : List Int) : Prop :=
  (a = none ∧ len = 0 ∧ cap = 0 ∧ zs = []) ∨
  ∃ x, a = some x ∧ len ≤ cap ∧ cap ≤ maxLen ∧ zs.length = cap ∧ (∀ i, i < zs.length → w.cell? (x.add i) = some (.int k (zs.getD i 0))) ∧ ∀ n ∈ zs, (Lit.int k n).wf = true


set_option maxHeartbeats 8000000 in
set_option maxRecDepth 100000 in
/-- The walk: the Go text returns true. -/
theorem walk (a0 : Option Addr) (len0 cap0 : Nat) (z0 : List Int) (w : World) (w0 : IsRow .u8 w a0 len0 cap0 z0) :
    Calls Try.prog 13 #[.slice a0 len0 cap0] w fun e w' => e = .returned (.bool true) ∧ Below w.heap.size w w' := by
  obtain ⟨bs, rfl, hwf, hr⟩ := Row.given w0
  clear w0
  by_cases hl : bs.length ≤ 1048576
  · have Hr := Lib.hid hr
    clear hr
    go_enter Try.func13, Try.ntmps13
    go_wp2_with fail
    refine (Hv.drawResets_any _ bs w Hr.out hwf hl).mono ?_
    rintro e w1 ⟨v1, c, vr, rss, rfl, hO, hR, hrl, hb1⟩
    obtain ⟨An, cn, Ag, cg, Ao, co, rfl⟩ := hO.shape
    obtain ⟨Ar, cr, rfl, hcr, hcrm⟩ := hR.shape
    unfold maxLen at hcrm
    have HC1 := Lib.hid hO.at
    have Hb1 := Lib.hid hb1
    have HR := Lib.hid (hR.below (bel_new w1 (.cells #[.int .i64 c.ins, .slice An c.next.length cn, .slice Ag c.gates.length cg, .slice Ao c.outs.length co] 26)))
    clear hO hb1 Hr hwf hR hcr
    go_wp2_with fail
    have hbx := bel_new w1 (.cells #[.int .i64 c.ins, .slice An c.next.length cn, .slice Ag c.gates.length cg, .slice Ao c.outs.length co] 26)
    have PC := Lib.hid (PCells.boxed w1 c.ins (.slice An c.next.length cn) (.slice Ag c.gates.length cg) (.slice Ao c.outs.length co) 26)
    have HC := Lib.hid (HC1.out.below hbx)
    have B := Lib.hid (Hb1.out.trans (hbx.mono Hb1.out.size))
    clear hbx
    generalize w1.alloc (.cells #[.int .i64 c.ins, .slice An c.next.length cn, .slice Ag c.gates.length cg, .slice Ao c.outs.length co] 26) = w2 at *
    obtain ⟨gb, hgb2⟩ : ∃ gb, w1.heap.size = gb := ⟨_, rfl⟩
    rw [hgb2] at PC ⊢
    clear hgb2
    obtain ⟨z, p0, p1, p2, p3⟩ := PC.out
    clear HC1 Hb1
    obtain ⟨ok, hok⟩ : ∃ ok, Cir.resets c rss = ok := ⟨_, rfl⟩
    have Hok := Lib.hid hok
    clear hok
    refine (implResets_any _ _ c rss _ HC.out HR.out).mono ?_
    rintro e w3 ⟨rfl, hb⟩
    rw [Hok.out]
    clear z p0 p1 p2 p3
    replace PC := Lib.hid (PC.out.below hb)
    replace HC := Lib.hid (HC.out.below hb)
    replace HR := Lib.hid (HR.out.below hb)
    replace B := Lib.hid (B.out.trans (hb.mono B.out.size))
    clear hb
    obtain ⟨z, p0, p1, p2, p3⟩ := PC.out
    go_wp2_with fail
    refine (specResets_any _ _ c rss _ HC.out HR.out).mono ?_
    rintro e w4 ⟨rfl, hb⟩
    rw [Hok.out]
    clear z p0 p1 p2 p3
    replace PC := Lib.hid (PC.out.below hb)
    replace HC := Lib.hid (HC.out.below hb)
    replace HR := Lib.hid (HR.out.below hb)
    replace B := Lib.hid (B.out.trans (hb.mono B.out.size))
    clear hb
    obtain ⟨z, p0, p1, p2, p3⟩ := PC.out
    have hoo : (ok != ok) = false := by simp
    cases ok
    · go_wp2_with fail
      refine (alive_any _).mono ?_
      rintro e w8 ⟨rfl, hb⟩
      replace B := Lib.hid (B.out.trans (hb.mono B.out.size))
      clear hb
      go_wp2_with fail
      go_ret
      exact ⟨rfl, B.out⟩
    · have hv : Cir.valid c = true := by
        have h1 := Hok.out
        unfold Cir.resets Cir.rowsOk at h1
        rw [Bool.and_eq_true, Bool.and_eq_true] at h1
        exact h1.1.1
      obtain ⟨hd1, hd2⟩ := Cir.nat_ok hv
      have HRI : Hid (Cir.reachI c = nats (Cir.reach (Cir.nat c))) := Lib.hid (by unfold Cir.reachI; rw [hv]; rfl)
      have Hcn : Hid (c.next.length = (Cir.nat c).next.length) := Lib.hid (by unfold Cir.nat; simp)
      have Hci : Hid (c.ins = ((Cir.nat c).ins : Int)) := Lib.hid (by rw [hd1]; rfl)
      obtain ⟨d, hd⟩ : ∃ d, Cir.nat c = d := ⟨_, rfl⟩
      rw [hd] at HRI Hcn Hci hd1 hd2
      have Hval := Lib.hid hv
      have Hd1 := Lib.hid hd1
      have Hd := Lib.hid hd2
      obtain ⟨hro, hm2⟩ := Cir.resets_parts (c := d) (rss := rss) (by rw [← hd1]; exact Hok.out)
      have hlen : ∀ r ∈ rss, r.length = d.ins := by
        unfold Cir.rowsOk at hro
        rw [Bool.and_eq_true, Bool.and_eq_true, List.all_eq_true] at hro
        intro r hr
        have := hro.2.2 r hr
        unfold Cir.rowOk at this
        rw [decide_eq_true_iff] at this
        have e : (Cir.toCz d).ins = (d.ins : Int) := rfl
        omega
      have Hlen := Lib.hid hlen
      have HSame := Lib.hid (fun (u u' : List Bool) h1 h2 => Cir.resets_same hd2 hlen hm2 (u := u) (u' := u') h1 h2)
      have HMem := Lib.hid (Cir.run_mem hd2 hlen)
      have l1 := hd2.ins
      have l2 := hd2.nexts
      obtain ⟨N, hN⟩ : ∃ N : Nat, 2 ^ d.next.length = N := ⟨_, rfl⟩
      have hN8 : N ≤ 8 := by rw [← hN]; exact Nat.pow_le_pow_right (show 0 < 2 by decide) l2
      have hN0 : 0 < N := by rw [← hN]; exact Nat.pow_pos (by decide)
      have eN : (2 : Int) ^ d.next.length = (N : Int) := by rw [← hN]; exact two_pow _
      have hwN := IntWalk.i64_in (N : Int) (by omega)
      obtain ⟨N1, hN1⟩ : ∃ N1 : Nat, N = N1 + 1 := ⟨N - 1, by omega⟩
      have hwN1 : IntKind.i64.wrap ((N : Int) - 1) = (N1 : Int) := (IntWalk.i64_in _ (by omega)).trans (by omega)
      have hN1b : N1 ≤ 1000 := by omega
      rw [Hcn.out] at PC p1
      rw [Hci.out] at PC p0
      clear hd1 hd2 hv hd hro hm2 hlen hN hN1 hoo
      go_wp2_with fail
      refine (bits_any 0 d.next.length _ (by omega) (by omega)).mono ?_
      rintro e w5 ⟨v5, rfl, hown, hb⟩
      have HL0 := Lib.hid (show BoolsAt w5 v5 (Cir.bits 0 d.next.length) from Row.of_own hown)
      clear hown z p0 p1 p2 p3
      replace PC := Lib.hid (PC.out.below hb)
      replace HC := Lib.hid (HC.out.below hb)
      replace HR := Lib.hid (HR.out.below hb)
      replace B := Lib.hid (B.out.trans (hb.mono B.out.size))
      clear hb
      obtain ⟨z, p0, p1, p2, p3⟩ := PC.out
      go_wp2_with fail
      refine wp_region_rs (quietRS Try.prog _ w5 _) quietRS_ok (by kernel_rfl) (by kernel_rfl) (by kernel_rfl) (Nat.le_of_ble_eq_true rfl) trivial trivial ?_
      apply rs_eq quietRS_ok quiet_any
      · intro ρ w' ho hK
        have ho : Only _ w5 w' := ho
        obtain ⟨h0, -⟩ := hK
        have h0' : ρ (.tmp 3) = _ := h0
        go_simp
        try exact rfl
      apply rs_eq quietRS_ok quiet_any
      · intro ρ w' ho hK
        have ho : Only _ w5 w' := ho
        obtain ⟨h0, -⟩ := hK
        have h0' : ρ (.tmp 32) = _ := h0
        have hb := only_below ho
        have q0 := (hb.cell (p := ⟨gb, 0, none⟩) z).trans p0
        have q1 := (hb.cell (p := ⟨gb, 1, none⟩) z).trans p1
        go_simp
        try exact rfl
      apply rs_eq quietRS_ok quiet_any
      · intro ρ w' ho hK
        have ho : Only _ w5 w' := ho
        obtain ⟨h0, -⟩ := hK
        have h0' : ρ (.tmp 33) = _ := h0
        go_simp
        try exact rfl
      apply rs_eq quietRS_ok quiet_any
      · intro ρ w' ho hK
        have ho : Only _ w5 w' := ho
        obtain ⟨h0, h1, -⟩ := hK
        have h0' : ρ (.const (Value.int IntKind.i64 1)) = (Value.int IntKind.i64 1) := h0
        have h1' : ρ (.tmp 34) = _ := h1
        go_simp
        try exact rfl
      apply rs_eq quietRS_ok quiet_any
      · intro ρ w' ho hK
        have ho : Only _ w5 w' := ho
        obtain ⟨h0, h1, -⟩ := hK
        have h0' : ρ (.tmp 35) = _ := h0
        have h1' : ρ (.const (Value.int IntKind.i64 1)) = (Value.int IntKind.i64 1) := h1
        go_simp
        try exact rfl
      apply rs_eq quietRS_ok quiet_any
      · intro ρ w' ho hK
        have ho : Only _ w5 w' := ho
        obtain ⟨h0, -⟩ := hK
        have h0' : ρ (.tmp 3) = _ := h0
        go_simp
        try exact rfl
      apply rs_eq quietRS_ok quiet_any
      · intro ρ w' ho hK
        have ho : Only _ w5 w' := ho
        obtain ⟨h0, -⟩ := hK
        have h0' : ρ (.tmp 37) = _ := h0
        have hb := only_below ho
        have q0 := (hb.cell (p := ⟨gb, 0, none⟩) z).trans p0
        have q1 := (hb.cell (p := ⟨gb, 1, none⟩) z).trans p1
        go_simp
        try exact rfl
      apply rs_eq quietRS_ok quiet_any
      · intro ρ w' ho hK
        have ho : Only _ w5 w' := ho
        obtain ⟨h0, -⟩ := hK
        have h0' : ρ (.tmp 38) = _ := h0
        go_simp
        try exact rfl
      refine rs_call quietRS_ok quiet_any (TBools (Cir.bits N1 d.next.length)) (stb_bools _) 21 _ _ rfl (fun ρ w' ho hK => by
        have ho : Only _ w5 w' := ho
        obtain ⟨h0, h1, h2, -⟩ := hK
        have h0' : ρ (.func 21) = .func (.func 21) #[] #[] := h0
        have h1' : ρ (.tmp 36) = _ := h1
        have h2' : ρ (.tmp 39) = _ := h2
        refine ⟨#[ρ (.tmp 36), ρ (.tmp 39)], ?_, ?_⟩
        · go_simp
        · rw [h1', h2']
          refine (bits_any N1 d.next.length w' (by omega) (by omega)).mono ?_
          rintro e w2 ⟨v2, rfl, hO, hb⟩
          exact ⟨v2, rfl, Row.of_own hO, hb⟩) ?_
      refine rs_same quietRS_ok quiet_any 40 8 (.inr rfl) rfl _ rfl ?_
      intro f w9 k9 hk9 hI9 ht9 hcp9
      have E0 : f 0 = _ := ht9 0 (Nat.le_of_ble_eq_true rfl)
      have E1 : f 1 = _ := ht9 1 (Nat.le_of_ble_eq_true rfl)
      have E2 : f 2 = _ := ht9 2 (Nat.le_of_ble_eq_true rfl)
      have E3 : f 3 = _ := ht9 3 (Nat.le_of_ble_eq_true rfl)
      have E4 : f 4 = _ := ht9 4 (Nat.le_of_ble_eq_true rfl)
      have E5 : f 5 = _ := ht9 5 (Nat.le_of_ble_eq_true rfl)
      have E6 : f 6 = _ := ht9 6 (Nat.le_of_ble_eq_true rfl)
      have E7 : f 7 = _ := ht9 7 (Nat.le_of_ble_eq_true rfl)
      have E8 : (TBools (Cir.bits N1 d.next.length)) w9 (f 8) := ht9 8 (Nat.le_of_ble_eq_true rfl)
      have E9 : (TBools (Cir.bits N1 d.next.length)) w9 (f 9) := ht9 9 (Nat.le_of_ble_eq_true rfl)
      have Ho9 : Only _ w5 w9 := hI9.2.1
      have C9 : f 9 = f 8 := (hcp9 9 _ 40 8 rfl rfl rfl rfl).2
      simp only [putAll, E0, E1, E2, E3, E4, E5, E6, E7, C9, Nat.zero_add, Nat.reduceAdd, Act.put, List.setIfInBounds_toArray, List.set_cons_succ, List.set_cons_zero]
      clear E0 E1 E2 E3 E4 E5 E6 E7
      clear hI9 ht9 hcp9 hk9
      generalize f 8 = r8 at *
      have hb := only_below Ho9
      have HH0 := Lib.hid (show BoolsAt w9 r8 (Cir.bits N1 d.next.length) from E8)
      clear z p0 p1 p2 p3 Ho9 E8
      replace PC := Lib.hid (PC.out.below hb)
      replace HC := Lib.hid (HC.out.below hb)
      replace HR := Lib.hid (HR.out.below hb)
      replace HL0 := Lib.hid (Row.below HL0.out hb)
      replace B := Lib.hid (B.out.trans (hb.mono B.out.size))
      clear hb
      obtain ⟨w6, hw6⟩ : ∃ w6, w6 = w9 := ⟨_, rfl⟩
      subst hw6
      obtain ⟨vh, hvh⟩ : ∃ vh, vh = r8 := ⟨_, rfl⟩
      subst hvh
      obtain ⟨s0, hs0⟩ : ∃ s0, Cir.bits 0 d.next.length = s0 := ⟨_, rfl⟩
      obtain ⟨s1, hs1⟩ : ∃ s1, Cir.bits N1 d.next.length = s1 := ⟨_, rfl⟩
      have hl0 : s0.length = d.next.length := by rw [← hs0, Cir.bits_length]
      have hl1' : s1.length = d.next.length := by rw [← hs1, Cir.bits_length]
      have Hl0 := Lib.hid hl0
      have Hl1 := Lib.hid hl1'
      rw [hs0] at HMem
      have HL : Hid (BoolsAt w6 v5 s0) := Lib.hid (by rw [← hs0]; exact HL0.out)
      have HH : Hid (BoolsAt w6 vh s1) := Lib.hid (by rw [← hs1]; exact HH0.out)
      clear HL0 HH0 hs0 hs1 hl0 hl1' eN hwN hwN1
      go_wp2_with fail
      go_loopw [6, 7, 8] (fun vl vh i wr => ∃ (ul uh : Value) (k : Nat), ul = vl ∧ uh = vh ∧ i = .int .i64 k ∧ k ≤ rss.length ∧ Hid (BoolsAt wr vl (Cir.runL d s0 (rss.take k))) ∧ Hid (BoolsAt wr vh (Cir.runL d s1 (rss.take k))) ∧ Below w6.heap.size w6 wr) (fun _ _ i _ => rss.length - (intOf i).toNat)
      case atStart => exact ⟨_, _, 0, rfl, rfl, rfl, Nat.zero_le _, HL, HH, Below.refl _ _⟩
      case round =>
        obtain ⟨ul, uh, k, hul, huh, rfl, hk, Hul, Huh, hb⟩ := hrel
        subst hul huh
        clear HL HH
        have Hb := Lib.hid hb
        have zb := hb.size
        clear hb
        by_cases hlt : k < rss.length
        · have hdk : decide (k < rss.length) = true := decide_eq_true hlt
          obtain ⟨x, hx⟩ := at_some hlt
          obtain ⟨b, o', Bx, mx, hAx, hbl, hc1, hm1, hm2, hrx⟩ := ss_open HR.out Hb.out hx
          cases hAx
          have Hxl := Lib.hid (Hlen.out x (List.mem_of_getElem? hx))
          have hSn : rss.take (k + 1) = rss.take k ++ [x] := take_snoc hx
          have HN0 : Hid (Cir.runL d s0 (rss.take (k + 1)) = Cir.lits (Cir.vals d (Cir.runL d s0 (rss.take k)) x) d.next) := Lib.hid (by rw [hSn, Cir.runL_snoc])
          have HN1 : Hid (Cir.runL d s1 (rss.take (k + 1)) = Cir.lits (Cir.vals d (Cir.runL d s1 (rss.take k)) x) d.next) := Lib.hid (by rw [hSn, Cir.runL_snoc])
          have HS0 := Lib.hid (Cir.runL_length d (rss.take k) s0 Hl0.out)
          have HS1 := Lib.hid (Cir.runL_length d (rss.take k) s1 Hl1.out)
          generalize Cir.runL d s0 (rss.take k) = S0 at *
          generalize Cir.runL d s1 (rss.take k) = S1 at *
          have Hrx := Lib.hid (show BoolsAt wr (.slice Bx x.length mx) x from hrx)
          have PCr := Lib.hid (PC.out.below Hb.out)
          have HCr := Lib.hid (HC.out.below Hb.out)
          obtain ⟨z, p0, p1, p2, p3⟩ := PCr.out
          have hbr : b < wr.heap.size := Nat.lt_of_lt_of_le hbl zb
          clear hrx hx hSn
          obtain ⟨W, hW⟩ : ∃ W, W = wr := ⟨_, rfl⟩
          subst hW
          go_wp2_with fail
          refine wp_region_rs (quietRS Try.prog _ W _) quietRS_ok (by kernel_rfl) (by kernel_rfl) (by kernel_rfl) (Nat.le_of_ble_eq_true rfl) trivial trivial ?_
          apply rs_eq quietRS_ok quiet_any
          · intro ρ w' ho hK
            have ho : Only _ W w' := ho
            obtain ⟨h0, -⟩ := hK
            have h0' : ρ (.tmp 3) = _ := h0
            have hb := only_below ho
            have q0 := (hb.cell (p := ⟨gb, 0, none⟩) z).trans p0
            have q1 := (hb.cell (p := ⟨gb, 1, none⟩) z).trans p1
            have q2 := (hb.cell (p := ⟨gb, 2, none⟩) z).trans p2
            have q3 := (hb.cell (p := ⟨gb, 3, none⟩) z).trans p3
            have q4 := (hb.cell (p := ⟨b, o' + k, none⟩) hbr).trans hc1
            go_simp
            try exact rfl
          refine rs_old quietRS_ok quiet_any _ (.inl rfl) _ rfl rfl ?_
          refine rs_old quietRS_ok quiet_any _ (.inl rfl) _ rfl rfl ?_
          refine rs_old quietRS_ok quiet_any _ (.inl rfl) _ rfl rfl ?_
          apply rs_eq quietRS_ok quiet_any
          · intro ρ w' ho hK
            have ho : Only _ W w' := ho
            obtain ⟨h0, h1, -⟩ := hK
            have h0' : ρ (.tmp 49) = _ := h0
            have h1' : ρ (.tmp 50) = _ := h1
            go_simp
            try exact rfl
          apply rs_eq quietRS_ok quiet_any
          · intro ρ w' ho hK
            have ho : Only _ W w' := ho
            obtain ⟨h0, -⟩ := hK
            have h0' : ρ (.tmp 51) = _ := h0
            have hb := only_below ho
            have q0 := (hb.cell (p := ⟨gb, 0, none⟩) z).trans p0
            have q1 := (hb.cell (p := ⟨gb, 1, none⟩) z).trans p1
            have q2 := (hb.cell (p := ⟨gb, 2, none⟩) z).trans p2
            have q3 := (hb.cell (p := ⟨gb, 3, none⟩) z).trans p3
            have q4 := (hb.cell (p := ⟨b, o' + k, none⟩) hbr).trans hc1
            go_simp
            try exact rfl
          refine rs_call quietRS_ok quiet_any (TStep (Cir.lits (Cir.vals d S0 x) d.outs) (Cir.lits (Cir.vals d S0 x) d.next)) (stb_step _ _) 38 _ _ rfl (fun ρ w' ho hK => by
            have ho : Only _ W w' := ho
            obtain ⟨h0, h1, h2, h3, -⟩ := hK
            have h0' : ρ (.func 38) = .func (.func 38) #[] #[] := h0
            have h1' : ρ (.tmp 47) = _ := h1
            have h2' : ρ (.tmp 48) = _ := h2
            have h3' : ρ (.tmp 52) = _ := h3
            refine ⟨#[ρ (.tmp 47), ρ (.tmp 48), ρ (.tmp 52)], ?_, ?_⟩
            · go_simp
            · rw [h1', h2', h3']
              refine (implStep_ok _ _ _ d S0 x w' (by rw [← Hd1.out, ← Hci.out, ← Hcn.out]; exact HCr.out.below (only_below ho)) Hd.out (by rw [← Hd1.out]; exact Hval.out) (Row.below Hul.out (only_below ho)) (Row.below Hrx.out (only_below ho)) Hxl.out HS0.out).mono ?_
              rintro e w2 ⟨⟨x, y, rfl, hx, hy⟩, hb⟩
              exact ⟨_, rfl, ⟨x, y, rfl, hx, hy⟩, hb⟩) ?_
          refine rs_look quietRS_ok quiet_any (TBools (Cir.lits (Cir.vals d S0 x) d.next)) (stb_bools _) (fun ρ w' ho hK => by
            obtain ⟨h0, -⟩ := hK
            obtain ⟨x0, y0, h0', hx, hy⟩ : (TStep (Cir.lits (Cir.vals d S0 x) d.outs) (Cir.lits (Cir.vals d S0 x) d.next)) w' (ρ (.tmp 53)) := h0
            obtain ⟨A0, c0, e0, -⟩ := Row.shape hx
            obtain ⟨A1, c1, e1, -⟩ := Row.shape hy
            subst e0 e1
            have hf := step_field1 A0 A1 (Cir.lits (Cir.vals d S0 x) d.outs).length (Cir.lits (Cir.vals d S0 x) d.next).length c0 c1 w'
            refine ⟨_, ?_, hy⟩
            go_simp) ?_
          refine rs_same quietRS_ok quiet_any 54 7 (.inr rfl) rfl _ rfl ?_
          intro f w9 k9 hk9 hI9 ht9 hcp9
          have E0 : f 0 = _ := ht9 0 (Nat.le_of_ble_eq_true rfl)
          have E1 : f 1 = _ := ht9 1 (Nat.le_of_ble_eq_true rfl)
          conv at E1 => rhs; whnf
          have E2 : f 2 = _ := ht9 2 (Nat.le_of_ble_eq_true rfl)
          conv at E2 => rhs; whnf
          have E3 : f 3 = _ := ht9 3 (Nat.le_of_ble_eq_true rfl)
          conv at E3 => rhs; whnf
          have E4 : f 4 = _ := ht9 4 (Nat.le_of_ble_eq_true rfl)
          have E5 : f 5 = _ := ht9 5 (Nat.le_of_ble_eq_true rfl)
          have E6 : (TStep (Cir.lits (Cir.vals d S0 x) d.outs) (Cir.lits (Cir.vals d S0 x) d.next)) w9 (f 6) := ht9 6 (Nat.le_of_ble_eq_true rfl)
          have E7 : (TBools (Cir.lits (Cir.vals d S0 x) d.next)) w9 (f 7) := ht9 7 (Nat.le_of_ble_eq_true rfl)
          have E8 : (TBools (Cir.lits (Cir.vals d S0 x) d.next)) w9 (f 8) := ht9 8 (Nat.le_of_ble_eq_true rfl)
          have Ho9 : Only _ W w9 := hI9.2.1
          have C8 : f 8 = f 7 := (hcp9 8 _ 54 7 rfl rfl rfl rfl).2
          simp only [putAll, E0, E1, E2, E3, E4, E5, C8, Nat.zero_add, Nat.reduceAdd, Act.put, List.setIfInBounds_toArray, List.set_cons_succ, List.set_cons_zero]
          clear E0 E1 E2 E3 E4 E5
          clear hI9 ht9 hcp9 hk9
          generalize f 6 = r6 at *
          generalize f 7 = r7 at *
          have hb := only_below Ho9
          have Hvl := Lib.hid (show BoolsAt w9 r7 (Cir.lits (Cir.vals d S0 x) d.next) from E7)
          have Hb9 := Lib.hid (Hb.out.trans (hb.mono zb))
          have z9 := Nat.le_trans zb hb.size
          replace Huh := Lib.hid (Row.below Huh.out hb)
          replace Hrx := Lib.hid (Row.below Hrx.out hb)
          replace PCr := Lib.hid (PCr.out.below hb)
          replace HCr := Lib.hid (HCr.out.below hb)
          have hc2 := (hb.cell (p := ⟨b, o' + k, none⟩) hbr).trans hc1
          have hbr2 : b < w9.heap.size := Nat.lt_of_lt_of_le hbr hb.size
          clear z p0 p1 p2 p3 Ho9 E6 E7 hb hc1 hbr Hul Hb
          obtain ⟨z, p0, p1, p2, p3⟩ := PCr.out
          obtain ⟨W2, hW2⟩ : ∃ W2, W2 = w9 := ⟨_, rfl⟩
          subst hW2
          obtain ⟨vl, hvl⟩ : ∃ vl, vl = r7 := ⟨_, rfl⟩
          subst hvl
          go_wp2_with fail
          refine wp_region_rs (quietRS Try.prog _ W2 _) quietRS_ok (by kernel_rfl) (by kernel_rfl) (by kernel_rfl) (Nat.le_of_ble_eq_true rfl) trivial trivial ?_
          apply rs_eq quietRS_ok quiet_any
          · intro ρ w' ho hK
            have ho : Only _ W2 w' := ho
            obtain ⟨h0, -⟩ := hK
            have h0' : ρ (.tmp 3) = _ := h0
            have hb := only_below ho
            have q0 := (hb.cell (p := ⟨gb, 0, none⟩) z).trans p0
            have q1 := (hb.cell (p := ⟨gb, 1, none⟩) z).trans p1
            have q2 := (hb.cell (p := ⟨gb, 2, none⟩) z).trans p2
            have q3 := (hb.cell (p := ⟨gb, 3, none⟩) z).trans p3
            have q4 := (hb.cell (p := ⟨b, o' + k, none⟩) hbr2).trans hc2
            go_simp
            try exact rfl
          refine rs_old quietRS_ok quiet_any _ (.inl rfl) _ rfl rfl ?_
          refine rs_old quietRS_ok quiet_any _ (.inl rfl) _ rfl rfl ?_
          refine rs_old quietRS_ok quiet_any _ (.inl rfl) _ rfl rfl ?_
          apply rs_eq quietRS_ok quiet_any
          · intro ρ w' ho hK
            have ho : Only _ W2 w' := ho
            obtain ⟨h0, h1, -⟩ := hK
            have h0' : ρ (.tmp 57) = _ := h0
            have h1' : ρ (.tmp 58) = _ := h1
            go_simp
            try exact rfl
          apply rs_eq quietRS_ok quiet_any
          · intro ρ w' ho hK
            have ho : Only _ W2 w' := ho
            obtain ⟨h0, -⟩ := hK
            have h0' : ρ (.tmp 59) = _ := h0
            have hb := only_below ho
            have q0 := (hb.cell (p := ⟨gb, 0, none⟩) z).trans p0
            have q1 := (hb.cell (p := ⟨gb, 1, none⟩) z).trans p1
            have q2 := (hb.cell (p := ⟨gb, 2, none⟩) z).trans p2
            have q3 := (hb.cell (p := ⟨gb, 3, none⟩) z).trans p3
            have q4 := (hb.cell (p := ⟨b, o' + k, none⟩) hbr2).trans hc2
            go_simp
            try exact rfl
          refine rs_call quietRS_ok quiet_any (TStep (Cir.lits (Cir.vals d S1 x) d.outs) (Cir.lits (Cir.vals d S1 x) d.next)) (stb_step _ _) 38 _ _ rfl (fun ρ w' ho hK => by
            have ho : Only _ W2 w' := ho
            obtain ⟨h0, h1, h2, h3, -⟩ := hK
            have h0' : ρ (.func 38) = .func (.func 38) #[] #[] := h0
            have h1' : ρ (.tmp 55) = _ := h1
            have h2' : ρ (.tmp 56) = _ := h2
            have h3' : ρ (.tmp 60) = _ := h3
            refine ⟨#[ρ (.tmp 55), ρ (.tmp 56), ρ (.tmp 60)], ?_, ?_⟩
            · go_simp
            · rw [h1', h2', h3']
              refine (implStep_ok _ _ _ d S1 x w' (by rw [← Hd1.out, ← Hci.out, ← Hcn.out]; exact HCr.out.below (only_below ho)) Hd.out (by rw [← Hd1.out]; exact Hval.out) (Row.below Huh.out (only_below ho)) (Row.below Hrx.out (only_below ho)) Hxl.out HS1.out).mono ?_
              rintro e w2 ⟨⟨x, y, rfl, hx, hy⟩, hb⟩
              exact ⟨_, rfl, ⟨x, y, rfl, hx, hy⟩, hb⟩) ?_
          refine rs_look quietRS_ok quiet_any (TBools (Cir.lits (Cir.vals d S1 x) d.next)) (stb_bools _) (fun ρ w' ho hK => by
            obtain ⟨h0, -⟩ := hK
            obtain ⟨x0, y0, h0', hx, hy⟩ : (TStep (Cir.lits (Cir.vals d S1 x) d.outs) (Cir.lits (Cir.vals d S1 x) d.next)) w' (ρ (.tmp 61)) := h0
            obtain ⟨A0, c0, e0, -⟩ := Row.shape hx
            obtain ⟨A1, c1, e1, -⟩ := Row.shape hy
            subst e0 e1
            have hf := step_field1 A0 A1 (Cir.lits (Cir.vals d S1 x) d.outs).length (Cir.lits (Cir.vals d S1 x) d.next).length c0 c1 w'
            refine ⟨_, ?_, hy⟩
            go_simp) ?_
          refine rs_same quietRS_ok quiet_any 62 7 (.inr rfl) rfl _ rfl ?_
          intro f w9 k9 hk9 hI9 ht9 hcp9
          have E0 : f 0 = _ := ht9 0 (Nat.le_of_ble_eq_true rfl)
          have E1 : f 1 = _ := ht9 1 (Nat.le_of_ble_eq_true rfl)
          conv at E1 => rhs; whnf
          have E2 : f 2 = _ := ht9 2 (Nat.le_of_ble_eq_true rfl)
          conv at E2 => rhs; whnf
          have E3 : f 3 = _ := ht9 3 (Nat.le_of_ble_eq_true rfl)
          conv at E3 => rhs; whnf
          have E4 : f 4 = _ := ht9 4 (Nat.le_of_ble_eq_true rfl)
          have E5 : f 5 = _ := ht9 5 (Nat.le_of_ble_eq_true rfl)
          have E6 : (TStep (Cir.lits (Cir.vals d S1 x) d.outs) (Cir.lits (Cir.vals d S1 x) d.next)) w9 (f 6) := ht9 6 (Nat.le_of_ble_eq_true rfl)
          have E7 : (TBools (Cir.lits (Cir.vals d S1 x) d.next)) w9 (f 7) := ht9 7 (Nat.le_of_ble_eq_true rfl)
          have E8 : (TBools (Cir.lits (Cir.vals d S1 x) d.next)) w9 (f 8) := ht9 8 (Nat.le_of_ble_eq_true rfl)
          have Ho9 : Only _ W2 w9 := hI9.2.1
          have C8 : f 8 = f 7 := (hcp9 8 _ 62 7 rfl rfl rfl rfl).2
          simp only [putAll, E0, E1, E2, E3, E4, E5, C8, Nat.zero_add, Nat.reduceAdd, Act.put, List.setIfInBounds_toArray, List.set_cons_succ, List.set_cons_zero]
          clear E0 E1 E2 E3 E4 E5
          clear hI9 ht9 hcp9 hk9
          generalize f 6 = r6 at *
          generalize f 7 = r7 at *
          have hb := only_below Ho9
          have Hvh := Lib.hid (show BoolsAt w9 r7 (Cir.lits (Cir.vals d S1 x) d.next) from E7)
          have Hb10 := Lib.hid (Hb9.out.trans (hb.mono z9))
          replace Hvl := Lib.hid (Row.below Hvl.out hb)
          clear z p0 p1 p2 p3 Ho9 E6 E7 hb hc2 hbr2
          go_wp2_with fail
          go_roundw
          case rel => exact ⟨_, _, k + 1, rfl, rfl, by go_num, by omega, Lib.hid (by rw [HN0.out]; exact Hvl.out), Lib.hid (by rw [HN1.out]; exact Hvh.out), Hb10.out⟩
          case measure => simp [intOf] <;> omega
        · obtain rfl : k = rss.length := by omega
          have hdk : decide (rss.length < rss.length) = false := decide_eq_false (by omega)
          rw [List.take_length] at Hul Huh
          have HLn := Lib.hid (Cir.runL_length d rss s0 Hl0.out)
          have HE := Lib.hid (HSame.out s1 s0 Hl1.out Hl0.out)
          rw [HE.out] at Huh
          generalize Cir.runL d s0 rss = S at *
          obtain ⟨Al, cl, el, -⟩ := Row.shape Hul.out
          obtain ⟨Ah, ch, eh, -⟩ := Row.shape Huh.out
          subst el eh
          replace PC := Lib.hid (PC.out.below Hb.out)
          replace HC := Lib.hid (HC.out.below Hb.out)
          replace B := Lib.hid (B.out.trans (Hb.out.mono B.out.size))
          obtain ⟨z, p0, p1, p2, p3⟩ := PC.out
          have hSn := HLn.out
          have hS3 : S.length ≤ 16 := by omega
          have HnS : Hid (Cir.num S ≤ 1000000) := Lib.hid (by
            have h1 := Cir.num_lt S
            have h2 : 2 ^ S.length ≤ 2 ^ 16 := Nat.pow_le_pow_right (by decide) hS3
            omega)
          clear hSn
          go_wp2_with fail
          refine (sameBools_same _ _ S _ Hul.out Huh.out).mono ?_
          rintro e wa ⟨rfl, hb⟩
          clear z p0 p1 p2 p3 Huh
          replace Hul := Lib.hid (Row.below Hul.out hb)
          replace PC := Lib.hid (PC.out.below hb)
          replace HC := Lib.hid (HC.out.below hb)
          replace B := Lib.hid (B.out.trans (hb.mono B.out.size))
          clear hb
          obtain ⟨z, p0, p1, p2, p3⟩ := PC.out
          go_wp2_with fail
          refine (implReach_any _ c _ (by rw [← Hci.out, ← Hcn.out]; exact HC.out)).mono ?_
          rintro e wb ⟨vb, rfl, hown, hb⟩
          rw [HRI.out] at hown
          have HQ := Lib.hid (show NatsAt wb vb (Cir.reach d) from Row.of_own hown)
          clear hown z p0 p1 p2 p3
          replace Hul := Lib.hid (Row.below Hul.out hb)
          replace B := Lib.hid (B.out.trans (hb.mono B.out.size))
          clear hb PC HC
          go_wp2_with fail
          refine (lawNumber_any _ S _ Hul.out hS3).mono ?_
          rintro e wc ⟨rfl, rfl⟩
          have hmm : Cir.memB (Cir.reach d) (Cir.num S) = true := Cir.memB_iff.2 HMem.out
          go_wp2_with fail
          refine (lawContains_any _ _ _ _ HQ.out HnS.out).mono ?_
          rintro e wc ⟨rfl, rfl⟩
          go_wp2_with fail
          go_ret
          exact ⟨rfl, B.out⟩
  · go_enter Try.func13, Try.ntmps13
    go_wp2_with fail
    go_ret
    exact ⟨rfl, Below.refl _ _⟩

/-! The step from the walk to the row. -/
set_option maxRecDepth 100000 in
theorem lifted (os : Os) (started : os.Started) (H : Type) (enc : TypeId × Value → H) :
    ReturnsInHanded {} Try.checked os 13 .any (Rows.fnResetsReachSpec.pre6 enc Try.prog Try.f13 Rows.fnResetsReachRow.domain false) (Rows.fnResetsReachSpec.post enc Try.prog Try.f13 false true false false) := by
  refine returnsInHanded_of_change (C := Try.checked) own started (by kernel_rfl) Try.func13
    (ChangeSpec.witness6 (enc := enc) (C := Try.checked) false ⟨#[], #[.slice none 0 0], []⟩ 8 (by kernel_rfl) (by kernel_rfl) (by kernel_rfl) (by kernel_rfl)) ?_
  intro W base args ds gs before hval0 hW hcnd _
  have hval : ∀ (j : Nat) t v, Try.f13.params[j]? = some t → args[j]? = some v → Value.okWide Try.prog W .any base t v := hval0
  have hW' := hW
  obtain ⟨p, q, hA0, hV, rfl, hfz, hnd⟩ := hW
  have hA : DataW.TrodAll enc Try.prog W 0 (fun _ => true) true Try.f13.params.toList args.toList ds p := hA0
  rw [Try.params13] at hA hval
  obtain ⟨v0, vs0, d0, ds0, p0, q0, hargs, rfl, rfl, h0, r0⟩ := trodAll_cons hA
  obtain ⟨rfl, rfl, rfl⟩ := trodAll_nil r0
  obtain rfl : args = #[v0] := by cases args; simp_all
  obtain ⟨rfl, rfl⟩ := trodVars_none hV
  obtain ⟨a0, len0, cap0, rfl⟩ := okWide_slice Try.underlying22 (hval 0 22 v0 rfl rfl)
  have k0 := h0
  have lt0 : ∀ x ∈ p0, x.block < W.heap.size := by obtain ⟨m, hm⟩ := k0; exact DataW.trod_lt m _ _ _ hm
  obtain ⟨z0, w0⟩ : ∃ zs, IsRow .u8 W a0 len0 cap0 zs := by
    obtain ⟨fuel, hf⟩ := h0
    rcases open_ints Try.underlying22 Try.underlying5 (by kernel_rfl) hf with ⟨hcs, _⟩ | ⟨x, l, c, zs, hcs, _, hl, hm, hz, _, hcell, hwz⟩
    · simp [Value.cells] at hcs
      obtain ⟨rfl, rfl, rfl⟩ := hcs
      exact ⟨[], .inl ⟨rfl, rfl, rfl, rfl⟩⟩
    · simp [Value.cells] at hcs
      obtain ⟨rfl, rfl, rfl⟩ := hcs
      exact ⟨zs, .inr ⟨_, rfl, hl, hm, by simpa using hz, hcell, hwz⟩⟩
  clear hA0 hval0
  refine (walk a0 len0 cap0 z0 W w0).mono fun e W' ⟨he, bel⟩ => ?_
  subst he
  exact ⟨_, rfl, _, _, _, [], _, [], hW', trodAll_mk1 (shut_bool Try.underlying4 _), (trodAll_cons_mk (Below.trod laidOut (by kernel_rfl) (of_decide_eq_true (by kernel_rfl)) k0 bel lt0) trodAll_mk0), rfl, bel.frame _, fun h => by cases h⟩

theorem over : Rows.fnResetsReachRow.holds Try.pinned (OpenSpec.ofChange Rows.fnResetsReachSpec) :=
  OpenClaim.holds_of_wide 13 Try.f13 rfl rfl rfl rfl rfl rfl rfl ⟨rfl, rfl, rfl, rfl, rfl⟩ rfl rfl rfl rfl rfl (by kernel_rfl) Try.func13 (by kernel_rfl)
    (of_decide_eq_true (by kernel_rfl)) (by unfold Func.isWrapper; first | (rw [if_pos (by decide +kernel)]; kernel_rfl) | (rw [if_neg (by decide +kernel)]; exact ⟨rfl, rfl⟩))
    (fun os started H enc _ => lifted os started H enc)

/-- The statement. -/
theorem proved : Rows.FnResetsReachSaid := over
#print axioms proved
end Go.Proofs.Ytopimdakpnnbhaa.fnResetsReach
