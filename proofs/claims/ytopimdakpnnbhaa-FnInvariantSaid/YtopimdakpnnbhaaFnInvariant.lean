/-
  FnInvariant: The program's Invariant is the reference's; for a valid circuit and one of its outputs it is true just when the output is 0 in every reachable state for all inputs, and just when there is no violation.
  Conditions: none. For every input that the row reads, the Go function laws.FnInvariant returns true and leaves its arguments as they were.
-/
import Derived.Test.YtopimdakpnnbhaaS10
import Derived.Test.YtopimdakpnnbhaaS09
import Derived.Test.YtopimdakpnnbhaaS03
import Derived.Test.YtopimdakpnnbhaaS06
import Derived.StillTailTactics
import Derived.Test.YtopimdakpnnbhaaRows
import Derived.WalkKit
import Derived.ProofKit
import Derived.OpenShut
import Derived.ShutString
import Derived.ChangeOld
import Derived.Below
set_option linter.unusedVariables false
set_option linter.unusedSimpArgs false
namespace Go.Proofs.Ytopimdakpnnbhaa.fnInvariant
open Go.ChangeShapes Go.WideShapes Go.ChangeAt Go.RowKit
open Go.ChangeMaps (open_string shut_string)
set_option linter.unusedVariables false

theorem own : ownKnob Try.prog.godebug = none := by kernel_rfl
theorem laidOut : laidOutB Try.prog = true := by kernel_rfl

/-- A slice of integers that came in: nil, or a row of cells. -/
def IsRow (k : IntKind) (w : World) (a : Option Addr) (len cap : Nat) (zs : List Int) : Prop :=
  (a = none ∧ len = 0 ∧ cap = 0 ∧ zs = []) ∨
  ∃ x, a = some x ∧ len ≤ cap ∧ cap ≤ maxLen ∧ zs.length = cap ∧ (∀ i, i < zs.length → w.cell? (x.add i) = some (.int k (zs.getD i 0))) ∧ ∀ n ∈ zs, (Lit.int k n).wf = true


set_option maxHeartbeats 8000000 in
set_option maxRecDepth 100000 in
/-- The walk: the Go text returns true. -/
theorem walk (a0 : Option Addr) (len0 cap0 : Nat) (z0 : List Int) (w : World) (w0 : IsRow .u8 w a0 len0 cap0 z0) :
    Calls Try.prog 7 #[.slice a0 len0 cap0] w fun e w' => e = .returned (.bool true) ∧ Below w.heap.size w w' := by
  obtain ⟨bs, rfl, hwf, hr⟩ := Row.given w0
  clear w0
  by_cases hl : bs.length ≤ 1048576
  · have Hr := Lib.hid hr
    clear hr
    go_enter Try.func7, Try.ntmps7
    go_wp2_with fail
    refine (drawInvariant_any _ bs w Hr.out hwf hl).mono ?_
    rintro e w1 ⟨v1, c, o, rfl, hO, hS, ho1, ho2, hb1⟩
    obtain ⟨An, cn, Ag, cg, Ao, co, rfl⟩ := hO.shape
    have HC1 := Lib.hid hO.at
    have Hb1 := Lib.hid hb1
    clear hO hS hb1 Hr hwf
    go_wp2_with fail
    have hbx := bel_new w1 (.cells #[.int .i64 c.ins, .slice An c.next.length cn, .slice Ag c.gates.length cg, .slice Ao c.outs.length co] 26)
    have PC := Lib.hid (PCells.boxed w1 c.ins (.slice An c.next.length cn) (.slice Ag c.gates.length cg) (.slice Ao c.outs.length co) 26)
    have HC := Lib.hid (HC1.out.below hbx)
    have B := Lib.hid (Hb1.out.trans (hbx.mono Hb1.out.size))
    clear hbx
    generalize w1.alloc (.cells #[.int .i64 c.ins, .slice An c.next.length cn, .slice Ag c.gates.length cg, .slice Ao c.outs.length co] 26) = w2 at *
    obtain ⟨gb, hgb2⟩ : ∃ gb, w1.heap.size = gb := ⟨_, rfl⟩
    rw [hgb2] at PC ⊢
    clear hgb2
    obtain ⟨z, p0, p1, p2, p3⟩ := PC.out
    clear HC1 Hb1
    obtain ⟨ok, hok⟩ : ∃ ok, Cir.invI c o = ok := ⟨_, rfl⟩
    have Hok := Lib.hid hok
    clear hok
    refine (implInv_any _ c o _ HC.out).mono ?_
    rintro e w3 ⟨rfl, hb⟩
    rw [Hok.out]
    clear z p0 p1 p2 p3
    replace PC := Lib.hid (PC.out.below hb)
    replace HC := Lib.hid (HC.out.below hb)
    replace B := Lib.hid (B.out.trans (hb.mono B.out.size))
    clear hb
    obtain ⟨z, p0, p1, p2, p3⟩ := PC.out
    go_wp2_with fail
    refine (specInv_any _ c o _ HC.out).mono ?_
    rintro e w4 ⟨rfl, hb⟩
    rw [Hok.out]
    clear z p0 p1 p2 p3
    replace PC := Lib.hid (PC.out.below hb)
    replace HC := Lib.hid (HC.out.below hb)
    replace B := Lib.hid (B.out.trans (hb.mono B.out.size))
    clear hb
    obtain ⟨z, p0, p1, p2, p3⟩ := PC.out
    have hoo : (ok != ok) = false := by simp
    go_wp2_with fail
    refine (specValid_any _ c _ HC.out).mono ?_
    rintro e w5 ⟨rfl, hb⟩
    clear z p0 p1 p2 p3 hoo
    replace PC := Lib.hid (PC.out.below hb)
    replace HC := Lib.hid (HC.out.below hb)
    replace B := Lib.hid (B.out.trans (hb.mono B.out.size))
    clear hb
    obtain ⟨z, p0, p1, p2, p3⟩ := PC.out
    by_cases hin : Cir.valid c = true ∧ 0 ≤ o ∧ o < c.outs.length
    · obtain ⟨hv, hi0, hi1⟩ := hin
      obtain ⟨m, rfl⟩ := Int.eq_ofNat_of_zero_le hi0
      obtain ⟨hd1, hd2⟩ := Cir.nat_ok hv
      have Hreach : Hid (Cir.reachI c = nats (Cir.reach (Cir.nat c))) := Lib.hid (by unfold Cir.reachI; rw [hv]; rfl)
      have Hval := Lib.hid hv
      have hml : m < (Cir.nat c).outs.length := by unfold Cir.nat; simp only [List.length_map]; omega
      have HOK : Hid (ok = Cir.allG (Cir.nat c) m (Cir.reach (Cir.nat c))) := Lib.hid (by
        rw [Cir.allG_viol hd2, ← Hok.out]
        unfold Cir.invI Cir.violI
        rw [hv, decide_eq_true hi0, decide_eq_true hi1, if_pos ⟨rfl, hi0, hi1⟩]
        rfl)
      have HVI : Hid ((Cir.violI c (m : Int)).isSome = !ok) := Lib.hid (by
        rw [HOK.out, Cir.allG_viol hd2, Bool.not_not]
        unfold Cir.violI
        rw [if_pos ⟨hv, hi0, hi1⟩]
        rfl)
      have hi1' : ¬ (c.outs.length : Int) ≤ (m : Int) := by omega
      have hi0' : ¬ ((m : Int) < 0) := by omega
      have Hcn : Hid (c.next.length = (Cir.nat c).next.length) := Lib.hid (by unfold Cir.nat; simp)
      have Hci : Hid (c.ins = ((Cir.nat c).ins : Int)) := Lib.hid (by rw [hd1]; rfl)
      have Hd1 := Lib.hid hd1
      have Hd := Lib.hid hd2
      have l1 := hd2.ins
      have l2 := hd2.nexts
      have Hsz := Lib.hid ((Cir.reach_sts (Cir.nat c)).len hd2)
      have Hlt := Lib.hid ((Cir.reach_sts (Cir.nat c)).lt)
      obtain ⟨d, hd⟩ : ∃ d, Cir.nat c = d := ⟨_, rfl⟩
      have Hdd := Lib.hid hd
      rw [hd] at HOK Hreach Hcn Hci Hd1 Hd l1 l2 Hsz Hlt hml
      obtain ⟨R, hR⟩ : ∃ R, Cir.reach d = R := ⟨_, rfl⟩
      rw [hR] at HOK Hreach Hsz Hlt
      have hR8 := Hsz.out
      have HM : Hid (2 ^ d.ins ≤ 16) := Lib.hid (Nat.pow_le_pow_right (show 0 < 2 by decide) (show d.ins ≤ 4 from l1))
      rw [hv]
      clear hd1 hd2 hv hR hd
      go_wp2_with fail
      refine (implReach_any _ c _ HC.out).mono ?_
      rintro e w6 ⟨v6, rfl, hown, hb⟩
      rw [Hreach.out] at hown
      have HL := Lib.hid (show NatsAt w6 v6 R from Row.of_own hown)
      obtain ⟨A6, c6, e6, -, -⟩ := NatsAt.shape (xs := R) HL.out
      subst e6
      clear hown z p0 p1 p2 p3
      replace PC := Lib.hid (PC.out.below hb)
      replace HC := Lib.hid (HC.out.below hb)
      replace B := Lib.hid (B.out.trans (hb.mono B.out.size))
      clear hb
      rw [Hci.out, Hcn.out] at PC
      clear Hreach hi0 hi1
      go_wp2_with fail
      have Hb := Lib.hid (Below.refl w6.heap.size w6)
      go_loopw [7, 8] (fun al i wr => ∃ k : Nat, al = .bool (Cir.allG d m (R.take k)) ∧ i = .int .i64 k ∧ k ≤ R.length ∧ Below w6.heap.size w6 wr) (fun _ i _ => R.length - (intOf i).toNat)
      case atStart => exact ⟨0, rfl, rfl, Nat.zero_le _, Hb.out⟩
      case round =>
        obtain ⟨k, rfl, rfl, hk, hb⟩ := hrel
        clear Hb
        have Hb := Lib.hid hb
        have zb := hb.size
        clear hb
        by_cases hlt : k < R.length
        · have hdk : decide (k < R.length) = true := decide_eq_true hlt
          obtain ⟨s, hs⟩ : ∃ s, R[k]? = some s := ⟨_, List.getElem?_eq_getElem hlt⟩
          have HA1 := Lib.hid (Cir.allG_succ (c := d) (o := m) hs)
          have Hs := Lib.hid hs
          have hs8 : s < 2 ^ d.next.length := Hlt.out s (List.mem_of_getElem? hs)
          have hs9 : s ≤ 1000000 := by
            have : 2 ^ d.next.length ≤ 2 ^ 3 := Nat.pow_le_pow_right (show 0 < 2 by decide) l2
            omega
          obtain ⟨al, hal⟩ : ∃ al, Cir.allG d m (R.take k) = al := ⟨_, rfl⟩
          rw [hal] at HA1 ⊢
          clear hs hal hs8
          go_wp2_with fail
          obtain ⟨W8, hW8⟩ : ∃ W8, W8 = wr := ⟨_, rfl⟩
          subst hW8
          go_loopw [7, 9] (fun v i wr => ∃ x : Nat, v = .bool (al && Cir.upG d m s x) ∧ i = .int .i64 x ∧ x ≤ 2 ^ d.ins ∧ Below W8.heap.size W8 wr) (fun _ i _ => 2 ^ d.ins - (intOf i).toNat)
          case atStart => exact ⟨0, by rw [show Cir.upG d m s 0 = true from rfl, Bool.and_true], rfl, Nat.zero_le _, Below.refl _ _⟩
          case round =>
            obtain ⟨x, rfl, rfl, hx, hb⟩ := hrel
            have Hbx := Lib.hid (Hb.out.trans (hb.mono zb))
            have Hb8 := Lib.hid hb
            have zx := hb.size
            clear hb
            obtain ⟨z, p0, p1, p2, p3⟩ := PC.out.below Hbx.out
            obtain ⟨M, hM⟩ : ∃ M : Nat, 2 ^ d.ins = M := ⟨_, rfl⟩
            have eM : (2 : Int) ^ d.ins = (M : Int) := by rw [← hM]; exact two_pow _
            have hM16 : M ≤ 16 := by have := HM.out; omega
            have hwM := IntWalk.i64_in (M : Int) (by omega)
            rw [hM] at hx HA1 ⊢
            clear hM
            by_cases hlx : x < M
            · have hdx : decide (x < M) = true := decide_eq_true hlx
              have HU := Lib.hid (Cir.upG_succ d m s x)
              cases hu : al && Cir.upG d m s x
              · have HN : Hid ((al && Cir.upG d m s (x + 1)) = false) := Lib.hid (by rw [HU.out, ← Bool.and_assoc, hu]; rfl)
                clear hu HU
                go_wp2_with fail
                refine wp_region_grow (by kernel_rfl) (by kernel_rfl) ?_
                repeat (go_big_quiet_step ((fail)))
                refine wpQuiet_nil ?_
                intro _ hw'
                obtain ⟨nq, hw''⟩ := hw'
                subst hw''
                have hgq := gw_below nq
                generalize gw nq = wq at *
                clear nq
                have Hbn := Lib.hid (Hb8.out.trans (hgq.mono zx))
                clear hgq
                go_wp2_with fail
                go_roundw
                case rel => exact ⟨x + 1, by rw [HN.out], by go_num, by omega, Hbn.out⟩
                case measure => simp [intOf]; omega
              · have HN : Hid ((al && Cir.upG d m s (x + 1)) = !Cir.bad d m s x) := Lib.hid (by rw [HU.out, ← Bool.and_assoc, hu]; rfl)
                obtain ⟨b, o', y, hA6, hbl, hx0, hs0⟩ := nats_cell (A := A6) (n := R.length) (c := c6) (xs := R) (i := k) (nats_row (show NatsAt wr (.slice A6 R.length c6) R from Row.below HL.out Hbx.out)) rfl hlt
                subst hA6
                obtain rfl : y = s := Option.some.inj (hx0.out.symm.trans Hs.out)
                have HCx := Lib.hid (HC.out.below Hbx.out)
                clear hu HU hx0
                go_wp2_with fail
                refine wp_region_rsG [(1, true)] (quietRS Try.prog _ wr _) quietRS_ok (by kernel_rfl) (by kernel_rfl) (by kernel_rfl) (Nat.le_of_ble_eq_true rfl) trivial trivial ?_
                refine rs_peel ?_
                refine rs_old quietRS_ok quiet_any _ (.inl rfl) _ rfl rfl ?_
                refine rs_peel ?_
                refine rs_same quietRS_ok quiet_any 60 0 (.inl rfl) rfl _ rfl ?_
                refine rs_run rfl ?_
                apply rs_eq quietRS_ok quiet_any
                · intro ρ w' ho hK
                  have ho : Only _ wr w' := ho
                  obtain ⟨h0, -⟩ := hK
                  have h0' : ρ (.tmp 3) = _ := h0
                  have hb := only_below ho
                  have q0 := (hb.cell (p := ⟨gb, 0, none⟩) z).trans p0
                  have q1 := (hb.cell (p := ⟨gb, 1, none⟩) z).trans p1
                  have q2 := (hb.cell (p := ⟨gb, 2, none⟩) z).trans p2
                  have q3 := (hb.cell (p := ⟨gb, 3, none⟩) z).trans p3
                  have q4 := (hb.cell (p := ⟨b, o' + k, none⟩) hbl).trans hs0
                  go_simp
                  try exact rfl
                refine rs_run rfl ?_
                refine rs_old quietRS_ok quiet_any _ (.inl rfl) _ rfl rfl ?_
                refine rs_run rfl ?_
                refine rs_old quietRS_ok quiet_any _ (.inl rfl) _ rfl rfl ?_
                refine rs_run rfl ?_
                apply rs_eq quietRS_ok quiet_any
                · intro ρ w' ho hK
                  have ho : Only _ wr w' := ho
                  obtain ⟨h0, h1, -⟩ := hK
                  have h0' : ρ (.tmp 63) = _ := h0
                  have h1' : ρ (.tmp 64) = _ := h1
                  go_simp
                  try exact rfl
                refine rs_run rfl ?_
                apply rs_eq quietRS_ok quiet_any
                · intro ρ w' ho hK
                  have ho : Only _ wr w' := ho
                  obtain ⟨h0, -⟩ := hK
                  have h0' : ρ (.tmp 65) = _ := h0
                  have hb := only_below ho
                  have q0 := (hb.cell (p := ⟨gb, 0, none⟩) z).trans p0
                  have q1 := (hb.cell (p := ⟨gb, 1, none⟩) z).trans p1
                  have q2 := (hb.cell (p := ⟨gb, 2, none⟩) z).trans p2
                  have q3 := (hb.cell (p := ⟨gb, 3, none⟩) z).trans p3
                  have q4 := (hb.cell (p := ⟨b, o' + k, none⟩) hbl).trans hs0
                  go_simp
                  try exact rfl
                refine rs_run rfl ?_
                apply rs_eq quietRS_ok quiet_any
                · intro ρ w' ho hK
                  have ho : Only _ wr w' := ho
                  obtain ⟨h0, -⟩ := hK
                  have h0' : ρ (.tmp 3) = _ := h0
                  go_simp
                  try exact rfl
                refine rs_run rfl ?_
                apply rs_eq quietRS_ok quiet_any
                · intro ρ w' ho hK
                  have ho : Only _ wr w' := ho
                  obtain ⟨h0, -⟩ := hK
                  have h0' : ρ (.tmp 67) = _ := h0
                  have hb := only_below ho
                  have q0 := (hb.cell (p := ⟨gb, 0, none⟩) z).trans p0
                  have q1 := (hb.cell (p := ⟨gb, 1, none⟩) z).trans p1
                  have q2 := (hb.cell (p := ⟨gb, 2, none⟩) z).trans p2
                  have q3 := (hb.cell (p := ⟨gb, 3, none⟩) z).trans p3
                  have q4 := (hb.cell (p := ⟨b, o' + k, none⟩) hbl).trans hs0
                  go_simp
                  try exact rfl
                refine rs_run rfl ?_
                apply rs_eq quietRS_ok quiet_any
                · intro ρ w' ho hK
                  have ho : Only _ wr w' := ho
                  obtain ⟨h0, -⟩ := hK
                  have h0' : ρ (.tmp 68) = _ := h0
                  go_simp
                  try exact rfl
                refine rs_run rfl ?_
                refine rs_call quietRS_ok quiet_any (TBools (Cir.bits y d.next.length)) (stb_bools _) 21 _ _ rfl (fun ρ w' ho hK => by
                  have ho : Only _ wr w' := ho
                  obtain ⟨h0, h1, h2, -⟩ := hK
                  have h0' : ρ (.func 21) = .func (.func 21) #[] #[] := h0
                  have h1' : ρ (.tmp 66) = _ := h1
                  have h2' : ρ (.tmp 69) = _ := h2
                  refine ⟨#[ρ (.tmp 66), ρ (.tmp 69)], ?_, ?_⟩
                  · go_simp
                  · rw [h1', h2']
                    refine (bits_any y d.next.length w' (by omega) (by omega)).mono ?_
                    rintro e w2 ⟨v2, rfl, hO, hb⟩
                    exact ⟨v2, rfl, Row.of_own hO, hb⟩) ?_
                refine rs_run rfl ?_
                refine rs_old quietRS_ok quiet_any _ (.inl rfl) _ rfl rfl ?_
                refine rs_run rfl ?_
                apply rs_eq quietRS_ok quiet_any
                · intro ρ w' ho hK
                  have ho : Only _ wr w' := ho
                  obtain ⟨h0, -⟩ := hK
                  have h0' : ρ (.tmp 3) = _ := h0
                  go_simp
                  try exact rfl
                refine rs_run rfl ?_
                apply rs_eq quietRS_ok quiet_any
                · intro ρ w' ho hK
                  have ho : Only _ wr w' := ho
                  obtain ⟨h0, -⟩ := hK
                  have h0' : ρ (.tmp 72) = _ := h0
                  have hb := only_below ho
                  have q0 := (hb.cell (p := ⟨gb, 0, none⟩) z).trans p0
                  have q1 := (hb.cell (p := ⟨gb, 1, none⟩) z).trans p1
                  have q2 := (hb.cell (p := ⟨gb, 2, none⟩) z).trans p2
                  have q3 := (hb.cell (p := ⟨gb, 3, none⟩) z).trans p3
                  have q4 := (hb.cell (p := ⟨b, o' + k, none⟩) hbl).trans hs0
                  go_simp
                  try exact rfl
                refine rs_run rfl ?_
                refine rs_call quietRS_ok quiet_any (TBools (Cir.bits x d.ins)) (stb_bools _) 21 _ _ rfl (fun ρ w' ho hK => by
                  have ho : Only _ wr w' := ho
                  obtain ⟨h0, h1, h2, -⟩ := hK
                  have h0' : ρ (.func 21) = .func (.func 21) #[] #[] := h0
                  have h1' : ρ (.tmp 71) = _ := h1
                  have h2' : ρ (.tmp 73) = _ := h2
                  refine ⟨#[ρ (.tmp 71), ρ (.tmp 73)], ?_, ?_⟩
                  · go_simp
                  · rw [h1', h2']
                    refine (bits_any x d.ins w' (by omega) (by omega)).mono ?_
                    rintro e w2 ⟨v2, rfl, hO, hb⟩
                    exact ⟨v2, rfl, Row.of_own hO, hb⟩) ?_
                refine rs_run rfl ?_
                refine rs_call quietRS_ok quiet_any (TStep (Cir.outsOf d y x) (Cir.lits (Cir.vals d (Cir.bits y d.next.length) (Cir.bits x d.ins)) d.next)) (stb_step _ _) 38 _ _ rfl (fun ρ w' ho hK => by
                  have ho : Only _ wr w' := ho
                  obtain ⟨h0, h1, h2, h3, -⟩ := hK
                  have h0' : ρ (.func 38) = .func (.func 38) #[] #[] := h0
                  have h1' : ρ (.tmp 62) = _ := h1
                  have h2' : (TBools (Cir.bits y d.next.length)) w' (ρ (.tmp 70)) := h2
                  have h3' : (TBools (Cir.bits x d.ins)) w' (ρ (.tmp 74)) := h3
                  refine ⟨#[ρ (.tmp 62), ρ (.tmp 70), ρ (.tmp 74)], ?_, ?_⟩
                  · go_simp
                  · rw [h1']
                    refine (implStep_ok _ _ _ d _ _ w' (by rw [← Hd1.out, ← Hci.out, ← Hcn.out]; exact HCx.out.below (only_below ho)) Hd.out (by rw [← Hd1.out]; exact Hval.out) h2' h3' (Cir.bits_length _ _) (Cir.bits_length _ _)).mono ?_
                    rintro e w2 ⟨⟨x, y, rfl, hx, hy⟩, hb⟩
                    exact ⟨_, rfl, ⟨x, y, rfl, hx, hy⟩, hb⟩) ?_
                refine rs_run rfl ?_
                refine rs_look quietRS_ok quiet_any (TBools (Cir.outsOf d y x)) (stb_bools _) (fun ρ w' ho hK => by
                  obtain ⟨h0, -⟩ := hK
                  obtain ⟨x0, y0, h0', hx, hy⟩ : (TStep (Cir.outsOf d y x) (Cir.lits (Cir.vals d (Cir.bits y d.next.length) (Cir.bits x d.ins)) d.next)) w' (ρ (.tmp 75)) := h0
                  obtain ⟨A0, c0, e0, -⟩ := Row.shape hx
                  obtain ⟨A1, c1, e1, -⟩ := Row.shape hy
                  subst e0 e1
                  have hf := step_field0 A0 A1 (Cir.outsOf d y x).length (Cir.lits (Cir.vals d (Cir.bits y d.next.length) (Cir.bits x d.ins)) d.next).length c0 c1 w'
                  refine ⟨_, ?_, hx⟩
                  go_simp) ?_
                refine rs_run rfl ?_
                refine rs_old quietRS_ok quiet_any _ (.inl rfl) _ rfl rfl ?_
                refine rs_run rfl ?_
                refine rs_look quietRS_ok quiet_any (TPB (Cir.bad d m y x)) (stb_pb _) (fun ρ w' ho hK => by
                  obtain ⟨h0, h1, -⟩ := hK
                  have h0' : BoolsAt w' (ρ (.tmp 76)) (Cir.outsOf d y x) := h0
                  have h1' : ρ (.tmp 77) = _ := h1
                  obtain ⟨b2, o2, c2, hB2, hbl2, hs2⟩ := boolsAt_cell h0' (Cir.bad_at hml)
                  have hol : m < (Cir.outsOf d y x).length := by unfold Cir.outsOf; rw [Cir.lits_len]; exact hml
                  generalize (Cir.outsOf d y x).length = ol at *
                  refine ⟨.pointer (some ⟨b2, o2 + m, none⟩), ?_, _, _, rfl, hbl2, hs2⟩
                  go_simp) ?_
                refine rs_run rfl ?_
                refine rs_look quietRS_ok quiet_any (TEq (.bool (Cir.bad d m y x))) (stb_eq _ _) (fun ρ w' ho hK => by
                  obtain ⟨h0, -⟩ := hK
                  obtain ⟨g, i, hv, hg, hc⟩ : (TPB (Cir.bad d m y x)) w' (ρ (.tmp 78)) := h0
                  refine ⟨_, ?_, rfl⟩
                  go_simp) ?_
                refine rs_run rfl ?_
                apply rs_eq quietRS_ok quiet_any
                · intro ρ w' ho hK
                  have ho : Only _ wr w' := ho
                  obtain ⟨h0, -⟩ := hK
                  have h0' : ρ (.tmp 79) = _ := h0
                  go_simp
                  try exact rfl
                refine rs_peel ?_
                apply rs_eq quietRS_ok quiet_any
                · intro ρ w' ho hK
                  have ho : Only _ wr w' := ho
                  obtain ⟨h0, h1, h2, -⟩ := hK
                  have h0' : ρ (.tmp 61) = _ := h0
                  have h1' : ρ (.tmp 80) = _ := h1
                  have h2' : ρ (.const (Value.bool false)) = (Value.bool false) := h2
                  go_simp
                  try exact rfl
                refine rs_peel ?_
                refine rs_same quietRS_ok quiet_any 81 21 (.inr rfl) rfl _ rfl ?_
                refine ⟨⟨rfl, trivial⟩, ?_⟩
                intro f w9 k9 hk9 hI9 ht9 hcp9
                have E0 : f 0 = _ := ht9 0 (Nat.le_of_ble_eq_true rfl)
                conv at E0 => rhs; whnf
                have E1 : f 1 = _ := ht9 1 (Nat.le_of_ble_eq_true rfl)
                have E2 : f 2 = _ := ht9 2 (Nat.le_of_ble_eq_true rfl)
                have E3 : f 3 = _ := ht9 3 (Nat.le_of_ble_eq_true rfl)
                conv at E3 => rhs; whnf
                have E4 : f 4 = _ := ht9 4 (Nat.le_of_ble_eq_true rfl)
                conv at E4 => rhs; whnf
                have E5 : f 5 = _ := ht9 5 (Nat.le_of_ble_eq_true rfl)
                have E6 : f 6 = _ := ht9 6 (Nat.le_of_ble_eq_true rfl)
                have E7 : f 7 = _ := ht9 7 (Nat.le_of_ble_eq_true rfl)
                have E8 : f 8 = _ := ht9 8 (Nat.le_of_ble_eq_true rfl)
                have E9 : f 9 = _ := ht9 9 (Nat.le_of_ble_eq_true rfl)
                have E10 : (TBools (Cir.bits y d.next.length)) w9 (f 10) := ht9 10 (Nat.le_of_ble_eq_true rfl)
                have E11 : f 11 = _ := ht9 11 (Nat.le_of_ble_eq_true rfl)
                conv at E11 => rhs; whnf
                have E12 : f 12 = _ := ht9 12 (Nat.le_of_ble_eq_true rfl)
                have E13 : f 13 = _ := ht9 13 (Nat.le_of_ble_eq_true rfl)
                have E14 : (TBools (Cir.bits x d.ins)) w9 (f 14) := ht9 14 (Nat.le_of_ble_eq_true rfl)
                have E15 : (TStep (Cir.outsOf d y x) (Cir.lits (Cir.vals d (Cir.bits y d.next.length) (Cir.bits x d.ins)) d.next)) w9 (f 15) := ht9 15 (Nat.le_of_ble_eq_true rfl)
                have E16 : (TBools (Cir.outsOf d y x)) w9 (f 16) := ht9 16 (Nat.le_of_ble_eq_true rfl)
                have E17 : f 17 = _ := ht9 17 (Nat.le_of_ble_eq_true rfl)
                conv at E17 => rhs; whnf
                have E18 : (TPB (Cir.bad d m y x)) w9 (f 18) := ht9 18 (Nat.le_of_ble_eq_true rfl)
                have E19 : f 19 = _ := ht9 19 (Nat.le_of_ble_eq_true rfl)
                have E20 : f 20 = _ := ht9 20 (Nat.le_of_ble_eq_true rfl)
                have E21 : f 21 = _ := ht9 21 (Nat.le_of_ble_eq_true rfl)
                have E22 : f 22 = _ := ht9 22 (Nat.le_of_ble_eq_true rfl)
                have Ho9 : Only _ wr w9 := hI9.2.1
                simp only [putAll, E0, E1, E2, E3, E4, E5, E6, E7, E8, E9, E11, E12, E13, E17, E19, E20, E21, E22, Nat.zero_add, Nat.reduceAdd, Act.put, List.setIfInBounds_toArray, List.set_cons_succ, List.set_cons_zero]
                clear E0 E1 E2 E3 E4 E5 E6 E7 E8 E9 E11 E12 E13 E17 E19 E20 E21 E22
                clear hI9 ht9 hcp9 hk9
                generalize f 10 = r10 at *
                generalize f 14 = r14 at *
                generalize f 15 = r15 at *
                generalize f 16 = r16 at *
                generalize f 18 = r18 at *
                have hb9 := only_below Ho9
                have Hbn := Lib.hid (Hb8.out.trans (hb9.mono zx))
                clear hb9 Ho9 E10 E14 E15 E16 E18 z p0 p1 p2 p3 hs0
                go_wp2_with fail
                go_roundw
                case rel => exact ⟨x + 1, by rw [HN.out], by go_num, by omega, Hbn.out⟩
                case measure => simp [intOf]; omega
            · obtain rfl : x = M := by omega
              have hdx : decide (x < x) = false := decide_eq_false (by omega)
              have Hbn := Lib.hid (Hb.out.trans (Hb8.out.mono zb))
              clear hlx
              go_wp2_with fail
              go_roundw
              case rel => exact ⟨k + 1, by rw [HA1.out], by go_num, by omega, Hbn.out⟩
              case measure => simp [intOf]; omega
        · obtain rfl : k = R.length := by omega
          have hdk : decide (R.length < R.length) = false := decide_eq_false (by omega)
          obtain ⟨z, p0, p1, p2, p3⟩ := PC.out.below Hb.out
          have hAL : Cir.allG d m (R.take R.length) = ok := by rw [List.take_length, HOK.out]
          rw [hAL]
          have hvf := viol_field0
          have hee : (ok == ok) = true := by simp
          clear hAL
          go_wp2_with fail
          refine (implViol_any _ c m _ (by rw [← Hci.out, ← Hcn.out]; exact HC.out.below Hb.out)).mono ?_
          rintro e w9 ⟨v9, rfl, hO9, hb9⟩
          rw [HVI.out]
          obtain ⟨A9, c9, e9, -⟩ := (OwnSS.at hO9).shape
          subst e9
          replace B := Lib.hid (B.out.trans ((Hb.out.trans (hb9.mono zb)).mono B.out.size))
          generalize (vrows (Cir.nat c).ins (Cir.violI c m)).length = vl at *
          clear hO9 hb9
          cases ok
          all_goals
            go_wp2_with fail
            go_ret
            exact ⟨rfl, B.out⟩
    · have hok0 : ok = false := by
        rw [← Hok.out]
        unfold Cir.invI
        cases hv : Cir.valid c
        · rfl
        · rcases Int.lt_or_le o 0 with h0 | h0
          · rw [decide_eq_false (by omega : ¬ (0 ≤ o))]; rfl
          · rw [decide_eq_false (show ¬ (o < (c.outs.length : Int)) from fun h => hin ⟨hv, h0, h⟩)]; simp
      subst hok0
      cases hv : Cir.valid c
      · clear hin
        go_wp2_with fail
        refine (alive_any _).mono ?_
        rintro e w8 ⟨rfl, hb⟩
        replace B := Lib.hid (B.out.trans (hb.mono B.out.size))
        clear hb
        go_wp2_with fail
        go_ret
        exact ⟨rfl, B.out⟩
      · by_cases h0 : o < 0
        · clear hin
          go_wp2_with fail
          refine (alive_any _).mono ?_
          rintro e w8 ⟨rfl, hb⟩
          replace B := Lib.hid (B.out.trans (hb.mono B.out.size))
          clear hb
          go_wp2_with fail
          go_ret
          exact ⟨rfl, B.out⟩
        · have h1 : (c.outs.length : Int) ≤ o := by
            rcases Int.lt_or_le o c.outs.length with h | h
            · exact absurd ⟨hv, by omega, h⟩ hin
            · exact h
          clear hin
          go_wp2_with fail
          refine (alive_any _).mono ?_
          rintro e w8 ⟨rfl, hb⟩
          replace B := Lib.hid (B.out.trans (hb.mono B.out.size))
          clear hb
          go_wp2_with fail
          go_ret
          exact ⟨rfl, B.out⟩
  · go_enter Try.func7, Try.ntmps7
    go_wp2_with fail
    go_ret
    exact ⟨rfl, Below.refl _ _⟩

/-! The step from the walk to the row. -/
set_option maxRecDepth 100000 in
theorem lifted (os : Os) (started : os.Started) (H : Type) (enc : TypeId × Value → H) :
    ReturnsInHanded {} Try.checked os 7 .any (Rows.fnInvariantSpec.pre6 enc Try.prog Try.f7 Rows.fnInvariantRow.domain false) (Rows.fnInvariantSpec.post enc Try.prog Try.f7 false true false false) := by
  refine returnsInHanded_of_change (C := Try.checked) own started (by kernel_rfl) Try.func7
    (ChangeSpec.witness6 (enc := enc) (C := Try.checked) false ⟨#[], #[.slice none 0 0], []⟩ 8 (by kernel_rfl) (by kernel_rfl) (by kernel_rfl) (by kernel_rfl)) ?_
  intro W base args ds gs before hval0 hW hcnd _
  have hval : ∀ (j : Nat) t v, Try.f7.params[j]? = some t → args[j]? = some v → Value.okWide Try.prog W .any base t v := hval0
  have hW' := hW
  obtain ⟨p, q, hA0, hV, rfl, hfz, hnd⟩ := hW
  have hA : DataW.TrodAll enc Try.prog W 0 (fun _ => true) true Try.f7.params.toList args.toList ds p := hA0
  rw [Try.params7] at hA hval
  obtain ⟨v0, vs0, d0, ds0, p0, q0, hargs, rfl, rfl, h0, r0⟩ := trodAll_cons hA
  obtain ⟨rfl, rfl, rfl⟩ := trodAll_nil r0
  obtain rfl : args = #[v0] := by cases args; simp_all
  obtain ⟨rfl, rfl⟩ := trodVars_none hV
  obtain ⟨a0, len0, cap0, rfl⟩ := okWide_slice Try.underlying22 (hval 0 22 v0 rfl rfl)
  have k0 := h0
  have lt0 : ∀ x ∈ p0, x.block < W.heap.size := by obtain ⟨m, hm⟩ := k0; exact DataW.trod_lt m _ _ _ hm
  obtain ⟨z0, w0⟩ : ∃ zs, IsRow .u8 W a0 len0 cap0 zs := by
    obtain ⟨fuel, hf⟩ := h0
    rcases open_ints Try.underlying22 Try.underlying5 (by kernel_rfl) hf with ⟨hcs, _⟩ | ⟨x, l, c, zs, hcs, _, hl, hm, hz, _, hcell, hwz⟩
    · simp [Value.cells] at hcs
      obtain ⟨rfl, rfl, rfl⟩ := hcs
      exact ⟨[], .inl ⟨rfl, rfl, rfl, rfl⟩⟩
    · simp [Value.cells] at hcs
      obtain ⟨rfl, rfl, rfl⟩ := hcs
      exact ⟨zs, .inr ⟨_, rfl, hl, hm, by simpa using hz, hcell, hwz⟩⟩
  clear hA0 hval0
  refine (walk a0 len0 cap0 z0 W w0).mono fun e W' ⟨he, bel⟩ => ?_
  subst he
  exact ⟨_, rfl, _, _, _, [], _, [], hW', trodAll_mk1 (shut_bool Try.underlying4 _), (trodAll_cons_mk (Below.trod laidOut (by kernel_rfl) (of_decide_eq_true (by kernel_rfl)) k0 bel lt0) trodAll_mk0), rfl, bel.frame _, fun h => by cases h⟩

theorem over : Rows.fnInvariantRow.holds Try.pinned (OpenSpec.ofChange Rows.fnInvariantSpec) :=
  OpenClaim.holds_of_wide 7 Try.f7 rfl rfl rfl rfl rfl rfl rfl ⟨rfl, rfl, rfl, rfl, rfl⟩ rfl rfl rfl rfl rfl (by kernel_rfl) Try.func7 (by kernel_rfl)
    (of_decide_eq_true (by kernel_rfl)) (by unfold Func.isWrapper; first | (rw [if_pos (by decide +kernel)]; kernel_rfl) | (rw [if_neg (by decide +kernel)]; exact ⟨rfl, rfl⟩))
    (fun os started H enc _ => lifted os started H enc)

/-- The statement. -/
theorem proved : Rows.FnInvariantSaid := over
#print axioms proved
end Go.Proofs.Ytopimdakpnnbhaa.fnInvariant
