/-
  FnMinimizeAgain: The program's Minimize is the reference's; minimizing again changes nothing, and renaming the states of a machine other than the initial one does not change the minimized machine.
  Conditions: none. For every input that the row reads, the Go function laws.FnMinimizeAgain returns true and leaves its arguments as they were.
-/
import Derived.Test.YtmlmnelbphjfbaaS06
import Derived.Test.YtmlmnelbphjfbaaS08
import Derived.Test.YtmlmnelbphjfbaaS10
import Derived.StillTailTactics
import Derived.Test.YtmlmnelbphjfbaaRows
import Derived.WalkKit
import Derived.ProofKit
import Derived.OpenShut
import Derived.ShutString
import Derived.ChangeOld
import Derived.Below
set_option linter.unusedVariables false
set_option linter.unusedSimpArgs false
namespace Go.Proofs.Ytmlmnelbphjfbaa.fnMinimizeAgain
open Go.ChangeShapes Go.WideShapes Go.ChangeAt Go.RowKit
open Go.ChangeMaps (open_string shut_string)
set_option linter.unusedVariables false

theorem own : ownKnob Try.prog.godebug = none := by kernel_rfl
theorem laidOut : laidOutB Try.prog = true := by kernel_rfl

/-- A slice of integers that came in: nil, or a row of cells. -/
def IsRow (k : IntKind) (w : World) (a : Option Addr) (len cap : Nat) (zs : List Int) : Prop :=
  (a = none ∧ len = 0 ∧ cap = 0 ∧ zs = []) ∨
  ∃ x, a = some x ∧ len ≤ cap ∧ cap ≤ maxLen ∧ zs.length = cap ∧ (∀ i, i < zs.length → w.cell? (x.add i) = some (.int k (zs.getD i 0))) ∧ ∀ n ∈ zs, (Lit.int k n).wf = true


set_option maxHeartbeats 16000000 in
set_option maxRecDepth 100000 in
/-- The walk: the Go text returns true. -/
theorem walk (a0 : Option Addr) (len0 cap0 : Nat) (z0 : List Int) (w : World) (w0 : IsRow .u8 w a0 len0 cap0 z0) :
    Calls Try.prog 6 #[.slice a0 len0 cap0] w fun e w' => e = .returned (.bool true) ∧ Below w.heap.size w w' := by
  obtain ⟨bs, rfl, hwf, hr⟩ := Row.given w0
  clear w0
  by_cases hl : bs.length ≤ 1048576
  · have hd1 : decide ((1048576 : Int) < (bs.length : Int)) = false := decide_eq_false (by omega)
    · have Hr := Lib.hid hr
      clear hr
      go_enter Try.func6, Try.ntmps6
      go_wp2_with fail
      refine (drawMini_any _ bs w Hr.out hwf hl).mono ?_
      rintro e w1 ⟨v1, m, rfl, hm, hb1⟩
      obtain ⟨An, cn, Ao, co, rfl, hcnm, hcom, hcn1, hco1⟩ := hm.shape
      have hbx := bel_new w1 (.cells #[.int .i64 m.ins, .slice An m.next.length cn, .slice Ao m.out.length co] 25)
      have PC := Lib.hid (MCells.boxed w1 m.ins (.slice An m.next.length cn) (.slice Ao m.out.length co) 25)
      have HC := Lib.hid (hm.below hbx)
      have B := Lib.hid (hb1.trans (hbx.mono hb1.size))
      clear hm hb1 Hr hwf hbx hd1
      unfold maxLen at hcnm hcom
      go_wp2_with fail
      generalize w1.alloc (.cells #[.int .i64 m.ins, .slice An m.next.length cn, .slice Ao m.out.length co] 25) = w2 at *
      obtain ⟨gb, hgb⟩ : ∃ gb, w1.heap.size = gb := ⟨_, rfl⟩
      rw [hgb] at PC ⊢
      clear hgb
      obtain ⟨z, p0, p1, p2⟩ := PC.out
      refine (implMinz_any _ m _ HC.out).mono ?_
      rintro e w3 ⟨v3, rfl, hO3, hb⟩
      have HM := Lib.hid (OwnMachE.at hO3)
      obtain ⟨Am, cm, Ax, cx, hvm, -⟩ := (OwnMachE.at hO3).shape
      subst hvm
      obtain ⟨x, hx⟩ : ∃ x, Mac.minI m = x := ⟨_, rfl⟩
      have Hx := Lib.hid hx
      rw [hx] at HM ⊢
      clear hO3 z p0 p1 p2 hx
      replace PC := Lib.hid (PC.out.below hb)
      replace HC := Lib.hid (HC.out.below hb)
      replace B := Lib.hid (B.out.trans (hb.mono B.out.size))
      clear hb
      have hb := bel_alloc w3 (.cells #[.int .i64 x.ins, .slice Am x.next.length cm, .slice Ax x.out.length cx] 25)
      have PM := Lib.hid (MCells.boxed w3 x.ins (.slice Am x.next.length cm) (.slice Ax x.out.length cx) 25)
      replace PC := Lib.hid (PC.out.below hb)
      replace HC := Lib.hid (HC.out.below hb)
      replace HM := Lib.hid (HM.out.below hb)
      replace B := Lib.hid (B.out.trans (hb.mono B.out.size))
      clear hb
      obtain ⟨w4, hw4⟩ : ∃ w4, w3.alloc (.cells #[.int .i64 x.ins, .slice Am x.next.length cm, .slice Ax x.out.length cx] 25) = w4 := ⟨_, rfl⟩
      rw [hw4] at PC HC HM PM B
      obtain ⟨gq, hgq⟩ : ∃ gq, w3.heap.size = gq := ⟨_, rfl⟩
      rw [hgq] at PM
      obtain ⟨z, p0, p1, p2⟩ := PC.out
      obtain ⟨zm, m0, m1, m2⟩ := PM.out
      go_wp2_with fail
      clear hw4 hgq
      refine wp_region_rs (quietRS Try.prog _ w4 _) quietRS_ok (by kernel_rfl) (by kernel_rfl) (by kernel_rfl) (Nat.le_of_ble_eq_true rfl) trivial trivial ?_
      apply rs_eq quietRS_ok quiet_any
      · intro ρ w' ho hK
        have ho : Only _ w4 w' := ho
        obtain ⟨h0, -⟩ := hK
        have h0' : ρ (.tmp 4) = _ := h0
        have hb := only_below ho
        have q0 := (hb.cell (p := ⟨gb, 0, none⟩) z).trans p0
        have q1 := (hb.cell (p := ⟨gb, 1, none⟩) z).trans p1
        have q2 := (hb.cell (p := ⟨gb, 2, none⟩) z).trans p2
        have r0 := (hb.cell (p := ⟨gq, 0, none⟩) zm).trans m0
        have r1 := (hb.cell (p := ⟨gq, 1, none⟩) zm).trans m1
        have r2 := (hb.cell (p := ⟨gq, 2, none⟩) zm).trans m2
        go_simp
        try exact rfl
      apply rs_eq quietRS_ok quiet_any
      · intro ρ w' ho hK
        have ho : Only _ w4 w' := ho
        obtain ⟨h0, -⟩ := hK
        have h0' : ρ (.tmp 3) = _ := h0
        have hb := only_below ho
        have q0 := (hb.cell (p := ⟨gb, 0, none⟩) z).trans p0
        have q1 := (hb.cell (p := ⟨gb, 1, none⟩) z).trans p1
        have q2 := (hb.cell (p := ⟨gb, 2, none⟩) z).trans p2
        have r0 := (hb.cell (p := ⟨gq, 0, none⟩) zm).trans m0
        have r1 := (hb.cell (p := ⟨gq, 1, none⟩) zm).trans m1
        have r2 := (hb.cell (p := ⟨gq, 2, none⟩) zm).trans m2
        go_simp
        try exact rfl
      refine rs_call quietRS_ok quiet_any (TMachL x) (stb_machL _) 18 _ _ rfl (fun ρ w' ho hK => by
        have ho : Only _ w4 w' := ho
        obtain ⟨h0, h1, -⟩ := hK
        have h0' : ρ (.func 18) = .func (.func 18) #[] #[] := h0
        have h1' : ρ (.tmp 20) = _ := h1
        refine ⟨#[ρ (.tmp 20)], ?_, ?_⟩
        · go_simp
        · rw [h1']
          refine (specMinz_read _ m w' (HC.out.below (only_below ho))).mono ?_
          rintro e w2 ⟨⟨v2, rfl, hO⟩, hb⟩
          exact ⟨v2, rfl, by rw [Hx.out] at hO; exact hO, hb⟩) ?_
      refine rs_call quietRS_ok quiet_any (TEq (.bool true)) (stb_eq _ _) 17 _ _ rfl (fun ρ w' ho hK => by
        have ho : Only _ w4 w' := ho
        obtain ⟨h0, h1, h2, -⟩ := hK
        have h0' : ρ (.func 17) = .func (.func 17) #[] #[] := h0
        have h1' : ρ (.tmp 19) = _ := h1
        have h2' : (TMachL x) w' (ρ (.tmp 21)) := h2
        refine ⟨#[ρ (.tmp 19), ρ (.tmp 21)], ?_, ?_⟩
        · go_simp
        · rw [h1']
          refine (sameMachine_same _ _ x w' (HM.out.below (only_below ho)) h2').mono ?_
          rintro e w2 ⟨rfl, hb⟩
          exact ⟨_, rfl, rfl, hb⟩) ?_
      apply rs_eq quietRS_ok quiet_any
      · intro ρ w' ho hK
        have ho : Only _ w4 w' := ho
        obtain ⟨h0, -⟩ := hK
        have h0' : ρ (.tmp 22) = _ := h0
        go_simp
        try exact rfl
      intro f w9 k9 hk9 hI9 ht9 hcp9
      have E0 : f 0 = _ := ht9 0 (Nat.le_of_ble_eq_true rfl)
      have E1 : f 1 = _ := ht9 1 (Nat.le_of_ble_eq_true rfl)
      have E2 : (TMachL x) w9 (f 2) := ht9 2 (Nat.le_of_ble_eq_true rfl)
      have E3 : f 3 = _ := ht9 3 (Nat.le_of_ble_eq_true rfl)
      have E4 : f 4 = _ := ht9 4 (Nat.le_of_ble_eq_true rfl)
      have Ho9 : Only _ w4 w9 := hI9.2.1
      simp only [putAll, E0, E1, E3, E4, Nat.zero_add, Nat.reduceAdd, Act.put, List.setIfInBounds_toArray, List.set_cons_succ, List.set_cons_zero]
      clear E0 E1 E3 E4
      clear hI9 ht9 hcp9 hk9
      generalize f 2 = r2 at *
      have hb := only_below Ho9
      clear z p0 p1 p2 zm m0 m1 m2 Ho9 E2
      replace PC := Lib.hid (PC.out.below hb)
      replace HC := Lib.hid (HC.out.below hb)
      replace HM := Lib.hid (HM.out.below hb)
      replace PM := Lib.hid (PM.out.below hb)
      replace B := Lib.hid (B.out.trans (hb.mono B.out.size))
      clear hb
      obtain ⟨z, p0, p1, p2⟩ := PC.out
      obtain ⟨zm, m0, m1, m2⟩ := PM.out
      go_wp2_with fail
      refine (specMValid_any _ m _ HC.out).mono ?_
      rintro e w5 ⟨rfl, hb⟩
      clear z p0 p1 p2 zm m0 m1 m2
      replace PC := Lib.hid (PC.out.below hb)
      replace HC := Lib.hid (HC.out.below hb)
      replace HM := Lib.hid (HM.out.below hb)
      replace PM := Lib.hid (PM.out.below hb)
      replace B := Lib.hid (B.out.trans (hb.mono B.out.size))
      clear hb
      obtain ⟨z, p0, p1, p2⟩ := PC.out
      obtain ⟨zm, m0, m1, m2⟩ := PM.out
      cases hv : Mac.valid m
      · go_wp2_with fail
        clear z p0 p1 p2 zm m0 m1 m2
        refine (alive_any _).mono ?_
        rintro e w8 ⟨rfl, hb⟩
        replace B := Lib.hid (B.out.trans (hb.mono B.out.size))
        clear hb
        go_wp2_with fail
        go_ret
        exact ⟨rfl, B.out⟩
      · obtain ⟨s1, s2, s3, s4, s5⟩ := Mac.valid_sizes hv
        have HXX : Hid (Mac.minI x = x) := Lib.hid (by rw [← Hx.out]; exact Mac.min_again hv)
        have HYX : Hid (Mac.minI (Mac.ren m) = x) := Lib.hid (by rw [Mac.ren_min hv, Hx.out])
        have HNR := NRows.of hv
        have hp4 : 2 ^ m.ins.toNat ≤ 2 ^ 4 := Nat.pow_le_pow_right (show 0 < 2 by decide) (by omega)
        have hp1 : 0 < 2 ^ m.ins.toNat := Nat.pow_pos (by decide)
        have hOR : ∀ s, s < m.next.length → ∃ q, m.out[s]? = some q ∧ q.length = 2 ^ m.ins.toNat := fun s hs => by
          obtain ⟨r, q, y, o, -, h2, -, h4, -⟩ := Mac.valid_row hv hs hp1
          exact ⟨q, h2, h4⟩
        obtain ⟨M, hM⟩ : ∃ M : Nat, 2 ^ m.ins.toNat = M := ⟨_, rfl⟩
        rw [hM] at HNR hp4 hp1 hOR
        have HNR := Lib.hid HNR
        have HOR := Lib.hid hOR
        have S5 := Lib.hid s5
        obtain ⟨n1, hn1⟩ : ∃ n1, m.next.length = n1 + 1 := ⟨m.next.length - 1, by omega⟩
        have Hn1 := Lib.hid hn1
        have hwn : IntKind.i64.wrap ((m.next.length : Int) - 1) = (n1 : Int) := by rw [IntWalk.i64_in _ (by omega)]; omega
        have hn18 : n1 ≤ 7 := by omega
        have hb6 := bel_new w5 (.cells #[.int .i64 0] 3)
        have HA0 : Hid ((w5.alloc (.cells #[.int .i64 0] 3)).ownsRow w5.heap.size 3 1 (.slice (some ⟨w5.heap.size, 0, none⟩) 1 1) (m.next.length - n1) (nints ((Mac.permL m.next.length).take (m.next.length - n1)))) := Lib.hid (by
          have h0 := World.ownsRow_lit (base := w5.heap.size) (e := 3) (size := 1) w5 #[.int .i64 0] 1 (Nat.le_refl _) (by unfold maxLen; omega) rfl
          rw [show m.next.length - n1 = 0 + 1 by omega, take_snoc (Mac.permL_get (show 0 < m.next.length by omega))]
          exact h0)
        have HB0 := Lib.hid hb6
        clear hb6 hv s1 s2 s5 hM hn1 hOR
        go_wp2_with fail
        generalize w5.alloc (.cells #[.int .i64 0] 3) = w6 at *
        clear z p0 p1 p2 zm m0 m1 m2
        have Hn1e := Hn1
        go_loopw [6, 7] (fun vp i wr => ∃ (up : Value) (T : Nat), up = vp ∧ i = .int .i64 T ∧ T ≤ n1 ∧ Hid (wr.ownsRow w5.heap.size 3 1 vp (m.next.length - T) (nints ((Mac.permL m.next.length).take (m.next.length - T)))) ∧ Hid (Below w5.heap.size w5 wr)) (fun _ i _ => (intOf i).toNat)
        case atStart => exact ⟨_, n1, rfl, rfl, Nat.le_refl _, HA0, HB0⟩
        case round =>
          obtain ⟨up, T, hup, rfl, hT, Hp, Hb⟩ := hrel
          subst hup
          clear HA0 HB0
          have zb := Hb.out.size
          have hn1 := Hn1e.out
          by_cases hT0 : 0 < T
          · have hdT : decide (0 < T) = true := decide_eq_true hT0
            have hdT2 : decide ((0 : Int) < (T : Int)) = true := decide_eq_true (by omega)
            obtain ⟨t, rfl⟩ : ∃ t, T = t + 1 := ⟨T - 1, by omega⟩
            have hwt : IntKind.i64.wrap (((t + 1 : Nat) : Int) - 1) = (t : Int) := by rw [IntWalk.i64_in _ (by omega)]; omega
            have hwt2 : IntKind.i64.wrap ((t : Int) + 1 - 1) = (t : Int) := by rw [IntWalk.i64_in _ (by omega)]; omega
            have HPs : Hid (nints ((Mac.permL m.next.length).take (m.next.length - t)) = nints ((Mac.permL m.next.length).take (m.next.length - (t + 1))) ++ [.int .i64 ((t + 1 : Nat) : Int)]) := Lib.hid (by
              have h1 := Mac.permL_get (n := m.next.length) (s := m.next.length - (t + 1)) (by omega)
              have h2 : Mac.perm m.next.length (m.next.length - (t + 1)) = t + 1 := by unfold Mac.perm; split <;> omega
              rw [h2] at h1
              rw [show m.next.length - t = m.next.length - (t + 1) + 1 by omega, take_snoc h1, nints_snoc])
            have Hlit := Lib.hid (Row.of_own (World.ownsRow_lit (base := wr.heap.size) (e := 3) (size := 1) wr #[.int .i64 ((t + 1 : Nat) : Int)] 1 (Nat.le_refl _) (by unfold maxLen; omega) rfl))
            have hlt1 : m.next.length - (t + 1) + 1 = m.next.length - t := by omega
            obtain ⟨q, hq⟩ : ∃ q, m.next.length - (t + 1) = q := ⟨_, rfl⟩
            have hq8 : q ≤ 8 := by omega
            obtain ⟨T1, hT1⟩ : ∃ T1, t + 1 = T1 := ⟨_, rfl⟩
            have hwt3 : IntKind.i64.wrap ((T1 : Int) - 1) = (t : Int) := by rw [← hT1]; exact hwt
            rw [hq] at Hp HPs hlt1
            rw [hT1] at HPs Hlit hT hdT hdT2 hT0 ⊢
            have HT1 := Lib.hid hT1
            have Hq := Lib.hid hq
            have Hlt1 := Lib.hid hlt1
            clear hwt hwt2 hn1 hT1 hq hlt1
            go_wp2_with (at_builtin; refine append_ints rfl (.tmp 38) (.tmp 40) rfl w5.heap.size _ q _ rfl (Hp.out.alloc _) _ 1 [.int .i64 T1] rfl Hlit.out (by simp [Value.oneCell']) (by omega) (by simp <;> omega) ?_; intro v7 w7 hown7 hg7 hat7; have Hp7 := Lib.hid hown7; have Hb7 := Lib.hid ((Hb.out.alloc zb (.cells #[.int .i64 T1] 3)).grown hg7 (by simp <;> omega) (own_ge0 Hp.out)); clear hown7 hg7 hat7)
            go_roundw
            case rel => exact ⟨_, t, rfl, rfl, by have := HT1.out; omega, Lib.hid (by rw [HPs.out, ← Hlt1.out]; exact Hp7.out), Hb7⟩
            case measure => have := HT1.out; simp [intOf] <;> omega
          · obtain rfl : T = 0 := by omega
            rw [show (((0 : Nat) : Nat) : Int) = 0 from rfl]
            have HPF : Hid (wr.ownsRow w5.heap.size 3 1 up m.next.length (nints (Mac.permL m.next.length))) := Lib.hid (by
              have := Hp.out
              rwa [Nat.sub_zero, List.take_of_length_le (by rw [Mac.permL_len]; omega)] at this)
            obtain ⟨gp, cp, hvp, hgp, hgp2, hcp, hcpm⟩ := own_open HPF.out (by omega)
            subst hvp
            unfold maxLen at hcpm
            have HPc : Hid (∀ s, s < m.next.length → wr.cell? ⟨gp, s, none⟩ = some (.int .i64 (Mac.perm m.next.length s : Nat))) := Lib.hid fun s hs => by
              obtain ⟨u, hu, hcell, -⟩ := own_slot HPF.out (j := s) (by omega)
              unfold nints ints nats at hu
              rw [List.getElem?_map, List.getElem?_map, Mac.permL_get hs] at hu
              rw [hcell, ← hu]
              rfl
            obtain ⟨z, p0, p1, p2⟩ := PC.out.below Hb.out
            have hbm := bel_new wr (.cells #[.int .i64 m.ins, .slice none 0 0, .slice none 0 0] 25)
            have HMB0 := Lib.hid (MY.start m.ins wr)
            have HBm := Lib.hid hbm
            clear hbm Hp hn1
            go_wp2_with fail
            clear z p0 p1 p2
            obtain ⟨W4, hW4⟩ : ∃ W4, W4 = wr := ⟨_, rfl⟩
            subst hW4
            generalize W4.alloc (.cells #[.int .i64 m.ins, .slice none 0 0, .slice none 0 0] 25) = w7 at *
            obtain ⟨gm, hgm⟩ : ∃ gm, W4.heap.size = gm := ⟨_, rfl⟩
            rw [hgm] at HMB0 hgp2 zb ⊢
            have Hgm := Lib.hid hgm
            clear hgm
            go_loopw [9] (fun i wr => ∃ (k : Nat) (E1 : Nat → Prop) (vN vO : Value) (us : List Value), i = .int .i64 k ∧ k ≤ m.next.length ∧ us.length = k ∧ Hid (∀ (j : Nat) (u : Value), us[j]? = some u → Row w5 1 u (Mac.key0 m.out (Mac.perm m.next.length j)).length (ints (Mac.key0 m.out (Mac.perm m.next.length j)))) ∧ Hid (MY gm m.ins E1 vN vO ((Mac.ren m).next.take k) us wr) ∧ Hid (Below gm W4 wr)) (fun i _ => m.next.length - (intOf i).toNat)
            case atStart => exact ⟨0, _, _, _, [], rfl, Nat.zero_le _, rfl, Lib.hid (fun j u h => by simp at h), HMB0, Lib.hid (by rw [← Hgm.out]; exact HBm.out)⟩
            case round =>
              obtain ⟨k, E1, vN, vO, us, rfl, hk, hul, HUs, HMB, Hbr⟩ := hrel
              clear HMB0 HBm
              have hgm1 := my_lt HMB.out
              have hzr : gm ≤ wr.heap.size := by omega
              by_cases hlk : k < m.next.length
              · have hdk : decide (k < m.next.length) = true := decide_eq_true hlk
                have hpl := Mac.perm_lt hlk
                obtain ⟨s, hs⟩ : ∃ s, Mac.perm m.next.length k = s := ⟨_, rfl⟩
                rw [hs] at hpl
                obtain ⟨rr, er, lr, vr⟩ := HNR.out.2 s hpl
                obtain ⟨qq, eq, lq⟩ := HOR.out s hpl
                obtain ⟨un, uo, huv, rn, ro⟩ := HC.out
                simp only [Value.agg.injEq, Array.mk.injEq, List.cons.injEq, and_true, true_and] at huv
                obtain ⟨rfl, rfl⟩ := huv
                obtain ⟨bn, on, Bn, mn, hAn, hbn, hcn0, hn1, hn2, hrn⟩ := ss_open rn (Below.refl _ _) er
                obtain ⟨bo, oo, Bo, mo, hAo, hbo, hco0, ho1, ho2, hro⟩ := ss_open ro (Below.refl _ _) eq
                have hxN : (Mac.ren m).next.take (k + 1) = (Mac.ren m).next.take k ++ [Mac.renRow m.next.length rr] := take_snoc (by rw [Mac.ren_next hlk, hs, nrow_get er])
                have HUq : Hid (Mac.key0 m.out (Mac.perm m.next.length k) = qq) := Lib.hid (by rw [hs, key0_get eq])
                rw [lr] at hcn0 hn1
                rw [lq] at hco0 ho1
                unfold maxLen at hn2 ho2
                subst hAn hAo
                have HVr := Lib.hid vr
                have HRn := Lib.hid hrn
                have HRo := Lib.hid hro
                have Hlq := Lib.hid lq
                have Hlr := Lib.hid lr
                have HCn := Lib.hid hcn0
                have HCo := Lib.hid hco0
                have HXN := Lib.hid hxN
                have hcs0 := HPc.out k hlk
                rw [hs] at hcs0
                have HPs := Lib.hid hcs0
                have hmn : decide (s < m.next.length) = true := decide_eq_true hpl
                have hso : s < m.out.length := by have := S5.out; omega
                have hsod : decide (s < m.out.length) = true := decide_eq_true hso
                have HW2 : Hid (∀ w', Below gm W4 w' → Below w5.heap.size w5 w') := Lib.hid fun w' hb => Hb.out.trans (hb.mono zb)
                have HKK : Hid (∀ w', Below gm W4 w' → w'.cell? ⟨gb, 0, none⟩ = some (.int .i64 m.ins) ∧ w'.cell? ⟨gb, 1, none⟩ = some (.slice (some ⟨bn, on, none⟩) m.next.length cn) ∧ w'.cell? ⟨gb, 2, none⟩ = some (.slice (some ⟨bo, oo, none⟩) m.out.length co) ∧ w'.cell? ⟨gp, k, none⟩ = some (.int .i64 s) ∧ w'.cell? ⟨bn, on + s, none⟩ = some (.slice Bn M mn) ∧ w'.cell? ⟨bo, oo + s, none⟩ = some (.slice Bo M mo)) := Lib.hid fun w' hb => by
                  have h2 := HW2.out w' hb
                  obtain ⟨x0, x1, x2, x3⟩ := PC.out.below h2
                  exact ⟨x1, x2, x3, (hb.cell (p := ⟨gp, k, none⟩) hgp2).trans HPs.out, (h2.cell (p := ⟨bn, on + s, none⟩) hbn).trans HCn.out, (h2.cell (p := ⟨bo, oo + s, none⟩) hbo).trans HCo.out⟩
                have hbl := bel_new wr (.cells #[] 3)
                have HX0 : Hid ((wr.alloc (.cells #[] 3)).ownsRow wr.heap.size 3 1 (.slice (some ⟨wr.heap.size, 0, none⟩) 0 0) 0 (ints ((Mac.renRow m.next.length rr).take 0))) := Lib.hid (World.ownsRow_lit (base := wr.heap.size) (e := 3) (size := 1) wr #[] 0 (Nat.le_refl _) (by unfold maxLen; omega) rfl)
                have Hbl := Lib.hid hbl
                clear hbl rn ro er eq lr lq hxN hrn hro hs hcn0 hco0 vr hcs0
                go_wp2_with fail
                obtain ⟨Wk, hWk⟩ : ∃ Wk, Wk = wr := ⟨_, rfl⟩
                subst hWk
                go_loopw [10, 11] (fun vx i wi => ∃ (v1 : Value) (j : Nat), v1 = vx ∧ i = .int .i64 j ∧ j ≤ M ∧ Hid (wi.ownsRow Wk.heap.size 3 1 vx j (ints ((Mac.renRow m.next.length rr).take j))) ∧ Hid (Below Wk.heap.size Wk wi)) (fun _ i _ => M - (intOf i).toNat)
                case atStart => exact ⟨_, 0, rfl, rfl, Nat.zero_le _, HX0, Hbl⟩
                case round =>
                  obtain ⟨vx, j, hvx, rfl, hj, Hx', Hbi⟩ := hrel
                  subst hvx
                  clear HX0 Hbl
                  have hzi := Hbi.out.size
                  have Hbg := Lib.hid (Hbr.out.trans (Hbi.out.mono hzr))
                  obtain ⟨p0, p1, p2, p3, p4, p5⟩ := HKK.out wr Hbg.out
                  have hkm : k < m.next.length := hlk
                  by_cases hlj : j < M
                  · have hdj : decide (j < M) = true := decide_eq_true hlj
                    obtain ⟨y, hy, hyN⟩ := HVr.out j hlj
                    obtain ⟨b1, o1, rfl, hb1, hcy0⟩ := ints_row HRn.out rfl hy
                    have HY : Hid (∀ w', Below gm W4 w' → w'.cell? ⟨b1, o1 + j, none⟩ = some (.int .i64 y) ∧ w'.cell? ⟨gp, y, none⟩ = some (.int .i64 (Mac.perm m.next.length y : Nat))) := Lib.hid fun w' hb =>
                      ⟨((HW2.out w' hb).cell (p := ⟨b1, o1 + j, none⟩) hb1).trans hcy0, (hb.cell (p := ⟨gp, y, none⟩) hgp2).trans (HPc.out y hyN)⟩
                    have hyd : decide (y < m.next.length) = true := decide_eq_true hyN
                    obtain ⟨c, hc⟩ : ∃ c, Mac.perm m.next.length y = c := ⟨_, rfl⟩
                    rw [hc] at HY
                    have HXs : Hid (ints ((Mac.renRow m.next.length rr).take (j + 1)) = ints ((Mac.renRow m.next.length rr).take j) ++ [.int .i64 (c : Int)]) := Lib.hid (by
                      rw [take_snoc (show (Mac.renRow m.next.length rr)[j]? = some ((c : Nat) : Int) from by unfold Mac.renRow; rw [List.getElem?_map, hy, ← hc]; rfl), ints_snoc])
                    have HBx : ∀ w', Only (fun g => vx.ownBlock = some g) wr w' → Below gm W4 w' := fun w' ho => Only.below Hbg.out ho (by omega) (fun g hg => by have := (Hx'.out.lt g hg).1; omega)
                    obtain ⟨cs, hcs⟩ : ∃ cs, ints ((Mac.renRow m.next.length rr).take j) = cs := ⟨_, rfl⟩
                    rw [hcs] at Hx' HXs
                    clear hy hcy0 hc hcs
                    go_wp2_with fail
                    go_quiet (fail)
                    go_wp2_with fail
                    have HD := Lib.hid (Drew.by wr nq)
                    generalize wr.drewN nq = W6 at *
                    clear p0 p1 p2 p3 p4 p5 HBx
                    have Hx6 := Lib.hid (own_below Hx'.out (HD.out.below wr.heap.size))
                    have Hbg6 := Lib.hid (Hbg.out.trans (HD.out.below gm))
                    have Hbi6 := Lib.hid (Hbi.out.trans (HD.out.below Wk.heap.size))
                    have hz6 := HD.out.size
                    have HBx : ∀ w', Only (fun g => vx.ownBlock = some g) W6 w' → Below gm W4 w' := fun w' ho => Only.below Hbg6.out ho (by omega) (fun g hg => by have := (Hx6.out.lt g hg).1; omega)
                    obtain ⟨i0, hi0, hz0, hz1, hz2⟩ := info_parts info_int
                    have hO := fun ops a => appRS2_ok (Pg := Try.prog) (ops := ops) (a := a) (news := [.int .i64 c]) (d := 16) (Hx6.out)
                    refine wp_region_rs (appRS2 Try.prog _ W6 _ (Wk.heap.size) 3 1 (vx) (j) (cs) [.int .i64 c] 16) (hO _ _) (by kernel_rfl) (by kernel_rfl) (by kernel_rfl) (Nat.le_of_ble_eq_true rfl) trivial Hx6.out ?_
                    refine rs_old (hO _ _) (.inl (Nat.ne_of_beq_eq_false rfl)) _ (.inl rfl) _ rfl rfl ?_
                    refine rs_old (hO _ _) (.inl (Nat.ne_of_beq_eq_false rfl)) _ (.inl rfl) _ rfl rfl ?_
                    apply rs_eq (hO _ _) (.inl (Nat.ne_of_beq_eq_false rfl))
                    · intro ρ w' ho hK
                      have ho : Only _ W6 w' := ho
                      obtain ⟨h0, -⟩ := hK
                      have h0' : ρ (.tmp 3) = _ := h0
                      go_simp
                      try exact rfl
                    apply rs_eq (hO _ _) (.inl (Nat.ne_of_beq_eq_false rfl))
                    · intro ρ w' ho hK
                      have ho : Only _ W6 w' := ho
                      obtain ⟨h0, -⟩ := hK
                      have h0' : ρ (.tmp 66) = _ := h0
                      obtain ⟨r0, r1, r2, r3, r4, r5⟩ := HKK.out w' (HBx w' ho)
                      obtain ⟨r6, r7⟩ := HY.out w' (HBx w' ho)
                      go_simp
                      try exact rfl
                    refine rs_old (hO _ _) (.inl (Nat.ne_of_beq_eq_false rfl)) _ (.inl rfl) _ rfl rfl ?_
                    refine rs_old (hO _ _) (.inl (Nat.ne_of_beq_eq_false rfl)) _ (.inl rfl) _ rfl rfl ?_
                    apply rs_eq (hO _ _) (.inl (Nat.ne_of_beq_eq_false rfl))
                    · intro ρ w' ho hK
                      have ho : Only _ W6 w' := ho
                      obtain ⟨h0, h1, -⟩ := hK
                      have h0' : ρ (.tmp 68) = _ := h0
                      have h1' : ρ (.tmp 69) = _ := h1
                      go_simp
                      try exact rfl
                    apply rs_eq (hO _ _) (.inl (Nat.ne_of_beq_eq_false rfl))
                    · intro ρ w' ho hK
                      have ho : Only _ W6 w' := ho
                      obtain ⟨h0, -⟩ := hK
                      have h0' : ρ (.tmp 70) = _ := h0
                      obtain ⟨r0, r1, r2, r3, r4, r5⟩ := HKK.out w' (HBx w' ho)
                      obtain ⟨r6, r7⟩ := HY.out w' (HBx w' ho)
                      go_simp
                      try exact rfl
                    apply rs_eq (hO _ _) (.inl (Nat.ne_of_beq_eq_false rfl))
                    · intro ρ w' ho hK
                      have ho : Only _ W6 w' := ho
                      obtain ⟨h0, h1, -⟩ := hK
                      have h0' : ρ (.tmp 67) = _ := h0
                      have h1' : ρ (.tmp 71) = _ := h1
                      go_simp
                      try exact rfl
                    apply rs_eq (hO _ _) (.inl (Nat.ne_of_beq_eq_false rfl))
                    · intro ρ w' ho hK
                      have ho : Only _ W6 w' := ho
                      obtain ⟨h0, -⟩ := hK
                      have h0' : ρ (.tmp 72) = _ := h0
                      obtain ⟨r0, r1, r2, r3, r4, r5⟩ := HKK.out w' (HBx w' ho)
                      obtain ⟨r6, r7⟩ := HY.out w' (HBx w' ho)
                      go_simp
                      try exact rfl
                    refine rs_old (hO _ _) (.inl (Nat.ne_of_beq_eq_false rfl)) _ (.inl rfl) _ rfl rfl ?_
                    apply rs_eq (hO _ _) (.inl (Nat.ne_of_beq_eq_false rfl))
                    · intro ρ w' ho hK
                      have ho : Only _ W6 w' := ho
                      obtain ⟨h0, h1, -⟩ := hK
                      have h0' : ρ (.tmp 73) = _ := h0
                      have h1' : ρ (.tmp 74) = _ := h1
                      go_simp
                      try exact rfl
                    apply rs_eq (hO _ _) (.inl (Nat.ne_of_beq_eq_false rfl))
                    · intro ρ w' ho hK
                      have ho : Only _ W6 w' := ho
                      obtain ⟨h0, -⟩ := hK
                      have h0' : ρ (.tmp 75) = _ := h0
                      obtain ⟨r0, r1, r2, r3, r4, r5⟩ := HKK.out w' (HBx w' ho)
                      obtain ⟨r6, r7⟩ := HY.out w' (HBx w' ho)
                      go_simp
                      try exact rfl
                    apply rs_eq (hO _ _) (.inl (Nat.ne_of_beq_eq_false rfl))
                    · intro ρ w' ho hK
                      have ho : Only _ W6 w' := ho
                      obtain ⟨h0, h1, -⟩ := hK
                      have h0' : ρ (.tmp 65) = _ := h0
                      have h1' : ρ (.tmp 76) = _ := h1
                      go_simp
                      try exact rfl
                    apply rs_eq (hO _ _) (.inl (Nat.ne_of_beq_eq_false rfl))
                    · intro ρ w' ho hK
                      have ho : Only _ W6 w' := ho
                      obtain ⟨h0, -⟩ := hK
                      have h0' : ρ (.tmp 77) = _ := h0
                      obtain ⟨r0, r1, r2, r3, r4, r5⟩ := HKK.out w' (HBx w' ho)
                      obtain ⟨r6, r7⟩ := HY.out w' (HBx w' ho)
                      go_simp
                      try exact rfl
                    refine rs_build1 (hO _ _) (.inl (Nat.ne_of_beq_eq_false rfl)) 1 [.int .i64 c] 3 rfl (fun ρ w' ho hK => by
                      have ho : Only _ W6 w' := ho
                      obtain ⟨h0, -⟩ := hK
                      have h0' : ρ (.tmp 78) = _ := h0
                      go_simp) ?_
                    refine rs_append2 rfl (Wk.heap.size) 3 28 1 (vx) (j) (cs) _ rfl rfl (fun g hg => hg) (show Wk.heap.size ≤ W6.heap.size by omega) _ _ rfl _ _ rfl rfl rfl rfl i0 _ 8 Try.underlying28 hi0 hz0 hz1 hz2 rfl (by decide) (by omega) (by decide) (by simp [Value.oneCell']) ?_
                    refine rs_same (hO _ _) (.inl (Nat.ne_of_beq_eq_false rfl)) 80 16 (.inr rfl) rfl _ rfl ?_
                    intro f w9 k9 hk9 hI9 ht9 hcp9
                    have E0 : f 0 = _ := ht9 0 (Nat.le_of_ble_eq_true rfl)
                    conv at E0 => rhs; whnf
                    have E1 : f 1 = _ := ht9 1 (Nat.le_of_ble_eq_true rfl)
                    conv at E1 => rhs; whnf
                    have E2 : f 2 = _ := ht9 2 (Nat.le_of_ble_eq_true rfl)
                    have E3 : f 3 = _ := ht9 3 (Nat.le_of_ble_eq_true rfl)
                    have E4 : f 4 = _ := ht9 4 (Nat.le_of_ble_eq_true rfl)
                    conv at E4 => rhs; whnf
                    have E5 : f 5 = _ := ht9 5 (Nat.le_of_ble_eq_true rfl)
                    conv at E5 => rhs; whnf
                    have E6 : f 6 = _ := ht9 6 (Nat.le_of_ble_eq_true rfl)
                    have E7 : f 7 = _ := ht9 7 (Nat.le_of_ble_eq_true rfl)
                    have E8 : f 8 = _ := ht9 8 (Nat.le_of_ble_eq_true rfl)
                    have E9 : f 9 = _ := ht9 9 (Nat.le_of_ble_eq_true rfl)
                    have E10 : f 10 = _ := ht9 10 (Nat.le_of_ble_eq_true rfl)
                    conv at E10 => rhs; whnf
                    have E11 : f 11 = _ := ht9 11 (Nat.le_of_ble_eq_true rfl)
                    have E12 : f 12 = _ := ht9 12 (Nat.le_of_ble_eq_true rfl)
                    have E13 : f 13 = _ := ht9 13 (Nat.le_of_ble_eq_true rfl)
                    have E14 : f 14 = _ := ht9 14 (Nat.le_of_ble_eq_true rfl)
                    have E15 : (TNew _ 1 1 [.int .i64 c]) w9 (f 15) := ht9 15 (Nat.le_of_ble_eq_true rfl)
                    have E16 : (TAny) w9 (f 16) := ht9 16 (Nat.le_of_ble_eq_true rfl)
                    have E17 : (TAny) w9 (f 17) := ht9 17 (Nat.le_of_ble_eq_true rfl)
                    have Ho9 : Only _ W6 w9 := hI9.2.1
                    have hown9 : w9.ownsRow (Wk.heap.size) 3 1 (f 16) (j + 1) (cs ++ [.int .i64 c]) := hI9.2.2.1
                    have hat9 : ∀ g, (f 16).ownBlock = some g → (vx).ownBlock = some g ∨ W6.heap.size ≤ g := hI9.2.2.2
                    have C17 : f 17 = f 16 := (hcp9 17 _ 80 16 rfl rfl rfl rfl).2
                    simp only [putAll, E0, E1, E2, E3, E4, E5, E6, E7, E8, E9, E10, E11, E12, E13, E14, C17, Nat.zero_add, Nat.reduceAdd, Act.put, List.setIfInBounds_toArray, List.set_cons_succ, List.set_cons_zero]
                    clear E0 E1 E2 E3 E4 E5 E6 E7 E8 E9 E10 E11 E12 E13 E14
                    clear hI9 ht9 hcp9 hk9
                    generalize f 15 = r15 at *
                    generalize f 16 = r16 at *
                    have Hx9 := Lib.hid hown9
                    have Hb9 := Lib.hid (Only.below Hbi6.out Ho9 (by omega) (fun g hg => (Hx6.out.lt g hg).1))
                    clear Ho9 hown9 hat9 HBx hO
                    go_wp2_with fail
                    go_roundw
                    case rel => exact ⟨_, j + 1, rfl, by go_num, by omega, Lib.hid (by rw [HXs.out]; exact Hx9.out), Hb9⟩
                    case measure => simp [intOf] <;> omega
                  · obtain rfl : j = M := by omega
                    have hdj : decide (j < j) = false := decide_eq_false (by omega)
                    go_wp2_with fail
                    go_quiet (fail)
                    have HD := Lib.hid (Drew.by wr nq)
                    generalize wr.drewN nq = W6 at *
                    clear p0 p1 p2 p3 p4 p5
                    have Hx6a := Lib.hid (own_below Hx'.out (HD.out.below wr.heap.size))
                    have Hbg6 := Lib.hid (Hbg.out.trans (HD.out.below gm))
                    have Hbi6 := Lib.hid (Hbi.out.trans (HD.out.below Wk.heap.size))
                    have hrl : (Mac.renRow m.next.length rr).length = j := by unfold Mac.renRow; rw [List.length_map]; exact Hlr.out
                    have hxv := Hx6a.out
                    rw [List.take_of_length_le (by omega)] at hxv
                    obtain ⟨ga, ca, hva, hga, hga2, hca, hcam⟩ := own_open hxv (by omega)
                    subst hva
                    unfold maxLen at hcam
                    have HMB5 := Lib.hid (HMB.out.below Hbi6.out)
                    have Oa5 : Hid (W6.ownsRow (gm + 1) 3 1 (.slice (some ⟨ga, 0, none⟩) j ca) (Mac.renRow m.next.length rr).length (ints (Mac.renRow m.next.length rr))) := Lib.hid (by rw [hrl]; exact own_mono hxv (by omega))
                    have Na1 : Hid (∀ g, (Value.slice (some ⟨ga, 0, none⟩) j ca).ownBlock = some g → ¬ E1 g) := Lib.hid fun g hg he => by have h1 := HMB.out.l1 g he; have h2 := (hxv.lt g hg).1; omega
                    have Na2 : Hid (∀ g, (Value.slice (some ⟨ga, 0, none⟩) j ca).ownBlock = some g → vO.ownBlock ≠ some g) := Lib.hid fun g hg he => by have h1 := (HMB.out.o.lt g he).2; have h2 := (hxv.lt g hg).1; omega
                    have hxl : ((Mac.ren m).next.take k).length = k := by
                      have h1 := congrArg List.length HXN.out
                      simp only [List.length_take, List.length_append, List.length_singleton] at h1 ⊢
                      omega
                    have Hxl := Lib.hid hxl
                    have HMl := HMB5.out.below (bel_new W6 (.cells #[.slice (some ⟨ga, 0, none⟩) j ca] 28))
                    obtain ⟨vs, q1, q2, q3, q4, q5, q6, q7⟩ := HMl.n
                    rw [hxl] at q1 q2
                    have Q2 := Lib.hid q2
                    have HML := Lib.hid HMl
                    have Q := Lib.hid (And.intro q1 (And.intro q3 (And.intro q4 (And.intro q5 (And.intro q6 q7)))))
                    have Oal := Lib.hid (Oa5.out.alloc (.cells #[.slice (some ⟨ga, 0, none⟩) j ca] 28))
                    have Hlit := Lib.hid (Row.of_own (World.ownsRow_lit (base := W6.heap.size) (e := 28) (size := 1) W6 #[.slice (some ⟨ga, 0, none⟩) j ca] 1 (Nat.le_refl _) (by unfold maxLen; omega) rfl))
                    have hgm5 := my_lt HMB5.out
                    obtain ⟨k0, k1, k2, k3, k4⟩ := HMB5.out.cells
                    have Hul := Lib.hid hul
                    have hk8 : k ≤ 8 := by omega
                    clear hrl hxl HMl q1 q2 q3 q4 q5 q6 q7 hxv Hx' Hx6a hul
                    go_wp2_with (at_builtin; refine append_intss rfl (.tmp 82) (.tmp 84) rfl (gm + 1) vN k vs rfl Q2.out _ 1 [.slice (some ⟨ga, 0, none⟩) j ca] rfl Hlit.out (by simp [Value.oneCell']) (by omega) (by first | omega | (simp <;> omega)) ?_; intro v7 w7 hown7 hg7 hat7; obtain ⟨A7, c7, hv7⟩ := slice_of_own hown7; subst hv7; have HMB7 := Lib.hid (MY.addN HML.out (Q.out.1.trans Hxl.out.symm) Q.out.2.1 Q.out.2.2.1 Q.out.2.2.2.1 Q.out.2.2.2.2.1 Q.out.2.2.2.2.2 Oal.out Na1.out Na2.out (by rw [Hxl.out]; exact hown7) hg7 hat7); have hbx := (hg7.block gm (my_lt HML.out) (fun e => by obtain ⟨_, _, p2, _⟩ := HML.out.n; have := (p2.lt _ e.symm).1; omega)).trans HML.out.box; have x1 := blk_cell hbx 1; have y1 := blk_free hbx 1; have Hg7 := Lib.hid hg7; clear hown7 hg7 hat7 hbx)
                    have hz7 := Hg7.out.size
                    rw [World.size_alloc] at hz7
                    have hox : Only (· = gm) w7 (w7.setCell ⟨gm, 1, none⟩ (.slice A7 (k + 1) c7)) := Only.grown (set_grown w7 gm 1 _) (fun g hg => (Option.some.inj hg).symm)
                    have Hb8 := Lib.hid (Only.below ((Hbg6.out.alloc (by omega) (.cells #[.slice (some ⟨ga, 0, none⟩) j ca] 28)).grown Hg7.out (by simp <;> omega) (fun q hq => by have := (Q2.out.lt q hq).1; omega)) hox (by omega) (fun g hg => by omega))
                    have hz8 : gm ≤ (w7.setCell ⟨gm, 1, none⟩ (.slice A7 (k + 1) c7)).heap.size := Nat.le_trans (by omega) hox.size
                    clear hox x1 y1 k0 k1 k2 k3 k4 Q Q2 Oal HML Hlit hz7 Oa5
                    generalize w7.setCell ⟨gm, 1, none⟩ (.slice A7 (k + 1) c7) = W8 at *
                    obtain ⟨E3, hE3⟩ : ∃ E3 : Nat → Prop, (fun g => E1 g ∨ (Value.slice (some ⟨ga, 0, none⟩) j ca).ownBlock = some g ∨ (Value.slice A7 (k + 1) c7).ownBlock = some g) = E3 := ⟨_, rfl⟩
                    have HMB8 : Hid (MY gm m.ins E3 (.slice A7 (k + 1) c7) vO ((Mac.ren m).next.take (k + 1)) us W8) := Lib.hid (by rw [← hE3, HXN.out]; exact HMB7.out)
                    clear HMB7 hE3
                    have hgm8 := my_lt HMB8.out
                    have HBx : ∀ w', Only (fun g => vO.ownBlock = some g) W8 w' → Below gm W4 w' := fun w' ho => Only.below Hb8.out ho hz8 (fun g hg => by have := (HMB8.out.o.lt g hg).1; omega)
                    have hngO : ¬ (vO.ownBlock = some gm) := fun e => by have := (HMB8.out.o.lt gm e).1; omega
                    obtain ⟨-, -, kk2, -, -⟩ := HMB8.out.cells
                    have hul8 : us.length ≤ 8 := by have := Hul.out; omega
                    obtain ⟨i0, hi0, hz0, hz1, hz2⟩ := info_parts info_ints
                    have hO := fun ops a => appRS2_ok (Pg := Try.prog) (ops := ops) (a := a) (news := [Value.slice Bo j mo]) (d := 11) (HMB8.out.o)
                    refine wp_region_rsl (appRS2 Try.prog _ W8 _ (gm + 1) 28 1 (vO) (us.length) (us) [Value.slice Bo j mo] 11) (hO _ _) (by kernel_rfl) (by kernel_rfl) (by kernel_rfl) 13 _ rfl rfl (by kernel_rfl) (show (11 : Nat) < 13 by decide) trivial HMB8.out.o ?_
                    apply rs_eq (hO _ _) (.inl (Nat.ne_of_beq_eq_false rfl))
                    · intro ρ w' ho hK
                      have ho : Only _ W8 w' := ho
                      obtain ⟨h0, -⟩ := hK
                      have h0' : ρ (.tmp 8) = _ := h0
                      go_simp
                      try exact rfl
                    apply rs_eq (hO _ _) (.inl (Nat.ne_of_beq_eq_false rfl))
                    · intro ρ w' ho hK
                      have ho : Only _ W8 w' := ho
                      obtain ⟨h0, -⟩ := hK
                      have h0' : ρ (.tmp 87) = _ := h0
                      have r0 := cell_on ho hngO hgm8 kk2
                      obtain ⟨r1, r2, r3, r4, r5, r6⟩ := HKK.out w' (HBx w' ho)
                      go_simp
                      try exact rfl
                    apply rs_eq (hO _ _) (.inl (Nat.ne_of_beq_eq_false rfl))
                    · intro ρ w' ho hK
                      have ho : Only _ W8 w' := ho
                      obtain ⟨h0, -⟩ := hK
                      have h0' : ρ (.tmp 3) = _ := h0
                      go_simp
                      try exact rfl
                    apply rs_eq (hO _ _) (.inl (Nat.ne_of_beq_eq_false rfl))
                    · intro ρ w' ho hK
                      have ho : Only _ W8 w' := ho
                      obtain ⟨h0, -⟩ := hK
                      have h0' : ρ (.tmp 89) = _ := h0
                      have r0 := cell_on ho hngO hgm8 kk2
                      obtain ⟨r1, r2, r3, r4, r5, r6⟩ := HKK.out w' (HBx w' ho)
                      go_simp
                      try exact rfl
                    refine rs_old (hO _ _) (.inl (Nat.ne_of_beq_eq_false rfl)) _ (.inl rfl) _ rfl rfl ?_
                    refine rs_old (hO _ _) (.inl (Nat.ne_of_beq_eq_false rfl)) _ (.inl rfl) _ rfl rfl ?_
                    apply rs_eq (hO _ _) (.inl (Nat.ne_of_beq_eq_false rfl))
                    · intro ρ w' ho hK
                      have ho : Only _ W8 w' := ho
                      obtain ⟨h0, h1, -⟩ := hK
                      have h0' : ρ (.tmp 91) = _ := h0
                      have h1' : ρ (.tmp 92) = _ := h1
                      go_simp
                      try exact rfl
                    apply rs_eq (hO _ _) (.inl (Nat.ne_of_beq_eq_false rfl))
                    · intro ρ w' ho hK
                      have ho : Only _ W8 w' := ho
                      obtain ⟨h0, -⟩ := hK
                      have h0' : ρ (.tmp 93) = _ := h0
                      have r0 := cell_on ho hngO hgm8 kk2
                      obtain ⟨r1, r2, r3, r4, r5, r6⟩ := HKK.out w' (HBx w' ho)
                      go_simp
                      try exact rfl
                    apply rs_eq (hO _ _) (.inl (Nat.ne_of_beq_eq_false rfl))
                    · intro ρ w' ho hK
                      have ho : Only _ W8 w' := ho
                      obtain ⟨h0, h1, -⟩ := hK
                      have h0' : ρ (.tmp 90) = _ := h0
                      have h1' : ρ (.tmp 94) = _ := h1
                      go_simp
                      try exact rfl
                    apply rs_eq (hO _ _) (.inl (Nat.ne_of_beq_eq_false rfl))
                    · intro ρ w' ho hK
                      have ho : Only _ W8 w' := ho
                      obtain ⟨h0, -⟩ := hK
                      have h0' : ρ (.tmp 95) = _ := h0
                      have r0 := cell_on ho hngO hgm8 kk2
                      obtain ⟨r1, r2, r3, r4, r5, r6⟩ := HKK.out w' (HBx w' ho)
                      go_simp
                      try exact rfl
                    refine rs_build1 (hO _ _) (.inl (Nat.ne_of_beq_eq_false rfl)) 1 [Value.slice Bo j mo] 28 rfl (fun ρ w' ho hK => by
                      have ho : Only _ W8 w' := ho
                      obtain ⟨h0, -⟩ := hK
                      have h0' : ρ (.tmp 96) = _ := h0
                      go_simp) ?_
                    refine rs_append2 rfl (gm + 1) 28 23 1 (vO) (us.length) (us) _ rfl rfl (fun g hg => hg) (show gm + 1 ≤ W8.heap.size by omega) _ _ rfl _ _ rfl rfl rfl rfl i0 _ 24 Try.underlying23 hi0 hz0 hz1 hz2 rfl (by decide) (by omega) (by decide) (by simp [Value.oneCell']) ?_
                    apply rs_eq (hO _ _) (.inl (Nat.ne_of_beq_eq_false rfl))
                    · intro ρ w' ho hK
                      have ho : Only _ W8 w' := ho
                      obtain ⟨h0, -⟩ := hK
                      have h0' : ρ (.tmp 8) = _ := h0
                      go_simp
                      try exact rfl
                    intro f w9 k9 hk9 hI9 ht9 hcp9
                    have E0 : f 0 = _ := ht9 0 (Nat.le_of_ble_eq_true rfl)
                    have E1 : f 1 = _ := ht9 1 (Nat.le_of_ble_eq_true rfl)
                    have E2 : f 2 = _ := ht9 2 (Nat.le_of_ble_eq_true rfl)
                    have E3 : f 3 = _ := ht9 3 (Nat.le_of_ble_eq_true rfl)
                    have E4 : f 4 = _ := ht9 4 (Nat.le_of_ble_eq_true rfl)
                    conv at E4 => rhs; whnf
                    have E5 : f 5 = _ := ht9 5 (Nat.le_of_ble_eq_true rfl)
                    conv at E5 => rhs; whnf
                    have E6 : f 6 = _ := ht9 6 (Nat.le_of_ble_eq_true rfl)
                    have E7 : f 7 = _ := ht9 7 (Nat.le_of_ble_eq_true rfl)
                    have E8 : f 8 = _ := ht9 8 (Nat.le_of_ble_eq_true rfl)
                    have E9 : f 9 = _ := ht9 9 (Nat.le_of_ble_eq_true rfl)
                    have E10 : (TNew _ 1 1 [Value.slice Bo j mo]) w9 (f 10) := ht9 10 (Nat.le_of_ble_eq_true rfl)
                    have E11 : (TAny) w9 (f 11) := ht9 11 (Nat.le_of_ble_eq_true rfl)
                    have E12 : f 12 = _ := ht9 12 (Nat.le_of_ble_eq_true rfl)
                    have Ho9 : Only _ W8 w9 := hI9.2.1
                    have hown9 : w9.ownsRow (gm + 1) 28 1 (f 11) (us.length + 1) (us ++ [Value.slice Bo j mo]) := hI9.2.2.1
                    have hat9 : ∀ g, (f 11).ownBlock = some g → (vO).ownBlock = some g ∨ W8.heap.size ≤ g := hI9.2.2.2
                    simp only [putAll, E0, E1, E2, E3, E4, E5, E6, E7, E8, E9, E12, Nat.zero_add, Nat.reduceAdd, Act.put, List.setIfInBounds_toArray, List.set_cons_succ, List.set_cons_zero, List.take, List.getElem_toArray, List.getElem_cons_succ, List.getElem_cons_zero]
                    clear E0 E1 E2 E3 E4 E5 E6 E7 E8 E9 E12
                    clear hI9 ht9 hcp9 hk9
                    generalize f 10 = r10 at *
                    generalize f 11 = r11 at *
                    obtain ⟨A9, c9, hr9⟩ := slice_of_own hown9
                    subst hr9
                    have HMY9 := Lib.hid (MY.addO HMB8.out Ho9 hown9 hat9)
                    have hbx9 := (Ho9.block gm hgm8 hngO).trans HMB8.out.box
                    have x2 := blk_cell hbx9 2
                    have y2 := blk_free hbx9 2
                    have HB9 := Lib.hid (Only.below (HBx w9 Ho9) (Only.grown (E := (· = gm)) (set_grown w9 gm 2 (.slice A9 (us.length + 1) c9)) (fun g hg => (Option.some.inj hg).symm)) (by have := Ho9.size; omega) (fun g hg => by omega))
                    have HUs2 : Hid (∀ (i : Nat) (u : Value), (us ++ [Value.slice Bo j mo])[i]? = some u → Row w5 1 u (Mac.key0 m.out (Mac.perm m.next.length i)).length (ints (Mac.key0 m.out (Mac.perm m.next.length i)))) := Lib.hid (fun i u hu => by
                      rcases Nat.lt_or_ge i us.length with hi | hi
                      · rw [List.getElem?_append_left hi] at hu
                        exact HUs.out i u hu
                      · rw [List.getElem?_append_right hi] at hu
                        have hik : i = k := by
                          have := Hul.out
                          rcases Nat.lt_or_ge (i - us.length) 1 with h | h
                          · omega
                          · rw [List.getElem?_eq_none (by simp; omega)] at hu; cases hu
                        subst hik
                        rw [show i - us.length = 0 by have := Hul.out; omega] at hu
                        obtain rfl := Option.some.inj hu
                        rw [HUq.out]
                        have := HRo.out
                        rw [Hlq.out] at this ⊢
                        exact this)
                    clear hO Ho9 hown9 hat9 hbx9 kk2 HBx
                    go_wp2_with fail
                    go_roundw
                    case rel => exact ⟨k + 1, _, _, _, us ++ [Value.slice Bo j mo], by go_num, by omega, by rw [List.length_append, Hul.out]; rfl, HUs2, HMY9, HB9⟩
                    case measure => simp [intOf] <;> omega
              · obtain rfl : k = m.next.length := by omega
                have hdk : decide (m.next.length < m.next.length) = false := decide_eq_false (by omega)
                have hW2 := Hb.out.trans (Hbr.out.mono zb)
                have hlren : (Mac.ren m).next.length = m.next.length ∧ (Mac.ren m).out.length = m.next.length := by unfold Mac.ren; simp
                have hYM : MachAt wr (.agg #[.int .i64 m.ins, vN, vO]) (Mac.ren m) := by
                  have hn := OwnSE.at HMB.out.n
                  rw [List.take_of_length_le (by omega)] at hn
                  refine ⟨vN, vO, rfl, hn, us, by omega, by have := Row.of_own HMB.out.o; rw [hlren.2, ← hul]; exact this, fun i x u hx hu => ?_⟩
                  have hil : i < m.next.length := by have := (List.getElem?_eq_some_iff.1 hu).1; omega
                  rw [Mac.ren_out hil] at hx
                  rw [← Option.some.inj hx]
                  exact (HUs.out i u hu).below hW2
                obtain ⟨AN, cN', AO, cO', hag, -⟩ := hYM.shape
                have HYM := Lib.hid hYM
                have HMw := Lib.hid (HM.out.below hW2)
                have PMw := Lib.hid (PM.out.below hW2)
                have Bw := Lib.hid (B.out.trans (hW2.mono B.out.size))
                have hcy := HMB.out.cells
                have Hgmz := Lib.hid (my_lt HMB.out)
                simp only [Value.agg.injEq, Array.mk.injEq, List.cons.injEq, and_true, true_and] at hag
                obtain ⟨hag0, rfl, rfl⟩ := hag
                obtain ⟨y0, y1, y2, -, -⟩ := hcy
                obtain ⟨zm, m0, m1, m2⟩ := PMw.out
                have zy := Hgmz.out
                clear hW2 hlren hYM HMB hag0 hul
                go_wp2_with fail
                obtain ⟨wy, hwy⟩ : ∃ wy, wy = wr := ⟨_, rfl⟩
                subst hwy
                refine wp_region_rsG [(4, true)] (quietRS Try.prog _ wy _) quietRS_ok (by kernel_rfl) (by kernel_rfl) (by kernel_rfl) (Nat.le_of_ble_eq_true rfl) trivial trivial ?_
                refine rs_peel ?_
                apply rs_eq quietRS_ok quiet_any
                · intro ρ w' ho hK
                  have ho : Only _ wy w' := ho
                  obtain ⟨h0, -⟩ := hK
                  have h0' : ρ (.tmp 4) = _ := h0
                  have hb := only_below ho
                  have q0 := (hb.cell (p := ⟨gm, 0, none⟩) zy).trans y0
                  have q1 := (hb.cell (p := ⟨gm, 1, none⟩) zy).trans y1
                  have q2 := (hb.cell (p := ⟨gm, 2, none⟩) zy).trans y2
                  have r0 := (hb.cell (p := ⟨gq, 0, none⟩) zm).trans m0
                  have r1 := (hb.cell (p := ⟨gq, 1, none⟩) zm).trans m1
                  have r2 := (hb.cell (p := ⟨gq, 2, none⟩) zm).trans m2
                  go_simp
                  try exact rfl
                refine rs_peel ?_
                refine rs_call quietRS_ok quiet_any (TMachL x) (stb_machL _) 16 _ _ rfl (fun ρ w' ho hK => by
                  have ho : Only _ wy w' := ho
                  obtain ⟨h0, h1, -⟩ := hK
                  have h0' : ρ (.func 16) = .func (.func 16) #[] #[] := h0
                  have h1' : ρ (.tmp 100) = _ := h1
                  refine ⟨#[ρ (.tmp 100)], ?_, ?_⟩
                  · go_simp
                  · rw [h1']
                    refine (implMinz_any _ x w' (HMw.out.below (only_below ho))).mono ?_
                    rintro e w2 ⟨v2, rfl, hO, hb⟩
                    exact ⟨v2, rfl, by rw [HXX.out] at hO; exact OwnMachE.at hO, hb⟩) ?_
                refine rs_peel ?_
                apply rs_eq quietRS_ok quiet_any
                · intro ρ w' ho hK
                  have ho : Only _ wy w' := ho
                  obtain ⟨h0, -⟩ := hK
                  have h0' : ρ (.tmp 4) = _ := h0
                  have hb := only_below ho
                  have q0 := (hb.cell (p := ⟨gm, 0, none⟩) zy).trans y0
                  have q1 := (hb.cell (p := ⟨gm, 1, none⟩) zy).trans y1
                  have q2 := (hb.cell (p := ⟨gm, 2, none⟩) zy).trans y2
                  have r0 := (hb.cell (p := ⟨gq, 0, none⟩) zm).trans m0
                  have r1 := (hb.cell (p := ⟨gq, 1, none⟩) zm).trans m1
                  have r2 := (hb.cell (p := ⟨gq, 2, none⟩) zm).trans m2
                  go_simp
                  try exact rfl
                refine rs_peel ?_
                refine rs_call quietRS_ok quiet_any (TEq (.bool true)) (stb_eq _ _) 17 _ _ rfl (fun ρ w' ho hK => by
                  have ho : Only _ wy w' := ho
                  obtain ⟨h0, h1, h2, -⟩ := hK
                  have h0' : ρ (.func 17) = .func (.func 17) #[] #[] := h0
                  have h1' : (TMachL x) w' (ρ (.tmp 101)) := h1
                  have h2' : ρ (.tmp 102) = _ := h2
                  refine ⟨#[ρ (.tmp 101), ρ (.tmp 102)], ?_, ?_⟩
                  · go_simp
                  · rw [h2']
                    refine (sameMachine_same _ _ x w' h1' (HMw.out.below (only_below ho))).mono ?_
                    rintro e w2 ⟨rfl, hb⟩
                    exact ⟨_, rfl, rfl, hb⟩) ?_
                refine rs_peel ?_
                refine rs_same quietRS_ok quiet_any 103 3 (.inl rfl) rfl _ rfl ?_
                refine rs_run rfl ?_
                apply rs_eq quietRS_ok quiet_any
                · intro ρ w' ho hK
                  have ho : Only _ wy w' := ho
                  obtain ⟨h0, -⟩ := hK
                  have h0' : ρ (.tmp 8) = _ := h0
                  have hb := only_below ho
                  have q0 := (hb.cell (p := ⟨gm, 0, none⟩) zy).trans y0
                  have q1 := (hb.cell (p := ⟨gm, 1, none⟩) zy).trans y1
                  have q2 := (hb.cell (p := ⟨gm, 2, none⟩) zy).trans y2
                  have r0 := (hb.cell (p := ⟨gq, 0, none⟩) zm).trans m0
                  have r1 := (hb.cell (p := ⟨gq, 1, none⟩) zm).trans m1
                  have r2 := (hb.cell (p := ⟨gq, 2, none⟩) zm).trans m2
                  go_simp
                  try exact rfl
                refine rs_run rfl ?_
                refine rs_call quietRS_ok quiet_any (TMachL x) (stb_machL _) 16 _ _ rfl (fun ρ w' ho hK => by
                  have ho : Only _ wy w' := ho
                  obtain ⟨h0, h1, -⟩ := hK
                  have h0' : ρ (.func 16) = .func (.func 16) #[] #[] := h0
                  have h1' : ρ (.tmp 105) = _ := h1
                  refine ⟨#[ρ (.tmp 105)], ?_, ?_⟩
                  · go_simp
                  · rw [h1']
                    refine (implMinz_any _ (Mac.ren m) w' (HYM.out.below (only_below ho))).mono ?_
                    rintro e w2 ⟨v2, rfl, hO, hb⟩
                    exact ⟨v2, rfl, by rw [HYX.out] at hO; exact OwnMachE.at hO, hb⟩) ?_
                refine rs_run rfl ?_
                apply rs_eq quietRS_ok quiet_any
                · intro ρ w' ho hK
                  have ho : Only _ wy w' := ho
                  obtain ⟨h0, -⟩ := hK
                  have h0' : ρ (.tmp 4) = _ := h0
                  have hb := only_below ho
                  have q0 := (hb.cell (p := ⟨gm, 0, none⟩) zy).trans y0
                  have q1 := (hb.cell (p := ⟨gm, 1, none⟩) zy).trans y1
                  have q2 := (hb.cell (p := ⟨gm, 2, none⟩) zy).trans y2
                  have r0 := (hb.cell (p := ⟨gq, 0, none⟩) zm).trans m0
                  have r1 := (hb.cell (p := ⟨gq, 1, none⟩) zm).trans m1
                  have r2 := (hb.cell (p := ⟨gq, 2, none⟩) zm).trans m2
                  go_simp
                  try exact rfl
                refine rs_run rfl ?_
                refine rs_call quietRS_ok quiet_any (TEq (.bool true)) (stb_eq _ _) 17 _ _ rfl (fun ρ w' ho hK => by
                  have ho : Only _ wy w' := ho
                  obtain ⟨h0, h1, h2, -⟩ := hK
                  have h0' : ρ (.func 17) = .func (.func 17) #[] #[] := h0
                  have h1' : (TMachL x) w' (ρ (.tmp 106)) := h1
                  have h2' : ρ (.tmp 107) = _ := h2
                  refine ⟨#[ρ (.tmp 106), ρ (.tmp 107)], ?_, ?_⟩
                  · go_simp
                  · rw [h2']
                    refine (sameMachine_same _ _ x w' h1' (HMw.out.below (only_below ho))).mono ?_
                    rintro e w2 ⟨rfl, hb⟩
                    exact ⟨_, rfl, rfl, hb⟩) ?_
                refine rs_peel ?_
                apply rs_eq quietRS_ok quiet_any
                · intro ρ w' ho hK
                  have ho : Only _ wy w' := ho
                  obtain ⟨h0, h1, h2, -⟩ := hK
                  have h0' : ρ (.tmp 104) = _ := h0
                  have h1' : ρ (.tmp 108) = _ := h1
                  have h2' : ρ (.const (Value.bool false)) = (Value.bool false) := h2
                  go_simp
                  try exact rfl
                refine rs_peel ?_
                refine rs_same quietRS_ok quiet_any 109 9 (.inr rfl) rfl _ rfl ?_
                refine ⟨⟨rfl, trivial⟩, ?_⟩
                intro f w9 k9 hk9 hI9 ht9 hcp9
                have E0 : f 0 = _ := ht9 0 (Nat.le_of_ble_eq_true rfl)
                have E1 : (TMachL x) w9 (f 1) := ht9 1 (Nat.le_of_ble_eq_true rfl)
                have E2 : f 2 = _ := ht9 2 (Nat.le_of_ble_eq_true rfl)
                have E3 : f 3 = _ := ht9 3 (Nat.le_of_ble_eq_true rfl)
                have E4 : f 4 = _ := ht9 4 (Nat.le_of_ble_eq_true rfl)
                have E5 : f 5 = _ := ht9 5 (Nat.le_of_ble_eq_true rfl)
                have E6 : (TMachL x) w9 (f 6) := ht9 6 (Nat.le_of_ble_eq_true rfl)
                have E7 : f 7 = _ := ht9 7 (Nat.le_of_ble_eq_true rfl)
                have E8 : f 8 = _ := ht9 8 (Nat.le_of_ble_eq_true rfl)
                have E9 : f 9 = _ := ht9 9 (Nat.le_of_ble_eq_true rfl)
                have E10 : f 10 = _ := ht9 10 (Nat.le_of_ble_eq_true rfl)
                have Ho9 : Only _ wy w9 := hI9.2.1
                simp only [putAll, E0, E2, E3, E4, E5, E7, E8, E9, E10, Nat.zero_add, Nat.reduceAdd, Act.put, List.setIfInBounds_toArray, List.set_cons_succ, List.set_cons_zero]
                clear E0 E2 E3 E4 E5 E7 E8 E9 E10
                clear hI9 ht9 hcp9 hk9
                generalize f 1 = r1 at *
                generalize f 6 = r6 at *
                have hb := only_below Ho9
                have Bz := Lib.hid (Bw.out.trans (hb.mono Bw.out.size))
                clear hb Ho9 E1 E6 y0 y1 y2 zm m0 m1 m2
                go_wp2_with fail
                go_ret
                exact ⟨rfl, Bz.out⟩
  · have hd1 : decide ((1048576 : Int) < (bs.length : Int)) = true := decide_eq_true (by omega)
    go_enter Try.func6, Try.ntmps6
    go_wp2_with fail
    go_ret
    exact ⟨rfl, Below.refl _ _⟩

/-! The step from the walk to the row. -/
set_option maxRecDepth 100000 in
theorem lifted (os : Os) (started : os.Started) (H : Type) (enc : TypeId × Value → H) :
    ReturnsInHanded {} Try.checked os 6 .any (Rows.fnMinimizeAgainSpec.pre6 enc Try.prog Try.f6 Rows.fnMinimizeAgainRow.domain false) (Rows.fnMinimizeAgainSpec.post enc Try.prog Try.f6 false true false false) := by
  refine returnsInHanded_of_change (C := Try.checked) own started (by kernel_rfl) Try.func6
    (ChangeSpec.witness6 (enc := enc) (C := Try.checked) false ⟨#[], #[.slice none 0 0], []⟩ 8 (by kernel_rfl) (by kernel_rfl) (by kernel_rfl) (by kernel_rfl)) ?_
  intro W base args ds gs before hval0 hW hcnd _
  have hval : ∀ (j : Nat) t v, Try.f6.params[j]? = some t → args[j]? = some v → Value.okWide Try.prog W .any base t v := hval0
  have hW' := hW
  obtain ⟨p, q, hA0, hV, rfl, hfz, hnd⟩ := hW
  have hA : DataW.TrodAll enc Try.prog W 0 (fun _ => true) true Try.f6.params.toList args.toList ds p := hA0
  rw [Try.params6] at hA hval
  obtain ⟨v0, vs0, d0, ds0, p0, q0, hargs, rfl, rfl, h0, r0⟩ := trodAll_cons hA
  obtain ⟨rfl, rfl, rfl⟩ := trodAll_nil r0
  obtain rfl : args = #[v0] := by cases args; simp_all
  obtain ⟨rfl, rfl⟩ := trodVars_none hV
  obtain ⟨a0, len0, cap0, rfl⟩ := okWide_slice Try.underlying22 (hval 0 22 v0 rfl rfl)
  have k0 := h0
  have lt0 : ∀ x ∈ p0, x.block < W.heap.size := by obtain ⟨m, hm⟩ := k0; exact DataW.trod_lt m _ _ _ hm
  obtain ⟨z0, w0⟩ : ∃ zs, IsRow .u8 W a0 len0 cap0 zs := by
    obtain ⟨fuel, hf⟩ := h0
    rcases open_ints Try.underlying22 Try.underlying5 (by kernel_rfl) hf with ⟨hcs, _⟩ | ⟨x, l, c, zs, hcs, _, hl, hm, hz, _, hcell, hwz⟩
    · simp [Value.cells] at hcs
      obtain ⟨rfl, rfl, rfl⟩ := hcs
      exact ⟨[], .inl ⟨rfl, rfl, rfl, rfl⟩⟩
    · simp [Value.cells] at hcs
      obtain ⟨rfl, rfl, rfl⟩ := hcs
      exact ⟨zs, .inr ⟨_, rfl, hl, hm, by simpa using hz, hcell, hwz⟩⟩
  clear hA0 hval0
  refine (walk a0 len0 cap0 z0 W w0).mono fun e W' ⟨he, bel⟩ => ?_
  subst he
  exact ⟨_, rfl, _, _, _, [], _, [], hW', trodAll_mk1 (shut_bool Try.underlying4 _), (trodAll_cons_mk (Below.trod laidOut (by kernel_rfl) (of_decide_eq_true (by kernel_rfl)) k0 bel lt0) trodAll_mk0), rfl, bel.frame _, fun h => by cases h⟩

theorem over : Rows.fnMinimizeAgainRow.holds Try.pinned (OpenSpec.ofChange Rows.fnMinimizeAgainSpec) :=
  OpenClaim.holds_of_wide 6 Try.f6 rfl rfl rfl rfl rfl rfl rfl ⟨rfl, rfl, rfl, rfl, rfl⟩ rfl rfl rfl rfl rfl (by kernel_rfl) Try.func6 (by kernel_rfl)
    (of_decide_eq_true (by kernel_rfl)) (by unfold Func.isWrapper; first | (rw [if_pos (by decide +kernel)]; kernel_rfl) | (rw [if_neg (by decide +kernel)]; exact ⟨rfl, rfl⟩))
    (fun os started H enc _ => lifted os started H enc)

/-- The statement. -/
theorem proved : Rows.FnMinimizeAgainSaid := over
#print axioms proved
end Go.Proofs.Ytmlmnelbphjfbaa.fnMinimizeAgain
