/-
  FnMinimize: The program's Minimize is the reference's; the minimized machine of a valid machine is valid, has as many inputs and at most as many states, and for every sequence of inputs the outputs of the original one.
  Conditions: none. For every input that the row reads, the Go function laws.FnMinimize returns true and leaves its arguments as they were.
-/
import Derived.Test.YtmlmnelbphjfbaaS06
import Derived.Test.YtmlmnelbphjfbaaS08
import Derived.StillTailTactics
import Derived.Test.YtmlmnelbphjfbaaRows
import Derived.WalkKit
import Derived.ProofKit
import Derived.OpenShut
import Derived.ShutString
import Derived.ChangeOld
import Derived.Below
set_option linter.unusedVariables false
set_option linter.unusedSimpArgs false
namespace Go.Proofs.Ytmlmnelbphjfbaa.fnMinimize
open Go.ChangeShapes Go.WideShapes Go.ChangeAt Go.RowKit
open Go.ChangeMaps (open_string shut_string)
set_option linter.unusedVariables false

theorem own : ownKnob Try.prog.godebug = none := by kernel_rfl
theorem laidOut : laidOutB Try.prog = true := by kernel_rfl

/-- A slice of integers that came in: nil, or a row of cells. -/
def IsRow (k : IntKind) (w : World) (a : Option Addr) (len cap : Nat) (zs : List Int) : Prop :=
  (a = none ∧ len = 0 ∧ cap = 0 ∧ zs = []) ∨
  ∃ x, a = some x ∧ len ≤ cap ∧ cap ≤ maxLen ∧ zs.length = cap ∧ (∀ i, i < zs.length → w.cell? (x.add i) = some (.int k (zs.getD i 0))) ∧ ∀ n ∈ zs, (Lit.int k n).wf = true

def TLenZ (n : Nat) : Ty := fun _ v => ∃ A c, v = .slice A n c
theorem stb_lenZ (E : Nat → Prop) (n : Nat) : Stb E (TLenZ n) := fun _ _ _ h _ => h
set_option maxHeartbeats 8000000 in
set_option maxRecDepth 100000 in
/-- The walk: the Go text returns true. -/
theorem walk (a0 : Option Addr) (len0 cap0 : Nat) (z0 : List Int) (a1 : Option Addr) (len1 cap1 : Nat) (z1 : List Int) (w : World) (w0 : IsRow .u8 w a0 len0 cap0 z0) (w1 : IsRow .u8 w a1 len1 cap1 z1) :
    Calls Try.prog 5 #[.slice a0 len0 cap0, .slice a1 len1 cap1] w fun e w' => e = .returned (.bool true) ∧ Below w.heap.size w w' := by
  obtain ⟨bs, rfl, hwf, hr⟩ := Row.given w0
  obtain ⟨ms, rfl, hwf2, hr2⟩ := Row.given w1
  clear w0 w1
  by_cases hl : bs.length ≤ 1048576
  · have hd1 : decide ((1048576 : Int) < (bs.length : Int)) = false := decide_eq_false (by omega)
    by_cases hl2 : ms.length ≤ 1048576
    · have hd2 : decide ((1048576 : Int) < (ms.length : Int)) = false := decide_eq_false (by omega)
      have Hr := Lib.hid hr
      have HR2 := Lib.hid hr2
      have Hwf2 := Lib.hid hwf2
      clear hr hr2 hwf2
      go_enter Try.func5, Try.ntmps5
      go_wp2_with fail
      refine (drawMini_any _ bs w Hr.out hwf hl).mono ?_
      rintro e w1 ⟨v1, m, rfl, hm, hb1⟩
      obtain ⟨An, cn, Ao, co, rfl, hcnm, hcom, hcn1, hco1⟩ := hm.shape
      replace HR2 := Lib.hid (Row.below HR2.out hb1)
      have hbx := bel_new w1 (.cells #[.int .i64 m.ins, .slice An m.next.length cn, .slice Ao m.out.length co] 25)
      have PC := Lib.hid (MCells.boxed w1 m.ins (.slice An m.next.length cn) (.slice Ao m.out.length co) 25)
      have HC := Lib.hid (hm.below hbx)
      have B := Lib.hid (hb1.trans (hbx.mono hb1.size))
      replace HR2 := Lib.hid (Row.below HR2.out hbx)
      clear hm hb1 Hr hwf hbx hd1 hd2
      unfold maxLen at hcnm hcom
      go_wp2_with fail
      generalize w1.alloc (.cells #[.int .i64 m.ins, .slice An m.next.length cn, .slice Ao m.out.length co] 25) = w2 at *
      obtain ⟨gb, hgb⟩ : ∃ gb, w1.heap.size = gb := ⟨_, rfl⟩
      rw [hgb] at PC ⊢
      clear hgb
      obtain ⟨z, p0, p1, p2⟩ := PC.out
      refine (implMinz_any _ m _ HC.out).mono ?_
      rintro e w3 ⟨v3, rfl, hO3, hb⟩
      have HM := Lib.hid (OwnMachE.at hO3)
      obtain ⟨Am, cm, Ax, cx, hvm, -⟩ := (OwnMachE.at hO3).shape
      subst hvm
      obtain ⟨x, hx⟩ : ∃ x, Mac.minI m = x := ⟨_, rfl⟩
      have Hx := Lib.hid hx
      rw [hx] at HM ⊢
      clear hO3 z p0 p1 p2 hx
      replace PC := Lib.hid (PC.out.below hb)
      replace HC := Lib.hid (HC.out.below hb)
      replace HR2 := Lib.hid (Row.below HR2.out hb)
      replace B := Lib.hid (B.out.trans (hb.mono B.out.size))
      clear hb
      have hb := bel_alloc w3 (.cells #[.int .i64 x.ins, .slice Am x.next.length cm, .slice Ax x.out.length cx] 25)
      have PM := Lib.hid (MCells.boxed w3 x.ins (.slice Am x.next.length cm) (.slice Ax x.out.length cx) 25)
      replace PC := Lib.hid (PC.out.below hb)
      replace HC := Lib.hid (HC.out.below hb)
      replace HM := Lib.hid (HM.out.below hb)
      replace HR2 := Lib.hid (Row.below HR2.out hb)
      replace B := Lib.hid (B.out.trans (hb.mono B.out.size))
      clear hb
      obtain ⟨w4, hw4⟩ : ∃ w4, w3.alloc (.cells #[.int .i64 x.ins, .slice Am x.next.length cm, .slice Ax x.out.length cx] 25) = w4 := ⟨_, rfl⟩
      rw [hw4] at PC HC HM HR2 PM B
      obtain ⟨gq, hgq⟩ : ∃ gq, w3.heap.size = gq := ⟨_, rfl⟩
      rw [hgq] at PM
      obtain ⟨z, p0, p1, p2⟩ := PC.out
      obtain ⟨zm, m0, m1, m2⟩ := PM.out
      go_wp2_with fail
      clear hw4 hgq
      refine wp_region_rs (quietRS Try.prog _ w4 _) quietRS_ok (by kernel_rfl) (by kernel_rfl) (by kernel_rfl) (Nat.le_of_ble_eq_true rfl) trivial trivial ?_
      apply rs_eq quietRS_ok quiet_any
      · intro ρ w' ho hK
        have ho : Only _ w4 w' := ho
        obtain ⟨h0, -⟩ := hK
        have h0' : ρ (.tmp 6) = _ := h0
        have hb := only_below ho
        have q0 := (hb.cell (p := ⟨gb, 0, none⟩) z).trans p0
        have q1 := (hb.cell (p := ⟨gb, 1, none⟩) z).trans p1
        have q2 := (hb.cell (p := ⟨gb, 2, none⟩) z).trans p2
        have r0 := (hb.cell (p := ⟨gq, 0, none⟩) zm).trans m0
        have r1 := (hb.cell (p := ⟨gq, 1, none⟩) zm).trans m1
        have r2 := (hb.cell (p := ⟨gq, 2, none⟩) zm).trans m2
        go_simp
        try exact rfl
      apply rs_eq quietRS_ok quiet_any
      · intro ρ w' ho hK
        have ho : Only _ w4 w' := ho
        obtain ⟨h0, -⟩ := hK
        have h0' : ρ (.tmp 5) = _ := h0
        have hb := only_below ho
        have q0 := (hb.cell (p := ⟨gb, 0, none⟩) z).trans p0
        have q1 := (hb.cell (p := ⟨gb, 1, none⟩) z).trans p1
        have q2 := (hb.cell (p := ⟨gb, 2, none⟩) z).trans p2
        have r0 := (hb.cell (p := ⟨gq, 0, none⟩) zm).trans m0
        have r1 := (hb.cell (p := ⟨gq, 1, none⟩) zm).trans m1
        have r2 := (hb.cell (p := ⟨gq, 2, none⟩) zm).trans m2
        go_simp
        try exact rfl
      refine rs_call quietRS_ok quiet_any (TMachL x) (stb_machL _) 18 _ _ rfl (fun ρ w' ho hK => by
        have ho : Only _ w4 w' := ho
        obtain ⟨h0, h1, -⟩ := hK
        have h0' : ρ (.func 18) = .func (.func 18) #[] #[] := h0
        have h1' : ρ (.tmp 22) = _ := h1
        refine ⟨#[ρ (.tmp 22)], ?_, ?_⟩
        · go_simp
        · rw [h1']
          refine (specMinz_read _ m w' (HC.out.below (only_below ho))).mono ?_
          rintro e w2 ⟨⟨v2, rfl, hO⟩, hb⟩
          exact ⟨v2, rfl, by rw [Hx.out] at hO; exact hO, hb⟩) ?_
      refine rs_call quietRS_ok quiet_any (TEq (.bool true)) (stb_eq _ _) 17 _ _ rfl (fun ρ w' ho hK => by
        have ho : Only _ w4 w' := ho
        obtain ⟨h0, h1, h2, -⟩ := hK
        have h0' : ρ (.func 17) = .func (.func 17) #[] #[] := h0
        have h1' : ρ (.tmp 21) = _ := h1
        have h2' : (TMachL x) w' (ρ (.tmp 23)) := h2
        refine ⟨#[ρ (.tmp 21), ρ (.tmp 23)], ?_, ?_⟩
        · go_simp
        · rw [h1']
          refine (sameMachine_same _ _ x w' (HM.out.below (only_below ho)) h2').mono ?_
          rintro e w2 ⟨rfl, hb⟩
          exact ⟨_, rfl, rfl, hb⟩) ?_
      apply rs_eq quietRS_ok quiet_any
      · intro ρ w' ho hK
        have ho : Only _ w4 w' := ho
        obtain ⟨h0, -⟩ := hK
        have h0' : ρ (.tmp 24) = _ := h0
        go_simp
        try exact rfl
      intro f w9 k9 hk9 hI9 ht9 hcp9
      have E0 : f 0 = _ := ht9 0 (Nat.le_of_ble_eq_true rfl)
      have E1 : f 1 = _ := ht9 1 (Nat.le_of_ble_eq_true rfl)
      have E2 : (TMachL x) w9 (f 2) := ht9 2 (Nat.le_of_ble_eq_true rfl)
      have E3 : f 3 = _ := ht9 3 (Nat.le_of_ble_eq_true rfl)
      have E4 : f 4 = _ := ht9 4 (Nat.le_of_ble_eq_true rfl)
      have Ho9 : Only _ w4 w9 := hI9.2.1
      simp only [putAll, E0, E1, E3, E4, Nat.zero_add, Nat.reduceAdd, Act.put, List.setIfInBounds_toArray, List.set_cons_succ, List.set_cons_zero]
      clear E0 E1 E3 E4
      clear hI9 ht9 hcp9 hk9
      generalize f 2 = r2 at *
      have hb := only_below Ho9
      clear z p0 p1 p2 zm m0 m1 m2 Ho9 E2
      replace PC := Lib.hid (PC.out.below hb)
      replace HC := Lib.hid (HC.out.below hb)
      replace HM := Lib.hid (HM.out.below hb)
      replace PM := Lib.hid (PM.out.below hb)
      replace HR2 := Lib.hid (Row.below HR2.out hb)
      replace B := Lib.hid (B.out.trans (hb.mono B.out.size))
      clear hb
      obtain ⟨z, p0, p1, p2⟩ := PC.out
      obtain ⟨zm, m0, m1, m2⟩ := PM.out
      go_wp2_with fail
      refine (specMValid_any _ m _ HC.out).mono ?_
      rintro e w5 ⟨rfl, hb⟩
      clear z p0 p1 p2 zm m0 m1 m2
      replace PC := Lib.hid (PC.out.below hb)
      replace HC := Lib.hid (HC.out.below hb)
      replace HM := Lib.hid (HM.out.below hb)
      replace PM := Lib.hid (PM.out.below hb)
      replace HR2 := Lib.hid (Row.below HR2.out hb)
      replace B := Lib.hid (B.out.trans (hb.mono B.out.size))
      clear hb
      obtain ⟨z, p0, p1, p2⟩ := PC.out
      obtain ⟨zm, m0, m1, m2⟩ := PM.out
      cases hv : Mac.valid m
      · have Hm0 : Hid (x = { ins := 0, next := [], out := [] }) := Lib.hid (by rw [← Hx.out]; unfold Mac.minI; rw [hv]; rfl)
        go_wp2_with fail
        refine (sameMachine_same _ _ x _ HM.out (by rw [Hm0.out]; exact ⟨_, _, rfl, SSAt.nil _ _, SSAt.nil _ _⟩)).mono ?_
        rintro e w6 ⟨rfl, hb⟩
        clear z p0 p1 p2 zm m0 m1 m2
        replace B := Lib.hid (B.out.trans (hb.mono B.out.size))
        clear hb
        go_wp2_with fail
        refine (alive_any _).mono ?_
        rintro e w8 ⟨rfl, hb⟩
        replace B := Lib.hid (B.out.trans (hb.mono B.out.size))
        clear hb
        go_wp2_with fail
        go_ret
        exact ⟨rfl, B.out⟩
      · obtain ⟨s1, s2, s3, s4, s5⟩ := Mac.valid_sizes hv
        obtain ⟨N, hN⟩ := Int.eq_ofNat_of_zero_le s1
        have hN4 : N ≤ 4 := by omega
        have hxi : x.ins = (N : Int) := by rw [← Hx.out, Mac.min_ins hv, hN]
        have HXV : Hid (Mac.valid x = true) := Lib.hid (by rw [← Hx.out]; exact Mac.min_valid hv)
        have hle : x.next.length ≤ m.next.length := by rw [← Hx.out]; exact (Mac.min_len hv).1
        have HRun : Hid (∀ xs : List Nat, (∀ y ∈ xs, y < 2 ^ N) → xs.length ≤ 40 → ∃ R : List Int, Mac.runI m (nats xs) = R ∧ Mac.runI x (nats xs) = R ∧ R.length = xs.length) := Lib.hid fun xs hy h40 => by
          have := Mac.run_min hv (xs := xs) (by rw [hN]; exact hy) h40
          rwa [Hx.out] at this
        obtain ⟨M, hM⟩ : ∃ M : Nat, 2 ^ N = M := ⟨_, rfl⟩
        have hp0 : 0 < M := by rw [← hM]; exact Nat.pow_pos (by decide)
        have hM16 : M ≤ 16 := by rw [← hM]; exact Nat.pow_le_pow_right (show 0 < 2 by decide) hN4
        have HeM : Hid ((2 : Int) ^ N = (M : Int)) := Lib.hid (by rw [← hM]; exact two_pow _)
        rw [hM] at HRun
        rw [hxi] at PM m0
        rw [hN] at PC p0
        have hMne : ((M : Int) == 0) = false := by rw [beq_eq_false_iff_ne]; omega
        have HinsM := Lib.hid hN
        have HinsX := Lib.hid hxi
        clear hv s1 s2 s5 hN hM hxi
        have hb6 := bel_new w5 (.cells #[] 3)
        have HA0 : Hid ((w5.alloc (.cells #[] 3)).ownsRow w5.heap.size 3 1 (.slice (some ⟨w5.heap.size, 0, none⟩) 0 0) 0 (nints [])) := Lib.hid (World.ownsRow_lit (base := w5.heap.size) (e := 3) (size := 1) w5 #[] 0 (Nat.le_refl _) (by unfold maxLen; omega) rfl)
        have HB0 := Lib.hid hb6
        clear hb6
        go_wp2_with fail
        generalize w5.alloc (.cells #[] 3) = w6 at *
        clear z p0 p1 p2 zm m0 m1 m2
        go_loopw [7, 8] (fun vi i wr => ∃ (ui : Value) (k : Nat) (xs : List Nat), ui = vi ∧ i = .int .i64 k ∧ k ≤ ms.length ∧ k ≤ 40 ∧ xs.length = k ∧ Hid (∀ y ∈ xs, y < M) ∧ Hid (wr.ownsRow w5.heap.size 3 1 vi k (nints xs)) ∧ Hid (Below w5.heap.size w5 wr)) (fun _ i _ => ms.length - (intOf i).toNat)
        case atStart => exact ⟨_, 0, [], rfl, rfl, Nat.zero_le _, Nat.zero_le _, rfl, Lib.hid (fun x hx => by cases hx), HA0, HB0⟩
        case round =>
          obtain ⟨ui, k, xs, hui, rfl, hk, hk40, hxl, Hin, Ha, Hb⟩ := hrel
          subst hui
          clear HA0 HB0
          have zb := Hb.out.size
          by_cases hlt : k < ms.length ∧ k < 40
          · obtain ⟨hlt, h40⟩ := hlt
            have hdk : decide (k < ms.length) = true := decide_eq_true hlt
            have hd4 : decide (k < 40) = true := decide_eq_true h40
            have hd5 : decide ((k : Int) < 40) = true := decide_eq_true (by omega)
            obtain ⟨b, o, cm', hA, _, _, hbl, hcell⟩ := HR2.out.open (by omega)
            injection hA with hA1 _ hA2
            subst hA1 hA2
            have hy := List.getElem?_eq_getElem hlt
            have hyw := Go.bounds_u8 (Hwf2.out _ (List.getElem_mem hlt))
            have hs0 := hcell k (.int .u8 ms[k]) (by rw [List.getElem?_map, hy]; rfl)
            generalize ms[k] = y at *
            obtain ⟨yn, rfl⟩ := Int.eq_ofNat_of_zero_le hyw.1
            have hyn : yn ≤ 255 := by omega
            have hMz : M ≠ 0 := by omega
            have hwy := IntWalk.i64_in (yn : Int) (by omega)
            have eM := HeM.out
            have hwM := IntWalk.i64_in (M : Int) (by omega)
            have hq : ((yn : Int)).tmod (M : Int) = ((yn % M : Nat) : Int) := (Int.ofNat_tmod yn M).symm
            have hxM : yn % M < M := Nat.mod_lt _ hp0
            obtain ⟨q, hqq⟩ : ∃ q, yn % M = q := ⟨_, rfl⟩
            rw [hqq] at hq hxM
            have hwq := IntWalk.i64_in (q : Int) (by omega)
            obtain ⟨z, p0, -, -⟩ := PC.out
            have HBx : ∀ w', Only (fun g => ui.ownBlock = some g) wr w' → Below w5.heap.size w5 w' := fun w' ho => Only.below Hb.out ho zb (fun g hg => (Ha.out.lt g hg).1)
            obtain ⟨cs, hcs⟩ : ∃ cs, nints xs = cs := ⟨_, rfl⟩
            have HCs : Hid (nints (xs ++ [q]) = cs ++ [.int .i64 (q : Int)]) := Lib.hid (by rw [nints_snoc, hcs])
            rw [hcs] at Ha
            clear hqq hcell hy hyw hcs
            go_wp2_with fail
            obtain ⟨Wk, hWk⟩ : ∃ Wk, Wk = wr := ⟨_, rfl⟩
            subst hWk
            obtain ⟨i0, hi0, hz0, hz1, hz2⟩ := info_parts info_int
            have hO := fun ops a => appRS_ok (Pg := Try.prog) (ops := ops) (a := a) (news := [.int .i64 q]) (d := 11) (Ha.out)
            refine wp_region_rs (appRS Try.prog _ Wk _ (w5.heap.size) 3 1 (ui) (k) (cs) [.int .i64 q] 11) (hO _ _) (by kernel_rfl) (by kernel_rfl) (by kernel_rfl) (Nat.le_of_ble_eq_true rfl) trivial Ha.out ?_
            refine rs_old (hO _ _) (.inl (Nat.ne_of_beq_eq_false rfl)) _ (.inl rfl) _ rfl rfl ?_
            refine rs_old (hO _ _) (.inl (Nat.ne_of_beq_eq_false rfl)) _ (.inl rfl) _ rfl rfl ?_
            refine rs_old (hO _ _) (.inl (Nat.ne_of_beq_eq_false rfl)) _ (.inl rfl) _ rfl rfl ?_
            apply rs_eq (hO _ _) (.inl (Nat.ne_of_beq_eq_false rfl))
            · intro ρ w' ho hK
              have ho : Only _ Wk w' := ho
              obtain ⟨h0, h1, -⟩ := hK
              have h0' : ρ (.tmp 47) = _ := h0
              have h1' : ρ (.tmp 48) = _ := h1
              go_simp
              try exact rfl
            apply rs_eq (hO _ _) (.inl (Nat.ne_of_beq_eq_false rfl))
            · intro ρ w' ho hK
              have ho : Only _ Wk w' := ho
              obtain ⟨h0, -⟩ := hK
              have h0' : ρ (.tmp 49) = _ := h0
              have hbb := HBx w' ho
              have r0 := (hbb.cell (p := ⟨gb, 0, none⟩) z).trans p0
              have r1 := (hbb.cell (p := ⟨b, o + k, none⟩) hbl).trans hs0
              go_simp
              try exact rfl
            apply rs_eq (hO _ _) (.inl (Nat.ne_of_beq_eq_false rfl))
            · intro ρ w' ho hK
              have ho : Only _ Wk w' := ho
              obtain ⟨h0, -⟩ := hK
              have h0' : ρ (.tmp 50) = _ := h0
              go_simp
              try exact rfl
            apply rs_eq (hO _ _) (.inl (Nat.ne_of_beq_eq_false rfl))
            · intro ρ w' ho hK
              have ho : Only _ Wk w' := ho
              obtain ⟨h0, -⟩ := hK
              have h0' : ρ (.tmp 5) = _ := h0
              go_simp
              try exact rfl
            apply rs_eq (hO _ _) (.inl (Nat.ne_of_beq_eq_false rfl))
            · intro ρ w' ho hK
              have ho : Only _ Wk w' := ho
              obtain ⟨h0, -⟩ := hK
              have h0' : ρ (.tmp 52) = _ := h0
              have hbb := HBx w' ho
              have r0 := (hbb.cell (p := ⟨gb, 0, none⟩) z).trans p0
              have r1 := (hbb.cell (p := ⟨b, o + k, none⟩) hbl).trans hs0
              go_simp
              try exact rfl
            apply rs_eq (hO _ _) (.inl (Nat.ne_of_beq_eq_false rfl))
            · intro ρ w' ho hK
              have ho : Only _ Wk w' := ho
              obtain ⟨h0, h1, -⟩ := hK
              have h0' : ρ (.const (Value.int IntKind.i64 1)) = (Value.int IntKind.i64 1) := h0
              have h1' : ρ (.tmp 53) = _ := h1
              go_simp
              try exact rfl
            apply rs_eq (hO _ _) (.inl (Nat.ne_of_beq_eq_false rfl))
            · intro ρ w' ho hK
              have ho : Only _ Wk w' := ho
              obtain ⟨h0, h1, -⟩ := hK
              have h0' : ρ (.tmp 51) = _ := h0
              have h1' : ρ (.tmp 54) = _ := h1
              go_simp
              try exact rfl
            refine rs_build1 (hO _ _) (.inl (Nat.ne_of_beq_eq_false rfl)) 1 [.int .i64 q] 3 rfl (fun ρ w' ho hK => by
              have ho : Only _ Wk w' := ho
              obtain ⟨h0, -⟩ := hK
              have h0' : ρ (.tmp 55) = _ := h0
              go_simp) ?_
            refine rs_append1 rfl (w5.heap.size) 3 28 1 (ui) (k) (cs) _ rfl rfl (fun g hg => hg) (show w5.heap.size ≤ Wk.heap.size by omega) _ _ rfl _ _ rfl rfl rfl rfl i0 _ 8 Try.underlying28 hi0 hz0 hz1 hz2 rfl (by decide) (by omega) (by decide) (by simp [Value.oneCell']) ?_
            refine rs_same (hO _ _) (.inl (Nat.ne_of_beq_eq_false rfl)) 57 11 (.inr rfl) rfl _ rfl ?_
            intro f w9 k9 hk9 hI9 ht9 hcp9
            have E0 : f 0 = _ := ht9 0 (Nat.le_of_ble_eq_true rfl)
            conv at E0 => rhs; whnf
            have E1 : f 1 = _ := ht9 1 (Nat.le_of_ble_eq_true rfl)
            conv at E1 => rhs; whnf
            have E2 : f 2 = _ := ht9 2 (Nat.le_of_ble_eq_true rfl)
            conv at E2 => rhs; whnf
            have E3 : f 3 = _ := ht9 3 (Nat.le_of_ble_eq_true rfl)
            have E4 : f 4 = _ := ht9 4 (Nat.le_of_ble_eq_true rfl)
            have E5 : f 5 = _ := ht9 5 (Nat.le_of_ble_eq_true rfl)
            have E6 : f 6 = _ := ht9 6 (Nat.le_of_ble_eq_true rfl)
            have E7 : f 7 = _ := ht9 7 (Nat.le_of_ble_eq_true rfl)
            have E8 : f 8 = _ := ht9 8 (Nat.le_of_ble_eq_true rfl)
            have E9 : f 9 = _ := ht9 9 (Nat.le_of_ble_eq_true rfl)
            have E10 : (TNew _ 1 1 [.int .i64 q]) w9 (f 10) := ht9 10 (Nat.le_of_ble_eq_true rfl)
            have E11 : (TAny) w9 (f 11) := ht9 11 (Nat.le_of_ble_eq_true rfl)
            have E12 : (TAny) w9 (f 12) := ht9 12 (Nat.le_of_ble_eq_true rfl)
            have Ho9 : Only _ Wk w9 := hI9.2.1
            have hown9 : w9.ownsRow (w5.heap.size) 3 1 (f 11) (k + 1) (cs ++ [.int .i64 q]) := hI9.2.2
            have C12 : f 12 = f 11 := (hcp9 12 _ 57 11 rfl rfl rfl rfl).2
            simp only [putAll, E0, E1, E2, E3, E4, E5, E6, E7, E8, E9, C12, Nat.zero_add, Nat.reduceAdd, Act.put, List.setIfInBounds_toArray, List.set_cons_succ, List.set_cons_zero]
            clear E0 E1 E2 E3 E4 E5 E6 E7 E8 E9
            clear hI9 ht9 hcp9 hk9
            generalize f 10 = r10 at *
            generalize f 11 = r11 at *
            have Ha9 := Lib.hid hown9
            have Hb9 := Lib.hid (HBx w9 Ho9)
            clear Ho9 hown9 HBx hO
            go_wp2_with fail
            go_roundw
            case rel => exact ⟨_, k + 1, xs ++ [q], rfl, by go_num, by omega, by omega, by rw [List.length_append, hxl]; rfl, Lib.hid (fun y hy => by
                rcases List.mem_append.1 hy with h | h
                · exact Hin.out y h
                · rw [List.mem_singleton.1 h]; exact hxM), Lib.hid (by rw [HCs.out]; exact Ha9.out), Hb9⟩
            case measure => simp [intOf] <;> omega
          · have HI : Hid (IntsAt wr ui (nats xs)) := Lib.hid (nats_own Ha.out hxl)
            obtain ⟨R, hR1, hR2, hR3⟩ := HRun.out xs Hin.out (by omega)
            have HR1 := Lib.hid hR1
            have HR2x := Lib.hid hR2
            have HR3 : Hid (R.length = k) := Lib.hid (by rw [hR3, hxl])
            obtain ⟨Ai, ci, hvi⟩ := slice_of_own Ha.out
            subst hvi
            replace PC := Lib.hid (PC.out.below Hb.out)
            replace PM := Lib.hid (PM.out.below Hb.out)
            replace HC := Lib.hid (HC.out.below Hb.out)
            replace HM := Lib.hid (HM.out.below Hb.out)
            replace B := Lib.hid (B.out.trans (Hb.out.mono B.out.size))
            obtain ⟨z, p0, p1, p2⟩ := PC.out
            obtain ⟨zm, m0, m1, m2⟩ := PM.out
            obtain ⟨wy, hwy⟩ : ∃ wy, wy = wr := ⟨_, rfl⟩
            subst hwy
            have hle2 : (x.next.length : Int) ≤ (m.next.length : Int) := by omega
            have HMm := Lib.hid HC.out
            rw [HinsM.out] at HMm
            rw [HinsX.out] at HM
            have hcase : k < ms.length → ¬ (k < 40) := fun h h' => hlt ⟨h, h'⟩
            have hdkx : (decide (k < ms.length) = false) ∨ (decide (k < ms.length) = true ∧ decide (k < 40) = false ∧ decide ((k : Int) < 40) = false) := by
              by_cases h : k < ms.length
              · exact .inr ⟨decide_eq_true h, decide_eq_false (hcase h), decide_eq_false (by have := hcase h; omega)⟩
              · exact .inl (decide_eq_false h)
            clear hR1 hR2 hR3 Ha Hb hlt hcase
            rcases hdkx with hdk | ⟨hdk, hd4, hd5⟩
            all_goals
              go_wp2_with fail
              refine wp_region_rsG [(2, true), (9, true), (18, true), (27, true)] (quietRS Try.prog _ wy _) quietRS_ok (by kernel_rfl) (by kernel_rfl) (by kernel_rfl) (Nat.le_of_ble_eq_true rfl) trivial trivial ?_
              refine rs_peel ?_
              apply rs_eq quietRS_ok quiet_any
              · intro ρ w' ho hK
                have ho : Only _ wy w' := ho
                obtain ⟨h0, -⟩ := hK
                have h0' : ρ (.tmp 6) = _ := h0
                have hb := only_below ho
                have q0 := (hb.cell (p := ⟨gb, 0, none⟩) z).trans p0
                have q1 := (hb.cell (p := ⟨gb, 1, none⟩) z).trans p1
                have q2 := (hb.cell (p := ⟨gb, 2, none⟩) z).trans p2
                have r0 := (hb.cell (p := ⟨gq, 0, none⟩) zm).trans m0
                have r1 := (hb.cell (p := ⟨gq, 1, none⟩) zm).trans m1
                have r2 := (hb.cell (p := ⟨gq, 2, none⟩) zm).trans m2
                go_simp
                try exact rfl
              refine rs_peel ?_
              refine rs_call quietRS_ok quiet_any (TEq (.bool true)) (stb_eq _ _) 8 _ _ rfl (fun ρ w' ho hK => by
                have ho : Only _ wy w' := ho
                obtain ⟨h0, h1, -⟩ := hK
                have h0' : ρ (.func 8) = .func (.func 8) #[] #[] := h0
                have h1' : ρ (.tmp 58) = _ := h1
                refine ⟨#[ρ (.tmp 58)], ?_, ?_⟩
                · go_simp
                · rw [h1']
                  refine (implMValid_any _ x w' (HM.out.below (only_below ho))).mono ?_
                  rintro e w2 ⟨rfl, hb⟩
                  exact ⟨_, rfl, by rw [HXV.out]; rfl, hb⟩) ?_
              refine rs_peel ?_
              refine rs_same quietRS_ok quiet_any 59 1 (.inl rfl) rfl _ rfl ?_
              refine rs_run rfl ?_
              apply rs_eq quietRS_ok quiet_any
              · intro ρ w' ho hK
                have ho : Only _ wy w' := ho
                obtain ⟨h0, -⟩ := hK
                have h0' : ρ (.tmp 6) = _ := h0
                go_simp
                try exact rfl
              refine rs_run rfl ?_
              apply rs_eq quietRS_ok quiet_any
              · intro ρ w' ho hK
                have ho : Only _ wy w' := ho
                obtain ⟨h0, -⟩ := hK
                have h0' : ρ (.tmp 61) = _ := h0
                have hb := only_below ho
                have q0 := (hb.cell (p := ⟨gb, 0, none⟩) z).trans p0
                have q1 := (hb.cell (p := ⟨gb, 1, none⟩) z).trans p1
                have q2 := (hb.cell (p := ⟨gb, 2, none⟩) z).trans p2
                have r0 := (hb.cell (p := ⟨gq, 0, none⟩) zm).trans m0
                have r1 := (hb.cell (p := ⟨gq, 1, none⟩) zm).trans m1
                have r2 := (hb.cell (p := ⟨gq, 2, none⟩) zm).trans m2
                go_simp
                try exact rfl
              refine rs_run rfl ?_
              apply rs_eq quietRS_ok quiet_any
              · intro ρ w' ho hK
                have ho : Only _ wy w' := ho
                obtain ⟨h0, -⟩ := hK
                have h0' : ρ (.tmp 5) = _ := h0
                go_simp
                try exact rfl
              refine rs_run rfl ?_
              apply rs_eq quietRS_ok quiet_any
              · intro ρ w' ho hK
                have ho : Only _ wy w' := ho
                obtain ⟨h0, -⟩ := hK
                have h0' : ρ (.tmp 63) = _ := h0
                have hb := only_below ho
                have q0 := (hb.cell (p := ⟨gb, 0, none⟩) z).trans p0
                have q1 := (hb.cell (p := ⟨gb, 1, none⟩) z).trans p1
                have q2 := (hb.cell (p := ⟨gb, 2, none⟩) z).trans p2
                have r0 := (hb.cell (p := ⟨gq, 0, none⟩) zm).trans m0
                have r1 := (hb.cell (p := ⟨gq, 1, none⟩) zm).trans m1
                have r2 := (hb.cell (p := ⟨gq, 2, none⟩) zm).trans m2
                go_simp
                try exact rfl
              refine rs_run rfl ?_
              apply rs_eq quietRS_ok quiet_any
              · intro ρ w' ho hK
                have ho : Only _ wy w' := ho
                obtain ⟨h0, h1, -⟩ := hK
                have h0' : ρ (.tmp 62) = _ := h0
                have h1' : ρ (.tmp 64) = _ := h1
                go_simp
                try exact rfl
              refine rs_peel ?_
              apply rs_eq quietRS_ok quiet_any
              · intro ρ w' ho hK
                have ho : Only _ wy w' := ho
                obtain ⟨h0, h1, h2, -⟩ := hK
                have h0' : ρ (.tmp 60) = _ := h0
                have h1' : ρ (.tmp 65) = _ := h1
                have h2' : ρ (.const (Value.bool false)) = (Value.bool false) := h2
                go_simp
                try exact rfl
              refine rs_peel ?_
              refine rs_same quietRS_ok quiet_any 66 8 (.inl rfl) rfl _ rfl ?_
              refine rs_run rfl ?_
              apply rs_eq quietRS_ok quiet_any
              · intro ρ w' ho hK
                have ho : Only _ wy w' := ho
                obtain ⟨h0, -⟩ := hK
                have h0' : ρ (.tmp 6) = _ := h0
                go_simp
                try exact rfl
              refine rs_run rfl ?_
              apply rs_eq quietRS_ok quiet_any
              · intro ρ w' ho hK
                have ho : Only _ wy w' := ho
                obtain ⟨h0, -⟩ := hK
                have h0' : ρ (.tmp 68) = _ := h0
                have hb := only_below ho
                have q0 := (hb.cell (p := ⟨gb, 0, none⟩) z).trans p0
                have q1 := (hb.cell (p := ⟨gb, 1, none⟩) z).trans p1
                have q2 := (hb.cell (p := ⟨gb, 2, none⟩) z).trans p2
                have r0 := (hb.cell (p := ⟨gq, 0, none⟩) zm).trans m0
                have r1 := (hb.cell (p := ⟨gq, 1, none⟩) zm).trans m1
                have r2 := (hb.cell (p := ⟨gq, 2, none⟩) zm).trans m2
                go_simp
                try exact rfl
              refine rs_run rfl ?_
              apply rs_eq quietRS_ok quiet_any
              · intro ρ w' ho hK
                have ho : Only _ wy w' := ho
                obtain ⟨h0, -⟩ := hK
                have h0' : ρ (.tmp 69) = _ := h0
                go_simp
                try exact rfl
              refine rs_run rfl ?_
              apply rs_eq quietRS_ok quiet_any
              · intro ρ w' ho hK
                have ho : Only _ wy w' := ho
                obtain ⟨h0, -⟩ := hK
                have h0' : ρ (.tmp 5) = _ := h0
                go_simp
                try exact rfl
              refine rs_run rfl ?_
              apply rs_eq quietRS_ok quiet_any
              · intro ρ w' ho hK
                have ho : Only _ wy w' := ho
                obtain ⟨h0, -⟩ := hK
                have h0' : ρ (.tmp 71) = _ := h0
                have hb := only_below ho
                have q0 := (hb.cell (p := ⟨gb, 0, none⟩) z).trans p0
                have q1 := (hb.cell (p := ⟨gb, 1, none⟩) z).trans p1
                have q2 := (hb.cell (p := ⟨gb, 2, none⟩) z).trans p2
                have r0 := (hb.cell (p := ⟨gq, 0, none⟩) zm).trans m0
                have r1 := (hb.cell (p := ⟨gq, 1, none⟩) zm).trans m1
                have r2 := (hb.cell (p := ⟨gq, 2, none⟩) zm).trans m2
                go_simp
                try exact rfl
              refine rs_run rfl ?_
              apply rs_eq quietRS_ok quiet_any
              · intro ρ w' ho hK
                have ho : Only _ wy w' := ho
                obtain ⟨h0, -⟩ := hK
                have h0' : ρ (.tmp 72) = _ := h0
                go_simp
                try exact rfl
              refine rs_run rfl ?_
              refine rs_look quietRS_ok quiet_any (TEq (.bool true)) (stb_eq _ _) (fun ρ w' ho hK => by
                obtain ⟨h0, h1, -⟩ := hK
                have h0' : ρ (.tmp 70) = .int .i64 (x.next.length : Nat) := h0
                have h1' : ρ (.tmp 73) = .int .i64 (m.next.length : Nat) := h1
                refine ⟨.bool true, ?_, rfl⟩
                go_simp) ?_
              refine rs_peel ?_
              apply rs_eq quietRS_ok quiet_any
              · intro ρ w' ho hK
                have ho : Only _ wy w' := ho
                obtain ⟨h0, h1, h2, -⟩ := hK
                have h0' : ρ (.tmp 67) = _ := h0
                have h1' : ρ (.tmp 74) = _ := h1
                have h2' : ρ (.const (Value.bool false)) = (Value.bool false) := h2
                go_simp
                try exact rfl
              refine rs_peel ?_
              refine rs_same quietRS_ok quiet_any 75 17 (.inl rfl) rfl _ rfl ?_
              refine rs_run rfl ?_
              apply rs_eq quietRS_ok quiet_any
              · intro ρ w' ho hK
                have ho : Only _ wy w' := ho
                obtain ⟨h0, -⟩ := hK
                have h0' : ρ (.tmp 6) = _ := h0
                have hb := only_below ho
                have q0 := (hb.cell (p := ⟨gb, 0, none⟩) z).trans p0
                have q1 := (hb.cell (p := ⟨gb, 1, none⟩) z).trans p1
                have q2 := (hb.cell (p := ⟨gb, 2, none⟩) z).trans p2
                have r0 := (hb.cell (p := ⟨gq, 0, none⟩) zm).trans m0
                have r1 := (hb.cell (p := ⟨gq, 1, none⟩) zm).trans m1
                have r2 := (hb.cell (p := ⟨gq, 2, none⟩) zm).trans m2
                go_simp
                try exact rfl
              refine rs_run rfl ?_
              refine rs_old quietRS_ok quiet_any _ (.inl rfl) _ rfl rfl ?_
              refine rs_run rfl ?_
              refine rs_call quietRS_ok quiet_any (TInts R) (stb_ints _) 11 _ _ rfl (fun ρ w' ho hK => by
                have ho : Only _ wy w' := ho
                obtain ⟨h0, h1, h2, -⟩ := hK
                have h0' : ρ (.func 11) = .func (.func 11) #[] #[] := h0
                have h1' : ρ (.tmp 77) = _ := h1
                have h2' : ρ (.tmp 78) = _ := h2
                refine ⟨#[ρ (.tmp 77), ρ (.tmp 78)], ?_, ?_⟩
                · go_simp
                · rw [h1', h2']
                  refine (implRun_any _ _ x (nats xs) w' (HM.out.below (only_below ho)) (Row.below HI.out (only_below ho))).mono ?_
                  rintro e w2 ⟨v2, rfl, hO, hb⟩
                  exact ⟨v2, rfl, by rw [HR2x.out] at hO; exact Row.of_own hO, hb⟩) ?_
              refine rs_run rfl ?_
              apply rs_eq quietRS_ok quiet_any
              · intro ρ w' ho hK
                have ho : Only _ wy w' := ho
                obtain ⟨h0, -⟩ := hK
                have h0' : ρ (.tmp 5) = _ := h0
                have hb := only_below ho
                have q0 := (hb.cell (p := ⟨gb, 0, none⟩) z).trans p0
                have q1 := (hb.cell (p := ⟨gb, 1, none⟩) z).trans p1
                have q2 := (hb.cell (p := ⟨gb, 2, none⟩) z).trans p2
                have r0 := (hb.cell (p := ⟨gq, 0, none⟩) zm).trans m0
                have r1 := (hb.cell (p := ⟨gq, 1, none⟩) zm).trans m1
                have r2 := (hb.cell (p := ⟨gq, 2, none⟩) zm).trans m2
                go_simp
                try exact rfl
              refine rs_run rfl ?_
              refine rs_old quietRS_ok quiet_any _ (.inl rfl) _ rfl rfl ?_
              refine rs_run rfl ?_
              refine rs_call quietRS_ok quiet_any (TInts R) (stb_ints _) 11 _ _ rfl (fun ρ w' ho hK => by
                have ho : Only _ wy w' := ho
                obtain ⟨h0, h1, h2, -⟩ := hK
                have h0' : ρ (.func 11) = .func (.func 11) #[] #[] := h0
                have h1' : ρ (.tmp 80) = _ := h1
                have h2' : ρ (.tmp 81) = _ := h2
                refine ⟨#[ρ (.tmp 80), ρ (.tmp 81)], ?_, ?_⟩
                · go_simp
                · rw [h1', h2']
                  refine (implRun_any _ _ m (nats xs) w' (HMm.out.below (only_below ho)) (Row.below HI.out (only_below ho))).mono ?_
                  rintro e w2 ⟨v2, rfl, hO, hb⟩
                  exact ⟨v2, rfl, by rw [HR1.out] at hO; exact Row.of_own hO, hb⟩) ?_
              refine rs_run rfl ?_
              refine rs_call quietRS_ok quiet_any (TEq (.bool true)) (stb_eq _ _) 12 _ _ rfl (fun ρ w' ho hK => by
                have ho : Only _ wy w' := ho
                obtain ⟨h0, h1, h2, -⟩ := hK
                have h0' : ρ (.func 12) = .func (.func 12) #[] #[] := h0
                have h1' : (TInts R) w' (ρ (.tmp 79)) := h1
                have h2' : (TInts R) w' (ρ (.tmp 82)) := h2
                refine ⟨#[ρ (.tmp 79), ρ (.tmp 82)], ?_, ?_⟩
                · go_simp
                · skip
                  refine (sameInts_same _ _ R w' h1' h2').mono ?_
                  rintro e w2 ⟨rfl, hb⟩
                  exact ⟨_, rfl, rfl, hb⟩) ?_
              refine rs_peel ?_
              apply rs_eq quietRS_ok quiet_any
              · intro ρ w' ho hK
                have ho : Only _ wy w' := ho
                obtain ⟨h0, h1, h2, -⟩ := hK
                have h0' : ρ (.tmp 76) = _ := h0
                have h1' : ρ (.tmp 83) = _ := h1
                have h2' : ρ (.const (Value.bool false)) = (Value.bool false) := h2
                go_simp
                try exact rfl
              refine rs_peel ?_
              refine rs_same quietRS_ok quiet_any 84 26 (.inl rfl) rfl _ rfl ?_
              refine rs_run rfl ?_
              apply rs_eq quietRS_ok quiet_any
              · intro ρ w' ho hK
                have ho : Only _ wy w' := ho
                obtain ⟨h0, -⟩ := hK
                have h0' : ρ (.tmp 5) = _ := h0
                have hb := only_below ho
                have q0 := (hb.cell (p := ⟨gb, 0, none⟩) z).trans p0
                have q1 := (hb.cell (p := ⟨gb, 1, none⟩) z).trans p1
                have q2 := (hb.cell (p := ⟨gb, 2, none⟩) z).trans p2
                have r0 := (hb.cell (p := ⟨gq, 0, none⟩) zm).trans m0
                have r1 := (hb.cell (p := ⟨gq, 1, none⟩) zm).trans m1
                have r2 := (hb.cell (p := ⟨gq, 2, none⟩) zm).trans m2
                go_simp
                try exact rfl
              refine rs_run rfl ?_
              refine rs_old quietRS_ok quiet_any _ (.inl rfl) _ rfl rfl ?_
              refine rs_run rfl ?_
              refine rs_call quietRS_ok quiet_any (TLenZ k) (stb_lenZ _ _) 11 _ _ rfl (fun ρ w' ho hK => by
                have ho : Only _ wy w' := ho
                obtain ⟨h0, h1, h2, -⟩ := hK
                have h0' : ρ (.func 11) = .func (.func 11) #[] #[] := h0
                have h1' : ρ (.tmp 86) = _ := h1
                have h2' : ρ (.tmp 87) = _ := h2
                refine ⟨#[ρ (.tmp 86), ρ (.tmp 87)], ?_, ?_⟩
                · go_simp
                · rw [h1', h2']
                  refine (implRun_any _ _ m (nats xs) w' (HMm.out.below (only_below ho)) (Row.below HI.out (only_below ho))).mono ?_
                  rintro e w2 ⟨v2, rfl, hO, hb⟩
                  obtain ⟨A, cc, e⟩ := slice_of_own hO
                  exact ⟨v2, rfl, ⟨A, cc, by rw [e, HR1.out, HR3.out]⟩, hb⟩) ?_
              refine rs_run rfl ?_
              refine rs_look quietRS_ok quiet_any (TEq (.int .i64 (k : Nat))) (stb_eq _ _) (fun ρ w' ho hK => by
                obtain ⟨h0, -⟩ := hK
                obtain ⟨A, cc, hv⟩ : (TLenZ k) w' (ρ (.tmp 88)) := h0
                refine ⟨_, ?_, rfl⟩
                go_simp) ?_
              refine rs_run rfl ?_
              refine rs_old quietRS_ok quiet_any _ (.inl rfl) _ rfl rfl ?_
              refine rs_run rfl ?_
              apply rs_eq quietRS_ok quiet_any
              · intro ρ w' ho hK
                have ho : Only _ wy w' := ho
                obtain ⟨h0, -⟩ := hK
                have h0' : ρ (.tmp 90) = _ := h0
                go_simp
                try exact rfl
              refine rs_run rfl ?_
              apply rs_eq quietRS_ok quiet_any
              · intro ρ w' ho hK
                have ho : Only _ wy w' := ho
                obtain ⟨h0, h1, -⟩ := hK
                have h0' : ρ (.tmp 89) = _ := h0
                have h1' : ρ (.tmp 91) = _ := h1
                go_simp
                try exact rfl
              refine rs_peel ?_
              apply rs_eq quietRS_ok quiet_any
              · intro ρ w' ho hK
                have ho : Only _ wy w' := ho
                obtain ⟨h0, h1, h2, -⟩ := hK
                have h0' : ρ (.tmp 85) = _ := h0
                have h1' : ρ (.tmp 92) = _ := h1
                have h2' : ρ (.const (Value.bool false)) = (Value.bool false) := h2
                go_simp
                try exact rfl
              refine rs_peel ?_
              refine rs_same quietRS_ok quiet_any 93 35 (.inr rfl) rfl _ rfl ?_
              refine ⟨⟨rfl, rfl, rfl, rfl, trivial⟩, ?_⟩
              intro f w9 k9 hk9 hI9 ht9 hcp9
              have E0 : f 0 = _ := ht9 0 (Nat.le_of_ble_eq_true rfl)
              have E1 : f 1 = _ := ht9 1 (Nat.le_of_ble_eq_true rfl)
              have E2 : f 2 = _ := ht9 2 (Nat.le_of_ble_eq_true rfl)
              have E3 : f 3 = _ := ht9 3 (Nat.le_of_ble_eq_true rfl)
              have E4 : f 4 = _ := ht9 4 (Nat.le_of_ble_eq_true rfl)
              have E5 : f 5 = _ := ht9 5 (Nat.le_of_ble_eq_true rfl)
              have E6 : f 6 = _ := ht9 6 (Nat.le_of_ble_eq_true rfl)
              have E7 : f 7 = _ := ht9 7 (Nat.le_of_ble_eq_true rfl)
              have E8 : f 8 = _ := ht9 8 (Nat.le_of_ble_eq_true rfl)
              have E9 : f 9 = _ := ht9 9 (Nat.le_of_ble_eq_true rfl)
              have E10 : f 10 = _ := ht9 10 (Nat.le_of_ble_eq_true rfl)
              have E11 : f 11 = _ := ht9 11 (Nat.le_of_ble_eq_true rfl)
              have E12 : f 12 = _ := ht9 12 (Nat.le_of_ble_eq_true rfl)
              have E13 : f 13 = _ := ht9 13 (Nat.le_of_ble_eq_true rfl)
              have E14 : f 14 = _ := ht9 14 (Nat.le_of_ble_eq_true rfl)
              have E15 : f 15 = _ := ht9 15 (Nat.le_of_ble_eq_true rfl)
              have E16 : f 16 = _ := ht9 16 (Nat.le_of_ble_eq_true rfl)
              have E17 : f 17 = _ := ht9 17 (Nat.le_of_ble_eq_true rfl)
              have E18 : f 18 = _ := ht9 18 (Nat.le_of_ble_eq_true rfl)
              have E19 : f 19 = _ := ht9 19 (Nat.le_of_ble_eq_true rfl)
              have E20 : f 20 = _ := ht9 20 (Nat.le_of_ble_eq_true rfl)
              conv at E20 => rhs; whnf
              have E21 : (TInts R) w9 (f 21) := ht9 21 (Nat.le_of_ble_eq_true rfl)
              have E22 : f 22 = _ := ht9 22 (Nat.le_of_ble_eq_true rfl)
              have E23 : f 23 = _ := ht9 23 (Nat.le_of_ble_eq_true rfl)
              conv at E23 => rhs; whnf
              have E24 : (TInts R) w9 (f 24) := ht9 24 (Nat.le_of_ble_eq_true rfl)
              have E25 : f 25 = _ := ht9 25 (Nat.le_of_ble_eq_true rfl)
              have E26 : f 26 = _ := ht9 26 (Nat.le_of_ble_eq_true rfl)
              have E27 : f 27 = _ := ht9 27 (Nat.le_of_ble_eq_true rfl)
              have E28 : f 28 = _ := ht9 28 (Nat.le_of_ble_eq_true rfl)
              have E29 : f 29 = _ := ht9 29 (Nat.le_of_ble_eq_true rfl)
              conv at E29 => rhs; whnf
              have E30 : (TLenZ k) w9 (f 30) := ht9 30 (Nat.le_of_ble_eq_true rfl)
              have E31 : f 31 = _ := ht9 31 (Nat.le_of_ble_eq_true rfl)
              have E32 : f 32 = _ := ht9 32 (Nat.le_of_ble_eq_true rfl)
              conv at E32 => rhs; whnf
              have E33 : f 33 = _ := ht9 33 (Nat.le_of_ble_eq_true rfl)
              have E34 : f 34 = _ := ht9 34 (Nat.le_of_ble_eq_true rfl)
              have E35 : f 35 = _ := ht9 35 (Nat.le_of_ble_eq_true rfl)
              have E36 : f 36 = _ := ht9 36 (Nat.le_of_ble_eq_true rfl)
              have Ho9 : Only _ wy w9 := hI9.2.1
              simp only [putAll, E0, E1, E2, E3, E4, E5, E6, E7, E8, E9, E10, E11, E12, E13, E14, E15, E16, E17, E18, E19, E20, E22, E23, E25, E26, E27, E28, E29, E31, E32, E33, E34, E35, E36, Nat.zero_add, Nat.reduceAdd, Act.put, List.setIfInBounds_toArray, List.set_cons_succ, List.set_cons_zero]
              clear E0 E1 E2 E3 E4 E5 E6 E7 E8 E9 E10 E11 E12 E13 E14 E15 E16 E17 E18 E19 E20 E22 E23 E25 E26 E27 E28 E29 E31 E32 E33 E34 E35 E36
              clear hI9 ht9 hcp9 hk9
              generalize f 21 = r21 at *
              generalize f 24 = r24 at *
              generalize f 30 = r30 at *
              have hb := only_below Ho9
              replace B := Lib.hid (B.out.trans (hb.mono B.out.size))
              clear hb Ho9 E21 E24 E30 z p0 p1 p2 zm m0 m1 m2
              go_wp2_with fail
              go_ret
              exact ⟨rfl, B.out⟩
    · have hd2 : decide ((1048576 : Int) < (ms.length : Int)) = true := decide_eq_true (by omega)
      go_enter Try.func5, Try.ntmps5
      go_wp2_with fail
      go_ret
      exact ⟨rfl, Below.refl _ _⟩
  · have hd1 : decide ((1048576 : Int) < (bs.length : Int)) = true := decide_eq_true (by omega)
    go_enter Try.func5, Try.ntmps5
    go_wp2_with fail
    go_ret
    exact ⟨rfl, Below.refl _ _⟩

/-! The step from the walk to the row. -/
set_option maxRecDepth 100000 in
theorem lifted (os : Os) (started : os.Started) (H : Type) (enc : TypeId × Value → H) :
    ReturnsInHanded {} Try.checked os 5 .any (Rows.fnMinimizeSpec.pre6 enc Try.prog Try.f5 Rows.fnMinimizeRow.domain false) (Rows.fnMinimizeSpec.post enc Try.prog Try.f5 false true false false) := by
  refine returnsInHanded_of_change (C := Try.checked) own started (by kernel_rfl) Try.func5
    (ChangeSpec.witness6 (enc := enc) (C := Try.checked) false ⟨#[], #[.slice none 0 0, .slice none 0 0], []⟩ 8 (by kernel_rfl) (by kernel_rfl) (by kernel_rfl) (by kernel_rfl)) ?_
  intro W base args ds gs before hval0 hW hcnd _
  have hval : ∀ (j : Nat) t v, Try.f5.params[j]? = some t → args[j]? = some v → Value.okWide Try.prog W .any base t v := hval0
  have hW' := hW
  obtain ⟨p, q, hA0, hV, rfl, hfz, hnd⟩ := hW
  have hA : DataW.TrodAll enc Try.prog W 0 (fun _ => true) true Try.f5.params.toList args.toList ds p := hA0
  rw [Try.params5] at hA hval
  obtain ⟨v0, vs0, d0, ds0, p0, q0, hargs, rfl, rfl, h0, r0⟩ := trodAll_cons hA
  obtain ⟨v1, vs1, d1, ds1, p1, q1, rfl, rfl, rfl, h1, r1⟩ := trodAll_cons r0
  obtain ⟨rfl, rfl, rfl⟩ := trodAll_nil r1
  obtain rfl : args = #[v0, v1] := by cases args; simp_all
  obtain ⟨rfl, rfl⟩ := trodVars_none hV
  obtain ⟨a0, len0, cap0, rfl⟩ := okWide_slice Try.underlying22 (hval 0 22 v0 rfl rfl)
  have k0 := h0
  have lt0 : ∀ x ∈ p0, x.block < W.heap.size := by obtain ⟨m, hm⟩ := k0; exact DataW.trod_lt m _ _ _ hm
  obtain ⟨z0, w0⟩ : ∃ zs, IsRow .u8 W a0 len0 cap0 zs := by
    obtain ⟨fuel, hf⟩ := h0
    rcases open_ints Try.underlying22 Try.underlying5 (by kernel_rfl) hf with ⟨hcs, _⟩ | ⟨x, l, c, zs, hcs, _, hl, hm, hz, _, hcell, hwz⟩
    · simp [Value.cells] at hcs
      obtain ⟨rfl, rfl, rfl⟩ := hcs
      exact ⟨[], .inl ⟨rfl, rfl, rfl, rfl⟩⟩
    · simp [Value.cells] at hcs
      obtain ⟨rfl, rfl, rfl⟩ := hcs
      exact ⟨zs, .inr ⟨_, rfl, hl, hm, by simpa using hz, hcell, hwz⟩⟩
  obtain ⟨a1, len1, cap1, rfl⟩ := okWide_slice Try.underlying22 (hval 1 22 v1 rfl rfl)
  have k1 := h1
  have lt1 : ∀ x ∈ p1, x.block < W.heap.size := by obtain ⟨m, hm⟩ := k1; exact DataW.trod_lt m _ _ _ hm
  obtain ⟨z1, w1⟩ : ∃ zs, IsRow .u8 W a1 len1 cap1 zs := by
    obtain ⟨fuel, hf⟩ := h1
    rcases open_ints Try.underlying22 Try.underlying5 (by kernel_rfl) hf with ⟨hcs, _⟩ | ⟨x, l, c, zs, hcs, _, hl, hm, hz, _, hcell, hwz⟩
    · simp [Value.cells] at hcs
      obtain ⟨rfl, rfl, rfl⟩ := hcs
      exact ⟨[], .inl ⟨rfl, rfl, rfl, rfl⟩⟩
    · simp [Value.cells] at hcs
      obtain ⟨rfl, rfl, rfl⟩ := hcs
      exact ⟨zs, .inr ⟨_, rfl, hl, hm, by simpa using hz, hcell, hwz⟩⟩
  clear hA0 hval0
  refine (walk a0 len0 cap0 z0 a1 len1 cap1 z1 W w0 w1).mono fun e W' ⟨he, bel⟩ => ?_
  subst he
  exact ⟨_, rfl, _, _, _, [], _, [], hW', trodAll_mk1 (shut_bool Try.underlying4 _), (trodAll_cons_mk (Below.trod laidOut (by kernel_rfl) (of_decide_eq_true (by kernel_rfl)) k0 bel lt0) (trodAll_cons_mk (Below.trod laidOut (by kernel_rfl) (of_decide_eq_true (by kernel_rfl)) k1 bel lt1) trodAll_mk0)), rfl, bel.frame _, fun h => by cases h⟩

theorem over : Rows.fnMinimizeRow.holds Try.pinned (OpenSpec.ofChange Rows.fnMinimizeSpec) :=
  OpenClaim.holds_of_wide 5 Try.f5 rfl rfl rfl rfl rfl rfl rfl ⟨rfl, rfl, rfl, rfl, rfl⟩ rfl rfl rfl rfl rfl (by kernel_rfl) Try.func5 (by kernel_rfl)
    (of_decide_eq_true (by kernel_rfl)) (by unfold Func.isWrapper; first | (rw [if_pos (by decide +kernel)]; kernel_rfl) | (rw [if_neg (by decide +kernel)]; exact ⟨rfl, rfl⟩))
    (fun os started H enc _ => lifted os started H enc)

/-- The statement. -/
theorem proved : Rows.FnMinimizeSaid := over
#print axioms proved
end Go.Proofs.Ytmlmnelbphjfbaa.fnMinimize
