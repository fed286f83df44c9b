import Derived.Test.YtmlcbikljlhhkaaVioF
import Derived.Test.YtmlcbikljlhhkaaReaF
namespace Go.Proofs.Ytmlcbikljlhhkaa
open Go.RowKit
set_option maxRecDepth 100000
set_option maxHeartbeats 8000000 in
theorem l16Rows_any (v vf vh : Value) (d : Ci) (l : List (Nat × List Nat)) (fr how : List Nat) (k s x : Nat) (p : List Nat) (w : World) (h : CircAt w v (Cir.toCz d)) (hi : d.ins ≤ 4) (hf : NatsAt w vf fr) (hh : NatsAt w vh how) (hB : Cir.Back l fr how) (hk : l[k]? = some (s, p)) (hl : l.length ≤ 8) (hx : x ≤ 1000) (hy : ∀ y ∈ how, y ≤ 1000) :
    Calls Try.prog 98 #[v, vf, vh, .int .i64 k, .int .i64 x] w fun e w' => (∃ u, e = .returned u ∧ SSIn bools (From w.heap.size) w' u (rowsOf d.ins (p ++ [x]))) ∧ Below w.heap.size w w' := by
  obtain ⟨vn, vg, vo, rfl, r1, r2, r3⟩ := h
  obtain ⟨Af, cf, rfl, hcf, hcfm⟩ := NatsAt.shape hf
  obtain ⟨Ah, ch, rfl, hch, hchm⟩ := NatsAt.shape hh
  unfold maxLen at hcfm hchm
  have hins : (Cir.toCz d).ins = (d.ins : Int) := rfl
  rw [hins]
  have B0 := Lib.hid (bel_new w (.cells #[.int .i64 d.ins, vn, vg, vo] 30))
  have PC := Lib.hid (PCells.boxed w d.ins vn vg vo 30)
  have hsz : (w.alloc (.cells #[.int .i64 d.ins, vn, vg, vo] 30)).heap.size = w.heap.size + 1 := by simp
  have HF := Lib.hid (hf.below B0.out)
  have HH := Lib.hid (hh.below B0.out)
  have HB := Lib.hid hB
  have Hk := Lib.hid hk
  have Hy := Lib.hid hy
  have e1 := hB.l1
  have e2 := hB.l2
  have hkl := (List.getElem?_eq_some_iff.1 hk).1
  obtain ⟨z, p0, p1, p2, p3⟩ := PC.out
  clear r1 r2 r3 hins hf hh hB hk hy
  go_enter Try.func98, Try.ntmps98
  go_wp2_with fail
  generalize w.alloc (.cells #[.int .i64 d.ins, vn, vg, vo] 30) = W at *
  refine (l4Bits_any x d.ins _ (by omega) (by omega)).mono ?_
  rintro e w1 ⟨v1, rfl, ho1, hb1⟩
  obtain ⟨A1, c1, hv1⟩ := slice_of_own ho1
  subst hv1
  have hbl := bel_new w1 (.cells #[.slice A1 (Cir.bits x d.ins).length c1] 78)
  have hbW := hb1.trans (hbl.mono hb1.size)
  have HS0 : Hid (SSIn bools (From w.heap.size) (w1.alloc (.cells #[.slice A1 (Cir.bits x d.ins).length c1] 78)) (.slice (some ⟨w1.heap.size, 0, none⟩) 1 1) (rowsOf d.ins [x])) := Lib.hid ⟨[.slice A1 (Cir.bits x d.ins).length c1], rfl, (RowIn.of_own (World.ownsRow_lit (base := w1.heap.size) (e := 78) (size := 1) w1 #[.slice A1 (Cir.bits x d.ins).length c1] 1 (Nat.le_refl _) (by unfold maxLen; omega) rfl)).mono (fun g hg => by have := hg.1; have := hb1.size; unfold From; omega), fun i y u hy hu => by
    cases i with
    | zero =>
      obtain rfl := Option.some.inj hy
      obtain rfl := Option.some.inj hu
      exact ((RowIn.of_own ho1).mono (fun g hg => by have := hg.1; unfold From; omega)).below hbl
    | succ i => simp [rowsOf] at hy⟩
  have HbW := Lib.hid hbW
  have zW := hb1.size
  clear hbW hbl hb1 ho1 p0 p1 p2 p3 z
  go_wp2_with fail
  generalize w1.alloc (.cells #[.slice A1 (Cir.bits x d.ins).length c1] 78) = w2 at *
  go_loopw [3, 11] (fun i u wr => ∃ (q s' : Nat) (p' tail : List Nat) (uu : Value), uu = u ∧ i = .int .i64 q ∧ Hid (l[q]? = some (s', p')) ∧ Hid (p ++ [x] = p' ++ tail) ∧ 0 < tail.length ∧ tail.length + q ≤ 1 + k ∧ Hid (SSIn bools (From w.heap.size) wr u (rowsOf d.ins tail)) ∧ Below W.heap.size W wr) (fun i _ _ => (intOf i).toNat)
  case atStart => exact ⟨k, s, p, [x], _, rfl, rfl, Hk, Lib.hid rfl, by simp, by rw [List.length_singleton]; omega, HS0, HbW.out⟩
  case round =>
    obtain ⟨q, s', p', tail, uu, huu, rfl, Hq, Ht, ht0, ht1, HS, hb⟩ := hrel
    subst huu
    have Hb := Lib.hid hb
    have hzb := hb.size
    clear HS0 HbW
    have PCr := Lib.hid (PC.out.below hb)
    obtain ⟨z, p0, p1, p2, p3⟩ := PCr.out
    have hql := (List.getElem?_eq_some_iff.1 Hq.out).1
    clear hb
    by_cases hq0 : 0 < q
    · obtain ⟨i, y, s2, p2', f1, f2, f3, f4, f5⟩ := HB.out.step q s' p' Hq.out hq0
      have Hf4 := Lib.hid f4
      have Ht2 : Hid (p ++ [x] = p2' ++ (y :: tail)) := Lib.hid (by rw [Ht.out, f5]; simp)
      have hyl := Hy.out y (List.mem_of_getElem? f3)
      have F1 := Lib.hid f1
      obtain ⟨bh, oh, y', rfl, hbhl, hyx, hys⟩ := nats_cell (nats_row HH.out) rfl (show q < how.length by omega)
      obtain rfl : y' = y := Option.some.inj (hyx.out.symm.trans f3)
      obtain ⟨bf, of, i', rfl, hbfl, hix, his⟩ := nats_cell (nats_row HF.out) rfl (show q < fr.length by omega)
      obtain rfl : i' = i := Option.some.inj (hix.out.symm.trans F1.out)
      have hlen : (rowsOf d.ins tail).length = tail.length := rowsOf_length _ _
      obtain ⟨Au, cu, hvu, -⟩ := HS.out.at.shape
      subst hvu
      have hcons : rowsOf d.ins (y' :: tail) = Cir.bits y' d.ins :: rowsOf d.ins tail := rfl
      have Hcons := Lib.hid hcons
      have hc1 := (Hb.out.cell (p := ⟨bh, oh + q, none⟩) hbhl).trans hys
      have hdq : decide (0 < q) = true := decide_eq_true hq0
      clear f1 f3 f4 f5 hcons Ht hys
      generalize rowsOf d.ins tail = R at *
      go_wp2_with fail
      obtain ⟨w4, hw4⟩ : ∃ w4, w4 = wr := ⟨_, rfl⟩
      subst hw4
      refine wp_region_rs (quietRS Try.prog _ w4 _) quietRS_ok (by kernel_rfl) (by kernel_rfl) (by kernel_rfl) (Nat.le_of_ble_eq_true rfl) trivial trivial ?_
      refine rs_old quietRS_ok quiet_any _ (.inl rfl) _ rfl rfl ?_
      refine rs_old quietRS_ok quiet_any _ (.inl rfl) _ rfl rfl ?_
      apply rs_eq quietRS_ok quiet_any
      · intro ρ w' ho hK
        have ho : Only _ w4 w' := ho
        obtain ⟨h0, h1, -⟩ := hK
        have h0' : ρ (.tmp 19) = _ := h0
        have h1' : ρ (.tmp 20) = _ := h1
        go_simp
        try exact rfl
      apply rs_eq quietRS_ok quiet_any
      · intro ρ w' ho hK
        have ho : Only _ w4 w' := ho
        obtain ⟨h0, -⟩ := hK
        have h0' : ρ (.tmp 21) = _ := h0
        have hb := only_below ho
        have q0 := (hb.cell (p := ⟨w.heap.size, 0, none⟩) z).trans p0
        have q4 := (hb.cell (p := ⟨bh, oh + q, none⟩) (Nat.lt_of_lt_of_le hbhl hzb)).trans hc1
        go_simp
        try exact rfl
      apply rs_eq quietRS_ok quiet_any
      · intro ρ w' ho hK
        have ho : Only _ w4 w' := ho
        obtain ⟨h0, -⟩ := hK
        have h0' : ρ (.tmp 5) = _ := h0
        go_simp
        try exact rfl
      apply rs_eq quietRS_ok quiet_any
      · intro ρ w' ho hK
        have ho : Only _ w4 w' := ho
        obtain ⟨h0, -⟩ := hK
        have h0' : ρ (.tmp 23) = _ := h0
        have hb := only_below ho
        have q0 := (hb.cell (p := ⟨w.heap.size, 0, none⟩) z).trans p0
        have q4 := (hb.cell (p := ⟨bh, oh + q, none⟩) (Nat.lt_of_lt_of_le hbhl hzb)).trans hc1
        go_simp
        try exact rfl
      refine rs_call quietRS_ok quiet_any (TBits w.heap.size (Cir.bits y' d.ins)) (stb_bits _ _) 64 _ _ rfl (fun ρ w' ho hK => by
        have ho : Only _ w4 w' := ho
        obtain ⟨h0, h1, h2, -⟩ := hK
        have h0' : ρ (.func 64) = .func (.func 64) #[] #[] := h0
        have h1' : ρ (.tmp 22) = _ := h1
        have h2' : ρ (.tmp 24) = _ := h2
        refine ⟨#[ρ (.tmp 22), ρ (.tmp 24)], ?_, ?_⟩
        · go_simp
        · rw [h1', h2']
          refine (l4Bits_any y' d.ins w' (by omega) (by omega)).mono ?_
          rintro e w2 ⟨v2, rfl, hO, hb⟩
          exact ⟨v2, rfl, (RowIn.of_own hO).mono (fun g hg => by have := hg.1; have := ho.size; unfold From; omega), hb⟩) ?_
      refine rs_front0 quietRS_ok quiet_any rfl w.heap.size (show w.heap.size ≤ w4.heap.size by omega) (Cir.bits y' d.ins) (fun ρ w' ho hK => by
        obtain ⟨h0, -⟩ := hK
        have h0' : RowIn (From w.heap.size) w' 1 (ρ (.tmp 25)) (Cir.bits y' d.ins).length (bools (Cir.bits y' d.ins)) := h0
        obtain ⟨A9, c9, e9, -, -⟩ := Row.shape h0'.1
        refine ⟨.slice A9 _ c9, e9 ▸ h0', ?_⟩
        clear h0' h0
        go_simp) ?_
      refine rs_old quietRS_ok quiet_any _ (.inl rfl) _ rfl rfl ?_
      refine rs_front quietRS_ok quiet_any rfl rfl rfl rfl 26 27 w.heap.size (show w.heap.size ≤ w4.heap.size by omega) _ R _ rfl _ _ rfl rfl rfl rfl HS.out (by omega) (by omega) ?_
      refine rs_same quietRS_ok quiet_any 28 9 (.inr rfl) rfl _ rfl ?_
      intro f w9 k9 hk9 hI9 ht9 hcp9
      have E0 : f 0 = _ := ht9 0 (Nat.le_of_ble_eq_true rfl)
      have E1 : f 1 = _ := ht9 1 (Nat.le_of_ble_eq_true rfl)
      have E2 : f 2 = _ := ht9 2 (Nat.le_of_ble_eq_true rfl)
      have E3 : f 3 = _ := ht9 3 (Nat.le_of_ble_eq_true rfl)
      have E4 : f 4 = _ := ht9 4 (Nat.le_of_ble_eq_true rfl)
      have E5 : f 5 = _ := ht9 5 (Nat.le_of_ble_eq_true rfl)
      have E6 : (TBits w.heap.size (Cir.bits y' d.ins)) w9 (f 6) := ht9 6 (Nat.le_of_ble_eq_true rfl)
      have E7 : (TFront w.heap.size (Cir.bits y' d.ins)) w9 (f 7) := ht9 7 (Nat.le_of_ble_eq_true rfl)
      have E8 : f 8 = _ := ht9 8 (Nat.le_of_ble_eq_true rfl)
      have E9 : (TSS w.heap.size (Cir.bits y' d.ins :: R)) w9 (f 9) := ht9 9 (Nat.le_of_ble_eq_true rfl)
      have E10 : (TSS w.heap.size (Cir.bits y' d.ins :: R)) w9 (f 10) := ht9 10 (Nat.le_of_ble_eq_true rfl)
      have Ho9 : Only _ w4 w9 := hI9.2.1
      have C10 : f 10 = f 9 := (hcp9 10 _ 28 9 rfl rfl rfl rfl).2
      simp only [putAll, E0, E1, E2, E3, E4, E5, E8, C10, Nat.zero_add, Nat.reduceAdd, Act.put, List.setIfInBounds_toArray, List.set_cons_succ, List.set_cons_zero]
      clear E0 E1 E2 E3 E4 E5 E8
      clear hI9 ht9 hcp9 hk9
      generalize f 6 = r6 at *
      generalize f 7 = r7 at *
      generalize f 9 = r9 at *
      have hb9 := only_below Ho9
      have HS9 := Lib.hid (show SSIn bools (From w.heap.size) w9 r9 (Cir.bits y' d.ins :: R) from E9)
      have Hb9 := Lib.hid (Hb.out.trans (hb9.mono hzb))
      have hc2 := (Hb9.out.cell (p := ⟨bf, of + q, none⟩) hbfl).trans his
      clear hb9 Ho9 E9 E7 E6 p0 p1 p2 p3 z
      obtain ⟨w5, hw5⟩ : ∃ w5, w5 = w9 := ⟨_, rfl⟩
      subst hw5
      go_wp2_with fail
      go_roundw
      case rel => exact ⟨i', s2, p2', y' :: tail, _, rfl, rfl, Hf4, Ht2, by simp, by rw [List.length_cons]; omega, Lib.hid (by rw [Hcons.out]; exact HS9.out), Hb9.out⟩
      case measure => simp [intOf] <;> omega
    · obtain rfl : q = 0 := by omega
      obtain ⟨s0, h0⟩ := HB.out.zero
      have hp : p' = [] := by rw [h0] at Hq; exact (Prod.mk.inj (Option.some.inj Hq.out)).2.symm
      have HT : Hid (p ++ [x] = tail) := Lib.hid (by rw [Ht.out, hp]; rfl)
      clear hp h0
      obtain ⟨Au, cu, hvu, -⟩ := HS.out.at.shape
      subst hvu
      go_wp2_with fail
      go_ret
      exact ⟨⟨_, rfl, by rw [HT.out]; exact HS.out⟩, B0.out.trans (Hb.out.mono B0.out.size)⟩
end Go.Proofs.Ytmlcbikljlhhkaa
