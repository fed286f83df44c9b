import Derived.Test.YtmlcbikljlhhkaaResB
import Derived.Test.YtmlcbikljlhhkaaGc
namespace Go.Proofs.Ytmlcbikljlhhkaa
open Go.RowKit
set_option maxRecDepth 100000
/-! Resets, by the reference. -/
set_option maxHeartbeats 4000000 in
theorem l27Next_any (v vv : Value) (d : Ci) (V : List Nat) (w : World) (h : CircAt w v (Cir.toCz d)) (hd : Cir.Ok d) (hV : NatsAt w vv V) (hVl : V.length = Cir.nvars d) (hV2 : ∀ x ∈ V, x ≤ 2) :
    Calls Try.prog 80 #[v, vv] w (OwnInts (nats (Cir.tnext d V)) w) := by
  have l1 := hd.ins
  have l2 := hd.nexts
  have l3 := hd.gatess
  obtain ⟨vn, vg, vo, rfl, r1, r2, r3⟩ := h
  obtain ⟨An, cn, rfl, hcn, hcmn⟩ := NatsAt.shape (xs := d.next) r1
  unfold maxLen at hcmn
  have hins : (Cir.toCz d).ins = (d.ins : Int) := rfl
  rw [hins]
  have B0 := Lib.hid (bel_new w (.cells #[.int .i64 d.ins, .slice An d.next.length cn, vg, vo] 30))
  have hsz : (w.alloc (.cells #[.int .i64 d.ins, .slice An d.next.length cn, vg, vo] 30)).heap.size = w.heap.size + 1 := by simp
  have PC := Lib.hid (PCells.boxed w d.ins (.slice An d.next.length cn) vg vo 30)
  have HN := Lib.hid (show NatsAt w (.slice An d.next.length cn) d.next from r1)
  have Hd := Lib.hid hd
  have HV := Lib.hid hV
  have HVl := Lib.hid hVl
  have HV2 := Lib.hid hV2
  have hnv : Cir.nvars d ≤ 22 := by unfold Cir.nvars Cir.nfirst; omega
  clear r1 r2 r3 hd hins hV hVl hV2
  go_enter Try.func80, Try.ntmps80
  go_wp2_with fail
  generalize w.alloc (.cells #[.int .i64 d.ins, .slice An d.next.length cn, vg, vo] 30) = W at *
  have hown0 : Hid ((W.alloc (.cells #[] 3)).ownsRow W.heap.size 3 1 (.slice (some ⟨w.heap.size + 1, 0, none⟩) 0 0) 0 []) := Lib.hid (by
    have := World.ownsRow_lit (base := W.heap.size) (e := 3) (size := 1) W #[] 0 (Nat.le_refl _) (by unfold maxLen; omega) rfl
    rw [hsz] at this ⊢
    exact this)
  have hb0 := bel_new W (.cells #[] 3)
  go_loopw [5, 6] (fun v i wr => ∃ (vv : Value) (k : Nat), vv = v ∧ k ≤ d.next.length ∧ i = .int .i64 k ∧ Hid (wr.ownsRow W.heap.size 3 1 v k (nints (Cir.tnext d V |>.take k))) ∧ Below W.heap.size W wr) (fun _ i _ => d.next.length - (intOf i).toNat)
  case atStart => exact ⟨_, 0, rfl, Nat.zero_le _, rfl, hown0, hb0⟩
  case round =>
    obtain ⟨vr, k, hvr, hk, rfl, Ho, hb⟩ := hrel
    subst hvr
    clear hown0 hb0
    have Hb := Lib.hid hb
    have hzb := hb.size
    obtain ⟨z, p0, p1, p2, p3⟩ := PC.out.below hb
    by_cases hlt : k < d.next.length
    · obtain ⟨b', o', l, rfl, hbl', hx0, hs0⟩ := nats_cell (nats_row HN.out) rfl hlt
      have hl2 := Hd.out.next l (List.mem_of_getElem? hx0.out)
      have hs1 := ((B0.out.trans (hb.mono B0.out.size)).cell (p := ⟨b', o' + k, none⟩) hbl').trans hs0
      have HVr := Lib.hid (HV.out.below (B0.out.trans (hb.mono B0.out.size)))
      have HS : Hid (nints ((Cir.tnext d V).take (k + 1)) = nints ((Cir.tnext d V).take k) ++ [.int .i64 (Cir.tlit V l : Nat)]) := Lib.hid (by
        unfold Cir.tnext
        rw [← List.map_take, take_snoc hx0.out, List.map_append, List.map_cons, List.map_nil, nints_snoc, List.map_take])
      clear hb
      go_wp2_with fail
      refine (l27Lit_any _ V l _ HVr.out (by rw [HVl.out]; exact hl2) (by omega) HV2.out).mono ?_
      rintro e w' ⟨rfl, rfl⟩
      generalize Cir.tlit V l = q at *
      have Hlit := Lib.hid (Row.of_own (World.ownsRow_lit (base := wr.heap.size) (e := 3) (size := 1) wr #[.int .i64 q] 1 (Nat.le_refl _) (by unfold maxLen; omega) rfl))
      go_wp2_with (at_builtin; refine append_ints rfl (.tmp 15) (.tmp 23) rfl W.heap.size _ k _ rfl (Ho.out.alloc _) _ 1 [.int .i64 q] rfl Hlit.out (by simp [Value.oneCell']) (by omega) (by simp; omega) ?_; intro v7 w7 hown7 hg7 hat7; have Ho7 := Lib.hid hown7; have Hg7 := Lib.hid hg7; clear hown7 hg7 hat7)
      go_roundw
      case rel => exact ⟨_, k + 1, rfl, by omega, by go_num, Lib.hid (by rw [HS.out]; exact Ho7.out), (Hb.out.alloc hzb _).grown Hg7.out (Hb.out.alloc hzb _).size (own_ge0 Ho.out)⟩
      case measure => simp [intOf] <;> omega
    · obtain rfl : k = d.next.length := by omega
      have hl : (Cir.tnext d V).length = d.next.length := by unfold Cir.tnext; simp
      have HF := Lib.hid (show wr.ownsRow w.heap.size 3 1 vr (nats (Cir.tnext d V)).length (ints (nats (Cir.tnext d V))) by
        rw [nats_length, hl]
        have := Ho.out
        rw [← hl, List.take_length] at this
        rw [hl] at this
        exact own_mono this (by omega))
      clear hl
      go_wp2_with fail
      go_ret
      exact ⟨_, rfl, HF.out, B0.out.trans (Hb.out.mono B0.out.size)⟩
theorem resets_no {c : Cz} {rss : List (List Bool)} (h : Cir.rowsOk c rss = false) : Cir.resets c rss = false := by unfold Cir.resets; rw [h]; rfl
theorem resets_ok {c : Cz} {rss : List (List Bool)} (h : Cir.rowsOk c rss = true) : Cir.resets c rss = !Cir.memB (Cir.tst (Cir.nat c) rss) 2 := by unfold Cir.resets; rw [h]; rfl
theorem implResets_any (v vr : Value) (c : Cz) (rss : List (List Bool)) (w : World) (h : CircAt w v c) (hr : SSAt bools w vr rss) :
    Calls Try.prog 30 #[v, vr] w fun e w' => e = .returned (.bool (Cir.resets c rss)) ∧ Below w.heap.size w w' := by
  cases hok : Cir.rowsOk c rss
  · rw [resets_no hok]
    obtain ⟨vn, vg, vo, rfl, r1, r2, r3⟩ := h
    obtain ⟨Ar, cr, rfl, hcr, hcrm⟩ := hr.shape
    have HP := PCirc.boxed (c := c) 30 r1 r2 r3
    have B0 := Lib.hid (bel_new w (.cells #[.int .i64 c.ins, vn, vg, vo] 30))
    have HF := Lib.hid (rowsFit_any w.heap.size _ _ rss _ HP (hr.below B0.out))
    rw [hok] at HF
    clear r1 r2 r3 hr HP hok
    go_enter Try.func30, Try.ntmps30
    go_wp2_with fail
    refine HF.out.mono ?_
    rintro e w1 ⟨rfl, hb1⟩
    have B := Lib.hid (B0.out.trans (hb1.mono B0.out.size))
    clear hb1
    go_wp2_with fail
    go_ret
    exact ⟨rfl, B.out⟩
  · rw [resets_ok hok]
    have hv : Cir.valid c = true := by unfold Cir.rowsOk at hok; simp only [Bool.and_eq_true] at hok; exact hok.1
    obtain ⟨d1, d2⟩ := Cir.nat_ok hv
    exact implResets_ok v vr (Cir.nat c) rss w (by rw [← d1]; exact h) hr d2 (by rw [← d1]; exact hok)
set_option maxHeartbeats 8000000 in
theorem specResets_ok (v vr : Value) (d : Ci) (rss : List (List Bool)) (w : World) (h : CircAt w v (Cir.toCz d)) (hr : SSAt bools w vr rss) (hd : Cir.Ok d) (hok : Cir.rowsOk (Cir.toCz d) rss = true) :
    Calls Try.prog 28 #[v, vr] w fun e w' => e = .returned (.bool (!Cir.memB (Cir.tst d rss) 2)) ∧ Below w.heap.size w w' := by
  have l1 := hd.ins
  have l2 := hd.nexts
  have l3 := hd.gatess
  have HC := Lib.hid h
  obtain ⟨vn, vg, vo, rfl, r1, r2, r3⟩ := h
  obtain ⟨An, cn, rfl, hcn, hcmn⟩ := NatsAt.shape (xs := d.next) r1
  obtain ⟨Ar, cr, rfl, hcr, hcrm⟩ := hr.shape
  unfold maxLen at hcrm hcmn
  have hins : (Cir.toCz d).ins = (d.ins : Int) := rfl
  rw [hins] at HC ⊢
  have B0 := Lib.hid (bel_new w (.cells #[.int .i64 d.ins, .slice An d.next.length cn, vg, vo] 30))
  have hsz : (w.alloc (.cells #[.int .i64 d.ins, .slice An d.next.length cn, vg, vo] 30)).heap.size = w.heap.size + 1 := by simp
  have PC := Lib.hid (PCells.boxed w d.ins (.slice An d.next.length cn) vg vo 30)
  have HR := Lib.hid (hr.below B0.out)
  have HRow : Hid (∀ (k : Nat) (x : List Bool), rss[k]? = some x → x.length = d.ins) := Lib.hid fun k x hx => by
    unfold Cir.rowsOk at hok
    simp only [Bool.and_eq_true] at hok
    have := List.all_eq_true.1 hok.2.2 x (List.mem_of_getElem? hx)
    unfold Cir.rowOk at this
    rw [decide_eq_true_eq, hins] at this
    omega
  have hlen : rss.length ≤ 40 := by unfold Cir.rowsOk at hok; simp only [Bool.and_eq_true, decide_eq_true_eq] at hok; exact hok.2.1
  have hvalid : Cir.valid (Cir.toCz d) = true := by unfold Cir.rowsOk at hok; simp only [Bool.and_eq_true] at hok; exact hok.1
  have Hvalid := Lib.hid hvalid
  have HC0 := Lib.hid (HC.out.below B0.out)
  have HVal := Lib.hid (specValid_any _ _ _ HC0.out)
  rw [hvalid] at HVal
  have HIn : Hid (∀ w', SSAt bools w' (.slice Ar rss.length cr) rss → Calls Try.prog 78 #[.slice Ar rss.length cr, .int .i64 d.ins] w' fun e w'' => e = .returned (.bool true) ∧ w' = w'') := Lib.hid fun w' h => by
    have := l2Inputs_any _ (d.ins : Int) rss w' h
    unfold Cir.rowsOk at hok
    simp only [Bool.and_eq_true] at hok
    rw [show (decide (rss.length ≤ 40) && rss.all (Cir.rowOk (d.ins : Int))) = true from by rw [Bool.and_eq_true]; exact hok.2] at this
    exact this
  have Hd := Lib.hid hd
  clear r1 r2 r3 hd hins hr hok hvalid
  obtain ⟨z, p0, p1, p2, p3⟩ := PC.out
  go_enter Try.func28, Try.ntmps28
  go_wp2_with fail
  generalize w.alloc (.cells #[.int .i64 d.ins, .slice An d.next.length cn, vg, vo] 30) = W at *
  refine HVal.out.mono ?_
  rintro e w1 ⟨rfl, hb1⟩
  have B1 := Lib.hid (B0.out.trans (hb1.mono B0.out.size))
  have HR1 := Lib.hid (HR.out.below hb1)
  have PC1 := Lib.hid (PC.out.below hb1)
  have HC1 := Lib.hid (HC0.out.below hb1)
  have z1 := hb1.size
  clear hb1 p0 p1 p2 p3 z HR PC HC0 HVal
  obtain ⟨z, p0, p1, p2, p3⟩ := PC1.out
  go_wp2_with fail
  refine (HIn.out _ HR1.out).mono ?_
  rintro e w' ⟨rfl, rfl⟩
  have hown0 := World.ownsRow_lit (base := w1.heap.size) (e := 3) (size := 1) w1 #[] 0 (Nat.le_refl _) (by unfold maxLen; omega) rfl
  have hb0 := bel_new w1 (.cells #[] 3)
  clear HIn
  go_wp2_with fail
  go_loopw [5, 6] (fun v i wr => ∃ (vv : Value) (k : Nat), vv = v ∧ k ≤ d.next.length ∧ i = .int .i64 k ∧ Hid (wr.ownsRow w1.heap.size 3 1 v k (nints (List.replicate k 2))) ∧ Below w1.heap.size w1 wr) (fun _ i _ => d.next.length - (intOf i).toNat)
  case atStart => exact ⟨_, 0, rfl, Nat.zero_le _, rfl, Lib.hid hown0, hb0⟩
  case round =>
    obtain ⟨vv, k, hvv, hk, rfl, Ho, hb⟩ := hrel
    subst hvv
    clear hown0 hb0 z p0 p1 p2 p3
    have Hb := Lib.hid hb
    have hzb := hb.size
    obtain ⟨z, p0, p1, p2, p3⟩ := PC1.out.below hb
    by_cases hlt : k < d.next.length
    · have HS : Hid (nints (List.replicate (k + 1) 2) = nints (List.replicate k 2) ++ [.int .i64 2]) := Lib.hid (by rw [List.replicate_succ', nints_snoc]; rfl)
      have Hlit := Lib.hid (Row.of_own (World.ownsRow_lit (base := wr.heap.size) (e := 3) (size := 1) wr #[.int .i64 2] 1 (Nat.le_refl _) (by unfold maxLen; omega) rfl))
      clear hb
      go_wp2_with (at_builtin; refine append_ints rfl (.tmp 29) (.tmp 30) rfl w1.heap.size _ k _ rfl (Ho.out.alloc _) _ 1 [.int .i64 2] rfl Hlit.out (by simp [Value.oneCell']) (by omega) (by simp; omega) ?_; intro v7 w7 hown7 hg7 hat7; have Ho7 := Lib.hid hown7; have Hg7 := Lib.hid hg7; clear hown7 hg7 hat7)
      go_roundw
      case rel => exact ⟨_, k + 1, rfl, by omega, by go_num, Lib.hid (by rw [HS.out]; exact Ho7.out), (Hb.out.alloc hzb _).grown Hg7.out (Hb.out.alloc hzb _).size (own_ge0 Ho.out)⟩
      case measure => simp [intOf] <;> omega
    · obtain rfl : k = d.next.length := by omega
      have Ho2 : Hid (NatsAt wr vv (Cir.tst d (rss.take 0))) := Lib.hid (by
        have e : Cir.tst d (rss.take 0) = List.replicate d.next.length 2 := rfl
        rw [e]
        exact nats_own Ho.out (by simp))
      have HT0 : Hid (Cir.Tst d (Cir.tst d (rss.take 0))) := Lib.hid (Cir.Tst.start d)
      clear Ho hb
      go_wp2_with fail
      go_loopw [5, 7] (fun v i wr => ∃ (vv : Value) (k : Nat), vv = v ∧ k ≤ rss.length ∧ i = .int .i64 k ∧ Hid (Cir.Tst d (Cir.tst d (rss.take k))) ∧ Hid (NatsAt wr v (Cir.tst d (rss.take k))) ∧ Below w1.heap.size w1 wr) (fun _ i _ => rss.length - (intOf i).toNat)
      case atStart => exact ⟨_, 0, rfl, Nat.zero_le _, rfl, HT0, Ho2, Hb.out⟩
      case round =>
        obtain ⟨vv, k, hvv, hk, rfl, HT, Ho, hb⟩ := hrel
        subst hvv
        clear Ho2 Hb HT0 z p0 p1 p2 p3
        have Hb := Lib.hid hb
        have hzb := hb.size
        by_cases hlt : k < rss.length
        · obtain ⟨x, hx⟩ := at_some hlt
          obtain ⟨b, o, Bx, mx, rfl, hbl, hc1, hm1, hm2, hrx⟩ := ss_open HR1.out (Below.refl _ _) hx
          have hxl := HRow.out k x hx
          have Hxl := Lib.hid hxl
          have HTs := Lib.hid (HT.out.step x)
          have HSn := Lib.hid (Cir.tst_snoc (d := d) hx)
          have Hrx := Lib.hid hrx
          have HT2 : Hid (Cir.Tst d (Cir.tst d (rss.take (k + 1)))) := Lib.hid (by rw [HSn.out]; exact HTs.out)
          have hx4 : x.length ≤ 4 := by omega
          unfold maxLen at hm2
          have K : ∀ w', Below w1.heap.size w1 w' → w'.cell? ⟨b, o + k, none⟩ = some (.slice Bx x.length mx) := fun w' h => (h.cell (p := ⟨b, o + k, none⟩) hbl).trans hc1
          have HK := Lib.hid K
          have Hwk := Lib.hid (bel_new wr (.cells #[] 3))
          have hown0 : Hid ((wr.alloc (.cells #[] 3)).ownsRow wr.heap.size 3 1 (.slice (some ⟨wr.heap.size, 0, none⟩) 0 0) 0 []) := Lib.hid (World.ownsRow_lit (base := wr.heap.size) (e := 3) (size := 1) wr #[] 0 (Nat.le_refl _) (by unfold maxLen; omega) rfl)
          clear hb hx hxl hrx K hc1
          generalize Cir.tst d (rss.take k) = st at *
          go_wp2_with fail
          obtain ⟨wk, hwk⟩ : ∃ wk, wk = wr := ⟨_, rfl⟩
          subst hwk
          go_loopw [8, 9] (fun v i wr => ∃ (uu : Value) (j : Nat), uu = v ∧ j ≤ x.length ∧ i = .int .i64 j ∧ Hid (wr.ownsRow wk.heap.size 3 1 v j (nints (Cir.terns (x.take j)))) ∧ Below wk.heap.size wk wr) (fun _ i _ => x.length - (intOf i).toNat)
          case atStart => exact ⟨_, 0, rfl, Nat.zero_le _, rfl, hown0, Hwk.out⟩
          case round =>
            obtain ⟨uu, j, huu, hj, rfl, Hu, hb⟩ := hrel
            subst huu
            clear hown0 Hwk
            have Hbk := Lib.hid hb
            have hzk := hb.size
            have Hb1 := Lib.hid (Hb.out.trans (hb.mono hzb))
            have c1 := HK.out wr Hb1.out
            by_cases hlj : j < x.length
            · obtain ⟨b', o', u, rfl, hbl', hx0, hs0⟩ := bools_open Hrx.out Hb1.out rfl hlj
              have HS : Hid (nints (Cir.terns (x.take (j + 1))) = nints (Cir.terns (x.take j)) ++ [.int .i64 (u.toNat : Nat)]) := Lib.hid (by rw [Cir.terns_snoc hx0.out, nints_snoc])
              have Hlit := Lib.hid (Row.of_own (World.ownsRow_lit (base := wr.heap.size) (e := 3) (size := 1) wr #[.int .i64 (u.toNat : Nat)] 1 (Nat.le_refl _) (by unfold maxLen; omega) rfl))
              clear hb
              go_wp2_with fail
              refine (l9Bit_any u _).mono ?_
              rintro e w' ⟨rfl, rfl⟩
              generalize u.toNat = un at *
              go_wp2_with (at_builtin; refine append_ints rfl (.tmp 48) (.tmp 57) rfl wk.heap.size _ j _ rfl (Hu.out.alloc _) _ 1 [.int .i64 un] rfl Hlit.out (by simp [Value.oneCell']) (by omega) (by simp; omega) ?_; intro v7 w7 hown7 hg7 hat7; have Ho7 := Lib.hid hown7; have Hg7 := Lib.hid hg7; clear hown7 hg7 hat7)
              go_roundw
              case rel => exact ⟨_, j + 1, rfl, by omega, by go_num, Lib.hid (by rw [HS.out]; exact Ho7.out), (Hbk.out.alloc hzk _).grown Hg7.out (Hbk.out.alloc hzk _).size (own_ge0 Hu.out)⟩
              case measure => simp [intOf] <;> omega
            · obtain rfl : j = x.length := by omega
              have HI : Hid (NatsAt wr uu (Cir.terns x)) := Lib.hid (nats_own (by have := Hu.out; rwa [List.take_length] at this) (Cir.terns_length x))
              have Ho5 := Lib.hid (Ho.out.below hb)
              have HC5 := Lib.hid (HC1.out.below Hb1.out)
              obtain ⟨z, p0, p1, p2, p3⟩ := PC1.out.below Hb1.out
              have hz1 : w1.heap.size ≤ wr.heap.size := Nat.le_trans hzb hzk
              have HTl : Hid ((Cir.terns x).length = d.ins) := Lib.hid (by rw [Cir.terns_length]; exact Hxl.out)
              clear hb Hu Ho
              obtain ⟨w5, hw5⟩ : ∃ w5, w5 = wr := ⟨_, rfl⟩
              subst hw5
              go_wp2_with fail
              refine wp_region_rs (quietRS Try.prog _ w5 _) quietRS_ok (by kernel_rfl) (by kernel_rfl) (by kernel_rfl) (Nat.le_of_ble_eq_true rfl) trivial trivial ?_
              apply rs_eq quietRS_ok quiet_any
              · intro ρ w' ho hK
                have ho : Only _ w5 w' := ho
                obtain ⟨h0, -⟩ := hK
                have h0' : ρ (.tmp 2) = _ := h0
                have hb := only_below ho
                have q0 := (hb.cell (p := ⟨w.heap.size, 0, none⟩) z).trans p0
                have q1 := (hb.cell (p := ⟨w.heap.size, 1, none⟩) z).trans p1
                have q2 := (hb.cell (p := ⟨w.heap.size, 2, none⟩) z).trans p2
                have q3 := (hb.cell (p := ⟨w.heap.size, 3, none⟩) z).trans p3
                go_simp
                try exact rfl
              apply rs_eq quietRS_ok quiet_any
              · intro ρ w' ho hK
                have ho : Only _ w5 w' := ho
                obtain ⟨h0, -⟩ := hK
                have h0' : ρ (.tmp 2) = _ := h0
                have hb := only_below ho
                have q0 := (hb.cell (p := ⟨w.heap.size, 0, none⟩) z).trans p0
                have q1 := (hb.cell (p := ⟨w.heap.size, 1, none⟩) z).trans p1
                have q2 := (hb.cell (p := ⟨w.heap.size, 2, none⟩) z).trans p2
                have q3 := (hb.cell (p := ⟨w.heap.size, 3, none⟩) z).trans p3
                go_simp
                try exact rfl
              refine rs_old quietRS_ok quiet_any _ (.inl rfl) _ rfl rfl ?_
              refine rs_old quietRS_ok quiet_any _ (.inl rfl) _ rfl rfl ?_
              refine rs_call quietRS_ok quiet_any (TInts (nats (Cir.tvals d st (Cir.terns x)))) (stb_ints _) 20 _ _ rfl (fun ρ w' ho hK => by
                have ho : Only _ w5 w' := ho
                obtain ⟨h0, h1, h2, h3, -⟩ := hK
                have h0' : ρ (.func 20) = .func (.func 20) #[] #[] := h0
                have h1' : ρ (.tmp 60) = _ := h1
                have h2' : ρ (.tmp 61) = _ := h2
                have h3' : ρ (.tmp 62) = _ := h3
                refine ⟨#[ρ (.tmp 60), ρ (.tmp 61), ρ (.tmp 62)], ?_, ?_⟩
                · go_simp
                · rw [h1', h2', h3']
                  refine (specEvalT_ok _ _ _ d st (Cir.terns x) w' (HC5.out.below (only_below ho)) Hd.out Hvalid.out (Ho5.out.below (only_below ho)) (HI.out.below (only_below ho)) HTl.out HT.out.1 HT.out.2 (Cir.terns_le x)).mono ?_
                  rintro e w2 ⟨v2, rfl, hO, hb⟩
                  exact ⟨v2, rfl, Row.of_own hO, hb⟩) ?_
              refine rs_call quietRS_ok quiet_any (TInts (nats (Cir.tnext d (Cir.tvals d st (Cir.terns x))))) (stb_ints _) 80 _ _ rfl (fun ρ w' ho hK => by
                have ho : Only _ w5 w' := ho
                obtain ⟨h0, h1, h2, -⟩ := hK
                have h0' : ρ (.func 80) = .func (.func 80) #[] #[] := h0
                have h1' : ρ (.tmp 59) = _ := h1
                have h2' : (TInts (nats (Cir.tvals d st (Cir.terns x)))) w' (ρ (.tmp 63)) := h2
                refine ⟨#[ρ (.tmp 59), ρ (.tmp 63)], ?_, ?_⟩
                · go_simp
                · rw [h1']
                  refine (l27Next_any _ _ d _ w' (HC5.out.below (only_below ho)) Hd.out h2' (Cir.tvals_length d HTl.out HT.out.1) (Cir.tvals_le d HT.out.2 (Cir.terns_le x))).mono ?_
                  rintro e w2 ⟨v2, rfl, hO, hb⟩
                  exact ⟨v2, rfl, Row.of_own hO, hb⟩) ?_
              refine rs_same quietRS_ok quiet_any 64 5 (.inr rfl) rfl _ rfl ?_
              intro f w9 k9 hk9 hI9 ht9 hcp9
              have E0 : f 0 = _ := ht9 0 (Nat.le_of_ble_eq_true rfl)
              have E1 : f 1 = _ := ht9 1 (Nat.le_of_ble_eq_true rfl)
              have E2 : f 2 = _ := ht9 2 (Nat.le_of_ble_eq_true rfl)
              have E3 : f 3 = _ := ht9 3 (Nat.le_of_ble_eq_true rfl)
              have E4 : (TInts (nats (Cir.tvals d st (Cir.terns x)))) w9 (f 4) := ht9 4 (Nat.le_of_ble_eq_true rfl)
              have E5 : (TInts (nats (Cir.tnext d (Cir.tvals d st (Cir.terns x))))) w9 (f 5) := ht9 5 (Nat.le_of_ble_eq_true rfl)
              have E6 : (TInts (nats (Cir.tnext d (Cir.tvals d st (Cir.terns x))))) w9 (f 6) := ht9 6 (Nat.le_of_ble_eq_true rfl)
              have Ho9 : Only _ w5 w9 := hI9.2.1
              have C6 : f 6 = f 5 := (hcp9 6 _ 64 5 rfl rfl rfl rfl).2
              simp only [putAll, E0, E1, E2, E3, C6, Nat.zero_add, Nat.reduceAdd, Act.put, List.setIfInBounds_toArray, List.set_cons_succ, List.set_cons_zero]
              clear E0 E1 E2 E3
              clear hI9 ht9 hcp9 hk9
              generalize f 4 = r4 at *
              generalize f 5 = r5 at *
              have hb9 := only_below Ho9
              have B9 := Lib.hid (Hb1.out.trans (hb9.mono hz1))
              have HF : Hid (NatsAt w9 r5 (Cir.tst d (rss.take (k + 1)))) := Lib.hid (by rw [HSn.out]; exact E5)
              clear Ho9 hb9 E4 E5 E6 p0 p1 p2 p3 z
              go_wp2_with fail
              go_roundw
              case rel => exact ⟨_, k + 1, rfl, by omega, by go_num, HT2, HF, B9.out⟩
              case measure => simp [intOf] <;> omega
        · obtain rfl : k = rss.length := by omega
          have Hfin : Hid (NatsAt wr vv (Cir.tst d rss)) := Lib.hid (by have := Ho.out; rwa [List.take_length] at this)
          clear hb Ho
          obtain ⟨Av, cv, rfl, hcv, hcvm⟩ := NatsAt.shape Hfin.out
          unfold maxLen at hcvm
          obtain ⟨res, hR⟩ : ∃ res, Cir.memB (Cir.tst d rss) 2 = res := ⟨_, rfl⟩
          have h0 : Hid (res = ((Cir.tst d rss).drop 0).contains 2) := Lib.hid (by rw [← hR]; rfl)
          have HRs := Lib.hid hR
          clear hR
          generalize hst : Cir.tst d rss = st at *
          have Hst := Lib.hid hst
          clear hst
          go_wp2_with fail
          go_loop [10] (fun i => ∃ k : Nat, k ≤ st.length ∧ i = .int .i64 k ∧ Hid (res = (st.drop k).contains 2)) (fun i => st.length - (intOf i).toNat)
          case atStart => exact ⟨0, Nat.zero_le _, rfl, h0⟩
          case round =>
            obtain ⟨k, hk, rfl, hres⟩ := hrel
            clear h0
            by_cases hlt : k < st.length
            · obtain ⟨b, o, x, rfl, hbl, hx, hs1⟩ := nats_cell (nats_row Hfin.out) rfl hlt
              have Hstep : Hid ((st.drop k).contains 2 = (2 == x || (st.drop (k + 1)).contains 2)) := Lib.hid (by
                obtain ⟨hk', e⟩ := List.getElem?_eq_some_iff.1 hx.out
                rw [List.drop_eq_getElem_cons hk', e, List.contains_cons])
              by_cases hxn : x = 2
              · obtain rfl : res = true := by rw [hres.out, Hstep.out, hxn]; rfl
                have hq : ((x : Int) == 2) = true := by simp [hxn]
                clear hxn
                go_wp2_with fail
                go_ret
                exact ⟨ret_bool (by first | (rw [HRs.out]; rfl) | (rw [Hst.out, HRs.out]; rfl)), B1.out.trans (Hb.out.mono B1.out.size)⟩
              · have Hn : Hid (res = (st.drop (k + 1)).contains 2) := Lib.hid (by rw [hres.out, Hstep.out, show (2 == x) = false from by simpa using fun e => hxn e.symm]; rfl)
                have hq : ((x : Int) == 2) = false := by simp; omega
                clear hxn
                go_wp2_with fail
                go_round
                case rel => exact ⟨k + 1, by omega, by go_num, Hn⟩
                case measure => simp [intOf] <;> omega
            · obtain rfl : res = false := by rw [hres.out, List.drop_eq_nil_of_le (by omega : st.length ≤ k)]; rfl
              go_wp2_with fail
              go_ret
              exact ⟨ret_bool (by first | (rw [HRs.out]; rfl) | (rw [Hst.out, HRs.out]; rfl)), B1.out.trans (Hb.out.mono B1.out.size)⟩
theorem specResets_any (v vr : Value) (c : Cz) (rss : List (List Bool)) (w : World) (h : CircAt w v c) (hr : SSAt bools w vr rss) :
    Calls Try.prog 28 #[v, vr] w fun e w' => e = .returned (.bool (Cir.resets c rss)) ∧ Below w.heap.size w w' := by
  cases hok : Cir.rowsOk c rss
  · rw [resets_no hok]
    have HC := Lib.hid h
    obtain ⟨vn, vg, vo, rfl, -⟩ := h
    obtain ⟨Ar, cr, rfl, hcr, hcrm⟩ := hr.shape
    have B0 := Lib.hid (bel_new w (.cells #[.int .i64 c.ins, vn, vg, vo] 30))
    obtain ⟨z, p0, p1, p2, p3⟩ := PCells.boxed w c.ins vn vg vo 30
    have HR := Lib.hid (hr.below B0.out)
    have HV := Lib.hid (specValid_any _ _ _ (HC.out.below B0.out))
    cases hv : Cir.valid c
    · rw [hv] at HV
      clear hr HC hok hv
      go_enter Try.func28, Try.ntmps28
      go_wp2_with fail
      refine HV.out.mono ?_
      rintro e w1 ⟨rfl, hb1⟩
      have B := Lib.hid (B0.out.trans (hb1.mono B0.out.size))
      clear hb1
      go_wp2_with fail
      go_ret
      exact ⟨rfl, B.out⟩
    · rw [hv] at HV
      have hI : (decide (rss.length ≤ 40) && rss.all (Cir.rowOk c.ins)) = false := by unfold Cir.rowsOk at hok; rw [hv, Bool.true_and] at hok; exact hok
      have HI := Lib.hid fun w' h => l2Inputs_any (.slice Ar rss.length cr) c.ins rss w' h
      rw [hI] at HI
      generalize hW : w.alloc (.cells #[.int .i64 c.ins, vn, vg, vo] 30) = W at *
      clear hr HC hok hv hI
      go_enter Try.func28, Try.ntmps28
      go_wp2_with fail
      refine HV.out.mono ?_
      rintro e w1 ⟨rfl, hb1⟩
      have B := Lib.hid (B0.out.trans (hb1.mono B0.out.size))
      have q0 := (hb1.cell (p := ⟨w.heap.size, 0, none⟩) z).trans p0
      have HR1 := Lib.hid (HR.out.below hb1)
      clear hb1 hW
      go_wp2_with fail
      refine (HI.out _ HR1.out).mono ?_
      rintro e w' ⟨rfl, rfl⟩
      go_wp2_with fail
      go_ret
      exact ⟨rfl, B.out⟩
  · rw [resets_ok hok]
    have hv : Cir.valid c = true := by unfold Cir.rowsOk at hok; simp only [Bool.and_eq_true] at hok; exact hok.1
    obtain ⟨d1, d2⟩ := Cir.nat_ok hv
    exact specResets_ok v vr (Cir.nat c) rss w (by rw [← d1]; exact h) hr d2 (by rw [← d1]; exact hok)
end Go.Proofs.Ytmlcbikljlhhkaa
