import Derived.Test.YthnfbjjnabohoaaMacD
import Derived.Test.YthnfbjjnabohoaaMacN
import Derived.Test.YthnfbjjnabohoaaRsD
import Derived.Test.YthnfbjjnabohoaaOwnI
namespace Go.Proofs.Ythnfbjjnabohoaa
open Go.RowKit
set_option maxRecDepth 100000
/-! RunMachine, both. -/
set_option maxHeartbeats 8000000 in
theorem implRun_any (v vi : Value) (m : Mz) (ins : List Int) (w : World) (h : MachAt w v m) (hi : IntsAt w vi ins) :
    Calls Try.prog 18 #[v, vi] w (OwnInts (Mac.runI m ins) w) := by
  have HC := Lib.hid h
  obtain ⟨An, cn, Ao, co, rfl, hcn, hco, hcn1, hco1⟩ := h.shape
  obtain ⟨Ai, ci, rfl, hci, hcim⟩ := Row.shape hi
  unfold maxLen at hcim
  have B0 := Lib.hid (bel_alloc w (.cells #[.int .i64 m.ins, .slice An m.next.length cn, .slice Ao m.out.length co] 27))
  have PC := Lib.hid (MCells.boxed w m.ins (.slice An m.next.length cn) (.slice Ao m.out.length co) 27)
  have hsz : (w.alloc (.cells #[.int .i64 m.ins, .slice An m.next.length cn, .slice Ao m.out.length co] 27)).heap.size = w.heap.size + 1 := by simp
  obtain ⟨z, p0, p1, p2⟩ := PC.out
  have HC := Lib.hid (HC.out.below B0.out)
  have Hi := Lib.hid (Row.below hi B0.out)
  have HV := Lib.hid (implMValid_any _ m _ HC.out)
  generalize hW : w.alloc (.cells #[.int .i64 m.ins, .slice An m.next.length cn, .slice Ao m.out.length co] 27) = W at *
  clear hi
  cases hv : Mac.valid m
  · rw [hv] at HV
    have HR : Hid (Mac.runI m ins = []) := Lib.hid (by unfold Mac.runI Mac.runOk; rw [hv]; rfl)
    rw [HR.out]
    clear HR hv
    go_enter Try.func18, Try.ntmps18
    go_wp2_with fail
    refine HV.out.mono ?_
    rintro e w1 ⟨rfl, hb1⟩
    have B := Lib.hid (B0.out.trans (hb1.mono B0.out.size))
    clear hb1
    go_wp2_with fail
    go_ret
    exact own_nil _ _ B.out
  · rw [hv] at HV
    have Hv := Lib.hid hv
    by_cases hl : (40 : Int) < ins.length
    · have HR : Hid (Mac.runI m ins = []) := Lib.hid (by unfold Mac.runI Mac.runOk; rw [hv, decide_eq_false (by omega)]; rfl)
      rw [HR.out]
      clear HR hv
      go_enter Try.func18, Try.ntmps18
      go_wp2_with fail
      refine HV.out.mono ?_
      rintro e w1 ⟨rfl, hb1⟩
      have B := Lib.hid (B0.out.trans (hb1.mono B0.out.size))
      clear hb1
      go_wp2_with fail
      go_ret
      exact own_nil _ _ B.out
    · obtain ⟨s1, s2, s3, s4, s5⟩ := mach_sizes (m := m) (by have h := hv; unfold Mac.valid at h; simp only [Bool.and_eq_true] at h; exact h.1)
      obtain ⟨N, hN⟩ := Int.eq_ofNat_of_zero_le s1
      have hN4 : N ≤ 4 := by omega
      obtain ⟨M, eM, hM⟩ : ∃ M : Nat, (2 : Int) ^ N = (M : Int) ∧ M = 2 ^ N := ⟨2 ^ N, two_pow N, rfl⟩
      have hM16 : M ≤ 16 := by rw [hM]; exact Nat.pow_le_pow_right (show 0 < 2 by decide) hN4
      have hwM := IntWalk.i64_in (M : Int) (by omega)
      have HM : Hid (2 ^ m.ins.toNat = M) := Lib.hid (by rw [hN, hM]; rfl)
      have HR0 : Hid (Mac.runI m ins = if (ins.drop 0).all (Mac.inRange m) then Mac.outs m 0 ins else []) := Lib.hid (by unfold Mac.runI Mac.runOk; rw [hv, decide_eq_true (by omega)]; rfl)
      have HRow : Hid (∀ s x : Nat, s < m.next.length → x < M → ∃ r q y o, m.next[s]? = some r ∧ m.out[s]? = some q ∧ r.length = M ∧ q.length = M ∧ r[x]? = some ((y : Nat) : Int) ∧ y < m.next.length ∧ q[x]? = some o ∧ 0 ≤ o ∧ o < 8 ∧ Mac.stepN m s x = y ∧ Mac.stepO m s x = o) := Lib.hid fun s x hs hx => by
        have := Mac.valid_row hv hs (by rw [HM.out]; exact hx)
        rwa [HM.out] at this
      have HRg : Hid (∀ x : Int, Mac.inRange m x = Mac.inOk (M : Int) x) := Lib.hid fun x => by unfold Mac.inRange; rw [HM.out]
      rw [hN] at p0 HC PC HV hW ⊢
      generalize Mac.runI m ins = res at *
      have S5 := Lib.hid s5
      clear hv hM s1 s2 hN s5
      go_enter Try.func18, Try.ntmps18
      go_wp2_with fail
      refine HV.out.mono ?_
      rintro e w1 ⟨rfl, hb1⟩
      have B1 := Lib.hid (B0.out.trans (hb1.mono B0.out.size))
      have PC1 := Lib.hid (PC.out.below hb1)
      have HC1 := Lib.hid (HC.out.below hb1)
      have Hi1 := Lib.hid (Row.below Hi.out hb1)
      have z1 := hb1.size
      clear hb1 p0 p1 p2 z PC HC Hi HV hW
      go_wp2_with fail
      go_loopw [5, 6, 19] (fun v s i wr => ∃ (vv : Value) (k st : Nat), vv = v ∧ k ≤ ins.length ∧ i = .int .i64 k ∧ s = .int .i64 st ∧ st < m.next.length ∧ Hid (st = Mac.st m (ins.take k)) ∧ Hid (res = if (ins.drop k).all (Mac.inRange m) then Mac.outs m 0 ins else []) ∧ Hid (wr.ownsRow w1.heap.size 3 1 v k (ints (Mac.outs m 0 (ins.take k)))) ∧ Below w1.heap.size w1 wr) (fun v s i _ => ins.length - (intOf i).toNat)
      case atStart => exact ⟨_, 0, 0, rfl, Nat.zero_le _, rfl, rfl, by omega, Lib.hid rfl, HR0, Lib.hid (World.ownsRow_nil _ _ _ _), Below.refl _ _⟩
      case round =>
        obtain ⟨vv, k, st, hvv, hk, rfl, rfl, hst, Hst, hres, Ho, hb⟩ := hrel
        subst hvv
        clear HR0
        have Hb := Lib.hid hb
        have hzb := hb.size
        obtain ⟨z, p0, p1, p2⟩ := PC1.out.below hb
        by_cases hlt : k < ins.length
        · obtain ⟨b, o, x, rfl, hbl, hx, hs0⟩ := ints_open Hi1.out hb rfl hlt
          have Hdr := Lib.hid (Mac.all_dropG (p := Mac.inRange m) hx.out)
          clear hb
          cases hr : Mac.inRange m x
          · have HR : Hid (res = []) := Lib.hid (by rw [hres.out, Hdr.out, hr]; rfl)
            rw [HRg.out] at hr
            unfold Mac.inOk at hr
            rw [decide_eq_false_iff_not] at hr
            rw [HR.out]
            by_cases hx0 : x < 0
            · clear hr
              go_wp2_with fail
              go_ret
              exact own_nil _ _ (B1.out.trans (Hb.out.mono B1.out.size))
            · have hxM : (M : Int) ≤ x := by omega
              clear hr
              go_wp2_with fail
              go_ret
              exact own_nil _ _ (B1.out.trans (Hb.out.mono B1.out.size))
          · obtain ⟨X, rfl, hXM⟩ := Mac.inRange_nat hr
            rw [HM.out] at hXM
            have Hn : Hid (res = if (ins.drop (k + 1)).all (Mac.inRange m) then Mac.outs m 0 ins else []) := Lib.hid (by rw [hres.out, Hdr.out, hr]; rfl)
            obtain ⟨r, q, y, O, e1, e2, l1, l2, f1, hy, f2, hO1, hO2, g1, g2⟩ := HRow.out st X hst hXM
            obtain ⟨mn, mo, hmv, rn, ro⟩ := HC1.out
            simp only [Value.agg.injEq, Array.mk.injEq, List.cons.injEq, and_true, true_and] at hmv
            obtain ⟨-, rfl, rfl⟩ := hmv
            obtain ⟨bn, on, Bn, mn, rfl, hbn, hcn1', hn1, hn2, hrn⟩ := ss_open rn (Below.refl _ _) e1
            obtain ⟨bo, oo, Bo, mo, rfl, hbo, hco1', ho1, ho2, hro⟩ := ss_open ro (Below.refl _ _) e2
            obtain ⟨bn', on', rfl, hbn', hcy⟩ := ints_row hrn rfl f1
            obtain ⟨bo', oo', rfl, hbo', hcO⟩ := ints_row hro rfl f2
            rw [l1] at hcn1' hn1
            rw [l2] at hco1' ho1
            have K : ∀ w', Below w1.heap.size w1 w' → w'.cell? ⟨bn, on + st, none⟩ = some (.slice (some ⟨bn', on', none⟩) M mn) ∧ w'.cell? ⟨bo, oo + st, none⟩ = some (.slice (some ⟨bo', oo', none⟩) M mo) ∧ w'.cell? ⟨bn', on' + X, none⟩ = some (.int .i64 y) ∧ w'.cell? ⟨bo', oo' + X, none⟩ = some (.int .i64 O) := fun w' hb =>
              ⟨(hb.cell (p := ⟨bn, on + st, none⟩) hbn).trans hcn1', (hb.cell (p := ⟨bo, oo + st, none⟩) hbo).trans hco1', (hb.cell (p := ⟨bn', on' + X, none⟩) hbn').trans hcy, (hb.cell (p := ⟨bo', oo' + X, none⟩) hbo').trans hcO⟩
            have HK := Lib.hid K
            obtain ⟨k1, k2, k3, k4⟩ := K wr Hb.out
            clear K hcn1' hco1' hcy hcO
            have HSt : Hid (y = Mac.st m (ins.take (k + 1))) := Lib.hid (by rw [Mac.st_snoc hx.out, ← Hst.out, g1])
            have HOu : Hid (ints (Mac.outs m 0 (ins.take (k + 1))) = ints (Mac.outs m 0 (ins.take k)) ++ [.int .i64 O]) := Lib.hid (by rw [Mac.outs_snoc hx.out, ← Hst.out, g2, ints_snoc])
            unfold maxLen at hn2 ho2
            have Hlit := Lib.hid (Row.of_own (World.ownsRow_lit (base := wr.heap.size) (e := 3) (size := 1) wr #[.int .i64 O] 1 (Nat.le_refl _) (by unfold maxLen; omega) rfl))
            have hbm := bel_alloc wr (.cells #[.int .i64 O] 3)
            have Hb7 : Hid (∀ w7, (wr.alloc (.cells #[.int .i64 O] 3)).grownBy w7 vv.ownBlock → Below w1.heap.size w1 w7) := Lib.hid fun w7 hg => (Hb.out.alloc hzb _).grown hg (Hb.out.alloc hzb _).size (own_ge0 Ho.out)
            have hd1 : decide (st < m.next.length) = true := decide_eq_true hst
            have hd2 : st < m.out.length := by have := S5.out; omega
            have hd3 : decide (X < M) = true := decide_eq_true hXM
            clear hr e1 e2 f1 f2 g1 g2 hrn hro rn ro l1 l2 hbm
            go_wp2_with (at_builtin; refine append_ints rfl (.tmp 32) (.tmp 41) rfl w1.heap.size _ k _ rfl (Ho.out.alloc _) _ 1 [.int .i64 O] rfl Hlit.out (by simp [Value.oneCell']) (by omega) (by simp; omega) ?_; intro v7 w7 hown7 hg7 hat7; have Ho7 := Lib.hid hown7; have B7 := Lib.hid (Hb7.out w7 hg7); obtain ⟨j1, j2, j3, j4⟩ := HK.out w7 B7.out; obtain ⟨z7, r0, r1, r2⟩ := PC1.out.below B7.out; clear hown7 hg7 hat7 p0 p1 p2 k1 k2 k3 k4)
            go_roundw
            case rel => exact ⟨_, k + 1, y, rfl, by omega, by go_num, rfl, hy, HSt, Hn, Lib.hid (by rw [HOu.out]; exact Ho7.out), B7.out⟩
            case measure => simp [intOf] <;> omega
        · obtain rfl : k = ins.length := by omega
          have HR : Hid (res = Mac.outs m 0 ins) := Lib.hid (by rw [hres.out, List.drop_eq_nil_of_le (Nat.le_refl _)]; rfl)
          go_wp2_with fail
          go_ret
          exact ⟨_, rfl, by rw [HR.out, Mac.outs_length]; have := Ho.out; rw [List.take_length] at this; exact own_mono this (by omega), B1.out.trans (Hb.out.mono B1.out.size)⟩
end Go.Proofs.Ythnfbjjnabohoaa
