import Derived.Test.YtdgminjbgjbamaaS05
import Derived.Test.YtdgminjbgjbamaaS02
import Derived.Test.YtdgminjbgjbamaaProg
import Derived.Test.YtdgminjbgjbamaaS01
import Derived.RegionTactic
import Derived.Test.YtdgminjbgjbamaaS04
import Derived.DeepKeys4
import Derived.Test.YtdgminjbgjbamaaS03
set_option linter.unusedVariables false
set_option linter.unusedSimpArgs false
namespace Go.Proofs.Ytdgminjbgjbamaa
open Go.RowKit
set_option maxRecDepth 100000
/-! Reachable, by the reference; both, for all circuits. -/
set_option maxHeartbeats 4000000 in
theorem specReach_ok (v : Value) (d : Ci) (w : World) (h : CircAt w v (Cir.toCz d)) (hd : Cir.Ok d) (hv : Cir.valid (Cir.toCz d) = true) :
    Calls Try.prog 50 #[v] w (OwnInts (nats (Cir.reach d)) w) := by
  have l1 := hd.ins
  have l2 := hd.nexts
  have HC := Lib.hid h
  obtain ⟨vn, vg, vo, rfl, r1, r2, r3⟩ := h
  have hins : (Cir.toCz d).ins = (d.ins : Int) := rfl
  rw [hins] at HC ⊢
  have B0 := Lib.hid (bel_new w (.cells #[.int .i64 d.ins, vn, vg, vo] 26))
  have hsz : (w.alloc (.cells #[.int .i64 d.ins, vn, vg, vo] 26)).heap.size = w.heap.size + 1 := by simp
  have PC := Lib.hid (PCells.boxed w d.ins vn vg vo 26)
  obtain ⟨z, p0, p1, p2, p3⟩ := PC.out
  have HC := Lib.hid (HC.out.below B0.out)
  have HV := Lib.hid (specValid_any _ _ _ HC.out)
  rw [hv] at HV
  have Hd := Lib.hid hd
  obtain ⟨M, e, hM⟩ : ∃ M : Nat, (2 : Int) ^ d.ins = (M : Int) ∧ M = 2 ^ d.ins := ⟨2 ^ d.ins, two_pow d.ins, rfl⟩
  have hM16 : M ≤ 16 := by rw [hM]; exact Nat.pow_le_pow_right (show 0 < 2 by decide) l1
  have hwM := IntWalk.i64_in (M : Int) (by omega)
  have HM := Lib.hid hM
  clear r1 r2 r3 hd hins hM hv
  go_enter Try.func50, Try.ntmps50
  go_wp2_with fail
  generalize w.alloc (.cells #[.int .i64 d.ins, vn, vg, vo] 26) = W at *
  refine HV.out.mono ?_
  rintro e w1 ⟨rfl, hb1⟩
  have B1 := Lib.hid (B0.out.trans (hb1.mono B0.out.size))
  have HC1 := Lib.hid (HC.out.below hb1)
  have PC1 := Lib.hid (PC.out.below hb1)
  have z1 := hb1.size
  clear hb1 p0 p1 p2 p3 z HV HC PC
  have Hlit : Hid ((w1.alloc (.cells #[.int .i64 0] 3)).ownsRow w1.heap.size 3 1 (.slice (some ⟨w1.heap.size, 0, none⟩) 1 1) 1 [.int .i64 0]) := Lib.hid (World.ownsRow_lit (base := w1.heap.size) (e := 3) (size := 1) w1 #[.int .i64 0] 1 (Nat.le_refl _) (by unfold maxLen; omega) rfl)
  have Bm : Hid (Below w1.heap.size w1 (w1.alloc (.cells #[.int .i64 0] 3))) := Lib.hid ((Below.refl _ _).alloc (Nat.le_refl _) _)
  have hR0 : Hid (Cir.reach d = Cir.bfs d (9 - 0) 0 [0]) := Lib.hid rfl
  generalize Cir.reach d = res at *
  go_wp2_with fail
  go_loopw [3, 4] (fun v i wr => ∃ (vv : Value) (k : Nat) (l : List Nat), vv = v ∧ i = .int .i64 k ∧ k ≤ l.length ∧ l.length ≤ 8 ∧ Hid (Cir.Sts d l) ∧ Hid (res = Cir.bfs d (9 - k) k l) ∧ Hid (wr.ownsRow w1.heap.size 3 1 v l.length (nints l)) ∧ Below w1.heap.size w1 wr) (fun v i _ => 8 - (intOf i).toNat)
  case atStart => exact ⟨_, 0, [0], rfl, rfl, by simp, by simp, Lib.hid (Cir.Sts.zero d), hR0, Hlit, Bm.out⟩
  case round =>
    obtain ⟨vv, k, l, hvv, rfl, hk, hl8, Hst, hres, Ho, hb⟩ := hrel
    subst hvv
    clear Hlit Bm hR0
    obtain ⟨A, c, rfl, hc, hcm⟩ := NatsAt.shape (own_nats Ho.out)
    unfold maxLen at hcm
    have Hb := Lib.hid hb
    have hzb := hb.size
    clear hb
    by_cases hlt : k < l.length
    · obtain ⟨s, hs⟩ := at_some hlt
      have hs8 : s < 8 := by
        have h1 := Hst.out.lt s (List.mem_of_getElem? hs)
        have h2 : 2 ^ d.next.length ≤ 2 ^ 3 := Nat.pow_le_pow_right (show 0 < 2 by decide) l2
        omega
      have Hstep := Lib.hid (Cir.bfs_step (c := d) (f := 9 - (k + 1)) hs)
      have hf : 9 - k = 9 - (k + 1) + 1 := by omega
      rw [hf] at hres
      have Hgs := Lib.hid hs
      have hdl : decide (k < l.length) = true := decide_eq_true hlt
      clear hs hf
      go_wp2_with fail
      obtain ⟨Wk, hWk⟩ : ∃ Wk, Wk = wr := ⟨_, rfl⟩
      subst hWk
      go_loopw [3, 5] (fun v i wr => ∃ (vv : Value) (j : Nat), vv = v ∧ i = .int .i64 j ∧ j ≤ M ∧ Hid (wr.ownsRow w1.heap.size 3 1 v (Cir.pushes d s j l).length (nints (Cir.pushes d s j l))) ∧ Below w1.heap.size w1 wr) (fun v i _ => M - (intOf i).toNat)
      case atStart => exact ⟨_, 0, rfl, rfl, Nat.zero_le _, Ho, Hb.out⟩
      case round =>
        obtain ⟨vv, j, hvv, rfl, hj, Ho, hb⟩ := hrel
        subst hvv
        have Hb := Lib.hid hb
        have hzb := hb.size
        have PCr := Lib.hid (PC1.out.below hb)
        have Hst2 := Lib.hid (Hst.out.pushes s j)
        have hL8 := Hst2.out.len Hd.out
        have Hgj := Lib.hid (Cir.pushes_get (c := d) (s := s) (j := j) Hgs.out)
        have Hsu := Lib.hid (Cir.pushes_succ d s j l)
        by_cases hlj : j < M
        · obtain ⟨L2, hL2⟩ : ∃ L2, Cir.pushes d s (j + 1) l = L2 := ⟨_, rfl⟩
          rw [hL2] at Hsu
          have HL2 := Lib.hid hL2
          clear hL2
          generalize Cir.pushes d s j l = L at *
          obtain ⟨A, c, rfl, hc, hcm⟩ := NatsAt.shape (own_nats Ho.out)
          unfold maxLen at hcm
          have hkL : k < L.length := (List.getElem?_eq_some_iff.1 Hgj.out).1
          obtain ⟨b, o, s', rfl, hbl, hx0, hs0⟩ := nats_cell (nats_row (own_nats Ho.out)) rfl hkL
          obtain rfl : s' = s := Option.some.inj (hx0.out.symm.trans Hgj.out)
          clear hb
          obtain ⟨z, p0, p1, p2, p3⟩ := PCr.out
          go_wp2_with fail
          obtain ⟨w4, hw4⟩ : ∃ w4, w4 = wr := ⟨_, rfl⟩
          subst hw4
          refine wp_region_rs (quietRS Try.prog _ w4 _) quietRS_ok (by kernel_rfl) (by kernel_rfl) (by kernel_rfl) (Nat.le_of_ble_eq_true rfl) trivial trivial ?_
          apply rs_eq quietRS_ok quiet_any
          · intro ρ w' ho hK
            have ho : Only _ w4 w' := ho
            obtain ⟨h0, -⟩ := hK
            have h0' : ρ (.tmp 1) = _ := h0
            have hb := only_below ho
            have q0 := (hb.cell (p := ⟨w.heap.size, 0, none⟩) z).trans p0
            have q1 := (hb.cell (p := ⟨w.heap.size, 1, none⟩) z).trans p1
            have q2 := (hb.cell (p := ⟨w.heap.size, 2, none⟩) z).trans p2
            have q3 := (hb.cell (p := ⟨w.heap.size, 3, none⟩) z).trans p3
            have q4 := (hb.cell (p := ⟨b, o + k, none⟩) hbl).trans hs0
            go_simp
            try exact rfl
          refine rs_old quietRS_ok quiet_any _ (.inl rfl) _ rfl rfl ?_
          refine rs_old quietRS_ok quiet_any _ (.inl rfl) _ rfl rfl ?_
          apply rs_eq quietRS_ok quiet_any
          · intro ρ w' ho hK
            have ho : Only _ w4 w' := ho
            obtain ⟨h0, h1, -⟩ := hK
            have h0' : ρ (.tmp 26) = _ := h0
            have h1' : ρ (.tmp 27) = _ := h1
            go_simp
            try exact rfl
          apply rs_eq quietRS_ok quiet_any
          · intro ρ w' ho hK
            have ho : Only _ w4 w' := ho
            obtain ⟨h0, -⟩ := hK
            have h0' : ρ (.tmp 28) = _ := h0
            have hb := only_below ho
            have q0 := (hb.cell (p := ⟨w.heap.size, 0, none⟩) z).trans p0
            have q1 := (hb.cell (p := ⟨w.heap.size, 1, none⟩) z).trans p1
            have q2 := (hb.cell (p := ⟨w.heap.size, 2, none⟩) z).trans p2
            have q3 := (hb.cell (p := ⟨w.heap.size, 3, none⟩) z).trans p3
            have q4 := (hb.cell (p := ⟨b, o + k, none⟩) hbl).trans hs0
            go_simp
            try exact rfl
          refine rs_old quietRS_ok quiet_any _ (.inl rfl) _ rfl rfl ?_
          refine rs_call quietRS_ok quiet_any (TEq (.int .i64 (Cir.nextOf d s' j : Nat))) (stb_eq _ _) 41 _ _ rfl (fun ρ w' ho hK => by
            have ho : Only _ w4 w' := ho
            obtain ⟨h0, h1, h2, h3, -⟩ := hK
            have h0' : ρ (.func 41) = .func (.func 41) #[] #[] := h0
            have h1' : ρ (.tmp 25) = _ := h1
            have h2' : ρ (.tmp 29) = _ := h2
            have h3' : ρ (.tmp 30) = _ := h3
            refine ⟨#[ρ (.tmp 25), ρ (.tmp 29), ρ (.tmp 30)], ?_, ?_⟩
            · go_simp
            · rw [h1', h2', h3']
              refine (l16Next_any _ d s' j w' (HC1.out.below (Hb.out.trans ((only_below ho).mono hzb))) Hd.out (by omega) (by omega)).mono ?_
              rintro e w2 ⟨rfl, hb⟩
              exact ⟨_, rfl, rfl, hb⟩) ?_
          refine rs_same quietRS_ok quiet_any 31 6 (.inr rfl) rfl _ rfl ?_
          intro f w9 k9 hk9 hI9 ht9 hcp9
          have E0 : f 0 = _ := ht9 0 (Nat.le_of_ble_eq_true rfl)
          have E1 : f 1 = _ := ht9 1 (Nat.le_of_ble_eq_true rfl)
          conv at E1 => rhs; whnf
          have E2 : f 2 = _ := ht9 2 (Nat.le_of_ble_eq_true rfl)
          conv at E2 => rhs; whnf
          have E3 : f 3 = _ := ht9 3 (Nat.le_of_ble_eq_true rfl)
          have E4 : f 4 = _ := ht9 4 (Nat.le_of_ble_eq_true rfl)
          have E5 : f 5 = _ := ht9 5 (Nat.le_of_ble_eq_true rfl)
          conv at E5 => rhs; whnf
          have E6 : f 6 = _ := ht9 6 (Nat.le_of_ble_eq_true rfl)
          have E7 : f 7 = _ := ht9 7 (Nat.le_of_ble_eq_true rfl)
          have Ho9 : Only _ w4 w9 := hI9.2.1
          simp only [putAll, E0, E1, E2, E3, E4, E5, E6, E7, Nat.zero_add, Nat.reduceAdd, Act.put, List.setIfInBounds_toArray, List.set_cons_succ, List.set_cons_zero]
          clear E0 E1 E2 E3 E4 E5 E6 E7
          clear hI9 ht9 hcp9 hk9
          have hb5 := only_below Ho9
          have Hb5 := Lib.hid (Hb.out.trans (hb5.mono hzb))
          have Ho5 := Lib.hid (own_below Ho.out hb5)
          have hz5 := hb5.size
          have hN8 : Cir.nextOf d s' j < 8 := by
            have h1 := Cir.nextOf_lt d s' j
            have h2 : 2 ^ d.next.length ≤ 2 ^ 3 := Nat.pow_le_pow_right (show 0 < 2 by decide) l2
            omega
          clear hb5 Ho Ho9 p0 p1 p2 p3 hs0
          obtain ⟨w5, hw5⟩ : ∃ w5, w5 = w9 := ⟨_, rfl⟩
          subst hw5
          generalize Cir.nextOf d s' j = N at *
          go_wp2_with fail
          refine (l16Has_any _ L N _ (own_nats Ho5.out) (by omega)).mono ?_
          rintro e w' ⟨rfl, rfl⟩
          cases hc : Cir.memB L N
          · have HP := Lib.hid (Cir.push_no hc)
            have Hlit := Lib.hid (Row.of_own (World.ownsRow_lit (base := w5.heap.size) (e := 3) (size := 1) w5 #[.int .i64 N] 1 (Nat.le_refl _) (by unfold maxLen; omega) rfl))
            clear hc
            go_wp2_with (at_builtin; refine append_ints rfl (.tmp 36) (.tmp 38) rfl w1.heap.size _ L.length (nints L) rfl (Ho5.out.alloc _) _ 1 [.int .i64 N] rfl Hlit.out (by simp [Value.oneCell']) (by omega) (by simp; omega) ?_; intro v7 w7 hown7 hg7 hat7; have Ho7 := Lib.hid hown7; have Hg7 := Lib.hid hg7; clear hown7 hg7 hat7)
            go_roundw
            case rel => exact ⟨_, j + 1, rfl, by go_num, by omega, Lib.hid (by rw [HL2.out, Hsu.out, HP.out, nints_snoc, List.length_append]; exact Ho7.out), (Hb5.out.alloc Hb5.out.size _).grown Hg7.out (Hb5.out.alloc Hb5.out.size _).size (own_ge0 Ho5.out)⟩
            case measure => simp [intOf] <;> omega
          · have HP := Lib.hid (Cir.push_yes hc)
            clear hc
            go_wp2_with fail
            go_roundw
            case rel => exact ⟨_, j + 1, rfl, by go_num, by omega, Lib.hid (by rw [HL2.out, Hsu.out, HP.out]; exact Ho5.out), Hb5.out⟩
            case measure => simp [intOf] <;> omega
        · obtain rfl : j = M := by omega
          have HMr : Hid (res = Cir.bfs d (9 - (k + 1)) (k + 1) (Cir.pushes d s j l)) := Lib.hid (by rw [hres.out, Hstep.out, HM.out])
          have Hlk := Lib.hid (show k + 1 ≤ (Cir.pushes d s j l).length by have := (List.getElem?_eq_some_iff.1 Hgj.out).1; omega)
          obtain ⟨z, p0, p1, p2, p3⟩ := PCr.out
          clear hb p1 p2 p3
          generalize Cir.pushes d s j l = L at *
          go_wp2_with fail
          go_roundw
          case rel => exact ⟨_, k + 1, L, rfl, by go_num, Hlk.out, hL8, Hst2, HMr, Ho, Hb.out⟩
          case measure => simp [intOf] <;> omega
    · obtain rfl : k = l.length := by omega
      have hr : res = l := by rw [hres.out, Cir.bfs_end]
      go_wp2_with fail
      go_ret
      exact ⟨_, rfl, by rw [hr, nats_length]; exact own_mono Ho.out (by omega), B1.out.trans (Hb.out.mono B1.out.size)⟩
theorem implReach_any (v : Value) (c : Cz) (w : World) (h : CircAt w v c) :
    Calls Try.prog 46 #[v] w (OwnInts (Cir.reachI c) w) := by
  cases hv : Cir.valid c
  · have HC := Lib.hid h
    obtain ⟨vn, vg, vo, rfl, -⟩ := h
    have B0 := Lib.hid (bel_new w (.cells #[.int .i64 c.ins, vn, vg, vo] 26))
    obtain ⟨z, p0, p1, p2, p3⟩ := PCells.boxed w c.ins vn vg vo 26
    have HV := Lib.hid (implValid_any _ _ _ (HC.out.below B0.out))
    rw [hv] at HV
    have HR : Hid (Cir.reachI c = []) := Lib.hid (by unfold Cir.reachI; rw [hv]; rfl)
    clear hv HC
    go_enter Try.func46, Try.ntmps46
    go_wp2_with fail
    refine HV.out.mono ?_
    rintro e w1 ⟨rfl, hb1⟩
    have B := Lib.hid (B0.out.trans (hb1.mono B0.out.size))
    clear hb1
    go_wp2_with fail
    go_ret
    rw [HR.out]
    exact own_nil _ _ B.out
  · obtain ⟨d1, d2⟩ := Cir.nat_ok hv
    have hr : Cir.reachI c = nats (Cir.reach (Cir.nat c)) := by unfold Cir.reachI; rw [hv]; rfl
    rw [hr]
    exact implReach_ok v (Cir.nat c) w (by rw [← d1]; exact h) d2 (by rw [← d1]; exact hv)
theorem specReach_any (v : Value) (c : Cz) (w : World) (h : CircAt w v c) :
    Calls Try.prog 50 #[v] w (OwnInts (Cir.reachI c) w) := by
  cases hv : Cir.valid c
  · have HC := Lib.hid h
    obtain ⟨vn, vg, vo, rfl, -⟩ := h
    have B0 := Lib.hid (bel_new w (.cells #[.int .i64 c.ins, vn, vg, vo] 26))
    obtain ⟨z, p0, p1, p2, p3⟩ := PCells.boxed w c.ins vn vg vo 26
    have HV := Lib.hid (specValid_any _ _ _ (HC.out.below B0.out))
    rw [hv] at HV
    have HR : Hid (Cir.reachI c = []) := Lib.hid (by unfold Cir.reachI; rw [hv]; rfl)
    clear hv HC
    go_enter Try.func50, Try.ntmps50
    go_wp2_with fail
    refine HV.out.mono ?_
    rintro e w1 ⟨rfl, hb1⟩
    have B := Lib.hid (B0.out.trans (hb1.mono B0.out.size))
    clear hb1
    go_wp2_with fail
    go_ret
    rw [HR.out]
    exact ⟨_, rfl, World.ownsRow_lit (base := w.heap.size) (e := 3) (size := 1) w1 #[] 0 B.out.size (by unfold maxLen; omega) rfl, B.out.alloc B.out.size _⟩
  · obtain ⟨d1, d2⟩ := Cir.nat_ok hv
    have hr : Cir.reachI c = nats (Cir.reach (Cir.nat c)) := by unfold Cir.reachI; rw [hv]; rfl
    rw [hr]
    exact specReach_ok v (Cir.nat c) w (by rw [← d1]; exact h) d2 (by rw [← d1]; exact hv)
end Go.Proofs.Ytdgminjbgjbamaa

namespace Go.Proofs.Ytdgminjbgjbamaa
open Go.RowKit
set_option maxRecDepth 100000
set_option maxHeartbeats 8000000 in
theorem l16Rows_any (v vf vh : Value) (d : Ci) (l : List (Nat × List Nat)) (fr how : List Nat) (k s x : Nat) (p : List Nat) (w : World) (h : CircAt w v (Cir.toCz d)) (hi : d.ins ≤ 4) (hf : NatsAt w vf fr) (hh : NatsAt w vh how) (hB : Cir.Back l fr how) (hk : l[k]? = some (s, p)) (hl : l.length ≤ 8) (hx : x ≤ 1000) (hy : ∀ y ∈ how, y ≤ 1000) :
    Calls Try.prog 40 #[v, vf, vh, .int .i64 k, .int .i64 x] w fun e w' => (∃ u, e = .returned u ∧ SSIn bools (From w.heap.size) w' u (rowsOf d.ins (p ++ [x]))) ∧ Below w.heap.size w w' := by
  obtain ⟨vn, vg, vo, rfl, r1, r2, r3⟩ := h
  obtain ⟨Af, cf, rfl, hcf, hcfm⟩ := NatsAt.shape hf
  obtain ⟨Ah, ch, rfl, hch, hchm⟩ := NatsAt.shape hh
  unfold maxLen at hcfm hchm
  have hins : (Cir.toCz d).ins = (d.ins : Int) := rfl
  rw [hins]
  have B0 := Lib.hid (bel_new w (.cells #[.int .i64 d.ins, vn, vg, vo] 26))
  have PC := Lib.hid (PCells.boxed w d.ins vn vg vo 26)
  have hsz : (w.alloc (.cells #[.int .i64 d.ins, vn, vg, vo] 26)).heap.size = w.heap.size + 1 := by simp
  have HF := Lib.hid (hf.below B0.out)
  have HH := Lib.hid (hh.below B0.out)
  have HB := Lib.hid hB
  have Hk := Lib.hid hk
  have Hy := Lib.hid hy
  have e1 := hB.l1
  have e2 := hB.l2
  have hkl := (List.getElem?_eq_some_iff.1 hk).1
  obtain ⟨z, p0, p1, p2, p3⟩ := PC.out
  clear r1 r2 r3 hins hf hh hB hk hy
  go_enter Try.func40, Try.ntmps40
  go_wp2_with fail
  generalize w.alloc (.cells #[.int .i64 d.ins, vn, vg, vo] 26) = W at *
  refine (l4Bits_any x d.ins _ (by omega) (by omega)).mono ?_
  rintro e w1 ⟨v1, rfl, ho1, hb1⟩
  obtain ⟨A1, c1, hv1⟩ := slice_of_own ho1
  subst hv1
  have hbl := bel_new w1 (.cells #[.slice A1 (Cir.bits x d.ins).length c1] 64)
  have hbW := hb1.trans (hbl.mono hb1.size)
  have HS0 : Hid (SSIn bools (From w.heap.size) (w1.alloc (.cells #[.slice A1 (Cir.bits x d.ins).length c1] 64)) (.slice (some ⟨w1.heap.size, 0, none⟩) 1 1) (rowsOf d.ins [x])) := Lib.hid ⟨[.slice A1 (Cir.bits x d.ins).length c1], rfl, (RowIn.of_own (World.ownsRow_lit (base := w1.heap.size) (e := 64) (size := 1) w1 #[.slice A1 (Cir.bits x d.ins).length c1] 1 (Nat.le_refl _) (by unfold maxLen; omega) rfl)).mono (fun g hg => by have := hg.1; have := hb1.size; unfold From; omega), fun i y u hy hu => by
    cases i with
    | zero =>
      obtain rfl := Option.some.inj hy
      obtain rfl := Option.some.inj hu
      exact ((RowIn.of_own ho1).mono (fun g hg => by have := hg.1; unfold From; omega)).below hbl
    | succ i => simp [rowsOf] at hy⟩
  have HbW := Lib.hid hbW
  have zW := hb1.size
  clear hbW hbl hb1 ho1 p0 p1 p2 p3 z
  go_wp2_with fail
  generalize w1.alloc (.cells #[.slice A1 (Cir.bits x d.ins).length c1] 64) = w2 at *
  go_loopw [3, 11] (fun i u wr => ∃ (q s' : Nat) (p' tail : List Nat) (uu : Value), uu = u ∧ i = .int .i64 q ∧ Hid (l[q]? = some (s', p')) ∧ Hid (p ++ [x] = p' ++ tail) ∧ 0 < tail.length ∧ tail.length + q ≤ 1 + k ∧ Hid (SSIn bools (From w.heap.size) wr u (rowsOf d.ins tail)) ∧ Below W.heap.size W wr) (fun i _ _ => (intOf i).toNat)
  case atStart => exact ⟨k, s, p, [x], _, rfl, rfl, Hk, Lib.hid rfl, by simp, by rw [List.length_singleton]; omega, HS0, HbW.out⟩
  case round =>
    obtain ⟨q, s', p', tail, uu, huu, rfl, Hq, Ht, ht0, ht1, HS, hb⟩ := hrel
    subst huu
    have Hb := Lib.hid hb
    have hzb := hb.size
    clear HS0 HbW
    have PCr := Lib.hid (PC.out.below hb)
    obtain ⟨z, p0, p1, p2, p3⟩ := PCr.out
    have hql := (List.getElem?_eq_some_iff.1 Hq.out).1
    clear hb
    by_cases hq0 : 0 < q
    · obtain ⟨i, y, s2, p2', f1, f2, f3, f4, f5⟩ := HB.out.step q s' p' Hq.out hq0
      have Hf4 := Lib.hid f4
      have Ht2 : Hid (p ++ [x] = p2' ++ (y :: tail)) := Lib.hid (by rw [Ht.out, f5]; simp)
      have hyl := Hy.out y (List.mem_of_getElem? f3)
      have F1 := Lib.hid f1
      obtain ⟨bh, oh, y', rfl, hbhl, hyx, hys⟩ := nats_cell (nats_row HH.out) rfl (show q < how.length by omega)
      obtain rfl : y' = y := Option.some.inj (hyx.out.symm.trans f3)
      obtain ⟨bf, of, i', rfl, hbfl, hix, his⟩ := nats_cell (nats_row HF.out) rfl (show q < fr.length by omega)
      obtain rfl : i' = i := Option.some.inj (hix.out.symm.trans F1.out)
      have hlen : (rowsOf d.ins tail).length = tail.length := rowsOf_length _ _
      obtain ⟨Au, cu, hvu, -⟩ := HS.out.at.shape
      subst hvu
      have hcons : rowsOf d.ins (y' :: tail) = Cir.bits y' d.ins :: rowsOf d.ins tail := rfl
      have Hcons := Lib.hid hcons
      have hc1 := (Hb.out.cell (p := ⟨bh, oh + q, none⟩) hbhl).trans hys
      have hdq : decide (0 < q) = true := decide_eq_true hq0
      clear f1 f3 f4 f5 hcons Ht hys
      generalize rowsOf d.ins tail = R at *
      go_wp2_with fail
      obtain ⟨w4, hw4⟩ : ∃ w4, w4 = wr := ⟨_, rfl⟩
      subst hw4
      refine wp_region_rs (quietRS Try.prog _ w4 _) quietRS_ok (by kernel_rfl) (by kernel_rfl) (by kernel_rfl) (Nat.le_of_ble_eq_true rfl) trivial trivial ?_
      refine rs_old quietRS_ok quiet_any _ (.inl rfl) _ rfl rfl ?_
      refine rs_old quietRS_ok quiet_any _ (.inl rfl) _ rfl rfl ?_
      apply rs_eq quietRS_ok quiet_any
      · intro ρ w' ho hK
        have ho : Only _ w4 w' := ho
        obtain ⟨h0, h1, -⟩ := hK
        have h0' : ρ (.tmp 19) = _ := h0
        have h1' : ρ (.tmp 20) = _ := h1
        go_simp
        try exact rfl
      apply rs_eq quietRS_ok quiet_any
      · intro ρ w' ho hK
        have ho : Only _ w4 w' := ho
        obtain ⟨h0, -⟩ := hK
        have h0' : ρ (.tmp 21) = _ := h0
        have hb := only_below ho
        have q0 := (hb.cell (p := ⟨w.heap.size, 0, none⟩) z).trans p0
        have q4 := (hb.cell (p := ⟨bh, oh + q, none⟩) (Nat.lt_of_lt_of_le hbhl hzb)).trans hc1
        go_simp
        try exact rfl
      apply rs_eq quietRS_ok quiet_any
      · intro ρ w' ho hK
        have ho : Only _ w4 w' := ho
        obtain ⟨h0, -⟩ := hK
        have h0' : ρ (.tmp 5) = _ := h0
        go_simp
        try exact rfl
      apply rs_eq quietRS_ok quiet_any
      · intro ρ w' ho hK
        have ho : Only _ w4 w' := ho
        obtain ⟨h0, -⟩ := hK
        have h0' : ρ (.tmp 23) = _ := h0
        have hb := only_below ho
        have q0 := (hb.cell (p := ⟨w.heap.size, 0, none⟩) z).trans p0
        have q4 := (hb.cell (p := ⟨bh, oh + q, none⟩) (Nat.lt_of_lt_of_le hbhl hzb)).trans hc1
        go_simp
        try exact rfl
      refine rs_call quietRS_ok quiet_any (TBits w.heap.size (Cir.bits y' d.ins)) (stb_bits _ _) 89 _ _ rfl (fun ρ w' ho hK => by
        have ho : Only _ w4 w' := ho
        obtain ⟨h0, h1, h2, -⟩ := hK
        have h0' : ρ (.func 89) = .func (.func 89) #[] #[] := h0
        have h1' : ρ (.tmp 22) = _ := h1
        have h2' : ρ (.tmp 24) = _ := h2
        refine ⟨#[ρ (.tmp 22), ρ (.tmp 24)], ?_, ?_⟩
        · go_simp
        · rw [h1', h2']
          refine (l4Bits_any y' d.ins w' (by omega) (by omega)).mono ?_
          rintro e w2 ⟨v2, rfl, hO, hb⟩
          exact ⟨v2, rfl, (RowIn.of_own hO).mono (fun g hg => by have := hg.1; have := ho.size; unfold From; omega), hb⟩) ?_
      refine rs_front0 quietRS_ok quiet_any rfl w.heap.size (show w.heap.size ≤ w4.heap.size by omega) (Cir.bits y' d.ins) (fun ρ w' ho hK => by
        obtain ⟨h0, -⟩ := hK
        have h0' : RowIn (From w.heap.size) w' 1 (ρ (.tmp 25)) (Cir.bits y' d.ins).length (bools (Cir.bits y' d.ins)) := h0
        obtain ⟨A9, c9, e9, -, -⟩ := Row.shape h0'.1
        refine ⟨.slice A9 _ c9, e9 ▸ h0', ?_⟩
        clear h0' h0
        go_simp) ?_
      refine rs_old quietRS_ok quiet_any _ (.inl rfl) _ rfl rfl ?_
      refine rs_front quietRS_ok quiet_any rfl rfl rfl rfl 26 27 w.heap.size (show w.heap.size ≤ w4.heap.size by omega) _ R _ rfl _ _ rfl rfl rfl rfl HS.out (by omega) (by omega) ?_
      refine rs_same quietRS_ok quiet_any 28 9 (.inr rfl) rfl _ rfl ?_
      intro f w9 k9 hk9 hI9 ht9 hcp9
      have E0 : f 0 = _ := ht9 0 (Nat.le_of_ble_eq_true rfl)
      conv at E0 => rhs; whnf
      have E1 : f 1 = _ := ht9 1 (Nat.le_of_ble_eq_true rfl)
      conv at E1 => rhs; whnf
      have E2 : f 2 = _ := ht9 2 (Nat.le_of_ble_eq_true rfl)
      have E3 : f 3 = _ := ht9 3 (Nat.le_of_ble_eq_true rfl)
      have E4 : f 4 = _ := ht9 4 (Nat.le_of_ble_eq_true rfl)
      have E5 : f 5 = _ := ht9 5 (Nat.le_of_ble_eq_true rfl)
      have E6 : (TBits w.heap.size (Cir.bits y' d.ins)) w9 (f 6) := ht9 6 (Nat.le_of_ble_eq_true rfl)
      have E7 : (TFront w.heap.size (Cir.bits y' d.ins)) w9 (f 7) := ht9 7 (Nat.le_of_ble_eq_true rfl)
      have E8 : f 8 = _ := ht9 8 (Nat.le_of_ble_eq_true rfl)
      conv at E8 => rhs; whnf
      have E9 : (TSS w.heap.size (Cir.bits y' d.ins :: R)) w9 (f 9) := ht9 9 (Nat.le_of_ble_eq_true rfl)
      have E10 : (TSS w.heap.size (Cir.bits y' d.ins :: R)) w9 (f 10) := ht9 10 (Nat.le_of_ble_eq_true rfl)
      have Ho9 : Only _ w4 w9 := hI9.2.1
      have C10 : f 10 = f 9 := (hcp9 10 _ 28 9 rfl rfl rfl rfl).2
      simp only [putAll, E0, E1, E2, E3, E4, E5, E8, C10, Nat.zero_add, Nat.reduceAdd, Act.put, List.setIfInBounds_toArray, List.set_cons_succ, List.set_cons_zero]
      clear E0 E1 E2 E3 E4 E5 E8
      clear hI9 ht9 hcp9 hk9
      generalize f 6 = r6 at *
      generalize f 7 = r7 at *
      generalize f 9 = r9 at *
      have hb9 := only_below Ho9
      have HS9 := Lib.hid (show SSIn bools (From w.heap.size) w9 r9 (Cir.bits y' d.ins :: R) from E9)
      have Hb9 := Lib.hid (Hb.out.trans (hb9.mono hzb))
      have hc2 := (Hb9.out.cell (p := ⟨bf, of + q, none⟩) hbfl).trans his
      clear hb9 Ho9 E9 E7 E6 p0 p1 p2 p3 z
      obtain ⟨w5, hw5⟩ : ∃ w5, w5 = w9 := ⟨_, rfl⟩
      subst hw5
      go_wp2_with fail
      go_roundw
      case rel => exact ⟨i', s2, p2', y' :: tail, _, rfl, rfl, Hf4, Ht2, by simp, by rw [List.length_cons]; omega, Lib.hid (by rw [Hcons.out]; exact HS9.out), Hb9.out⟩
      case measure => simp [intOf] <;> omega
    · obtain rfl : q = 0 := by omega
      obtain ⟨s0, h0⟩ := HB.out.zero
      have hp : p' = [] := by rw [h0] at Hq; exact (Prod.mk.inj (Option.some.inj Hq.out)).2.symm
      have HT : Hid (p ++ [x] = tail) := Lib.hid (by rw [Ht.out, hp]; rfl)
      clear hp h0
      obtain ⟨Au, cu, hvu, -⟩ := HS.out.at.shape
      subst hvu
      go_wp2_with fail
      go_ret
      exact ⟨⟨_, rfl, by rw [HT.out]; exact HS.out⟩, B0.out.trans (Hb.out.mono B0.out.size)⟩
end Go.Proofs.Ytdgminjbgjbamaa

namespace Go.Proofs.Ytdgminjbgjbamaa
open Go.RowKit
set_option maxRecDepth 100000
/-! FindViolation, by the reference. -/
def SpecViol (ins : Nat) (r : Option (List Nat)) (w : World) (e : Ending) (w' : World) : Prop := (∃ v, e = .returned (.agg #[.bool r.isSome, v]) ∧ SSAt bools w' v (vrows ins r)) ∧ Below w.heap.size w w'
structure VT (B : Nat) (l : List (Nat × List Nat)) (fr how : List Nat) (vs vf vh : Value) (w : World) : Prop where
  s : w.ownsRow B 3 1 vs l.length (nints (Cir.vsts l))
  f : w.ownsRow B 3 1 vf l.length (nints fr)
  h : w.ownsRow B 3 1 vh l.length (nints how)
  a1 : Apart vs vf
  a2 : Apart vs vh
  a3 : Apart vf vh
theorem VT.below {B : Nat} {l : List (Nat × List Nat)} {fr how : List Nat} {vs vf vh : Value} {w w' : World} (h : VT B l fr how vs vf vh w) (hb : Below w.heap.size w w') : VT B l fr how vs vf vh w' :=
  ⟨own_below h.s hb, own_below h.f hb, own_below h.h hb, h.a1, h.a2, h.a3⟩
/-- A pointer to a boolean. -/
def TPB (b : Bool) : Ty := fun w v => ∃ g i, v = .pointer (some ⟨g, i, none⟩) ∧ g < w.heap.size ∧ w.cell? ⟨g, i, none⟩ = some (.bool b)
theorem stb_pb (b : Bool) : Stb (fun _ => False) (TPB b) := by
  rintro v w w' ⟨g, i, rfl, hg, hc⟩ ho
  exact ⟨g, i, rfl, Nat.lt_of_lt_of_le hg ho.size, ((only_below ho).cell (p := ⟨g, i, none⟩) hg).trans hc⟩
set_option maxHeartbeats 16000000 in
theorem specViol_ok (v : Value) (d : Ci) (o : Nat) (w : World) (h : CircAt w v (Cir.toCz d)) (hd : Cir.Ok d) (hv : Cir.valid (Cir.toCz d) = true) (ho : o < d.outs.length) :
    Calls Try.prog 9 #[v, .int .i64 o] w (SpecViol d.ins (Cir.viol d o) w) := by
  have l1 := hd.ins
  have l2 := hd.nexts
  have l4 := hd.outss
  have HC := Lib.hid h
  obtain ⟨vn, vg, vo, rfl, r1, r2, r3⟩ := h
  obtain ⟨Ao, co, rfl, hco, hcom⟩ := NatsAt.shape (xs := d.outs) r3
  have hins : (Cir.toCz d).ins = (d.ins : Int) := rfl
  rw [hins] at HC ⊢
  have hb0 := bel_new w (.cells #[.int .i64 d.ins, vn, vg, .slice Ao d.outs.length co] 26)
  have hb1 := bel_new (w.alloc (.cells #[.int .i64 d.ins, vn, vg, .slice Ao d.outs.length co] 26)) (.cells #[.bool false, .slice none 0 0] 31)
  have B0 := Lib.hid (hb0.trans (hb1.mono hb0.size))
  have PC := Lib.hid ((PCells.boxed w d.ins vn vg (.slice Ao d.outs.length co) 26).below hb1)
  have hsz : ((w.alloc (.cells #[.int .i64 d.ins, vn, vg, .slice Ao d.outs.length co] 26)).alloc (.cells #[.bool false, .slice none 0 0] 31)).heap.size = w.heap.size + 1 + 1 := by simp
  have hR : ((w.alloc (.cells #[.int .i64 d.ins, vn, vg, .slice Ao d.outs.length co] 26)).alloc (.cells #[.bool false, .slice none 0 0] 31)).heap[w.heap.size + 1]? = some (.cells #[.bool false, .slice none 0 0] 31 (0, 0)) := by
    have := heap_alloc_new (w.alloc (.cells #[.int .i64 d.ins, vn, vg, .slice Ao d.outs.length co] 26)) (.cells #[.bool false, .slice none 0 0] 31)
    rwa [World.size_alloc] at this
  have HRes := Lib.hid hR
  obtain ⟨z, p0, p1, p2, p3⟩ := PC.out
  have HC0 := Lib.hid (HC.out.below B0.out)
  have HV := Lib.hid (specValid_any _ _ _ HC0.out)
  rw [hv] at HV
  have Hd := Lib.hid hd
  have Ho := Lib.hid ho
  obtain ⟨M, e, hM⟩ : ∃ M : Nat, (2 : Int) ^ d.ins = (M : Int) ∧ M = 2 ^ d.ins := ⟨2 ^ d.ins, two_pow d.ins, rfl⟩
  have hM16 : M ≤ 16 := by rw [hM]; exact Nat.pow_le_pow_right (show 0 < 2 by decide) l1
  have hwM := IntWalk.i64_in (M : Int) (by omega)
  have HM := Lib.hid hM
  have hwl := IntWalk.i64_in ((d.outs.length : Int) - 1) (by omega)
  have Hin := Lib.hid (fun w' => l1In_any (o : Int) 0 ((d.outs.length : Int) - 1) w')
  rw [show decide ((0 : Int) ≤ (o : Int) ∧ (o : Int) ≤ (d.outs.length : Int) - 1) = true from decide_eq_true (by omega)] at Hin
  clear r1 r2 r3 hd hins hv HC hb0 hb1 hR ho hco hcom hM
  go_enter Try.func9, Try.ntmps9
  go_wp2_with fail
  generalize (w.alloc (.cells #[.int .i64 d.ins, vn, vg, .slice Ao d.outs.length co] 26)).alloc (.cells #[.bool false, .slice none 0 0] 31) = W at *
  refine HV.out.mono ?_
  rintro e w1 ⟨rfl, hb1⟩
  have B1 := Lib.hid (B0.out.trans (hb1.mono B0.out.size))
  have HC1 := Lib.hid (HC0.out.below hb1)
  have HRes1 := Lib.hid ((hb1.block _ (by omega)).trans HRes.out)
  have PC1 := Lib.hid (PC.out.below hb1)
  have z1 := hb1.size
  clear hb1 p0 p1 p2 p3 z HV HC0 HRes PC
  obtain ⟨z, p0, p1, p2, p3⟩ := PC1.out
  have hrw := (Hin.out w1)
  go_wp2_with fail
  refine hrw.mono ?_
  rintro e w' ⟨rfl, rfl⟩
  clear hrw Hin hwl
  have hs3 : (((w1.alloc (.cells #[.int .i64 0] 3)).alloc (.cells #[.int .i64 0] 3)).alloc (.cells #[.int .i64 0] 3)).heap.size = w1.heap.size + 1 + 1 + 1 := by simp
  have HT0 : Hid (VT w1.heap.size [(0, [])] [0] [0] (.slice (some ⟨w1.heap.size, 0, none⟩) 1 1) (.slice (some ⟨w1.heap.size + 1, 0, none⟩) 1 1) (.slice (some ⟨w1.heap.size + 1 + 1, 0, none⟩) 1 1) (((w1.alloc (.cells #[.int .i64 0] 3)).alloc (.cells #[.int .i64 0] 3)).alloc (.cells #[.int .i64 0] 3))) := Lib.hid (by
    have a1 := ((World.ownsRow_lit (base := w1.heap.size) (e := 3) (size := 1) w1 #[.int .i64 0] 1 (Nat.le_refl _) (by unfold maxLen; omega) rfl).alloc (.cells #[.int .i64 0] 3)).alloc (.cells #[.int .i64 0] 3)
    have a2 := ((World.ownsRow_lit (base := w1.heap.size) (e := 3) (size := 1) (w1.alloc (.cells #[.int .i64 0] 3)) #[.int .i64 0] 1 (by simp) (by unfold maxLen; omega) rfl).alloc (.cells #[.int .i64 0] 3))
    have a3 := (World.ownsRow_lit (base := w1.heap.size) (e := 3) (size := 1) ((w1.alloc (.cells #[.int .i64 0] 3)).alloc (.cells #[.int .i64 0] 3)) #[.int .i64 0] 1 (by simp; omega) (by unfold maxLen; omega) rfl)
    rw [World.size_alloc] at a2 a3
    rw [World.size_alloc] at a3
    refine ⟨a1, a2, a3, fun g h1 h2 => ?_, fun g h1 h2 => ?_, fun g h1 h2 => ?_⟩
    all_goals
      have h3 := Option.some.inj h1
      have h4 := Option.some.inj h2
      simp only at h3 h4
      omega)
  have Bm : Hid (Below w1.heap.size w1 (((w1.alloc (.cells #[.int .i64 0] 3)).alloc (.cells #[.int .i64 0] 3)).alloc (.cells #[.int .i64 0] 3))) := Lib.hid ((((Below.refl _ _).alloc (Nat.le_refl _) _).alloc (by simp) _).alloc (by simp; omega) _)
  have hR0 : Hid (Cir.viol d o = Cir.vbfs d o (9 - 0) 0 [(0, [])]) := Lib.hid rfl
  generalize Cir.viol d o = res at *
  clear p0 p1 p2 p3
  go_wp2_with fail
  clear hs3
  go_loopw [5, 6, 7, 8] (fun vs vf vh i wr => ∃ (s' f' h' : Value) (k : Nat) (l : List (Nat × List Nat)) (fr how : List Nat), s' = vs ∧ f' = vf ∧ h' = vh ∧ i = .int .i64 k ∧ k ≤ l.length ∧ 1 ≤ l.length ∧ l.length ≤ 8 ∧ Hid (Cir.Vs d l) ∧ Hid (Cir.Back l fr how) ∧ Hid (∀ y ∈ how, y ≤ 1000) ∧ Hid (res = Cir.vbfs d o (9 - k) k l) ∧ Hid (VT w1.heap.size l fr how vs vf vh wr) ∧ Below w1.heap.size w1 wr) (fun _ _ _ i _ => 8 - (intOf i).toNat)
  case atStart => exact ⟨_, _, _, 0, [(0, [])], [0], [0], rfl, rfl, rfl, rfl, by simp, by simp, by simp, Lib.hid (Cir.Vs.zero d), Lib.hid Cir.Back.start, Lib.hid (by simp), hR0, HT0, Bm.out⟩
  case round =>
    obtain ⟨vs, vf, vh, k, l, fr, how, hs', hf', hh', rfl, hk, hpos, hl8, Hvs, HBk, Hhow, hres, HT, hb⟩ := hrel
    subst hs' hf' hh'
    clear HT0 Bm hR0
    have Hb := Lib.hid hb
    have hzb := hb.size
    obtain ⟨gs, cs, hvs', hgs, hgs2, hcs, hcsm⟩ := own_open HT.out.s (by omega)
    subst hvs'
    unfold maxLen at hcsm
    clear hb
    by_cases hlt : k < l.length
    · obtain ⟨⟨s, p⟩, hs⟩ := at_some hlt
      have Hgs := Lib.hid hs
      have hf : 9 - k = 9 - (k + 1) + 1 := by omega
      rw [hf] at hres
      have hdl : decide (k < l.length) = true := decide_eq_true hlt
      have hs8 : s < 8 := by
        have h1 := Hvs.out.sts.lt s (List.mem_of_getElem? (Cir.vsts_get hs))
        have h2 : 2 ^ d.next.length ≤ 2 ^ 3 := Nat.pow_le_pow_right (show 0 < 2 by decide) l2
        omega
      clear hs hf
      go_wp2_with fail
      obtain ⟨Wk, hWk⟩ : ∃ Wk, Wk = wr := ⟨_, rfl⟩
      subst hWk
      go_loopw [5, 6, 7, 9] (fun vs vf vh i wr => ∃ (s' f' h' : Value) (j : Nat) (fr how : List Nat), s' = vs ∧ f' = vf ∧ h' = vh ∧ i = .int .i64 j ∧ j ≤ M ∧ Hid (∀ y, y < j → Cir.bad d o s y = false) ∧ Hid (Cir.Back (Cir.vpushes d s p j l) fr how) ∧ Hid (∀ y ∈ how, y ≤ 1000) ∧ Hid (VT w1.heap.size (Cir.vpushes d s p j l) fr how vs vf vh wr) ∧ Below w1.heap.size w1 wr) (fun _ _ _ i _ => M - (intOf i).toNat)
      case atStart => exact ⟨_, _, _, 0, fr, how, rfl, rfl, rfl, rfl, Nat.zero_le _, Lib.hid (fun y hy => by omega), HBk, Hhow, HT, Hb.out⟩
      case round =>
        obtain ⟨vs, vf, vh, j, fr, how, hs', hf', hh', rfl, hj, Hnb, HBk, Hhow, HT, hb⟩ := hrel
        subst hs' hf' hh'
        have Hb := Lib.hid hb
        have hzb := hb.size
        have PCr := Lib.hid (PC1.out.below hb)
        have HCr := Lib.hid (HC1.out.below hb)
        have Hvs2 := Lib.hid (Hvs.out.pushes Hgs.out j (by rw [← HM.out]; exact hj))
        have hL8 := Hvs2.out.size Hd.out
        have Hgj := Lib.hid (Cir.vpushes_get (c := d) (s := s) (p := p) (j := j) Hgs.out)
        have Hsu := Lib.hid (Cir.vpushes_succ d s p j l)
        have hkL := (List.getElem?_eq_some_iff.1 Hgj.out).1
        obtain ⟨z, p0, p1, p2, p3⟩ := PCr.out
        clear hb
        by_cases hlj : j < M
        · obtain ⟨L2, hL2⟩ : ∃ L2, Cir.vpushes d s p (j + 1) l = L2 := ⟨_, rfl⟩
          rw [hL2] at Hsu
          have HL2 := Lib.hid hL2
          clear hL2
          generalize Cir.vpushes d s p j l = L at *
          obtain ⟨gs, cs, hvs', hgs, hgs2, hcs, hcsm⟩ := own_open HT.out.s (by omega)
          subst hvs'
          unfold maxLen at hcsm
          obtain ⟨u0, hu0, hd0, hf0⟩ := own_slot HT.out.s (j := k) (by omega)
          have hu0' : u0 = .int .i64 (s : Int) := by
            have h1 := Cir.vsts_get Hgj.out
            have h2 : (nints (Cir.vsts L))[k]? = some (.int .i64 (s : Int)) := by unfold nints ints nats; rw [List.map_map, List.getElem?_map, h1]; rfl
            exact Option.some.inj (hu0.symm.trans h2)
          subst hu0'
          have hdM : decide (j < M) = true := decide_eq_true hlj
          clear hu0 hf0
          go_wp2_with fail
          obtain ⟨w4, hw4⟩ : ∃ w4, w4 = wr := ⟨_, rfl⟩
          subst hw4
          have hol : (Cir.outsOf d s j).length = d.outs.length := outsOf_length d s j
          have Hol := Lib.hid hol
          clear hol
          have hok := Ho.out
          refine wp_region_rs (quietRS Try.prog _ w4 _) quietRS_ok (by kernel_rfl) (by kernel_rfl) (by kernel_rfl) (Nat.le_of_ble_eq_true rfl) trivial trivial ?_
          apply rs_eq quietRS_ok quiet_any
          · intro ρ w' ho hK
            have ho : Only _ w4 w' := ho
            obtain ⟨h0, -⟩ := hK
            have h0' : ρ (.tmp 2) = _ := h0
            have hb := only_below ho
            have q0 := (hb.cell (p := ⟨w.heap.size, 0, none⟩) z).trans p0
            have q1 := (hb.cell (p := ⟨w.heap.size, 1, none⟩) z).trans p1
            have q2 := (hb.cell (p := ⟨w.heap.size, 2, none⟩) z).trans p2
            have q3 := (hb.cell (p := ⟨w.heap.size, 3, none⟩) z).trans p3
            have q4 := (hb.cell (p := ⟨gs, k, none⟩) hgs2).trans hd0
            go_simp
            try exact rfl
          refine rs_old quietRS_ok quiet_any _ (.inl rfl) _ rfl rfl ?_
          refine rs_old quietRS_ok quiet_any _ (.inl rfl) _ rfl rfl ?_
          apply rs_eq quietRS_ok quiet_any
          · intro ρ w' ho hK
            have ho : Only _ w4 w' := ho
            obtain ⟨h0, h1, -⟩ := hK
            have h0' : ρ (.tmp 41) = _ := h0
            have h1' : ρ (.tmp 42) = _ := h1
            go_simp
            try exact rfl
          apply rs_eq quietRS_ok quiet_any
          · intro ρ w' ho hK
            have ho : Only _ w4 w' := ho
            obtain ⟨h0, -⟩ := hK
            have h0' : ρ (.tmp 43) = _ := h0
            have hb := only_below ho
            have q0 := (hb.cell (p := ⟨w.heap.size, 0, none⟩) z).trans p0
            have q1 := (hb.cell (p := ⟨w.heap.size, 1, none⟩) z).trans p1
            have q2 := (hb.cell (p := ⟨w.heap.size, 2, none⟩) z).trans p2
            have q3 := (hb.cell (p := ⟨w.heap.size, 3, none⟩) z).trans p3
            have q4 := (hb.cell (p := ⟨gs, k, none⟩) hgs2).trans hd0
            go_simp
            try exact rfl
          refine rs_old quietRS_ok quiet_any _ (.inl rfl) _ rfl rfl ?_
          refine rs_call quietRS_ok quiet_any (TBools (Cir.outsOf d s j)) (stb_bools _) 39 _ _ rfl (fun ρ w' ho hK => by
            have ho : Only _ w4 w' := ho
            obtain ⟨h0, h1, h2, h3, -⟩ := hK
            have h0' : ρ (.func 39) = .func (.func 39) #[] #[] := h0
            have h1' : ρ (.tmp 40) = _ := h1
            have h2' : ρ (.tmp 44) = _ := h2
            have h3' : ρ (.tmp 45) = _ := h3
            refine ⟨#[ρ (.tmp 40), ρ (.tmp 44), ρ (.tmp 45)], ?_, ?_⟩
            · go_simp
            · rw [h1', h2', h3']
              refine (l16Outs_any _ d s j w' (HCr.out.below (only_below ho)) Hd.out (by omega) (by omega)).mono ?_
              rintro e w2 ⟨⟨u, rfl, hO⟩, hb⟩
              exact ⟨u, rfl, hO, hb⟩) ?_
          refine rs_old quietRS_ok quiet_any _ (.inl rfl) _ rfl rfl ?_
          refine rs_look quietRS_ok quiet_any (TPB (Cir.bad d o s j)) (stb_pb _) (fun ρ w' ho hK => by
            obtain ⟨h0, h1, -⟩ := hK
            have h0' : BoolsAt w' (ρ (.tmp 46)) (Cir.outsOf d s j) := h0
            have h1' : ρ (.tmp 47) = .int .i64 o := h1
            obtain ⟨A9, c9, e9, -, hc9⟩ := Row.shape h0'
            unfold maxLen at hc9
            unfold BoolsAt at h0'
            rw [e9] at h0'
            obtain ⟨b', o', x9, hA, hbl', hx, hcell⟩ := bools_open (w := w') (wr := w') h0' (Below.refl _ _) (i := o) rfl (by rw [Hol.out]; exact hok)
            subst hA
            rw [Hol.out] at e9
            have hxb : x9 = Cir.bad d o s j := by unfold Cir.bad; rw [List.getD_eq_getElem?_getD, hx.out]; rfl
            refine ⟨.pointer (some ⟨b', o' + o, none⟩), ?_, b', o' + o, rfl, hbl', by rw [← hxb]; exact hcell⟩
            clear hx hcell hxb h0' h0 h1
            go_simp) ?_
          apply rs_eq quietRS_ok quiet_any
          · intro ρ w' ho hK
            have ho : Only _ w4 w' := ho
            obtain ⟨h0, -⟩ := hK
            have h0' : (TPB (Cir.bad d o s j)) w' (ρ (.tmp 48)) := h0
            have hb := only_below ho
            have q0 := (hb.cell (p := ⟨w.heap.size, 0, none⟩) z).trans p0
            have q1 := (hb.cell (p := ⟨w.heap.size, 1, none⟩) z).trans p1
            have q2 := (hb.cell (p := ⟨w.heap.size, 2, none⟩) z).trans p2
            have q3 := (hb.cell (p := ⟨w.heap.size, 3, none⟩) z).trans p3
            have q4 := (hb.cell (p := ⟨gs, k, none⟩) hgs2).trans hd0
            obtain ⟨g9, i9, e9, hg9, hc9⟩ := h0'
            go_simp
            try exact rfl
          intro f w9 k9 hk9 hI9 ht9 hcp9
          have E0 : f 0 = _ := ht9 0 (Nat.le_of_ble_eq_true rfl)
          have E1 : f 1 = _ := ht9 1 (Nat.le_of_ble_eq_true rfl)
          conv at E1 => rhs; whnf
          have E2 : f 2 = _ := ht9 2 (Nat.le_of_ble_eq_true rfl)
          conv at E2 => rhs; whnf
          have E3 : f 3 = _ := ht9 3 (Nat.le_of_ble_eq_true rfl)
          have E4 : f 4 = _ := ht9 4 (Nat.le_of_ble_eq_true rfl)
          have E5 : f 5 = _ := ht9 5 (Nat.le_of_ble_eq_true rfl)
          conv at E5 => rhs; whnf
          have E6 : (TBools (Cir.outsOf d s j)) w9 (f 6) := ht9 6 (Nat.le_of_ble_eq_true rfl)
          have E7 : f 7 = _ := ht9 7 (Nat.le_of_ble_eq_true rfl)
          conv at E7 => rhs; whnf
          have E8 : (TPB (Cir.bad d o s j)) w9 (f 8) := ht9 8 (Nat.le_of_ble_eq_true rfl)
          have E9 : f 9 = _ := ht9 9 (Nat.le_of_ble_eq_true rfl)
          have Ho9 : Only _ w4 w9 := hI9.2.1
          simp only [putAll, E0, E1, E2, E3, E4, E5, E7, E9, Nat.zero_add, Nat.reduceAdd, Act.put, List.setIfInBounds_toArray, List.set_cons_succ, List.set_cons_zero]
          clear E0 E1 E2 E3 E4 E5 E7 E9
          clear hI9 ht9 hcp9 hk9
          generalize f 6 = r6 at *
          generalize f 8 = r8 at *
          have hb9 := only_below Ho9
          have HT9 := Lib.hid (HT.out.below hb9)
          have Hb9 := Lib.hid (Hb.out.trans (hb9.mono hzb))
          have PC9 := Lib.hid (PCr.out.below hb9)
          have HC9 := Lib.hid (HCr.out.below hb9)
          have hz9 := hb9.size
          have hd9 := (hb9.cell (p := ⟨gs, k, none⟩) hgs2).trans hd0
          clear hb9 Ho9 p0 p1 p2 p3 z hd0 HT E6 E8
          obtain ⟨w5, hw5⟩ : ∃ w5, w5 = w9 := ⟨_, rfl⟩
          subst hw5
          obtain ⟨z, p0, p1, p2, p3⟩ := PC9.out
          cases hbad : Cir.bad d o s j
          · have Hnb2 : Hid (∀ y, y < j + 1 → Cir.bad d o s y = false) := Lib.hid (fun y hy => by
              rcases Nat.lt_or_ge y j with h | h
              · exact Hnb.out y h
              · obtain rfl : y = j := by omega
                exact hbad)
            clear hbad Hnb
            go_wp2_with fail
            refine wp_region_rs (quietRS Try.prog _ w5 _) quietRS_ok (by kernel_rfl) (by kernel_rfl) (by kernel_rfl) (Nat.le_of_ble_eq_true rfl) trivial trivial ?_
            apply rs_eq quietRS_ok quiet_any
            · intro ρ w' ho hK
              have ho : Only _ w5 w' := ho
              obtain ⟨h0, -⟩ := hK
              have h0' : ρ (.tmp 2) = _ := h0
              have hb := only_below ho
              have q0 := (hb.cell (p := ⟨w.heap.size, 0, none⟩) z).trans p0
              have q1 := (hb.cell (p := ⟨w.heap.size, 1, none⟩) z).trans p1
              have q2 := (hb.cell (p := ⟨w.heap.size, 2, none⟩) z).trans p2
              have q3 := (hb.cell (p := ⟨w.heap.size, 3, none⟩) z).trans p3
              have q4 := (hb.cell (p := ⟨gs, k, none⟩) (Nat.lt_of_lt_of_le hgs2 hz9)).trans hd9
              go_simp
              try exact rfl
            refine rs_old quietRS_ok quiet_any _ (.inl rfl) _ rfl rfl ?_
            refine rs_old quietRS_ok quiet_any _ (.inl rfl) _ rfl rfl ?_
            apply rs_eq quietRS_ok quiet_any
            · intro ρ w' ho hK
              have ho : Only _ w5 w' := ho
              obtain ⟨h0, h1, -⟩ := hK
              have h0' : ρ (.tmp 58) = _ := h0
              have h1' : ρ (.tmp 59) = _ := h1
              go_simp
              try exact rfl
            apply rs_eq quietRS_ok quiet_any
            · intro ρ w' ho hK
              have ho : Only _ w5 w' := ho
              obtain ⟨h0, -⟩ := hK
              have h0' : ρ (.tmp 60) = _ := h0
              have hb := only_below ho
              have q0 := (hb.cell (p := ⟨w.heap.size, 0, none⟩) z).trans p0
              have q1 := (hb.cell (p := ⟨w.heap.size, 1, none⟩) z).trans p1
              have q2 := (hb.cell (p := ⟨w.heap.size, 2, none⟩) z).trans p2
              have q3 := (hb.cell (p := ⟨w.heap.size, 3, none⟩) z).trans p3
              have q4 := (hb.cell (p := ⟨gs, k, none⟩) (Nat.lt_of_lt_of_le hgs2 hz9)).trans hd9
              go_simp
              try exact rfl
            refine rs_old quietRS_ok quiet_any _ (.inl rfl) _ rfl rfl ?_
            refine rs_call quietRS_ok quiet_any (TEq (.int .i64 (Cir.nextOf d s j : Nat))) (stb_eq _ _) 41 _ _ rfl (fun ρ w' ho hK => by
              have ho : Only _ w5 w' := ho
              obtain ⟨h0, h1, h2, h3, -⟩ := hK
              have h0' : ρ (.func 41) = .func (.func 41) #[] #[] := h0
              have h1' : ρ (.tmp 57) = _ := h1
              have h2' : ρ (.tmp 61) = _ := h2
              have h3' : ρ (.tmp 62) = _ := h3
              refine ⟨#[ρ (.tmp 57), ρ (.tmp 61), ρ (.tmp 62)], ?_, ?_⟩
              · go_simp
              · rw [h1', h2', h3']
                refine (l16Next_any _ d s j w' (HC9.out.below (only_below ho)) Hd.out (by omega) (by omega)).mono ?_
                rintro e w2 ⟨rfl, hb⟩
                exact ⟨_, rfl, rfl, hb⟩) ?_
            refine rs_same quietRS_ok quiet_any 63 6 (.inr rfl) rfl _ rfl ?_
            intro f w9 k9 hk9 hI9 ht9 hcp9
            have E0 : f 0 = _ := ht9 0 (Nat.le_of_ble_eq_true rfl)
            have E1 : f 1 = _ := ht9 1 (Nat.le_of_ble_eq_true rfl)
            conv at E1 => rhs; whnf
            have E2 : f 2 = _ := ht9 2 (Nat.le_of_ble_eq_true rfl)
            conv at E2 => rhs; whnf
            have E3 : f 3 = _ := ht9 3 (Nat.le_of_ble_eq_true rfl)
            have E4 : f 4 = _ := ht9 4 (Nat.le_of_ble_eq_true rfl)
            have E5 : f 5 = _ := ht9 5 (Nat.le_of_ble_eq_true rfl)
            conv at E5 => rhs; whnf
            have E6 : f 6 = _ := ht9 6 (Nat.le_of_ble_eq_true rfl)
            have E7 : f 7 = _ := ht9 7 (Nat.le_of_ble_eq_true rfl)
            have Ho9 : Only _ w5 w9 := hI9.2.1
            simp only [putAll, E0, E1, E2, E3, E4, E5, E6, E7, Nat.zero_add, Nat.reduceAdd, Act.put, List.setIfInBounds_toArray, List.set_cons_succ, List.set_cons_zero]
            clear E0 E1 E2 E3 E4 E5 E6 E7
            clear hI9 ht9 hcp9 hk9
            have hb6 := only_below Ho9
            have HT6 := Lib.hid (HT9.out.below hb6)
            have Hb6 := Lib.hid (Hb9.out.trans (hb6.mono (by omega)))
            have hz6 := hb6.size
            clear hb6 Ho9 p0 p1 p2 p3 z hd9 HT9
            obtain ⟨w6, hw6⟩ : ∃ w6, w6 = w9 := ⟨_, rfl⟩
            subst hw6
            have hN8 : Cir.nextOf d s j < 8 := by
              have h1 := Cir.nextOf_lt d s j
              have h2 : 2 ^ d.next.length ≤ 2 ^ 3 := Nat.pow_le_pow_right (show 0 < 2 by decide) l2
              omega
            generalize Cir.nextOf d s j = N at *
            go_wp2_with fail
            refine (l16Has_any _ (Cir.vsts L) N _ (own_nats (by rw [Cir.vsts_length]; exact HT6.out.s)) (by omega)).mono ?_
            rintro e w' ⟨rfl, rfl⟩
            cases hc : Cir.memB (Cir.vsts L) N
            · have HPu := Lib.hid (Cir.vpush_no (p := p ++ [j]) hc)
              have HBn := Lib.hid (HBk.out.snoc (n := N) (x := j) Hgj.out)
              have Hhn : Hid (∀ y ∈ how ++ [j], y ≤ 1000) := Lib.hid (fun y hy => by
                rcases List.mem_append.1 hy with hy | hy
                · exact Hhow.out y hy
                · obtain rfl := List.mem_singleton.1 hy; omega)
              obtain ⟨Af, cf, hvf⟩ := slice_of_own HT6.out.f
              obtain ⟨Ah, ch, hvh⟩ := slice_of_own HT6.out.h
              subst hvf hvh
              have hz1r : w1.heap.size ≤ w6.heap.size := by omega
              have Hl6 := Lib.hid (Row.of_own (World.ownsRow_lit (base := w6.heap.size) (e := 3) (size := 1) w6 #[.int .i64 N] 1 (Nat.le_refl _) (by unfold maxLen; omega) rfl))
              clear hc
              go_wp2_with (first
                | (at_builtin; refine append_ints rfl (.tmp 68) (.tmp 70) rfl w1.heap.size _ L.length (nints (Cir.vsts L)) rfl (HT6.out.s.alloc _) _ 1 [.int .i64 N] rfl Hl6.out (by simp [Value.oneCell']) (by omega) (by simp; omega) ?_; intro va wa howna hga hata; obtain ⟨Aa, ca, hva⟩ := slice_of_own howna; subst hva; have Ga := Lib.hid howna; have Hga := Lib.hid hga; have Hata := Lib.hid hata; have hza := hga.size; rw [World.size_alloc] at hza; have Fa := Lib.hid (own_kept (HT6.out.f.alloc (.cells #[.int .i64 N] 3)) hga (fun g h1 h2 => HT6.out.a1 g h2 h1)); have Ha := Lib.hid (own_kept (HT6.out.h.alloc (.cells #[.int .i64 N] 3)) hga (fun g h1 h2 => HT6.out.a2 g h2 h1)); have Hla := Lib.hid (Row.of_own (World.ownsRow_lit (base := wa.heap.size) (e := 3) (size := 1) wa #[.int .i64 k] 1 (Nat.le_refl _) (by unfold maxLen; omega) rfl)); clear howna hga hata)
                | (at_builtin; refine append_ints rfl (.tmp 72) (.tmp 74) rfl w1.heap.size _ L.length (nints fr) rfl (Fa.out.alloc _) _ 1 [.int .i64 k] rfl Hla.out (by simp [Value.oneCell']) (by omega) (by simp; omega) ?_; intro vb wb hownb hgb hatb; obtain ⟨Ab, cb, hvb⟩ := slice_of_own hownb; subst hvb; have Fb := Lib.hid hownb; have Hgb := Lib.hid hgb; have Hatb := Lib.hid hatb; have hzb2 := hgb.size; rw [World.size_alloc] at hzb2; have Hb := Lib.hid (own_kept (Ha.out.alloc (.cells #[.int .i64 k] 3)) hgb (fun g h1 h2 => HT6.out.a3 g h2 h1)); have Aab := Lib.hid (apart_new HT6.out.a1 Hata.out (fun g hg => by rw [World.size_alloc]; have := (HT6.out.f.lt g hg).2; omega)); have Gb := Lib.hid (own_kept (Ga.out.alloc (.cells #[.int .i64 k] 3)) hgb (fun g h1 h2 => Aab.out g h1 h2)); have Hlb := Lib.hid (Row.of_own (World.ownsRow_lit (base := wb.heap.size) (e := 3) (size := 1) wb #[.int .i64 j] 1 (Nat.le_refl _) (by unfold maxLen; omega) rfl)); clear hownb hgb hatb)
                | (at_builtin; refine append_ints rfl (.tmp 76) (.tmp 78) rfl w1.heap.size _ L.length (nints how) rfl (Hb.out.alloc _) _ 1 [.int .i64 j] rfl Hlb.out (by simp [Value.oneCell']) (by omega) (by simp; omega) ?_; intro vc wc hownc hgc hatc; obtain ⟨Ac, cc, hvc⟩ := slice_of_own hownc; subst hvc; have Hc := Lib.hid hownc; have Hgc := Lib.hid hgc; have Hatc := Lib.hid hatc; clear hownc hgc hatc))
              have HT8 : Hid (VT w1.heap.size (L ++ [(N, p ++ [j])]) (fr ++ [k]) (how ++ [j]) (.slice Aa (L.length + 1) ca) (.slice Ab (L.length + 1) cb) (.slice Ac (L.length + 1) cc) wc) := Lib.hid (by
                have A13 := apart_new HT6.out.a2 Hata.out (fun g hg => by rw [World.size_alloc]; have := (HT6.out.h.lt g hg).2; omega)
                have A12 := (apart_new Aab.out.symm Hatb.out (fun g hg => by rw [World.size_alloc]; have := (Ga.out.lt g hg).2; omega)).symm
                have A23 := apart_new HT6.out.a3 Hatb.out (fun g hg => by rw [World.size_alloc]; have := (Ha.out.lt g hg).2; omega)
                have B13 := (apart_new A13.symm Hatc.out (fun g hg => by rw [World.size_alloc]; have := (Gb.out.lt g hg).2; omega)).symm
                have B23 := (apart_new A23.symm Hatc.out (fun g hg => by rw [World.size_alloc]; have := (Fb.out.lt g hg).2; omega)).symm
                refine ⟨?_, ?_, ?_, A12, B13, B23⟩
                · rw [List.length_append, List.length_singleton, show Cir.vsts (L ++ [(N, p ++ [j])]) = Cir.vsts L ++ [N] from by unfold Cir.vsts; simp, nints_snoc]
                  exact own_kept (Gb.out.alloc _) Hgc.out (fun g h1 h2 => A13 g h1 h2)
                · rw [List.length_append, List.length_singleton, nints_snoc]
                  exact own_kept (Fb.out.alloc _) Hgc.out (fun g h1 h2 => A23 g h1 h2)
                · rw [List.length_append, List.length_singleton, nints_snoc]
                  exact Hc.out)
              go_roundw
              case rel => exact ⟨_, _, _, j + 1, fr ++ [k], how ++ [j], rfl, rfl, rfl, by go_num, by omega, Hnb2, Lib.hid (by rw [HL2.out, Hsu.out, HPu.out]; exact HBn.out), Hhn, Lib.hid (by rw [HL2.out, Hsu.out, HPu.out]; exact HT8.out), by
                have b1 := (Hb6.out.alloc Hb6.out.size (.cells #[.int .i64 N] 3)).grown Hga.out (Hb6.out.alloc Hb6.out.size _).size (own_ge0 HT6.out.s)
                have b2 := (b1.alloc b1.size (.cells #[.int .i64 k] 3)).grown Hgb.out (b1.alloc b1.size _).size (own_ge0 Fa.out)
                exact (b2.alloc b2.size (.cells #[.int .i64 j] 3)).grown Hgc.out (b2.alloc b2.size _).size (own_ge0 Hb.out)⟩
              case measure => simp [intOf] <;> omega
            · have HPu := Lib.hid (Cir.vpush_yes (p := p ++ [j]) hc)
              clear hc
              go_wp2_with fail
              go_roundw
              case rel => exact ⟨_, _, _, j + 1, fr, how, rfl, rfl, rfl, by go_num, by omega, Hnb2, Lib.hid (by rw [HL2.out, Hsu.out, HPu.out]; exact HBk.out), Hhow, Lib.hid (by rw [HL2.out, Hsu.out, HPu.out]; exact HT6.out), Hb6.out⟩
              case measure => simp [intOf] <;> omega
          · have Hf := Lib.hid (Cir.vfind_some (M := 2 ^ d.ins) (by rw [← HM.out]; exact hlj) hbad Hnb.out)
            clear hbad Hnb
            have Hr : res = some (p ++ [j]) := by rw [hres.out]; exact Cir.vbfs_hit Hgs.out Hf.out
            clear hres Hf
            subst Hr
            have hl1 := HBk.out.l1
            have hl2 := HBk.out.l2
            have HF9 : Hid (NatsAt w5 vf fr) := Lib.hid (own_nats (by rw [hl1]; exact HT9.out.f))
            have HH9 : Hid (NatsAt w5 vh how) := Lib.hid (own_nats (by rw [hl2]; exact HT9.out.h))
            go_wp2_with fail
            refine (l16Rows_any _ vf vh d L fr how k s j p _ HC9.out (by omega) HF9.out HH9.out HBk.out Hgj.out hL8 (by omega) Hhow.out).mono ?_
            rintro e w6 ⟨⟨u, rfl, hS6⟩, hb6⟩
            have hR2 := (Hb9.out.block (w.heap.size + 1) (by omega)).trans HRes1.out
            have hR6 := (hb6.block (w.heap.size + 1) (by omega)).trans hR2
            have o0 := blk_cell hR6 0
            have o1 := blk_cell hR6 1
            have b0 := blk_free hR6 0
            have b1 := blk_free hR6 1
            simp at o0 o1
            have B6 := Lib.hid ((B1.out.trans (Hb9.out.mono B1.out.size)).trans (hb6.mono (by omega)))
            obtain ⟨Au, cu, hvu, -⟩ := hS6.at.shape
            subst hvu
            have HS6 := Lib.hid hS6
            have z6 := hb6.size
            clear hR2 hR6 hb6 hS6 p0 p1 p2 p3
            go_wp2_with fail
            refine bodyPost_ret (v := .agg #[.bool true, .slice Au (rowsOf d.ins (p ++ [j])).length cu]) (by simp [results, Try.results9, go_sem, o0, o1]) rfl ⟨⟨_, rfl, ?_⟩, ?_⟩
            · refine ((HS6.out.only (E := fun g => g = w.heap.size + 1) (Only.grown (set_grown _ _ _ _) (fun k hk => (Option.some.inj hk).symm)) ?_).only (E := fun g => g = w.heap.size + 1) (Only.grown (set_grown _ _ _ _) (fun k hk => (Option.some.inj hk).symm)) ?_).at
              · intro g hg e; unfold From at hg; omega
              · intro g hg e; unfold From at hg; omega
            · exact ((B6.out.setCell (by simp only; omega) _).setCell (by simp only; omega) _)
        · obtain rfl : j = M := by omega
          have Hf := Lib.hid (Cir.vfind_none (M := 2 ^ d.ins) (by rw [← HM.out]; exact Hnb.out))
          have HMr : Hid (res = Cir.vbfs d o (9 - (k + 1)) (k + 1) (Cir.vpushes d s p j l)) := Lib.hid (by rw [hres.out, Cir.vbfs_step Hgs.out Hf.out, HM.out])
          clear Hnb
          generalize Cir.vpushes d s p j l = L at *
          clear p1 p2 p3
          go_wp2_with fail
          go_roundw
          case rel => exact ⟨_, _, _, k + 1, L, fr, how, rfl, rfl, rfl, by go_num, by omega, by omega, hL8, Hvs2, HBk, Hhow, HMr, HT, Hb.out⟩
          case measure => simp [intOf] <;> omega
    · obtain rfl : k = l.length := by omega
      have hr : res = none := by rw [hres.out, Cir.vbfs_end]
      subst hr
      have hR2 := (Hb.out.block (w.heap.size + 1) (by omega)).trans HRes1.out
      have o0 := blk_cell hR2 0
      have o1 := blk_cell hR2 1
      have b0 := blk_free hR2 0
      have b1 := blk_free hR2 1
      simp at o0 o1
      have B2 := Lib.hid (B1.out.trans (Hb.out.mono B1.out.size))
      clear hR2
      go_wp2_with fail
      refine bodyPost_ret (v := .agg #[.bool false, .slice none 0 0]) (by simp [results, Try.results9, go_sem, o0, o1]) rfl ⟨⟨_, rfl, SSAt.nil _ _⟩, ?_⟩
      exact ((B2.out.setCell (by simp only; omega) _).setCell (by simp only; omega) _)
end Go.Proofs.Ytdgminjbgjbamaa

namespace Go.Proofs.Ytdgminjbgjbamaa
open Go.RowKit
set_option maxRecDepth 100000
set_option maxHeartbeats 4000000
theorem valid_outs {c : Cz} (h : Cir.valid c = true) : c.outs.length ≤ 3 := (valid_sizes h).2.2.2.2
theorem specViol_no (v : Value) (c : Cz) (o : Int) (w : World) (h : CircAt w v c) (hno : Cir.valid c = false ∨ (Cir.valid c = true ∧ ¬ (0 ≤ o ∧ o < c.outs.length))) :
    Calls Try.prog 9 #[v, .int .i64 o] w (SpecViol (Cir.nat c).ins none w) := by
  have HC := Lib.hid h
  obtain ⟨An, cn, Ag, cg, Ao, co, rfl⟩ := h.shape
  have hb0 := bel_new w (.cells #[.int .i64 c.ins, .slice An c.next.length cn, .slice Ag c.gates.length cg, .slice Ao c.outs.length co] 26)
  have hb1 := bel_new (w.alloc (.cells #[.int .i64 c.ins, .slice An c.next.length cn, .slice Ag c.gates.length cg, .slice Ao c.outs.length co] 26)) (.cells #[.bool false, .slice none 0 0] 31)
  have B0 := Lib.hid (hb0.trans (hb1.mono hb0.size))
  have PC := Lib.hid ((PCells.boxed w c.ins (.slice An c.next.length cn) (.slice Ag c.gates.length cg) (.slice Ao c.outs.length co) 26).below hb1)
  have hsz : ((w.alloc (.cells #[.int .i64 c.ins, .slice An c.next.length cn, .slice Ag c.gates.length cg, .slice Ao c.outs.length co] 26)).alloc (.cells #[.bool false, .slice none 0 0] 31)).heap.size = w.heap.size + 1 + 1 := by simp
  have hR : ((w.alloc (.cells #[.int .i64 c.ins, .slice An c.next.length cn, .slice Ag c.gates.length cg, .slice Ao c.outs.length co] 26)).alloc (.cells #[.bool false, .slice none 0 0] 31)).heap[w.heap.size + 1]? = some (.cells #[.bool false, .slice none 0 0] 31 (0, 0)) := by
    have := heap_alloc_new (w.alloc (.cells #[.int .i64 c.ins, .slice An c.next.length cn, .slice Ag c.gates.length cg, .slice Ao c.outs.length co] 26)) (.cells #[.bool false, .slice none 0 0] 31)
    rwa [World.size_alloc] at this
  have HRes := Lib.hid hR
  obtain ⟨z, p0, p1, p2, p3⟩ := PC.out
  have HV := Lib.hid (specValid_any _ _ _ (HC.out.below B0.out))
  have Hno := Lib.hid hno
  clear HC hb0 hb1 hR hno
  rcases Hno.out with hv | ⟨hv, h1⟩
  ·
    rw [hv] at HV
    skip
    clear hv Hno
    go_enter Try.func9, Try.ntmps9
    go_wp2_with fail
    generalize (w.alloc (.cells #[.int .i64 c.ins, .slice An c.next.length cn, .slice Ag c.gates.length cg, .slice Ao c.outs.length co] 26)).alloc (.cells #[.bool false, .slice none 0 0] 31) = W at *
    refine HV.out.mono ?_
    rintro e w1 ⟨rfl, hb1⟩
    have B1 := Lib.hid (B0.out.trans (hb1.mono B0.out.size))
    have PC1 := Lib.hid (PC.out.below hb1)
    have hR1 := (hb1.block _ (by omega)).trans HRes.out
    have z1 := hb1.size
    have o0 := blk_cell hR1 0
    have o1 := blk_cell hR1 1
    have b0 := blk_free hR1 0
    have b1 := blk_free hR1 1
    simp at o0 o1
    clear hb1 hR1 p0 p1 p2 p3 z HV HRes PC
    obtain ⟨z, p0, p1, p2, p3⟩ := PC1.out
    go_wp2_with fail
    refine bodyPost_ret (v := .agg #[.bool false, .slice none 0 0]) (by simp [results, Try.results9, go_sem, o0, o1]) rfl ⟨⟨_, rfl, SSAt.nil _ _⟩, ?_⟩
    exact ((B1.out.setCell (by simp only; omega) _).setCell (by simp only; omega) _)
  ·
    rw [hv] at HV
    have hl := valid_outs hv
    have hwl := IntWalk.i64_in ((c.outs.length : Int) - 1) (by omega)
    have Hin := Lib.hid (fun w' => l1In_any o 0 ((c.outs.length : Int) - 1) w')
    rw [show decide (0 ≤ o ∧ o ≤ (c.outs.length : Int) - 1) = false from decide_eq_false (by omega)] at Hin
    clear h1 hl
    clear hv Hno
    go_enter Try.func9, Try.ntmps9
    go_wp2_with fail
    generalize (w.alloc (.cells #[.int .i64 c.ins, .slice An c.next.length cn, .slice Ag c.gates.length cg, .slice Ao c.outs.length co] 26)).alloc (.cells #[.bool false, .slice none 0 0] 31) = W at *
    refine HV.out.mono ?_
    rintro e w1 ⟨rfl, hb1⟩
    have B1 := Lib.hid (B0.out.trans (hb1.mono B0.out.size))
    have PC1 := Lib.hid (PC.out.below hb1)
    have hR1 := (hb1.block _ (by omega)).trans HRes.out
    have z1 := hb1.size
    have o0 := blk_cell hR1 0
    have o1 := blk_cell hR1 1
    have b0 := blk_free hR1 0
    have b1 := blk_free hR1 1
    simp at o0 o1
    clear hb1 hR1 p0 p1 p2 p3 z HV HRes PC
    obtain ⟨z, p0, p1, p2, p3⟩ := PC1.out
    go_wp2_with fail
    refine (Hin.out w1).mono ?_
    rintro e w' ⟨rfl, rfl⟩
    clear Hin hwl
    go_wp2_with fail
    refine bodyPost_ret (v := .agg #[.bool false, .slice none 0 0]) (by simp [results, Try.results9, go_sem, o0, o1]) rfl ⟨⟨_, rfl, SSAt.nil _ _⟩, ?_⟩
    exact ((B1.out.setCell (by simp only; omega) _).setCell (by simp only; omega) _)
theorem specViol_any (v : Value) (c : Cz) (o : Int) (w : World) (h : CircAt w v c) :
    Calls Try.prog 9 #[v, .int .i64 o] w (SpecViol (Cir.nat c).ins (Cir.violI c o) w) := by
  by_cases hc : Cir.valid c = true ∧ 0 ≤ o ∧ o < c.outs.length
  · obtain ⟨d1, d2⟩ := Cir.nat_ok hc.1
    obtain ⟨m, rfl⟩ := Int.eq_ofNat_of_zero_le hc.2.1
    have hr : Cir.violI c (m : Int) = Cir.viol (Cir.nat c) m := by unfold Cir.violI; rw [if_pos hc]; rfl
    rw [hr]
    exact specViol_ok v (Cir.nat c) m w (by rw [← d1]; exact h) d2 (by rw [← d1]; exact hc.1) (by have := hc.2.2; unfold Cir.nat; simp only [List.length_map]; omega)
  · have hr : Cir.violI c o = none := by unfold Cir.violI; rw [if_neg hc]
    rw [hr]
    refine specViol_no v c o w h ?_
    cases hv : Cir.valid c
    · exact .inl rfl
    · exact .inr ⟨rfl, fun hh => hc ⟨hv, hh⟩⟩
/-! Invariants. -/
theorem inv_out {o : Int} {n : Nat} {b : Bool} (h : ¬ (0 ≤ o ∧ o < (n : Int))) : (true && (decide (0 ≤ o) && (decide (o < (n : Int)) && b))) = false := by
  by_cases h2 : 0 ≤ o
  · rw [decide_eq_true h2, decide_eq_false (show ¬ o < (n : Int) from fun hh => h ⟨h2, hh⟩)]; rfl
  · rw [decide_eq_false h2]; rfl
theorem viol_field0 (b : Bool) (A : Option Addr) (n c : Nat) (w : World) : (Instr.field 31 (.agg #[.bool b, .slice A n c]) 0).run Try.prog w = .ok (.bool b) w := by kernel_rfl
def Cir.invI (c : Cz) (o : Int) : Bool := Cir.valid c && (decide (0 ≤ o) && (decide (o < c.outs.length) && !(Cir.violI c o).isSome))
theorem implInv_any (v : Value) (c : Cz) (o : Int) (w : World) (h : CircAt w v c) :
    Calls Try.prog 23 #[v, .int .i64 o] w fun e w' => e = .returned (.bool (Cir.invI c o)) ∧ Below w.heap.size w w' := by
  have HC := Lib.hid h
  obtain ⟨An, cn, Ag, cg, Ao, co, rfl⟩ := h.shape
  have B0 := Lib.hid (bel_new w (.cells #[.int .i64 c.ins, .slice An c.next.length cn, .slice Ag c.gates.length cg, .slice Ao c.outs.length co] 26))
  have PC := Lib.hid (PCells.boxed w c.ins (.slice An c.next.length cn) (.slice Ag c.gates.length cg) (.slice Ao c.outs.length co) 26)
  have hsz : (w.alloc (.cells #[.int .i64 c.ins, .slice An c.next.length cn, .slice Ag c.gates.length cg, .slice Ao c.outs.length co] 26)).heap.size = w.heap.size + 1 := by simp
  obtain ⟨z, p0, p1, p2, p3⟩ := PC.out
  have HC0 := Lib.hid (HC.out.below B0.out)
  have HV := Lib.hid (implValid_any _ _ _ HC0.out)
  clear HC h
  cases hv : Cir.valid c
  · rw [hv] at HV
    have HR : Hid (Cir.invI c o = false) := Lib.hid (by unfold Cir.invI; rw [hv]; rfl)
    rw [HR.out]
    clear HR hv
    go_enter Try.func23, Try.ntmps23
    go_wp2_with fail
    refine HV.out.mono ?_
    rintro e w1 ⟨rfl, hb1⟩
    have B1 := Lib.hid (B0.out.trans (hb1.mono B0.out.size))
    clear hb1
    go_wp2_with fail
    go_ret
    exact ⟨rfl, B1.out⟩
  · rw [hv] at HV
    have hl := valid_outs hv
    by_cases h0 : o < 0
    · have t0 : decide (0 ≤ o) = false := decide_eq_false (by omega)
      have HR : Hid (Cir.invI c o = false) := Lib.hid (by unfold Cir.invI; rw [hv, t0]; rfl)
      rw [HR.out]
      clear HR hv hl h0
      go_enter Try.func23, Try.ntmps23
      go_wp2_with fail
      generalize w.alloc (.cells #[.int .i64 c.ins, .slice An c.next.length cn, .slice Ag c.gates.length cg, .slice Ao c.outs.length co] 26) = W at *
      refine HV.out.mono ?_
      rintro e w1 ⟨rfl, hb1⟩
      have B1 := Lib.hid (B0.out.trans (hb1.mono B0.out.size))
      have HC1 := Lib.hid (HC0.out.below hb1)
      have PC1 := Lib.hid (PC.out.below hb1)
      have z1 := hb1.size
      clear hb1 p0 p1 p2 p3 z HV PC HC0
      obtain ⟨z, p0, p1, p2, p3⟩ := PC1.out
      go_wp2_with fail
      go_ret
      exact ⟨rfl, B1.out⟩
    · by_cases h1 : (c.outs.length : Int) ≤ o
      · have t0 : decide (0 ≤ o) = true := decide_eq_true (by omega)
        have t1 : decide (o < (c.outs.length : Int)) = false := decide_eq_false (by omega)
        have HR : Hid (Cir.invI c o = false) := Lib.hid (by unfold Cir.invI; rw [hv, t0, t1]; rfl)
        rw [HR.out]
        clear HR hv hl h0 h1
        go_enter Try.func23, Try.ntmps23
        go_wp2_with fail
        generalize w.alloc (.cells #[.int .i64 c.ins, .slice An c.next.length cn, .slice Ag c.gates.length cg, .slice Ao c.outs.length co] 26) = W at *
        refine HV.out.mono ?_
        rintro e w1 ⟨rfl, hb1⟩
        have B1 := Lib.hid (B0.out.trans (hb1.mono B0.out.size))
        have HC1 := Lib.hid (HC0.out.below hb1)
        have PC1 := Lib.hid (PC.out.below hb1)
        have z1 := hb1.size
        clear hb1 p0 p1 p2 p3 z HV PC HC0
        obtain ⟨z, p0, p1, p2, p3⟩ := PC1.out
        go_wp2_with fail
        go_ret
        exact ⟨rfl, B1.out⟩
      · have t0 : decide (0 ≤ o) = true := decide_eq_true (by omega)
        have t1 : decide (o < (c.outs.length : Int)) = true := decide_eq_true (by omega)
        have HR : Hid (Cir.invI c o = !(Cir.violI c o).isSome) := Lib.hid (by unfold Cir.invI; rw [hv, t0, t1]; rfl)
        rw [HR.out]
        clear HR hv hl h0 h1
        go_enter Try.func23, Try.ntmps23
        go_wp2_with fail
        generalize w.alloc (.cells #[.int .i64 c.ins, .slice An c.next.length cn, .slice Ag c.gates.length cg, .slice Ao c.outs.length co] 26) = W at *
        refine HV.out.mono ?_
        rintro e w1 ⟨rfl, hb1⟩
        have B1 := Lib.hid (B0.out.trans (hb1.mono B0.out.size))
        have HC1 := Lib.hid (HC0.out.below hb1)
        have PC1 := Lib.hid (PC.out.below hb1)
        have z1 := hb1.size
        clear hb1 p0 p1 p2 p3 z HV PC HC0
        obtain ⟨z, p0, p1, p2, p3⟩ := PC1.out
        go_wp2_with fail
        refine (implViol_any _ c o _ HC1.out).mono ?_
        rintro e w2 ⟨v2, rfl, hO, hb2⟩
        obtain ⟨A2, c2, hv2, -⟩ := hO.at.shape
        subst hv2
        have B2 := Lib.hid (B1.out.trans (hb2.mono B1.out.size))
        clear hb2 hO
        generalize hbb : (Cir.violI c o).isSome = bb at *
        have Hbb := Lib.hid hbb
        clear hbb
        have hff := viol_field0 bb A2 (vrows (Cir.nat c).ins (Cir.violI c o)).length c2
        go_wp2_with fail
        go_ret
        exact ⟨ret_bool (by rw [Hbb.out]), B2.out⟩
end Go.Proofs.Ytdgminjbgjbamaa

namespace Go.Proofs.Ytdgminjbgjbamaa
open Go.RowKit
/-- A value of an own row of booleans, as it lies in memory. -/
theorem bools_at_own {w : World} {B n : Nat} {v : Value} {xs : List Bool} (h : w.ownsRow B 4 1 v n (bools xs)) (hn : xs.length = n) : BoolsAt w v xs := by subst hn; exact Row.of_own h
theorem boolsAt_cell {w : World} {u : Value} {xs : List Bool} {i : Nat} {b : Bool} (h : BoolsAt w u xs) (hx : xs[i]? = some b) : ∃ bb oo c, u = .slice (some ⟨bb, oo, none⟩) xs.length c ∧ bb < w.heap.size ∧ w.cell? ⟨bb, oo + i, none⟩ = some (.bool b) := by
  have hi := (List.getElem?_eq_some_iff.1 hx).1
  obtain ⟨A, c, rfl, -, -⟩ := Row.shape h
  obtain ⟨b', o', x, hA, hbl, hxx, hcell⟩ := bools_open (w := w) (wr := w) h (Below.refl _ _) (i := i) rfl hi
  subst hA
  obtain rfl : x = b := Option.some.inj (hxx.out.symm.trans hx)
  exact ⟨b', o', c, rfl, hbl, hcell⟩
end Go.Proofs.Ytdgminjbgjbamaa

namespace Go.Proofs.Ytdgminjbgjbamaa
open Go.RowKit
/-! alive: the circuit without anything is valid. -/

theorem append_nil_nil (w : World) : (Builtin.append_ #[23, 23] 23 #[.slice none 0 0, .slice none 0 0]).run Try.prog w = .ok (.slice none 0 0) w := by kernel_rfl

theorem roots_zero (g : Nat) (w : World) (h1 : w.cell? ⟨g, 1, none⟩ = some (.slice none 0 0)) (h3 : w.cell? ⟨g, 3, none⟩ = some (.slice none 0 0)) :
    Calls Try.prog 81 #[.pointer (some ⟨g, 0, none⟩)] w fun e w' => e = .returned (.slice none 0 0) ∧ Drew w w' := by
  have hap := append_nil_nil
  go_enter Try.func81, Try.ntmps81
  go_wp2_with fail
  go_quiet (fail)
  go_wp2_with fail
  go_ret
  exact ⟨rfl, Drew.by _ _⟩

theorem valid_zero (w : World) : Calls Try.prog 34 #[.agg #[.int .i64 0, .slice none 0 0, .slice none 0 0, .slice none 0 0]] w fun e w' => e = .returned (.bool true) ∧ Below w.heap.size w w' := by
  go_enter Try.func34, Try.ntmps34
  go_wp2
  go_loop [44] (fun i => i = .int .i64 0) (fun _ => 0)
  case atStart => rfl
  case round =>
    obtain rfl := hrel
    go_wp2_with fail
    refine (roots_zero w.heap.size _ ?_ ?_).mono ?_
    · simp [World.cell?_alloc_new]
    · simp [World.cell?_alloc_new]
    rintro e w' ⟨rfl, hd⟩
    go_wp2
    go_loop [68] (fun i => i = .int .i64 0) (fun _ => 0)
    case atStart => rfl
    case round =>
      obtain rfl := hrel
      go_wp2
      go_ret
      exact ⟨rfl, ((Below.refl _ _).alloc (Nat.le_refl _) _).trans (hd.below _)⟩

theorem alive_any (w : World) : Calls Try.prog 12 #[] w fun e w' => e = .returned (.bool true) ∧ Below w.heap.size w w' := by
  go_enter Try.func12, Try.ntmps12
  go_wp2_with (go_at_call 34; refine (valid_zero _).mono ?_; rintro e w' ⟨rfl, hb⟩)
  go_ret
  exact ⟨rfl, hb⟩
end Go.Proofs.Ytdgminjbgjbamaa

namespace Go.Proofs.Ytdgminjbgjbamaa
open Go.RowKit Go.Maps
set_option maxRecDepth 100000
/-! Maps of gates to numbers, made by the call: the table of known gates. -/
theorem gmap_laidOut : laidOutB Try.prog = true := by kernel_rfl
theorem gmap_row : (72 : TypeId) < Try.prog.types.size := of_decide_eq_true (by kernel_rfl)
theorem gmap_deep : Try.prog.keyTypeAt 2 72 = true := by kernel_rfl
theorem gmap_deepT : Try.prog.keyType 72 = true := by kernel_rfl
theorem gmap_wide : (match Try.prog.underlying 72 with | some (.array _ _) | some (.struct _) => true | _ => false) = true := by kernel_rfl
theorem gmap_keyed : Keyed Try.prog 72 := Keyed.of_law (deep_law_laid gmap_laidOut (m := 2) (by omega) gmap_row gmap_deep gmap_wide)
theorem gmap_cells : Try.prog.cellsOf 72 = 2 := by kernel_rfl
theorem gmap_cellsI : Try.prog.cellsOf 3 = 1 := by kernel_rfl
/-- The key of a gate. -/
def gkey (x y : Nat) : Value := .agg #[.int .i64 (x : Int), .int .i64 (y : Int)]
theorem gkey_some {x y : Nat} (hx : (x : Int) ≤ 9223372036854775807) (hy : (y : Int) ≤ 9223372036854775807) : ∃ l, keyOf Try.prog 72 (gkey x y) = some l := by
  obtain ⟨m, hm⟩ : ∃ m, Try.prog.types.size = m + 1 := ⟨_, (Nat.succ_pred_eq_of_pos (Nat.lt_of_le_of_lt (Nat.zero_le _) gmap_row)).symm⟩
  have h2 : (gkey x y).formed Try.prog 72 = true := by
    simp [gkey, Value.formed, Try.underlying72, gmap_cells]
  unfold keyOf
  rw [Try.underlying72]
  simp only [gmap_deepT, h2, Bool.and_self, if_true, hm]
  simp [Program.keyLits, gkey, Try.underlying72, Try.underlying3, Value.cells, gmap_cells, gmap_cellsI, i64_wf hx, i64_wf hy]
theorem gkey_inj {x y x' y' : Nat} (h : gkey x y = gkey x' y') : x = x' ∧ y = y' := by
  unfold gkey at h
  simp at h
  omega
theorem gkey_ne {x y x' y' : Nat} {l l' : Lit} (h : keyOf Try.prog 72 (gkey x y) = some l) (h' : keyOf Try.prog 72 (gkey x' y') = some l') (hne : ¬ (x = x' ∧ y = y')) : l ≠ l' := by
  intro e
  subst e
  exact hne (gkey_inj (gmap_keyed.inj h h'))
/-- Block b is a map of at most n gates; f tells what is known of a gate. -/
def GAt (w : World) (b n : Nat) (f : Nat → Nat → Option Nat) : Prop := ∃ D : DataW Unit, w.ownsMap Try.prog 72 (plainElem Try.prog 3) b n D ∧ IsMap D ∧ ∀ x y l, keyOf Try.prog 72 (gkey x y) = some l → Maps.has D l = (f x y).isSome ∧ D.atKey l (.lit (.int .i64 0)) = .lit (.int .i64 (((f x y).getD 0 : Nat) : Int))
theorem GAt.lt {w : World} {b n : Nat} {f : Nat → Nat → Option Nat} (h : GAt w b n f) : b < w.heap.size := by
  obtain ⟨D, h1, _⟩ := h
  exact h1.lt
theorem GAt.only {E : Nat → Prop} {w w' : World} {b n : Nat} {f : Nat → Nat → Option Nat} (h : GAt w b n f) (ho : Only E w w') (hE : ¬ E b) : GAt w' b n f := by
  have hl := h.lt
  obtain ⟨D, ⟨es, clock, h1, h2, h3, h4⟩, h5⟩ := h
  exact ⟨D, ⟨es, clock, (ho.block b hl hE).trans h1, h2, h3, h4⟩, h5⟩
theorem GAt.mono {w : World} {b n n' : Nat} {f : Nat → Nat → Option Nat} (h : GAt w b n f) (hn : n ≤ n') : GAt w b n' f := by
  obtain ⟨D, h1, h2⟩ := h
  exact ⟨D, h1.mono hn, h2⟩
theorem gAt_made (w : World) : GAt (w.alloc (.map #[] 0)) w.heap.size 0 (fun _ _ => none) :=
  ⟨.map [], World.ownsMap_made w _ _ _, isMap_empty, fun x y l h => ⟨rfl, rfl⟩⟩
section
variable (w : World) {ops : Array Oper} {rest : List Oper} {o : Oper} {a : Act} {Q : Exit → Act → World → Prop}
theorem zero_int (w : World) : (zeroValue 3).run Try.prog w = .ok (.int .i64 0) w := by kernel_rfl
/-- l, ok := known[g] -/
theorem GAt.look {w : World} {b n : Nat} {f : Nat → Nat → Option Nat} (h : GAt w b n f) {x y : Nat} (hx : (x : Int) ≤ 9223372036854775807) (hy : (y : Int) ≤ 9223372036854775807) :
    (Instr.lookup 93 (.map (some b)) (gkey x y) true).run Try.prog w = .ok (.tuple #[.int .i64 (((f x y).getD 0 : Nat) : Int), .bool (f x y).isSome]) w := by
  obtain ⟨D, ⟨es, clock, hb, F, hs, hD⟩, h2, h3⟩ := h
  obtain ⟨l, hl⟩ := gkey_some hx hy
  obtain ⟨h4, h5⟩ := h3 x y l hl
  rcases Maps.fit_look true gmap_keyed Try.underlying93 (zero_int w) hb F hl with ⟨hrun, _, hat⟩ | ⟨e0, y0, hm0, _, hrun, hRv, hat, _⟩
  · rw [hrun]
    have e1 : Maps.has D l = false := by subst hD; exact has_false_of_atKey hat
    rw [e1] at h4
    cases hf : f x y with
    | none => simp
    | some v => rw [hf] at h4; simp at h4
  · rw [hrun]
    obtain ⟨c, e2, e3, e4⟩ := plainElem_int_inv Try.underlying3 hRv
    have e1 : Maps.has D l = true := by subst hD; exact has_true_of_atKey hat
    rw [e1] at h4
    have e5 := hat (.lit (.int .i64 0))
    rw [← hD, h5, e3] at e5
    injection e5 with e6
    injection e6 with e7 e8
    rw [e2, ← e8, ← h4]
    simp
/-- known[g] = v -/
theorem GAt.add {w : World} {b n : Nat} {f : Nat → Nat → Option Nat} (h : GAt w b n f) (hn : n ≤ 1000000) {x y v : Nat} (hx : (x : Int) ≤ 9223372036854775807) (hy : (y : Int) ≤ 9223372036854775807) (hv : (v : Int) ≤ 9223372036854775807) :
    ∃ w', (Instr.mapUpdate 93 (.map (some b)) (gkey x y) (.int .i64 (v : Int))).run Try.prog w = .ok () w' ∧ GAt w' b (n + 1) (fun x' y' => if x' = x ∧ y' = y then some v else f x' y') ∧ w.grownBy w' (some b) := by
  obtain ⟨D, h1, h2, h3⟩ := h
  obtain ⟨l, hl⟩ := gkey_some hx hy
  obtain ⟨w', hrun, r1, r2⟩ := h1.update gmap_keyed Try.underlying93 (by unfold maxLen; omega) hl (plainElem_int Try.underlying3 (i64_wf hv))
  have hlit : WideAt.IsKeyLit l := gmap_keyed.key hl
  refine ⟨w', hrun, ⟨_, r1, h2.put _ _, fun x' y' l' hl' => ?_⟩, r2⟩
  by_cases e : x' = x ∧ y' = y
  · obtain ⟨rfl, rfl⟩ := e
    rw [hl] at hl'
    injection hl' with hl'
    subst hl'
    rw [has_put_same h2 hlit, atKey_put_same h2 hlit]
    simp
  · have hne := gkey_ne hl' hl e
    dsimp only
    rw [has_put_other hne, atKey_put_other hne, if_neg e]
    exact h3 x' y' l' hl'
end
end Go.Proofs.Ytdgminjbgjbamaa

namespace Go.Proofs.Ytdgminjbgjbamaa
open Go.RowKit Go.Maps
set_option maxRecDepth 100000
/-! The builder of gates: what it knows and what a conjunction does to it, as plain functions; its memory. -/
namespace Cir
/-- The literal of a known gate. -/
def knownG (F : Nat) : List (Nat × Nat) → Nat → Nat → Option Nat
  | [], _, _ => none
  | g :: G, x, y => match knownG F G x y with
    | some l => some l
    | none => if x = g.1 ∧ y = g.2 then some (2 * (F + G.length)) else none
/-- The gates of a builder, the last one first. A conjunction of literals x ≤ y. -/
def andS (F : Nat) (G : List (Nat × Nat)) (x y : Nat) : Nat × List (Nat × Nat) :=
  if x = 0 ∨ x = y ^^^ 1 then (0, G) else if x = 1 ∨ x = y then (y, G) else match knownG F G x y with
    | some l => (l, G)
    | none => (2 * (F + G.length), (x, y) :: G)
def andB (F : Nat) (G : List (Nat × Nat)) (x y : Nat) : Nat × List (Nat × Nat) := if y < x then andS F G y x else andS F G x y
def xorB (F : Nat) (G : List (Nat × Nat)) (x y : Nat) : Nat × List (Nat × Nat) :=
  andB F (andB F (andB F G x y).2 (x ^^^ 1) (y ^^^ 1)).2 ((andB F G x y).1 ^^^ 1) ((andB F (andB F G x y).2 (x ^^^ 1) (y ^^^ 1)).1 ^^^ 1)
def gatesOf (G : List (Nat × Nat)) : List (Int × Int) := G.reverse.map fun g => ((g.1 : Int), (g.2 : Int))
theorem gatesOf_length (G : List (Nat × Nat)) : (gatesOf G).length = G.length := by simp [gatesOf]
theorem gatesOf_cons (g : Nat × Nat) (G : List (Nat × Nat)) : gatesOf (g :: G) = gatesOf G ++ [((g.1 : Int), (g.2 : Int))] := by simp [gatesOf]
theorem knownG_lt {F : Nat} : ∀ {G : List (Nat × Nat)} {x y l : Nat}, knownG F G x y = some l → l < 2 * (F + G.length)
  | [], _, _, _, h => by cases h
  | g :: G, x, y, l, h => by
    unfold knownG at h
    cases hk : knownG F G x y with
    | some l' =>
      rw [hk] at h
      injection h with h
      have := knownG_lt hk
      simp only [List.length_cons]
      omega
    | none =>
      rw [hk] at h
      simp only at h
      split at h
      · injection h with h
        simp only [List.length_cons]
        omega
      · cases h
theorem xor1_lt {x N : Nat} (h : x < 2 * N) : x ^^^ 1 < 2 * N := by
  have h2 : (x ^^^ 1) / 2 = x / 2 := by rw [Nat.xor_div_two]; simp
  omega
theorem andS_len (F : Nat) (G : List (Nat × Nat)) (x y : Nat) : (andS F G x y).2.length ≤ G.length + 1 ∧ G.length ≤ (andS F G x y).2.length := by
  unfold andS
  split
  · simp
  · split
    · simp
    · split <;> simp
theorem andS_lt {F : Nat} {G : List (Nat × Nat)} {x y : Nat} (hF : 0 < F) (hy : y < 2 * (F + G.length)) : (andS F G x y).1 < 2 * (F + (andS F G x y).2.length) := by
  unfold andS
  split
  · simp only; omega
  · split
    · simp only; omega
    · split
      · rename_i l hl
        exact knownG_lt hl
      · simp only [List.length_cons]; omega
theorem andB_len (F : Nat) (G : List (Nat × Nat)) (x y : Nat) : (andB F G x y).2.length ≤ G.length + 1 ∧ G.length ≤ (andB F G x y).2.length := by
  unfold andB
  split <;> exact andS_len ..
theorem andB_lt {F : Nat} {G : List (Nat × Nat)} {x y : Nat} (hF : 0 < F) (hx : x < 2 * (F + G.length)) (hy : y < 2 * (F + G.length)) : (andB F G x y).1 < 2 * (F + (andB F G x y).2.length) := by
  unfold andB
  split
  · exact andS_lt hF hx
  · exact andS_lt hF hy
end Cir
/-- Block b is a builder; E are its blocks. -/
structure Bld (B b F : Nat) (G : List (Nat × Nat)) (E : Nat → Prop) (m : Nat) (vg vl : Value) (L : List Int) (w : World) : Prop where
  box : w.heap[b]? = some (.cells #[.int .i64 (F : Int), vg, vl, .map (some m)] 95 (0, 0))
  gs : w.ownsRow B 72 2 vg G.length (cubes (Cir.gatesOf G))
  ll : L.length = F + G.length
  lb : ∀ x ∈ L, 0 ≤ x ∧ x ≤ G.length
  ls : w.ownsRow B 3 1 vl (F + G.length) (ints L)
  map : GAt w m G.length (Cir.knownG F G)
  eb : E b
  em : E m
  eg : ∀ g, vg.ownBlock = some g → E g
  el : ∀ g, vl.ownBlock = some g → E g
  lo : ∀ g, E g → B ≤ g ∧ g < w.heap.size
  bm : b ≠ m
  gb : vg.ownBlock ≠ some b
  gm : vg.ownBlock ≠ some m
  lb' : vl.ownBlock ≠ some b
  lm : vl.ownBlock ≠ some m
  ap : Apart vg vl
theorem GAt.below {w w' : World} {b n : Nat} {f : Nat → Nat → Option Nat} (h : GAt w b n f) (hb : Below w.heap.size w w') : GAt w' b n f :=
  h.only (E := fun _ => False) ⟨hb.os, hb.tape, hb.output, hb.size, fun k hk _ => hb.block k hk⟩ id
theorem Bld.below {B b F : Nat} {G : List (Nat × Nat)} {E : Nat → Prop} {m : Nat} {vg vl : Value} {L : List Int} {w w' : World} (h : Bld B b F G E m vg vl L w) (hb : Below w.heap.size w w') : Bld B b F G E m vg vl L w' :=
  { h with box := (hb.block b (h.lo b h.eb).2).trans h.box, gs := own_below h.gs hb, ls := own_below h.ls hb, map := h.map.below hb, lo := fun g hg => ⟨(h.lo g hg).1, Nat.lt_of_lt_of_le (h.lo g hg).2 hb.size⟩ }
theorem Bld.only {B b F : Nat} {G : List (Nat × Nat)} {E X : Nat → Prop} {m : Nat} {vg vl : Value} {L : List Int} {w w' : World} (h : Bld B b F G E m vg vl L w) (ho : Only X w w') (hX : ∀ g, E g → ¬ X g) : Bld B b F G E m vg vl L w' :=
  { h with box := (ho.block b (h.lo b h.eb).2 (hX b h.eb)).trans h.box, gs := own_only h.gs ho fun g hg => hX g (h.eg g hg), ls := own_only h.ls ho fun g hg => hX g (h.el g hg), map := h.map.only ho (hX m h.em), lo := fun g hg => ⟨(h.lo g hg).1, Nat.lt_of_lt_of_le (h.lo g hg).2 ho.size⟩ }
/-- A builder with the gates G, whose blocks are those of E. -/
def BldAt (B b F : Nat) (G : List (Nat × Nat)) (E : Nat → Prop) (w : World) : Prop := ∃ m vg vl L, Bld B b F G E m vg vl L w
theorem BldAt.below {B b F : Nat} {G : List (Nat × Nat)} {E : Nat → Prop} {w w' : World} (h : BldAt B b F G E w) (hb : Below w.heap.size w w') : BldAt B b F G E w' := by
  obtain ⟨m, vg, vl, L, h⟩ := h
  exact ⟨m, vg, vl, L, h.below hb⟩
theorem BldAt.only {B b F : Nat} {G : List (Nat × Nat)} {E X : Nat → Prop} {w w' : World} (h : BldAt B b F G E w) (ho : Only X w w') (hX : ∀ g, E g → ¬ X g) : BldAt B b F G E w' := by
  obtain ⟨m, vg, vl, L, h⟩ := h
  exact ⟨m, vg, vl, L, h.only ho hX⟩
/-- After a call of the builder. -/
def BldNext (B b F : Nat) (G' : List (Nat × Nat)) (E : Nat → Prop) (w w' : World) : Prop := ∃ E', BldAt B b F G' E' w' ∧ (∀ g, E' g → E g ∨ w.heap.size ≤ g) ∧ (∀ g, E g → E' g) ∧ Only E w w'
end Go.Proofs.Ytdgminjbgjbamaa

namespace Go.Proofs.Ytdgminjbgjbamaa
/-! Optimizing a circuit, plainly: gates that nothing reaches, the builder's conjunctions, and that the values stay. -/
namespace Cir
theorem getD_set' {α : Type} (l : List α) (i j : Nat) (a d : α) : (l.set i a).getD j d = if i = j ∧ i < l.length then a else l.getD j d := by
  rw [List.getD_eq_getElem?_getD, List.getD_eq_getElem?_getD, List.getElem?_set]
  by_cases h : i = j
  · subst h
    by_cases h2 : i < l.length
    · simp [h2]
    · simp [h2]
  · simp [h]
theorem evalG_append (a b : List (Nat × Nat)) (v : List Bool) : evalG (a ++ b) v = evalG b (evalG a v) := by unfold evalG; rw [List.foldl_append]
theorem evalG_snoc (a : List (Nat × Nat)) (g : Nat × Nat) (v : List Bool) : evalG (a ++ [g]) v = evalG a v ++ [gval (evalG a v) g] := by rw [evalG_append]; rfl
theorem getD_append_lt {α : Type} {l l' : List α} {i : Nat} (d : α) (h : i < l.length) : (l ++ l').getD i d = l.getD i d := by
  rw [List.getD_eq_getElem?_getD, List.getD_eq_getElem?_getD, List.getElem?_append_left h]
theorem getD_append_at {α : Type} {l : List α} {a : α} {i : Nat} (d : α) (h : i = l.length) : (l ++ [a]).getD i d = a := by
  subst h
  simp [List.getD_eq_getElem?_getD]
theorem evalG_getD : ∀ (gs : List (Nat × Nat)) {v : List Bool} {i : Nat}, i < v.length → (evalG gs v).getD i false = v.getD i false
  | [], _, _, _ => rfl
  | g :: gs, v, i, h => by
    have e : evalG (g :: gs) v = evalG gs (v ++ [gval v g]) := rfl
    rw [e, evalG_getD gs (by simp; omega), getD_append_lt false h]
theorem lit_evalG (gs : List (Nat × Nat)) {v : List Bool} {l : Nat} (h : l / 2 < v.length) : lit (evalG gs v) l = lit v l := by
  unfold lit
  rw [evalG_getD gs h]
theorem lit_snoc {v : List Bool} {l : Nat} (b : Bool) (h : l / 2 < v.length) : lit (v ++ [b]) l = lit v l := by
  unfold lit
  rw [getD_append_lt false h]
theorem vals_gate (c : Ci) {st inp : List Bool} (l1 : inp.length = c.ins) (l2 : st.length = c.next.length) (hc : Ok c) {k : Nat} {g : Nat × Nat} (hk : c.gates[k]? = some g) : (vals c st inp).getD (nfirst c + k) false = gval (vals c st inp) g := by
  obtain ⟨hl, -⟩ := List.getElem?_eq_some_iff.1 hk
  have e0 : c.gates = c.gates.take (k + 1) ++ c.gates.drop (k + 1) := (List.take_append_drop _ _).symm
  have hg := hc.gate k g hk
  have len : (evalG (c.gates.take k) (false :: (inp ++ st))).length = nfirst c + k := by
    rw [evalG_length]
    simp [nfirst, l1, l2, List.length_take]
    omega
  have e1 : vals c st inp = evalG (c.gates.drop (k + 1)) (evalG (c.gates.take k) (false :: (inp ++ st)) ++ [gval (evalG (c.gates.take k) (false :: (inp ++ st))) g]) := by
    rw [vals]
    conv => lhs; rw [e0]
    rw [evalG_append, evalG_take_snoc hk]
  rw [e1]
  generalize evalG (c.gates.take k) (false :: (inp ++ st)) = V at len
  have l3 : (V ++ [gval V g]).length = nfirst c + k + 1 := by rw [List.length_append, len]; rfl
  rw [evalG_getD _ (by omega), getD_append_at false len.symm]
  show gval V g = gval (evalG (c.gates.drop (k + 1)) (V ++ [gval V g])) g
  obtain ⟨b, hb⟩ : ∃ b, b = gval V g := ⟨_, rfl⟩
  rw [← hb] at l3 ⊢
  unfold gval
  rw [lit_evalG _ (by omega), lit_evalG _ (by omega), lit_snoc _ (by omega), lit_snoc _ (by omega), hb]
  rfl
theorem vals_first (c : Ci) {st inp : List Bool} (l1 : inp.length = c.ins) (l2 : st.length = c.next.length) {i : Nat} (h : i < nfirst c) : (vals c st inp).getD i false = (false :: (inp ++ st)).getD i false :=
  evalG_getD _ (by simp only [List.length_cons, List.length_append, l1, l2]; unfold nfirst at h; omega)
theorem xor_half (a b : Nat) (hb : b < 2) : (a ^^^ b) / 2 = a / 2 := by
  rw [Nat.xor_div_two, Nat.div_eq_of_lt hb, Nat.xor_zero]
theorem xor_odd (a b : Nat) : ((a ^^^ b) % 2 == 1) = ((a % 2 == 1) != (b % 2 == 1)) := by
  have h : (a ^^^ b) % 2 = (a % 2) ^^^ (b % 2) := by
    have := Nat.xor_mod_two_pow (a := a) (b := b) (n := 1)
    simpa using this
  rw [h]
  rcases Nat.mod_two_eq_zero_or_one a with h1 | h1 <;> rcases Nat.mod_two_eq_zero_or_one b with h2 | h2 <;> rw [h1, h2] <;> rfl
theorem lit_xor (v : List Bool) (a b : Nat) (hb : b < 2) : lit v (a ^^^ b) = (lit v a != (b % 2 == 1)) := by
  unfold lit
  rw [xor_half a b hb, xor_odd]
  cases v.getD (a / 2) false <;> cases (a % 2 == 1) <;> cases (b % 2 == 1) <;> rfl
theorem xor_lt {a b N : Nat} (hb : b < 2) (h : a < 2 * N) : a ^^^ b < 2 * N := by
  have := xor_half a b hb
  omega
/-! ### The builder -/
/-- The values of a builder's variables. -/
def bv (G : List (Nat × Nat)) (v0 : List Bool) : List Bool := evalG G.reverse v0
theorem bv_cons (g : Nat × Nat) (G : List (Nat × Nat)) (v0 : List Bool) : bv (g :: G) v0 = bv G v0 ++ [gval (bv G v0) g] := by
  unfold bv
  rw [List.reverse_cons, evalG_snoc]
theorem bv_length (G : List (Nat × Nat)) (v0 : List Bool) : (bv G v0).length = v0.length + G.length := by
  unfold bv
  rw [evalG_length, List.length_reverse]
def GOk (F : Nat) : List (Nat × Nat) → Prop
  | [] => True
  | g :: G => g.1 < 2 * (F + G.length) ∧ g.2 < 2 * (F + G.length) ∧ GOk F G
theorem known_ok {F : Nat} : ∀ {G : List (Nat × Nat)} {x y l : Nat}, GOk F G → knownG F G x y = some l → x < 2 * (F + G.length) ∧ y < 2 * (F + G.length)
  | [], _, _, _, _, h => by cases h
  | g :: G, x, y, l, hG, h => by
    unfold knownG at h
    simp only [List.length_cons]
    cases hk : knownG F G x y with
    | some l' =>
      have := known_ok hG.2.2 hk
      omega
    | none =>
      rw [hk] at h
      simp only at h
      split at h
      · rename_i hxy
        have h1 := hG.1
        have h2 := hG.2.1
        rw [hxy.1, hxy.2]
        omega
      · cases h
theorem known_val {F : Nat} {v0 : List Bool} (hv : v0.length = F) : ∀ {G : List (Nat × Nat)} {x y l : Nat}, GOk F G → knownG F G x y = some l → lit (bv G v0) l = (lit (bv G v0) x && lit (bv G v0) y)
  | [], _, _, _, _, h => by cases h
  | g :: G, x, y, l, hG, h => by
    have hlen := bv_length G v0
    unfold knownG at h
    cases hk : knownG F G x y with
    | some l' =>
      rw [hk] at h
      injection h with h
      subst h
      have h1 := known_ok hG.2.2 hk
      have h2 := knownG_lt hk
      rw [bv_cons, lit_snoc _ (by omega), lit_snoc _ (by omega), lit_snoc _ (by omega)]
      exact known_val hv hG.2.2 hk
    | none =>
      rw [hk] at h
      simp only at h
      split at h
      · rename_i hxy
        injection h with h
        subst h
        have h1 := hG.1
        have h2 := hG.2.1
        rw [← hxy.1] at h1
        rw [← hxy.2] at h2
        have hg : g = (x, y) := by rw [hxy.1, hxy.2]
        rw [bv_cons, lit_snoc _ (show x / 2 < _ by omega), lit_snoc _ (show y / 2 < _ by omega), hg]
        unfold lit
        rw [getD_append_at false (by omega), show (2 * (F + G.length)) % 2 = 0 from by omega]
        simp [gval, lit]
      · cases h
theorem andS_val {F : Nat} {v0 : List Bool} (hv : v0.length = F) (hF : 0 < F) (h0 : v0.getD 0 false = false) {G : List (Nat × Nat)} (hG : GOk F G) {x y : Nat} (hx : x < 2 * (F + G.length)) (hy : y < 2 * (F + G.length)) :
    lit (bv (andS F G x y).2 v0) (andS F G x y).1 = (lit (bv G v0) x && lit (bv G v0) y) := by
  have hlen := bv_length G v0
  have z0 : lit (bv G v0) 0 = false := by
    unfold lit bv
    rw [evalG_getD _ (by omega)]
    rw [h0]
    rfl
  have z1 : lit (bv G v0) 1 = true := by
    unfold lit bv
    rw [evalG_getD _ (by omega), show 1 / 2 = 0 from rfl]
    rw [h0]
    rfl
  unfold andS
  split
  · rename_i h
    rw [z0]
    rcases h with rfl | rfl
    · rw [z0, Bool.false_and]
    · rw [lit_xor _ _ _ (by omega)]
      cases lit (bv G v0) y <;> rfl
  · split
    · rename_i h
      rcases h with rfl | rfl
      · rw [z1, Bool.true_and]
      · rw [Bool.and_self]
    · split
      · rename_i l hl
        exact known_val hv hG hl
      · rw [bv_cons]
        unfold lit
        rw [getD_append_at false (by omega), show (2 * (F + G.length)) % 2 = 0 from by omega]
        simp [gval, lit]
theorem andS_ok {F : Nat} {G : List (Nat × Nat)} (hG : GOk F G) {x y : Nat} (hx : x < 2 * (F + G.length)) (hy : y < 2 * (F + G.length)) : GOk F (andS F G x y).2 := by
  unfold andS
  split
  · exact hG
  · split
    · exact hG
    · split
      · exact hG
      · exact ⟨hx, hy, hG⟩
/-- A conjunction's gates only grow. -/
theorem andS_grow (F : Nat) (G : List (Nat × Nat)) (x y : Nat) : (andS F G x y).2 = G ∨ ∃ g, (andS F G x y).2 = g :: G := by
  unfold andS
  split
  · exact .inl rfl
  · split
    · exact .inl rfl
    · split
      · exact .inl rfl
      · exact .inr ⟨_, rfl⟩
theorem andB_val {F : Nat} {v0 : List Bool} (hv : v0.length = F) (hF : 0 < F) (h0 : v0.getD 0 false = false) {G : List (Nat × Nat)} (hG : GOk F G) {x y : Nat} (hx : x < 2 * (F + G.length)) (hy : y < 2 * (F + G.length)) :
    lit (bv (andB F G x y).2 v0) (andB F G x y).1 = (lit (bv G v0) x && lit (bv G v0) y) := by
  unfold andB
  split
  · rw [andS_val hv hF h0 hG hy hx, Bool.and_comm]
  · exact andS_val hv hF h0 hG hx hy
theorem andB_ok {F : Nat} {G : List (Nat × Nat)} (hG : GOk F G) {x y : Nat} (hx : x < 2 * (F + G.length)) (hy : y < 2 * (F + G.length)) : GOk F (andB F G x y).2 := by
  unfold andB
  split
  · exact andS_ok hG hy hx
  · exact andS_ok hG hx hy
theorem andB_grow (F : Nat) (G : List (Nat × Nat)) (x y : Nat) : (andB F G x y).2 = G ∨ ∃ g, (andB F G x y).2 = g :: G := by
  unfold andB
  split <;> exact andS_grow ..
theorem andB_lit {F : Nat} {v0 : List Bool} (hv : v0.length = F) {G : List (Nat × Nat)} {x y l : Nat} (hl : l < 2 * (F + G.length)) : lit (bv (andB F G x y).2 v0) l = lit (bv G v0) l := by
  have hlen := bv_length G v0
  rcases andB_grow F G x y with h | ⟨g, h⟩
  · rw [h]
  · rw [h, bv_cons, lit_snoc _ (by omega)]
/-! ### The variables that outputs or next states reach -/
def rootMark (n : Nat) (ls : List Nat) : List Bool := ls.foldl (fun v l => v.set (l / 2) true) (List.replicate n false)
def reachStep (F : Nat) (gs : List (Nat × Nat)) (k : Nat) (v : List Bool) : List Bool :=
  if v.getD (F + k) false then (v.set ((gs.getD k (0, 0)).1 / 2) true).set ((gs.getD k (0, 0)).2 / 2) true else v
/-- The gates k - 1, .., 0 hand the mark on. -/
def reachK (F : Nat) (gs : List (Nat × Nat)) : Nat → List Bool → List Bool
  | 0, v => v
  | k + 1, v => reachK F gs k (reachStep F gs k v)
def reached (c : Ci) : List Bool := reachK (nfirst c) c.gates c.gates.length (rootMark (nvars c) (c.next ++ c.outs))
theorem rootMark_length (n : Nat) (ls : List Nat) : (rootMark n ls).length = n := by
  unfold rootMark
  have : ∀ (ls : List Nat) (v : List Bool), (ls.foldl (fun v l => v.set (l / 2) true) v).length = v.length := fun ls => by
    induction ls with
    | nil => intro v; rfl
    | cons l ls ih => intro v; rw [List.foldl_cons, ih, List.length_set]
  rw [this, List.length_replicate]
theorem reachStep_length (F : Nat) (gs : List (Nat × Nat)) (k : Nat) (v : List Bool) : (reachStep F gs k v).length = v.length := by
  unfold reachStep
  split <;> simp
theorem reachK_length (F : Nat) (gs : List (Nat × Nat)) : ∀ (k : Nat) (v : List Bool), (reachK F gs k v).length = v.length
  | 0, _ => rfl
  | k + 1, v => by rw [reachK, reachK_length F gs k, reachStep_length]
theorem reached_length (c : Ci) : (reached c).length = nvars c := by rw [reached, reachK_length, rootMark_length]
theorem reachStep_mono (F : Nat) (gs : List (Nat × Nat)) (k : Nat) (v : List Bool) {i : Nat} (h : v.getD i false = true) : (reachStep F gs k v).getD i false = true := by
  unfold reachStep
  split
  · rw [getD_set', getD_set', h]
    split
    · rfl
    · split <;> rfl
  · exact h
theorem reachK_mono (F : Nat) (gs : List (Nat × Nat)) : ∀ (k : Nat) (v : List Bool) {i : Nat}, v.getD i false = true → (reachK F gs k v).getD i false = true
  | 0, _, _, h => h
  | k + 1, v, i, h => reachK_mono F gs k _ (reachStep_mono F gs k v h)
theorem reachStep_keep {F : Nat} {gs : List (Nat × Nat)} {k : Nat} (hg : (gs.getD k (0, 0)).1 < 2 * (F + k) ∧ (gs.getD k (0, 0)).2 < 2 * (F + k)) (v : List Bool) {i : Nat} (h : F + k ≤ i) : (reachStep F gs k v).getD i false = v.getD i false := by
  unfold reachStep
  split
  · rw [getD_set', getD_set', if_neg (by omega), if_neg (by omega)]
  · rfl
theorem reachK_keep {F : Nat} {gs : List (Nat × Nat)} : ∀ {k : Nat} (_ : ∀ j, j < k → (gs.getD j (0, 0)).1 < 2 * (F + j) ∧ (gs.getD j (0, 0)).2 < 2 * (F + j)) (v : List Bool) {i : Nat}, F + k ≤ i + 1 → (reachK F gs k v).getD i false = v.getD i false
  | 0, _, _, _, _ => rfl
  | k + 1, hg, v, i, h => by
    rw [reachK, reachK_keep (fun j hj => hg j (by omega)) _ (by omega), reachStep_keep (hg k (by omega)) _ (by omega)]
theorem reachK_closed {F : Nat} {gs : List (Nat × Nat)} : ∀ {k : Nat} (_ : ∀ j, j < k → (gs.getD j (0, 0)).1 < 2 * (F + j) ∧ (gs.getD j (0, 0)).2 < 2 * (F + j)) (v : List Bool) (_ : F + k ≤ v.length) {j : Nat}, j < k → (reachK F gs k v).getD (F + j) false = true → (reachK F gs k v).getD ((gs.getD j (0, 0)).1 / 2) false = true ∧ (reachK F gs k v).getD ((gs.getD j (0, 0)).2 / 2) false = true
  | 0, _, _, _, _, hj, _ => absurd hj (Nat.not_lt_zero _)
  | k + 1, hg, v, hl, j, hj, h => by
    rw [reachK] at h ⊢
    by_cases e : j < k
    · exact reachK_closed (fun j hj => hg j (by omega)) _ (by rw [reachStep_length]; omega) e h
    · obtain rfl : j = k := by omega
      rw [reachK_keep (fun j hj => hg j (by omega)) _ (by omega), reachStep_keep (hg j (by omega)) _ (by omega)] at h
      have hgj := hg j (by omega)
      have hs : (reachStep F gs j v).getD ((gs.getD j (0, 0)).1 / 2) false = true ∧ (reachStep F gs j v).getD ((gs.getD j (0, 0)).2 / 2) false = true := by
        unfold reachStep
        rw [if_pos h]
        refine ⟨?_, ?_⟩
        · rw [getD_set', getD_set']
          split
          · rfl
          · rw [if_pos ⟨rfl, by omega⟩]
        · rw [getD_set', if_pos ⟨rfl, by simp only [List.length_set]; omega⟩]
      exact ⟨reachK_mono _ _ _ _ hs.1, reachK_mono _ _ _ _ hs.2⟩
theorem rootMark_root (n : Nat) (ls : List Nat) {l : Nat} (hl : l ∈ ls) (hn : l / 2 < n) : (rootMark n ls).getD (l / 2) false = true := by
  unfold rootMark
  have mono : ∀ (ls : List Nat) (v : List Bool) (i : Nat), v.getD i false = true → (ls.foldl (fun v l => v.set (l / 2) true) v).getD i false = true := fun ls => by
    induction ls with
    | nil => intro v i h; exact h
    | cons l ls ih =>
      intro v i h
      rw [List.foldl_cons]
      refine ih _ _ ?_
      rw [getD_set', h]
      split <;> rfl
  have all : ∀ (ls : List Nat) (v : List Bool), l ∈ ls → l / 2 < v.length → (ls.foldl (fun v l => v.set (l / 2) true) v).getD (l / 2) false = true := fun ls => by
    induction ls with
    | nil => intro v h; cases h
    | cons a ls ih =>
      intro v h hv
      rw [List.foldl_cons]
      rcases List.mem_cons.1 h with rfl | h
      · refine mono _ _ _ ?_
        rw [getD_set', if_pos ⟨rfl, hv⟩]
      · exact ih _ h (by simpa using hv)
  exact all ls _ hl (by simpa using hn)
theorem ok_getD {c : Ci} (hc : Ok c) {j : Nat} (hj : j < c.gates.length) : (c.gates.getD j (0, 0)).1 < 2 * (nfirst c + j) ∧ (c.gates.getD j (0, 0)).2 < 2 * (nfirst c + j) := by
  have : c.gates[j]? = some (c.gates.getD j (0, 0)) := by
    rw [List.getD_eq_getElem?_getD, List.getElem?_eq_getElem hj, Option.getD_some]
  exact hc.gate j _ this
/-- What is closed: the roots are marked, and with a gate its operands. -/
structure Closed (c : Ci) (keep : List Bool) : Prop where
  root : ∀ l, l ∈ c.next ++ c.outs → keep.getD (l / 2) false = true
  gate : ∀ j, j < c.gates.length → keep.getD (nfirst c + j) false = true → keep.getD ((c.gates.getD j (0, 0)).1 / 2) false = true ∧ keep.getD ((c.gates.getD j (0, 0)).2 / 2) false = true
theorem reached_closed {c : Ci} (hc : Ok c) : Closed c (reached c) where
  root := fun l hl => reachK_mono _ _ _ _ (rootMark_root _ _ hl (by
    rcases List.mem_append.1 hl with h | h
    · have := hc.next l h; omega
    · have := hc.out l h; omega))
  gate := fun j hj h => reachK_closed (fun j hj => ok_getD hc hj) _ (by rw [rootMark_length]; exact Nat.le_refl _) hj h
end Cir
end Go.Proofs.Ytdgminjbgjbamaa

namespace Go.Proofs.Ytdgminjbgjbamaa
/-! Optimizing a circuit, plainly: the optimized circuit is valid and steps as the circuit does. -/
namespace Cir
/-- Two circuits whose outputs and next states are the same for every state and all inputs. -/
structure SameStep (c d : Ci) : Prop where
  ins : d.ins = c.ins
  nexts : d.next.length = c.next.length
  outss : d.outs.length = c.outs.length
  step : ∀ st inp : List Bool, inp.length = c.ins → st.length = c.next.length → lits (vals d st inp) d.next = lits (vals c st inp) c.next ∧ lits (vals d st inp) d.outs = lits (vals c st inp) c.outs
theorem SameStep.refl (c : Ci) : SameStep c c := ⟨rfl, rfl, rfl, fun _ _ _ _ => ⟨rfl, rfl⟩⟩
theorem SameStep.trans {c d e : Ci} (h : SameStep c d) (h' : SameStep d e) : SameStep c e :=
  ⟨h'.ins.trans h.ins, h'.nexts.trans h.nexts, h'.outss.trans h.outss, fun st inp l1 l2 =>
    ⟨(h'.step st inp (l1.trans h.ins.symm) (l2.trans h.nexts.symm)).1.trans (h.step st inp l1 l2).1, (h'.step st inp (l1.trans h.ins.symm) (l2.trans h.nexts.symm)).2.trans (h.step st inp l1 l2).2⟩⟩
theorem SameStep.nextOf {c d : Ci} (h : SameStep c d) (s x : Nat) : nextOf d s x = nextOf c s x := by
  unfold Cir.nextOf
  rw [h.ins, h.nexts, (h.step _ _ (bits_length _ _) (bits_length _ _)).1]
theorem SameStep.outsOf {c d : Ci} (h : SameStep c d) (s x : Nat) : outsOf d s x = outsOf c s x := by
  unfold Cir.outsOf
  rw [h.ins, h.nexts, (h.step _ _ (bits_length _ _) (bits_length _ _)).2]
/-! ### The builder's circuit -/
def useX (m : List Nat) (l : Nat) : Nat := m.getD (l / 2) 0 ^^^ (l % 2)
def optStep (F : Nat) (keep : List Bool) (gs : List (Nat × Nat)) (k : Nat) (p : List (Nat × Nat) × List Nat) : List (Nat × Nat) × List Nat :=
  if keep.getD (F + k) false then
    ((andB F p.1 (useX p.2 (gs.getD k (0, 0)).1) (useX p.2 (gs.getD k (0, 0)).2)).2, p.2 ++ [(andB F p.1 (useX p.2 (gs.getD k (0, 0)).1) (useX p.2 (gs.getD k (0, 0)).2)).1])
  else (p.1, p.2 ++ [0])
def ownL (F : Nat) : List Nat := (List.range F).map (2 * ·)
def optGo (F : Nat) (keep : List Bool) (gs : List (Nat × Nat)) : Nat → List (Nat × Nat) × List Nat
  | 0 => ([], ownL F)
  | k + 1 => optStep F keep gs k (optGo F keep gs k)
structure OptInv (c : Ci) (keep : List Bool) (k : Nat) (p : List (Nat × Nat) × List Nat) : Prop where
  len : p.2.length = nfirst c + k
  glen : p.1.length ≤ k
  ok : GOk (nfirst c) p.1
  lt : ∀ l ∈ p.2, l < 2 * (nfirst c + p.1.length)
  val : ∀ (st inp : List Bool), inp.length = c.ins → st.length = c.next.length → ∀ v, v < nfirst c + k → (v < nfirst c ∨ keep.getD v false = true) → lit (bv p.1 (false :: (inp ++ st))) (p.2.getD v 0) = (vals c st inp).getD v false
theorem nfirst_pos (c : Ci) : 0 < nfirst c := by unfold nfirst; omega
theorem useX_lt {m : List Nat} {N : Nat} (hN : 0 < N) (h : ∀ l ∈ m, l < 2 * N) (l : Nat) : useX m l < 2 * N := by
  unfold useX
  refine xor_lt (Nat.mod_lt _ (by omega)) ?_
  rw [List.getD_eq_getElem?_getD]
  cases hi : m[l / 2]? with
  | none => simp; omega
  | some a => exact h a (List.mem_of_getElem? hi)
theorem OptInv.useX {c : Ci} {keep : List Bool} {k : Nat} {p : List (Nat × Nat) × List Nat} (h : OptInv c keep k p) {st inp : List Bool} (l1 : inp.length = c.ins) (l2 : st.length = c.next.length) {l : Nat} (hl : l / 2 < nfirst c + k) (hk : l / 2 < nfirst c ∨ keep.getD (l / 2) false = true) :
    lit (bv p.1 (false :: (inp ++ st))) (useX p.2 l) = lit (vals c st inp) l := by
  unfold Cir.useX
  rw [lit_xor _ _ _ (Nat.mod_lt _ (by omega)), h.val st inp l1 l2 _ hl hk, Nat.mod_mod]
  rfl
theorem first_len {c : Ci} {st inp : List Bool} (l1 : inp.length = c.ins) (l2 : st.length = c.next.length) : (false :: (inp ++ st)).length = nfirst c := by
  simp [nfirst, l1, l2]; omega
theorem opt_inv {c : Ci} {keep : List Bool} (hc : Ok c) (hk : Closed c keep) : ∀ k, k ≤ c.gates.length → OptInv c keep k (optGo (nfirst c) keep c.gates k)
  | 0, _ => by
    refine ⟨by simp [optGo, ownL], Nat.le_refl _, trivial, fun l hl => ?_, fun st inp l1 l2 v hv _ => ?_⟩
    · simp only [optGo, ownL, List.mem_map, List.mem_range] at hl
      obtain ⟨a, ha, rfl⟩ := hl
      simp only [optGo, List.length_nil]
      omega
    · have e : (optGo (nfirst c) keep c.gates 0).2.getD v 0 = 2 * v := by
        simp only [optGo, ownL]
        rw [List.getD_eq_getElem?_getD, List.getElem?_map, List.getElem?_range (by omega)]
        rfl
      rw [e]
      unfold lit
      rw [show 2 * v / 2 = v from by omega, show 2 * v % 2 = 0 from by omega, vals_first c l1 l2 (by omega)]
      simp [optGo, bv, evalG]
  | k + 1, hkl => by
    have ih := opt_inv hc hk k (by omega)
    have hg := ok_getD hc (show k < c.gates.length by omega)
    have hgk : c.gates[k]? = some (c.gates.getD k (0, 0)) := by rw [List.getD_eq_getElem?_getD, List.getElem?_eq_getElem (by omega), Option.getD_some]
    have hp := nfirst_pos c
    rw [optGo]
    generalize optGo (nfirst c) keep c.gates k = p at ih ⊢
    generalize hgg : c.gates.getD k (0, 0) = g at hg hgk
    unfold optStep
    rw [hgg]
    by_cases hkp : keep.getD (nfirst c + k) false = true
    · rw [if_pos hkp]
      have hcl := hk.gate k (by omega) hkp
      rw [hgg] at hcl
      have t1 := useX_lt (by omega) ih.lt g.1
      have t2 := useX_lt (by omega) ih.lt g.2
      have hln := andB_len (nfirst c) p.1 (useX p.2 g.1) (useX p.2 g.2)
      have hlt := andB_lt hp t1 t2
      refine ⟨by simp [ih.len]; omega, by have := ih.glen; simp only; omega, andB_ok ih.ok t1 t2, fun l hl => ?_, fun st inp l1 l2 v hv hkv => ?_⟩
      · simp only at hl ⊢
        rcases List.mem_append.1 hl with h | h
        · have := ih.lt l h; omega
        · rw [List.mem_singleton.1 h]; exact hlt
      · simp only
        have hv0 := first_len (c := c) l1 l2
        by_cases e : v < nfirst c + k
        · rw [getD_append_lt 0 (by rw [ih.len]; omega), andB_lit hv0]
          · exact ih.val st inp l1 l2 v e hkv
          · refine ih.lt _ ?_
            rw [List.getD_eq_getElem?_getD, List.getElem?_eq_getElem (by rw [ih.len]; omega), Option.getD_some]
            exact List.getElem_mem _
        · obtain rfl : v = nfirst c + k := by omega
          rw [getD_append_at 0 ih.len.symm, andB_val hv0 hp rfl ih.ok t1 t2, vals_gate c l1 l2 hc hgk]
          unfold gval
          rw [ih.useX l1 l2 (by omega) (.inr hcl.1), ih.useX l1 l2 (by omega) (.inr hcl.2)]
    · rw [if_neg hkp]
      refine ⟨by simp [ih.len]; omega, by have := ih.glen; simp only; omega, ih.ok, fun l hl => ?_, fun st inp l1 l2 v hv hkv => ?_⟩
      · simp only at hl ⊢
        rcases List.mem_append.1 hl with h | h
        · exact ih.lt l h
        · rw [List.mem_singleton.1 h]; omega
      · have e : v < nfirst c + k := by
          rcases hkv with h | h
          · omega
          · rcases Nat.lt_or_ge v (nfirst c + k) with h2 | h2
            · exact h2
            · obtain rfl : v = nfirst c + k := by omega
              exact absurd h hkp
        simp only
        rw [getD_append_lt 0 (by rw [ih.len]; omega)]
        exact ih.val st inp l1 l2 v e hkv
def built (c : Ci) (keep : List Bool) : Ci :=
  { ins := c.ins, next := c.next.map (useX (optGo (nfirst c) keep c.gates c.gates.length).2), gates := (optGo (nfirst c) keep c.gates c.gates.length).1.reverse, outs := c.outs.map (useX (optGo (nfirst c) keep c.gates c.gates.length).2) }
theorem gok_get {F : Nat} : ∀ {G : List (Nat × Nat)}, GOk F G → ∀ (k : Nat) (g : Nat × Nat), G.reverse[k]? = some g → g.1 < 2 * (F + k) ∧ g.2 < 2 * (F + k)
  | [], _, k, g, h => by simp at h
  | a :: G, hG, k, g, h => by
    rw [List.reverse_cons] at h
    by_cases e : k < G.length
    · rw [List.getElem?_append_left (by simpa using e)] at h
      exact gok_get hG.2.2 k g h
    · rw [List.getElem?_append_right (by simp; omega), List.length_reverse] at h
      by_cases e2 : k = G.length
      · subst e2
        simp at h
        subst h
        exact ⟨hG.1, hG.2.1⟩
      · rw [List.getElem?_eq_none (by simp; omega)] at h
        cases h
theorem built_ok {c : Ci} {keep : List Bool} (hc : Ok c) (hk : Closed c keep) : Ok (built c keep) := by
  have hi := opt_inv hc hk c.gates.length (Nat.le_refl _)
  have hp := nfirst_pos c
  have hn : nfirst (built c keep) = nfirst c := by simp [nfirst, built]
  have hv : nvars (built c keep) = nfirst c + (optGo (nfirst c) keep c.gates c.gates.length).1.length := by unfold nvars; rw [hn]; simp [built]
  refine ⟨hc.ins, by simpa [built] using hc.nexts, ?_, by simpa [built] using hc.outss, fun k g hg => ?_, fun l hl => ?_, fun l hl => ?_⟩
  · have := hi.glen
    have := hc.gatess
    simp only [built, List.length_reverse]
    omega
  · rw [hn]
    exact gok_get hi.ok k g hg
  · simp only [built, List.mem_map] at hl
    obtain ⟨a, _, rfl⟩ := hl
    rw [hv]
    exact useX_lt (by omega) hi.lt a
  · simp only [built, List.mem_map] at hl
    obtain ⟨a, _, rfl⟩ := hl
    rw [hv]
    exact useX_lt (by omega) hi.lt a
theorem built_same {c : Ci} {keep : List Bool} (hc : Ok c) (hk : Closed c keep) : SameStep c (built c keep) := by
  have hi := opt_inv hc hk c.gates.length (Nat.le_refl _)
  refine ⟨rfl, by simp [built], by simp [built], fun st inp l1 l2 => ?_⟩
  have e : ∀ l, l ∈ c.next ++ c.outs → lit (vals (built c keep) st inp) (useX (optGo (nfirst c) keep c.gates c.gates.length).2 l) = lit (vals c st inp) l := fun l hl =>
    hi.useX l1 l2 (by
      rcases List.mem_append.1 hl with h | h
      · have := hc.next l h; unfold nvars at this; omega
      · have := hc.out l h; unfold nvars at this; omega) (.inr (hk.root l hl))
  refine ⟨?_, ?_⟩
  · unfold lits
    rw [show (built c keep).next = c.next.map (useX (optGo (nfirst c) keep c.gates c.gates.length).2) from rfl, List.map_map]
    exact List.map_congr_left fun l hl => e l (List.mem_append_left _ hl)
  · unfold lits
    rw [show (built c keep).outs = c.outs.map (useX (optGo (nfirst c) keep c.gates c.gates.length).2) from rfl, List.map_map]
    exact List.map_congr_left fun l hl => e l (List.mem_append_right _ hl)
/-! ### Without the gates that nothing reaches -/
def keptI (F : Nat) (keep : List Bool) (k : Nat) : List Nat := (List.range k).filter fun i => keep.getD (F + i) false
def plc (F : Nat) (keep : List Bool) (v : Nat) : Nat := if v < F then v else if keep.getD v false then F + (keptI F keep (v - F)).length else 0
def useP (F : Nat) (keep : List Bool) (l : Nat) : Nat := 2 * plc F keep (l / 2) + l % 2
def keptG (F : Nat) (keep : List Bool) (gs : List (Nat × Nat)) (k : Nat) : List (Nat × Nat) := (keptI F keep k).map fun i => (useP F keep (gs.getD i (0, 0)).1, useP F keep (gs.getD i (0, 0)).2)
def prune (c : Ci) (keep : List Bool) : Ci :=
  { ins := c.ins, next := c.next.map (useP (nfirst c) keep), gates := keptG (nfirst c) keep c.gates c.gates.length, outs := c.outs.map (useP (nfirst c) keep) }
theorem keptI_succ (F : Nat) (keep : List Bool) (k : Nat) : keptI F keep (k + 1) = keptI F keep k ++ (if keep.getD (F + k) false then [k] else []) := by
  unfold keptI
  rw [List.range_succ, List.filter_append]
  congr 1
  rw [List.filter_cons]
  rfl
theorem keptI_le (F : Nat) (keep : List Bool) (k : Nat) : (keptI F keep k).length ≤ k := by
  have := List.length_filter_le (fun i => keep.getD (F + i) false) (List.range k)
  simpa [keptI] using this
structure PrInv (c : Ci) (keep : List Bool) (k : Nat) : Prop where
  len : (keptG (nfirst c) keep c.gates k).length = (keptI (nfirst c) keep k).length
  lt : ∀ v, v < nfirst c + k → plc (nfirst c) keep v < nfirst c + (keptI (nfirst c) keep k).length
  gok : ∀ (j : Nat) (g : Nat × Nat), (keptG (nfirst c) keep c.gates k)[j]? = some g → g.1 < 2 * (nfirst c + j) ∧ g.2 < 2 * (nfirst c + j)
  val : ∀ (st inp : List Bool), inp.length = c.ins → st.length = c.next.length → ∀ v, v < nfirst c + k → (v < nfirst c ∨ keep.getD v false = true) → (evalG (keptG (nfirst c) keep c.gates k) (false :: (inp ++ st))).getD (plc (nfirst c) keep v) false = (vals c st inp).getD v false
theorem PrInv.use {c : Ci} {keep : List Bool} {k : Nat} (h : PrInv c keep k) {st inp : List Bool} (l1 : inp.length = c.ins) (l2 : st.length = c.next.length) {l : Nat} (hl : l / 2 < nfirst c + k) (hk : l / 2 < nfirst c ∨ keep.getD (l / 2) false = true) :
    lit (evalG (keptG (nfirst c) keep c.gates k) (false :: (inp ++ st))) (useP (nfirst c) keep l) = lit (vals c st inp) l := by
  unfold useP lit
  rw [show (2 * plc (nfirst c) keep (l / 2) + l % 2) / 2 = plc (nfirst c) keep (l / 2) from by omega, show (2 * plc (nfirst c) keep (l / 2) + l % 2) % 2 = l % 2 from by omega, h.val st inp l1 l2 _ hl hk]
theorem PrInv.ult {c : Ci} {keep : List Bool} {k : Nat} (h : PrInv c keep k) {l : Nat} (hl : l / 2 < nfirst c + k) : useP (nfirst c) keep l < 2 * (nfirst c + (keptI (nfirst c) keep k).length) := by
  have := h.lt _ hl
  unfold useP
  omega
theorem keptG_len (F : Nat) (keep : List Bool) (gs : List (Nat × Nat)) (k : Nat) : (keptG F keep gs k).length = (keptI F keep k).length := by unfold keptG; rw [List.length_map]
theorem pr_inv {c : Ci} {keep : List Bool} (hc : Ok c) (hk : Closed c keep) : ∀ k, k ≤ c.gates.length → PrInv c keep k
  | 0, _ => by
    have hp := nfirst_pos c
    refine ⟨rfl, fun v hv => ?_, fun j g hj => by simp [keptG, keptI] at hj, fun st inp l1 l2 v hv _ => ?_⟩
    · unfold plc
      rw [if_pos (by omega)]
      omega
    · unfold plc
      rw [if_pos (by omega), vals_first c l1 l2 (by omega)]
      simp [keptG, keptI, evalG]
  | k + 1, hkl => by
    have ih := pr_inv hc hk k (by omega)
    have hg := ok_getD hc (show k < c.gates.length by omega)
    have hgk : c.gates[k]? = some (c.gates.getD k (0, 0)) := by rw [List.getD_eq_getElem?_getD, List.getElem?_eq_getElem (by omega), Option.getD_some]
    have hp := nfirst_pos c
    have hs := keptI_succ (nfirst c) keep k
    by_cases hkp : keep.getD (nfirst c + k) false = true
    · rw [if_pos hkp] at hs
      have hcl := hk.gate k (by omega) hkp
      have hpl : plc (nfirst c) keep (nfirst c + k) = nfirst c + (keptI (nfirst c) keep k).length := by
        unfold plc
        rw [if_neg (by omega), if_pos hkp, show nfirst c + k - nfirst c = k from by omega]
      have hG : keptG (nfirst c) keep c.gates (k + 1) = keptG (nfirst c) keep c.gates k ++ [(useP (nfirst c) keep (c.gates.getD k (0, 0)).1, useP (nfirst c) keep (c.gates.getD k (0, 0)).2)] := by
        unfold keptG
        rw [hs, List.map_append]
        rfl
      have hl1 : (keptI (nfirst c) keep (k + 1)).length = (keptI (nfirst c) keep k).length + 1 := by rw [hs]; simp
      refine ⟨keptG_len _ _ _ _, fun v hv => ?_, fun j g hj => ?_, fun st inp l1 l2 v hv hkv => ?_⟩
      · rw [hl1]
        by_cases e : v < nfirst c + k
        · have := ih.lt v e; omega
        · obtain rfl : v = nfirst c + k := by omega
          rw [hpl]; omega
      · rw [hG] at hj
        by_cases e : j < (keptI (nfirst c) keep k).length
        · rw [List.getElem?_append_left (by rw [keptG_len]; exact e)] at hj
          exact ih.gok j g hj
        · rw [List.getElem?_append_right (by rw [keptG_len]; omega), keptG_len] at hj
          by_cases e2 : j = (keptI (nfirst c) keep k).length
          · subst e2
            simp only [Nat.sub_self, List.getElem?_cons_zero, Option.some.injEq] at hj
            subst hj
            exact ⟨ih.ult (by omega), ih.ult (by omega)⟩
          · rw [List.getElem?_eq_none (by simp; omega)] at hj
            cases hj
      · rw [hG, evalG_snoc]
        have hlen : (evalG (keptG (nfirst c) keep c.gates k) (false :: (inp ++ st))).length = nfirst c + (keptI (nfirst c) keep k).length := by rw [evalG_length, keptG_len, first_len l1 l2]
        by_cases e : v < nfirst c + k
        · rw [getD_append_lt false (by rw [hlen]; exact ih.lt v e)]
          exact ih.val st inp l1 l2 v e hkv
        · obtain rfl : v = nfirst c + k := by omega
          rw [hpl, getD_append_at false hlen.symm, vals_gate c l1 l2 hc hgk]
          unfold gval
          rw [ih.use l1 l2 (by omega) (.inr hcl.1), ih.use l1 l2 (by omega) (.inr hcl.2)]
    · rw [if_neg hkp, List.append_nil] at hs
      have hG : keptG (nfirst c) keep c.gates (k + 1) = keptG (nfirst c) keep c.gates k := by
        unfold keptG
        rw [hs]
      refine ⟨keptG_len _ _ _ _, fun v hv => ?_, fun j g hj => ?_, fun st inp l1 l2 v hv hkv => ?_⟩
      · rw [hs]
        by_cases e : v < nfirst c + k
        · exact ih.lt v e
        · obtain rfl : v = nfirst c + k := by omega
          unfold plc
          rw [if_neg (by omega), if_neg hkp]
          omega
      · rw [hG] at hj
        exact ih.gok j g hj
      · have e : v < nfirst c + k := by
          rcases hkv with h | h
          · omega
          · rcases Nat.lt_or_ge v (nfirst c + k) with h2 | h2
            · exact h2
            · obtain rfl : v = nfirst c + k := by omega
              exact absurd h hkp
        rw [hG]
        exact ih.val st inp l1 l2 v e hkv
theorem prune_ok {c : Ci} {keep : List Bool} (hc : Ok c) (hk : Closed c keep) : Ok (prune c keep) := by
  have hi := pr_inv hc hk c.gates.length (Nat.le_refl _)
  have hn : nfirst (prune c keep) = nfirst c := by simp [nfirst, prune]
  have hv : nvars (prune c keep) = nfirst c + (keptI (nfirst c) keep c.gates.length).length := by unfold nvars; rw [hn]; simp [prune, keptG_len]
  refine ⟨hc.ins, by simpa [prune] using hc.nexts, ?_, by simpa [prune] using hc.outss, fun k g hg => ?_, fun l hl => ?_, fun l hl => ?_⟩
  · have := keptI_le (nfirst c) keep c.gates.length
    have := hc.gatess
    simp only [prune, keptG_len]
    omega
  · rw [hn]
    exact hi.gok k g hg
  · simp only [prune, List.mem_map] at hl
    obtain ⟨a, ha, rfl⟩ := hl
    rw [hv]
    exact hi.ult (by have := hc.next a ha; unfold nvars at this; omega)
  · simp only [prune, List.mem_map] at hl
    obtain ⟨a, ha, rfl⟩ := hl
    rw [hv]
    exact hi.ult (by have := hc.out a ha; unfold nvars at this; omega)
theorem prune_same {c : Ci} {keep : List Bool} (hc : Ok c) (hk : Closed c keep) : SameStep c (prune c keep) := by
  have hi := pr_inv hc hk c.gates.length (Nat.le_refl _)
  refine ⟨rfl, by simp [prune], by simp [prune], fun st inp l1 l2 => ?_⟩
  have e : ∀ l, l ∈ c.next ++ c.outs → lit (vals (prune c keep) st inp) (useP (nfirst c) keep l) = lit (vals c st inp) l := fun l hl =>
    hi.use l1 l2 (by
      rcases List.mem_append.1 hl with h | h
      · have := hc.next l h; unfold nvars at this; omega
      · have := hc.out l h; unfold nvars at this; omega) (.inr (hk.root l hl))
  refine ⟨?_, ?_⟩
  · unfold lits
    rw [show (prune c keep).next = c.next.map (useP (nfirst c) keep) from rfl, List.map_map]
    exact List.map_congr_left fun l hl => e l (List.mem_append_left _ hl)
  · unfold lits
    rw [show (prune c keep).outs = c.outs.map (useP (nfirst c) keep) from rfl, List.map_map]
    exact List.map_congr_left fun l hl => e l (List.mem_append_right _ hl)
/-- The optimized circuit. -/
def optI (c : Ci) : Ci := prune (built c (reached c)) (reached (built c (reached c)))
theorem optI_ok {c : Ci} (hc : Ok c) : Ok (optI c) := by
  have h := built_ok hc (reached_closed hc)
  exact prune_ok h (reached_closed h)
theorem optI_same {c : Ci} (hc : Ok c) : SameStep c (optI c) := by
  have h := built_ok hc (reached_closed hc)
  exact (built_same hc (reached_closed hc)).trans (prune_same h (reached_closed h))
end Cir
end Go.Proofs.Ytdgminjbgjbamaa

namespace Go.Proofs.Ytdgminjbgjbamaa
open Go.RowKit
set_option maxRecDepth 100000
set_option maxHeartbeats 8000000
/-! The variables that something reaches, by the program. -/
theorem tdiv_two (l : Nat) : (l : Int).tdiv 2 = ((l / 2 : Nat) : Int) := by rw [Int.tdiv_eq_ediv_of_nonneg (by omega)]; omega
theorem bools_set (V : List Bool) (i : Nat) (b : Bool) : (bools V).set i (.bool b) = bools (V.set i b) := by
  unfold bools
  rw [List.map_set]
theorem rootMark_snoc {n : Nat} {ls : List Nat} {k l : Nat} (h : ls[k]? = some l) : Cir.rootMark n (ls.take (k + 1)) = (Cir.rootMark n (ls.take k)).set (l / 2) true := by
  unfold Cir.rootMark
  rw [List.take_add_one, h, List.foldl_append]
  rfl
theorem reached_any (g : Nat) (d : Ci) (w : World) (h : PCirc w g (Cir.toCz d)) (hd : Cir.Ok d) :
    Calls Try.prog 90 #[.pointer (some ⟨g, 0, none⟩)] w (OwnBools (Cir.reached d) w) := by
  have s1 := hd.ins
  have s2 := hd.nexts
  have s3 := hd.gatess
  have s4 := hd.outss
  have HGt := Lib.hid hd.gate
  have hnl : (Cir.toCz d).next.length = d.next.length := List.length_map _
  have hgl : (Cir.toCz d).gates.length = d.gates.length := List.length_map _
  have hol : (Cir.toCz d).outs.length = d.outs.length := List.length_map _
  obtain ⟨n, hn⟩ : ∃ n, n = Cir.nvars d := ⟨_, rfl⟩
  have hnd : n = 1 + d.ins + d.next.length + d.gates.length := hn
  have HLt : Hid (∀ l ∈ d.next ++ d.outs, l < 2 * n) := Lib.hid fun l hl => by
    rw [hn]
    rcases List.mem_append.1 hl with h | h
    · exact hd.next l h
    · exact hd.out l h
  have HV := vars_any g _ w h (by show (0 : Int) ≤ (d.ins : Int); omega) (by show (d.ins : Int) ≤ 100; omega) (by omega) (by omega)
  rw [Cir.vars_toCz, ← hn] at HV
  have Hv := Lib.hid HV
  have Hp := Lib.hid h
  have hroots : (Cir.toCz d).next ++ (Cir.toCz d).outs = (d.next ++ d.outs).map Int.ofNat := by
    rw [List.map_append]
    rfl
  have HRo : Hid (∀ w', PCirc w' g (Cir.toCz d) → Calls Try.prog 81 #[.pointer (some ⟨g, 0, none⟩)] w' (OwnInts ((d.next ++ d.outs).map Int.ofNat) w')) := Lib.hid fun w' hp => by
    rw [← hroots]
    exact roots_any g _ w' hp (by omega) (by omega)
  have hR0 : Cir.reached d = Cir.reachK (Cir.nfirst d) d.gates d.gates.length (Cir.rootMark n (d.next ++ d.outs)) := by rw [hn]; rfl
  have hRl := Cir.reached_length d
  rw [← hn] at hRl
  have HR0 := Lib.hid hR0
  have HRl := Lib.hid hRl
  generalize Cir.reached d = R at *
  have hLl : (d.next ++ d.outs).length ≤ 6 := by rw [List.length_append]; omega
  generalize d.next ++ d.outs = LS at *
  have hmk := run_make_row' (P := Try.prog) 64 4 (.bool false) 1 Try.underlying64 info_bool rfl .i64 .i64 n (by omega) (by omega)
  obtain ⟨vn, vg, vo, hg, c0, c1, c2, c3, r1, r2, r3⟩ := Hp.out
  obtain ⟨Ag, cg, hvg, hcg, hcmg⟩ := Row.shape r2
  rw [hgl] at hvg
  subst hvg
  rw [hgl] at hcg
  have C2 := Lib.hid c2
  have R2 : Hid (Row w 2 (.slice Ag d.gates.length cg) d.gates.length (cubes (Cir.toCz d).gates)) := Lib.hid (by have := r2; unfold CubesAt at this; rwa [hgl] at this)
  have Hgl := Lib.hid hgl
  have hnf : Cir.nfirst d ≤ 8 := by unfold Cir.nfirst; omega
  have hnn : n = Cir.nfirst d + d.gates.length := by unfold Cir.nfirst; omega
  have HPf : Hid (∀ w', Below w.heap.size w w' → Calls Try.prog 61 #[.pointer (some ⟨g, 0, none⟩)] w' fun e w'' => e = .returned (.int .i64 (Cir.nfirst d : Nat)) ∧ Below w'.heap.size w' w'') := Lib.hid fun w' hb => by
    have := firstGate_any g _ w' (Hp.out.below hb) (by show (0 : Int) ≤ (d.ins : Int); omega) (by show (d.ins : Int) ≤ 100; omega) (by show (List.map _ _).length ≤ 100; rw [List.length_map]; omega)
    rwa [Cir.first_toCz] at this
  generalize Cir.nfirst d = nf at *
  have Hnn := Lib.hid hnn
  have hnu : n ≤ 22 := by omega
  have hn0 : 0 < n := by omega
  have hnk : ∀ k, k < d.gates.length → nf + k < n := fun k hk => by omega
  have Hnk := Lib.hid hnk
  clear r1 r2 r3 c0 c1 c2 c3 HV h hd hroots hR0 hRl hnl hgl hol hn hnd hnn hnk
  go_enter Try.func90, Try.ntmps90
  go_wp2_with fail
  refine Hv.out.mono ?_
  rintro e w1 ⟨rfl, hb1⟩
  have hO0 : (w1.alloc (.cells (madeCells #[Value.bool false] n) 4)).ownsRow w1.heap.size 4 1 (.slice (some ⟨w1.heap.size, 0, none⟩) n n) n (bools (List.replicate n false)) := by
    have h := World.ownsRow_lit (base := w1.heap.size) (e := 4) (size := 1) w1 (madeCells #[Value.bool false] n) n (Nat.le_refl _) (by unfold maxLen; omega) (by simp [madeCells])
    have e : (madeCells #[Value.bool false] n).toList = bools (List.replicate n false) := by simp [madeCells, bools, Nat.mod_one, List.map_const']
    rwa [e] at h
  have hB2 : Below w.heap.size w (w1.alloc (.cells (madeCells #[Value.bool false] n) 4)) := hb1.alloc hb1.size _
  have hz1 := hb1.size
  go_wp2_with fail
  generalize w1.alloc (.cells (madeCells #[Value.bool false] n) 4) = W2 at *
  generalize w1.heap.size = gb at *
  have HO0 := Lib.hid hO0
  have HB2 := Lib.hid hB2
  clear hO0 hB2 hb1 hmk Hv
  refine (HRo.out W2 (Hp.out.below HB2.out)).mono ?_
  rintro e w3 ⟨vr, rfl, hor, hb3⟩
  obtain ⟨Ar, cr, hvr⟩ := slice_of_own hor
  subst hvr
  rw [List.length_map] at hor ⊢
  have Hor := Lib.hid (Row.of_own hor)
  have hrg : ∀ g', (Value.slice Ar LS.length cr).ownBlock = some g' → W2.heap.size ≤ g' := fun g' hg' => (hor.lt g' hg').1
  have Hrg := Lib.hid hrg
  have HOr := Lib.hid hor
  have hgbl : gb < W2.heap.size := by
    obtain ⟨g', c', e', h1, h2, h3, h4⟩ := own_open HO0.out hn0
    injection e' with e1
    injection e1 with e1
    injection e1 with e1
    omega
  have HO3 := Lib.hid (own_below HO0.out hb3)
  have HB3 := Lib.hid (HB2.out.trans (hb3.mono HB2.out.size))
  have hz3 := hb3.size
  clear hor hb3 hrg HRo HO0
  go_wp2_with fail
  go_loopw [13] (fun i wr => ∃ k : Nat, k ≤ LS.length ∧ i = .int .i64 k ∧ Hid (wr.ownsRow gb 4 1 (.slice (some ⟨gb, 0, none⟩) n n) n (bools (Cir.rootMark n (LS.take k)))) ∧ Hid (wr.ownsRow W2.heap.size 3 1 (.slice Ar LS.length cr) LS.length (ints (LS.map Int.ofNat))) ∧ Below w.heap.size w wr) (fun i _ => LS.length - (intOf i).toNat)
  case atStart => exact ⟨0, Nat.zero_le _, rfl, Lib.hid HO3.out, HOr, HB3.out⟩
  case round =>
    obtain ⟨k, hk, rfl, Ho, Hor, hb⟩ := hrel
    clear HO3 HB3 HOr HB2
    by_cases hlt : k < LS.length
    · obtain ⟨l, hl⟩ := at_some hlt
      have hl2 := HLt.out l (List.mem_of_getElem? hl)
      obtain ⟨b, o, x, rfl, hbl, hx, hs⟩ := ints_open (Row.of_own Hor.out) (Below.refl _ _) (by rw [List.length_map]) (i := k) (by rw [List.length_map]; exact hlt)
      have hxe : x = (l : Int) := by
        have h1 := hx.out
        rw [List.getElem?_map, hl] at h1
        exact (Option.some.inj h1).symm
      subst hxe
      have HS := Lib.hid (rootMark_snoc (n := n) hl)
      have hml := Cir.rootMark_length n (LS.take k)
      generalize Cir.rootMark n (LS.take k) = V at *
      have hq := tdiv_two l
      have hq2 : l / 2 < n := by omega
      have HSet := Lib.hid (bools_set V (l / 2) true)
      generalize l / 2 = q at *
      obtain ⟨u0, _, hd0, hf0⟩ := own_slot Ho.out (j := q) (by omega)
      have Hst := Lib.hid (Ho.out.stored q (.bool true))
      have hbz : b ≠ gb := fun e => by
        have := Hrg.out b rfl
        omega
      have HorS := Lib.hid (own_only Hor.out (Only.grown Hst.out.2 (fun k hk => hk)) (fun g' hg' e => by
        have h1 := Hrg.out g' hg'
        have h2 := Option.some.inj e
        omega))
      have Hb := Lib.hid hb
      have hwq : IntKind.i64.wrap (q : Int) = q := IntWalk.i64_in _ (by omega)
      clear hx hl hml hb
      go_wp2_with fail
      go_roundw
      case rel => exact ⟨k + 1, by omega, by go_num, Lib.hid (by rw [HS.out, ← HSet.out]; exact Hst.out.1), HorS, Hb.out.grown Hst.out.2 Hb.out.size (fun q hq => by have := Option.some.inj hq; omega)⟩
      case measure => simp [intOf]; omega
    · obtain rfl : k = LS.length := by omega
      rw [List.take_length] at Ho
      have HR1 := Lib.hid (show Cir.reachK nf d.gates d.gates.length (Cir.rootMark n LS) = R from HR0.out.symm)
      have HV0 := Lib.hid (Cir.rootMark_length n LS)
      generalize Cir.rootMark n LS = V0 at *
      have hb0 := hb.cell (p := ⟨g, 2, none⟩) hg
      have c2 := hb0.trans C2.out
      have Hb := Lib.hid hb
      clear hb hb0 hlt HR0 Hor
      have hwg : IntKind.i64.wrap ((d.gates.length : Int) - 1) = (d.gates.length : Int) - 1 := IntWalk.i64_in _ (by omega)
      go_wp2_with fail
      obtain ⟨W5, hW5⟩ : ∃ W, W = wr := ⟨_, rfl⟩
      subst hW5
      go_loopw [6] (fun i wr => ∃ (k : Nat) (V : List Bool) (j : Int), k ≤ d.gates.length ∧ i = .int .i64 j ∧ j = (k : Int) - 1 ∧ V.length = n ∧ Hid (Cir.reachK nf d.gates k V = R) ∧ Hid (wr.ownsRow gb 4 1 (.slice (some ⟨gb, 0, none⟩) n n) n (bools V)) ∧ Below w.heap.size w wr) (fun i _ => (intOf i + 1).toNat)
      case atStart => exact ⟨d.gates.length, V0, _, Nat.le_refl _, rfl, rfl, HV0.out, HR1, Ho, Hb.out⟩
      case round =>
        obtain ⟨k, V, j, hk, rfl, hj, hVl, HR, Ho, hb⟩ := hrel
        clear HR1 HV0
        cases k with
        | zero =>
          obtain rfl : j = -1 := by omega
          clear hj
          go_wp2_with fail
          go_ret
          have e : V = R := HR.out
          exact ⟨_, rfl, by rw [HRl.out, ← e]; exact own_mono Ho.out hz1, hb⟩
        | succ k =>
          obtain rfl : j = (k : Int) := by omega
          clear hj
          obtain ⟨gt, hgt⟩ := at_some (show k < d.gates.length by omega)
          obtain ⟨g1, g2⟩ := HGt.out k gt hgt
          have hgD : d.gates.getD k (0, 0) = gt := by rw [List.getD_eq_getElem?_getD, hgt, Option.getD_some]
          have hst : Cir.reachK nf d.gates k (Cir.reachStep nf d.gates k V) = R := HR.out
          have hsl := Cir.reachStep_length nf d.gates k V
          have hse : Cir.reachStep nf d.gates k V = if V.getD (nf + k) false then (V.set (gt.1 / 2) true).set (gt.2 / 2) true else V := by unfold Cir.reachStep; rw [hgD]
          have HSt := Lib.hid hst
          have hix : ((nf : Int) + (k : Int)).toNat = nf + k := by omega
          have hwk : IntKind.i64.wrap ((nf : Int) + (k : Int)) = (nf : Int) + (k : Int) := IntWalk.i64_in _ (by omega)
          have hwm : IntKind.i64.wrap ((k : Int) - 1) = (k : Int) - 1 := IntWalk.i64_in _ (by omega)
          have Hb := Lib.hid hb
          have Hgt := Lib.hid hgt
          have hj0 : (0 : Int) ≤ (k : Int) := by omega
          have hjd : decide ((k : Int) ≥ 0) = true := decide_eq_true hj0
          clear hst HR hgD hb hgt
          go_wp2_with fail
          refine (HPf.out _ Hb.out).mono ?_
          rintro e w9 ⟨rfl, hb9⟩
          have Hb9 := Lib.hid (Hb.out.trans (hb9.mono Hb.out.size))
          have Ho9 := Lib.hid (own_below Ho.out hb9)
          have hz9 := Hb9.out.size
          have hnk := Hnk.out k (by omega)
          have hsk : (bools V)[nf + k]? = some (.bool (V.getD (nf + k) false)) := by
            unfold bools
            rw [List.getElem?_map, List.getElem?_eq_getElem (by omega), List.getD_eq_getElem?_getD, List.getElem?_eq_getElem (by omega)]
            rfl
          obtain ⟨u0, hu0, hd0, hf0⟩ := own_slot Ho9.out (j := nf + k) (by omega)
          obtain rfl : u0 = .bool (V.getD (nf + k) false) := Option.some.inj (hu0.symm.trans hsk)
          clear hu0 hb9 hsk Ho
          cases hfl : V.getD (nf + k) false
          · rw [hfl] at hd0 hse
            rw [if_neg (by simp)] at hse
            rw [hse] at HSt
            clear hse hfl hsl
            go_wp2_with fail
            go_roundw
            case rel => exact ⟨k, V, _, by omega, rfl, rfl, hVl, HSt, Ho9, Hb9.out⟩
            case measure => simp [intOf] <;> omega
          · rw [hfl] at hd0 hse
            rw [if_pos rfl] at hse
            clear hfl
            have q0 := (Hb9.out.cell (p := ⟨g, 2, none⟩) hg).trans C2.out
            obtain ⟨b, o, x, rfl, hbl, hx, hs1, hs2⟩ := cubes_open R2.out Hb9.out Hgl.out.symm (i := k) (by rw [Hgl.out]; omega)
            have hxe : x = ((gt.1 : Int), (gt.2 : Int)) := by
              have h1 := hx.out
              unfold Cir.toCz at h1
              simp only [List.getElem?_map, Hgt.out] at h1
              exact (Option.some.inj h1).symm
            subst hxe
            obtain ⟨G1, hG1⟩ : ∃ G1, G1 = gt.1 := ⟨_, rfl⟩
            obtain ⟨G2, hG2⟩ : ∃ G2, G2 = gt.2 := ⟨_, rfl⟩
            rw [← hG1] at g1 hs1 hse
            rw [← hG2] at g2 hs2 hse
            have t1 := tdiv_two G1
            have t2 := tdiv_two G2
            have p1 : G1 / 2 < n := by omega
            have p2 : G2 / 2 < n := by omega
            have HG := Lib.hid (And.intro hG1 hG2)
            clear hG1 hG2
            generalize G1 / 2 = Q1 at *
            generalize G2 / 2 = Q2 at *
            have hwq1 : IntKind.i64.wrap (Q1 : Int) = Q1 := IntWalk.i64_in _ (by omega)
            have hwq2 : IntKind.i64.wrap (Q2 : Int) = Q2 := IntWalk.i64_in _ (by omega)
            obtain ⟨u1, _, hd1, hf1⟩ := own_slot Ho9.out (j := Q1) (by omega)
            have hst1 := Ho9.out.stored Q1 (.bool true)
            rw [bools_set] at hst1
            have hb10 := Hb9.out.grown hst1.2 Hb9.out.size (fun q hq => by have := Option.some.inj hq; omega)
            obtain ⟨W10, hW10⟩ : ∃ W, w9.setCell ⟨gb, Q1, none⟩ (.bool true) = W := ⟨_, rfl⟩
            rw [hW10] at hst1 hb10
            obtain ⟨u2, _, hd2, hf2⟩ := own_slot hst1.1 (j := Q2) (by omega)
            have hst2 := hst1.1.stored Q2 (.bool true)
            rw [bools_set] at hst2
            have q1 := (hb10.cell (p := ⟨g, 2, none⟩) hg).trans C2.out
            obtain ⟨b', o', x', hbe, hbl', hx', hs1', hs2'⟩ := cubes_open R2.out hb10 Hgl.out.symm (i := k) (by rw [Hgl.out]; omega)
            injection hbe with hbe
            injection hbe with hb1 hb2
            subst hb1 hb2
            have hxe' : x' = ((gt.1 : Int), (gt.2 : Int)) := by
              have h1 := hx'.out
              unfold Cir.toCz at h1
              simp only [List.getElem?_map, Hgt.out] at h1
              exact (Option.some.inj h1).symm
            subst hxe'
            rw [← HG.out.2] at hs2'
            have HSt1 := Lib.hid hst2
            have Hb10 := Lib.hid hb10
            have Hse := Lib.hid hse
            have hz10 := hb10.size
            clear hx hx' hs1' hb10 hst1 hst2 hse hbl hbl'
            go_wp2_with fail
            go_roundw
            case rel => exact ⟨k, (V.set Q1 true).set Q2 true, _, by omega, rfl, rfl, by simp [hVl], by rw [Hse.out] at HSt; exact HSt, Lib.hid HSt1.out.1, Hb10.out.grown HSt1.out.2 Hb10.out.size (fun q hq => by have := Option.some.inj hq; omega)⟩
            case measure => simp [intOf] <;> omega
end Go.Proofs.Ytdgminjbgjbamaa

namespace Go.Proofs.Ytdgminjbgjbamaa
open Go.RowKit
/-! An append in a drawn region, with the place of the new row. -/
def JApp2 (T B : Nat) (e : TypeId) (size : Nat) (v : Value) (n : Nat) (cs news : List Value) : Option Value → World → Prop
  | none, w => w.ownsRow B e size v n cs
  | some v', w => w.ownsRow B e size v' (n + 1) (cs ++ news) ∧ ∀ g, v'.ownBlock = some g → v.ownBlock = some g ∨ T ≤ g
@[reducible] def appRS2 (Pg : Program) (ops : Array Oper) (w : World) (a : Act) (B : Nat) (e : TypeId) (size : Nat) (v : Value) (n : Nat) (cs news : List Value) (d : Nat) : RS :=
  { P := Pg, ops := ops, E := fun g => v.ownBlock = some g, F := fun _ => False, rd := none, w0 := w, J := JApp2 w.heap.size B e size v n cs news, d := d, a0 := a }
theorem appRS2_ok {Pg : Program} {ops : Array Oper} {w : World} {a : Act} {B : Nat} {e : TypeId} {size : Nat} {v : Value} {n : Nat} {cs news : List Value} {d : Nat} (hown : w.ownsRow B e size v n cs) : (appRS2 Pg ops w a B e size v n cs news d).Ok :=
  ⟨fun _ h => h.elim, fun ov w1 w2 hj ho => by
    cases ov with
    | none => exact own_below hj (only_below ho)
    | some v' => exact ⟨own_below hj.1 (only_below ho), hj.2⟩,
    fun _ _ e => (by cases e), fun g hg => (hown.lt g hg).2⟩
section
variable {S : RS} {Fin : List Ty → Prop} {o : Oper} {l : List Oper} {i : Nat} {τs : List Ty}
theorem rs_append2 (hd : i = S.d) (B : Nat) (e t : TypeId) (size : Nat) (v : Value) (n : Nat) (cs news : List Value) (hJ : S.J = JApp2 S.w0.heap.size B e size v n cs news) (hrd : S.rd = none) (hE : ∀ g, v.ownBlock = some g → S.E g) (hB : B ≤ S.w0.heap.size)
    (x y : Nat) (ho : o.op = .call { callee := .builtin .append, args := #[.tmp x, .tmp y], argTypes := #[t, t] }) (jx jy : Nat) (hx : writer S.ops i x = some jx) (hy : writer S.ops i y = some jy) (hTx : tys τs jx = TEq v) (hTy : tys τs jy = TNew S.E size 1 news)
    (inf : TypeInfo) (z : Value) (bytes : Nat) (ht : S.P.underlying t = some (.slice e)) (hi : S.P.info? e = some inf) (hz : inf.zero = some z) (hsize : inf.size = size) (hby : inf.bytes = bytes) (hzs : z.cells.size = size) (hsz : 0 < size) (h63 : n ≤ 1000000) (hbb : bytes ≤ 1000) (hone : ∀ u ∈ news, u.oneCell' = true)
    (rest : RSeq S Fin l (i + 1) (TAny :: τs)) : RSeq S Fin (o :: l) i τs := by
  intro _
  refine ⟨TAny, stb_any _, fun k ov ρ w hk hI hov hK => ?_, rest⟩
  obtain rfl := hov (by rw [hd]; exact ancB_self _ _ _)
  rw [ho] at hK
  have h1 := hK.1
  have h2 := hK.2.1
  rw [hx] at h1
  rw [hy] at h2
  simp only [hTx] at h1
  simp only [hTy] at h2
  have h1' : ρ (.tmp x) = v := h1
  have h2' : Row w size (ρ (.tmp y)) 1 news := h2.1
  have hown : w.ownsRow B e size v n cs := by have := hI.2.2; rw [hJ] at this; exact this
  obtain ⟨v', w', hrun, hown', hgr, hat⟩ := run_append_row_at (P := S.P) w B t o.type e inf z size bytes ht hi hz hsize hby hzs hsz v n cs hown _ 1 news h2' hone (by unfold maxLen; omega) (Nat.le_trans (Nat.mul_le_mul (show n + 1 ≤ 1000001 by omega) hbb) (by decide)) (Nat.le_trans hB hI.2.1.size)
  have hre : (execOp ρ o).run S.P w = .ok (.value v') w' := by
    unfold execOp
    simp only [ho, resolve, invoke, builtin, Sem.run_bind, Sem.run_pure, Result.andThen_ok, List.map_toArray, List.map_cons, List.map_nil, h1', hrun]
  unfold Good
  rw [hre]
  have hon : Only S.E w w' := Only.grown hgr hE
  refine ⟨trivial, ⟨?_, hI.2.1.trans hon, ?_⟩, hon⟩
  · rw [hrd]; trivial
  · rw [if_pos hd, hJ]
    refine ⟨hown', fun g hg => ?_⟩
    rcases hat with h | h
    · exact .inl (h.symm.trans hg)
    · have := Option.some.inj (h.symm.trans hg)
      have h5 := hI.2.1.size
      exact .inr (by omega)
end
theorem apart_loc {T : Nat} {v v' u : Value} (h : Apart v u) (hl : ∀ g, v'.ownBlock = some g → v.ownBlock = some g ∨ T ≤ g) (hu : ∀ g, u.ownBlock = some g → g < T) : Apart v' u := fun g h1 h2 => by
  rcases hl g h1 with h3 | h3
  · exact h g h3 h2
  · have := hu g h2; omega
end Go.Proofs.Ytdgminjbgjbamaa

namespace Go.Proofs.Ytdgminjbgjbamaa
open Go.RowKit
set_option maxRecDepth 100000
/-! Drawn regions: a call of a function value. -/
section
variable {S : RS} {Fin : List Ty → Prop} {o : Oper} {l : List Oper} {i : Nat} {τs : List Ty}
theorem rs_callV (hO : S.Ok) (hid : i ≠ S.d ∨ ∀ ov w, S.J ov w) (T : Ty) (hT : Stb S.E T) (x : Operand) (args : Array Operand) (at_ : Array TypeId) (ho : o.op = .call { callee := .value x, args := args, argTypes := at_ })
    (h : ∀ ρ w, Only S.E S.w0 w → Known S.ops (tys τs) S.a0 ρ w i (x :: args.toList) → ∃ f vs, (execOp ρ o).run S.P w = .ok (.enter f vs) w ∧ Calls S.P f vs w fun e w' => ∃ v, e = .returned v ∧ T w' v ∧ Below w.heap.size w w')
    (rest : RSeq S Fin l (i + 1) (T :: τs)) : RSeq S Fin (o :: l) i τs := by
  refine rs_plain hO hid T hT (fun k ρ w hk hr hon hK => ?_) rest
  have he : o.op.operands.toList = x :: args.toList := by rw [ho]; simp [Op.operands, Call.operands]
  rw [he] at hK
  obtain ⟨f, vs, h1, h2⟩ := h ρ w hon hK
  unfold Good
  rw [h1]
  refine h2.mono ?_
  rintro e w' ⟨v, rfl, h3, h4⟩
  refine ⟨h3, ?_, Only.of_below _ h4⟩
  have hr' := rdO_more hr
  cases hrd : S.rd with
  | none => trivial
  | some x =>
    rw [hrd] at hr'
    exact Rd.below hr' h4 (Rd.lt hr')
end
end Go.Proofs.Ytdgminjbgjbamaa

namespace Go.Proofs.Ytdgminjbgjbamaa
open Go.RowKit Go.Maps
set_option maxRecDepth 100000
/-! newBuilder. -/
theorem newBld_any (i n : Nat) (w : World) (hi : i ≤ 100) (hn : n ≤ 100) :
    Calls Try.prog 71 #[.int .i64 (i : Int), .int .i64 (n : Int)] w
      fun e w' => ∃ b E, e = .returned (.pointer (some ⟨b, 0, none⟩)) ∧ BldAt w.heap.size b (1 + i + n) [] E w' ∧ Below w.heap.size w w' := by
  have hmk := run_make_any (P := Try.prog) 23 3 _ 1 8 Try.underlying23 info_int .i64 .i64 (1 + i + n) (by omega) (by omega)
  have hmm := @run_makeMap Try.prog
  have h1 := IntWalk.i64_in (1 + (i : Int)) (by omega)
  have h2 := IntWalk.i64_in (1 + (i : Int) + (n : Int)) (by omega)
  have e1 : (1 + (i : Int) + (n : Int)) = ((1 + i + n : Nat) : Int) := by omega
  generalize 1 + i + n = F at *
  go_enter Try.func71, Try.ntmps71
  go_wp2
  go_ret
  have b1 := bel_new w (.cells (madeCells #[Value.int .i64 0] F) 3)
  generalize hW1 : w.alloc (.cells (madeCells #[Value.int .i64 0] F) 3) = w1 at *
  have z1 : w1.heap.size = w.heap.size + 1 := by rw [← hW1]; simp
  have b2 := bel_new w1 (.map #[] 0)
  have hM := gAt_made w1
  generalize hW2 : w1.alloc (.map #[] 0) = w2 at *
  have z2 : w2.heap.size = w1.heap.size + 1 := by rw [← hW2]; simp
  have b3 := bel_new w2 (.cells #[.int .i64 (F : Int), .slice none 0 0, .slice (some ⟨w.heap.size, 0, none⟩) F F, .map (some (w.heap.size + 1))] 95)
  have hB := heap_alloc_new w2 (.cells #[.int .i64 (F : Int), .slice none 0 0, .slice (some ⟨w.heap.size, 0, none⟩) F F, .map (some (w.heap.size + 1))] 95)
  have hO : w1.ownsRow w.heap.size 3 1 (.slice (some ⟨w.heap.size, 0, none⟩) F F) F (ints (List.replicate F 0)) := by
    have h := World.ownsRow_lit (base := w.heap.size) (e := 3) (size := 1) w (madeCells #[Value.int .i64 0] F) F (Nat.le_refl _) (by unfold maxLen; omega) (by simp [madeCells])
    rw [hW1] at h
    have e : (madeCells #[Value.int .i64 0] F).toList = ints (List.replicate F 0) := by simp [madeCells, ints, Nat.mod_one, List.map_const']
    rwa [e] at h
  generalize hW3 : w2.alloc (.cells #[.int .i64 (F : Int), .slice none 0 0, .slice (some ⟨w.heap.size, 0, none⟩) F F, .map (some (w.heap.size + 1))] 95) = w3 at *
  have z3 : w3.heap.size = w2.heap.size + 1 := by rw [← hW3]; simp
  have z0 : w2.heap.size = w.heap.size + 1 + 1 := by omega
  rw [z0] at hB
  refine ⟨_, fun g => w.heap.size ≤ g ∧ g < w.heap.size + 3, rfl, ⟨w.heap.size + 1, .slice none 0 0, .slice (some ⟨w.heap.size, 0, none⟩) F F, List.replicate F 0, ?_⟩, b1.trans ((b2.trans (b3.mono (by omega))).mono (by omega))⟩
  exact {
    box := hB
    gs := World.ownsRow_nil _ _ _ _
    ll := by simp
    lb := fun x hx => by have := List.eq_of_mem_replicate hx; simp [this]
    ls := own_below (own_below hO (b2.mono (by omega))) (b3.mono (by omega))
    map := by rw [← z1]; exact hM.below b3
    eb := by omega
    em := by omega
    eg := fun g hg => by cases hg
    el := fun g hg => by have := Option.some.inj hg; simp only at this; omega
    lo := fun g hg => by omega
    bm := by omega
    gb := by simp [Value.ownBlock]
    gm := by simp [Value.ownBlock]
    lb' := by simp [Value.ownBlock]; omega
    lm := by simp [Value.ownBlock]
    ap := fun g hg => by cases hg }
end Go.Proofs.Ytdgminjbgjbamaa
