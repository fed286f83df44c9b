import Derived.Test.YtmlcbikljlhhkaaS06
import Derived.Test.YtmlcbikljlhhkaaS02
import Derived.Test.YtmlcbikljlhhkaaS01
namespace Go.Proofs.Ytmlcbikljlhhkaa
open Go.RowKit
set_option maxRecDepth 100000
/-! FindViolation, by the reference. -/
def SpecViol (ins : Nat) (r : Option (List Nat)) (w : World) (e : Ending) (w' : World) : Prop := (∃ v, e = .returned (.agg #[.bool r.isSome, v]) ∧ SSAt bools w' v (vrows ins r)) ∧ Below w.heap.size w w'
structure VT (B : Nat) (l : List (Nat × List Nat)) (fr how : List Nat) (vs vf vh : Value) (w : World) : Prop where
  s : w.ownsRow B 3 1 vs l.length (nints (Cir.vsts l))
  f : w.ownsRow B 3 1 vf l.length (nints fr)
  h : w.ownsRow B 3 1 vh l.length (nints how)
  a1 : Apart vs vf
  a2 : Apart vs vh
  a3 : Apart vf vh
theorem VT.below {B : Nat} {l : List (Nat × List Nat)} {fr how : List Nat} {vs vf vh : Value} {w w' : World} (h : VT B l fr how vs vf vh w) (hb : Below w.heap.size w w') : VT B l fr how vs vf vh w' :=
  ⟨own_below h.s hb, own_below h.f hb, own_below h.h hb, h.a1, h.a2, h.a3⟩
/-- A pointer to a boolean. -/
def TPB (b : Bool) : Ty := fun w v => ∃ g i, v = .pointer (some ⟨g, i, none⟩) ∧ g < w.heap.size ∧ w.cell? ⟨g, i, none⟩ = some (.bool b)
theorem stb_pb (b : Bool) : Stb (fun _ => False) (TPB b) := by
  rintro v w w' ⟨g, i, rfl, hg, hc⟩ ho
  exact ⟨g, i, rfl, Nat.lt_of_lt_of_le hg ho.size, ((only_below ho).cell (p := ⟨g, i, none⟩) hg).trans hc⟩
set_option maxHeartbeats 16000000 in
theorem specViol_ok (v : Value) (d : Ci) (o : Nat) (w : World) (h : CircAt w v (Cir.toCz d)) (hd : Cir.Ok d) (hv : Cir.valid (Cir.toCz d) = true) (ho : o < d.outs.length) :
    Calls Try.prog 43 #[v, .int .i64 o] w (SpecViol d.ins (Cir.viol d o) w) := by
  have l1 := hd.ins
  have l2 := hd.nexts
  have l4 := hd.outss
  have HC := Lib.hid h
  obtain ⟨vn, vg, vo, rfl, r1, r2, r3⟩ := h
  obtain ⟨Ao, co, rfl, hco, hcom⟩ := NatsAt.shape (xs := d.outs) r3
  have hins : (Cir.toCz d).ins = (d.ins : Int) := rfl
  rw [hins] at HC ⊢
  have hb0 := bel_new w (.cells #[.int .i64 d.ins, vn, vg, .slice Ao d.outs.length co] 30)
  have hb1 := bel_new (w.alloc (.cells #[.int .i64 d.ins, vn, vg, .slice Ao d.outs.length co] 30)) (.cells #[.bool false, .slice none 0 0] 55)
  have B0 := Lib.hid (hb0.trans (hb1.mono hb0.size))
  have PC := Lib.hid ((PCells.boxed w d.ins vn vg (.slice Ao d.outs.length co) 30).below hb1)
  have hsz : ((w.alloc (.cells #[.int .i64 d.ins, vn, vg, .slice Ao d.outs.length co] 30)).alloc (.cells #[.bool false, .slice none 0 0] 55)).heap.size = w.heap.size + 1 + 1 := by simp
  have hR : ((w.alloc (.cells #[.int .i64 d.ins, vn, vg, .slice Ao d.outs.length co] 30)).alloc (.cells #[.bool false, .slice none 0 0] 55)).heap[w.heap.size + 1]? = some (.cells #[.bool false, .slice none 0 0] 55 (0, 0)) := by
    have := heap_alloc_new (w.alloc (.cells #[.int .i64 d.ins, vn, vg, .slice Ao d.outs.length co] 30)) (.cells #[.bool false, .slice none 0 0] 55)
    rwa [World.size_alloc] at this
  have HRes := Lib.hid hR
  obtain ⟨z, p0, p1, p2, p3⟩ := PC.out
  have HC0 := Lib.hid (HC.out.below B0.out)
  have HV := Lib.hid (specValid_any _ _ _ HC0.out)
  rw [hv] at HV
  have Hd := Lib.hid hd
  have Ho := Lib.hid ho
  obtain ⟨M, e, hM⟩ : ∃ M : Nat, (2 : Int) ^ d.ins = (M : Int) ∧ M = 2 ^ d.ins := ⟨2 ^ d.ins, two_pow d.ins, rfl⟩
  have hM16 : M ≤ 16 := by rw [hM]; exact Nat.pow_le_pow_right (show 0 < 2 by decide) l1
  have hwM := IntWalk.i64_in (M : Int) (by omega)
  have HM := Lib.hid hM
  have hwl := IntWalk.i64_in ((d.outs.length : Int) - 1) (by omega)
  have Hin := Lib.hid (fun w' => l1In_any (o : Int) 0 ((d.outs.length : Int) - 1) w')
  rw [show decide ((0 : Int) ≤ (o : Int) ∧ (o : Int) ≤ (d.outs.length : Int) - 1) = true from decide_eq_true (by omega)] at Hin
  clear r1 r2 r3 hd hins hv HC hb0 hb1 hR ho hco hcom hM
  go_enter Try.func43, Try.ntmps43
  go_wp2_with fail
  generalize (w.alloc (.cells #[.int .i64 d.ins, vn, vg, .slice Ao d.outs.length co] 30)).alloc (.cells #[.bool false, .slice none 0 0] 55) = W at *
  refine HV.out.mono ?_
  rintro e w1 ⟨rfl, hb1⟩
  have B1 := Lib.hid (B0.out.trans (hb1.mono B0.out.size))
  have HC1 := Lib.hid (HC0.out.below hb1)
  have HRes1 := Lib.hid ((hb1.block _ (by omega)).trans HRes.out)
  have PC1 := Lib.hid (PC.out.below hb1)
  have z1 := hb1.size
  clear hb1 p0 p1 p2 p3 z HV HC0 HRes PC
  obtain ⟨z, p0, p1, p2, p3⟩ := PC1.out
  have hrw := (Hin.out w1)
  go_wp2_with fail
  refine hrw.mono ?_
  rintro e w' ⟨rfl, rfl⟩
  clear hrw Hin hwl
  have hs3 : (((w1.alloc (.cells #[.int .i64 0] 3)).alloc (.cells #[.int .i64 0] 3)).alloc (.cells #[.int .i64 0] 3)).heap.size = w1.heap.size + 1 + 1 + 1 := by simp
  have HT0 : Hid (VT w1.heap.size [(0, [])] [0] [0] (.slice (some ⟨w1.heap.size, 0, none⟩) 1 1) (.slice (some ⟨w1.heap.size + 1, 0, none⟩) 1 1) (.slice (some ⟨w1.heap.size + 1 + 1, 0, none⟩) 1 1) (((w1.alloc (.cells #[.int .i64 0] 3)).alloc (.cells #[.int .i64 0] 3)).alloc (.cells #[.int .i64 0] 3))) := Lib.hid (by
    have a1 := ((World.ownsRow_lit (base := w1.heap.size) (e := 3) (size := 1) w1 #[.int .i64 0] 1 (Nat.le_refl _) (by unfold maxLen; omega) rfl).alloc (.cells #[.int .i64 0] 3)).alloc (.cells #[.int .i64 0] 3)
    have a2 := ((World.ownsRow_lit (base := w1.heap.size) (e := 3) (size := 1) (w1.alloc (.cells #[.int .i64 0] 3)) #[.int .i64 0] 1 (by simp) (by unfold maxLen; omega) rfl).alloc (.cells #[.int .i64 0] 3))
    have a3 := (World.ownsRow_lit (base := w1.heap.size) (e := 3) (size := 1) ((w1.alloc (.cells #[.int .i64 0] 3)).alloc (.cells #[.int .i64 0] 3)) #[.int .i64 0] 1 (by simp; omega) (by unfold maxLen; omega) rfl)
    rw [World.size_alloc] at a2 a3
    rw [World.size_alloc] at a3
    refine ⟨a1, a2, a3, fun g h1 h2 => ?_, fun g h1 h2 => ?_, fun g h1 h2 => ?_⟩
    all_goals
      have h3 := Option.some.inj h1
      have h4 := Option.some.inj h2
      simp only at h3 h4
      omega)
  have Bm : Hid (Below w1.heap.size w1 (((w1.alloc (.cells #[.int .i64 0] 3)).alloc (.cells #[.int .i64 0] 3)).alloc (.cells #[.int .i64 0] 3))) := Lib.hid ((((Below.refl _ _).alloc (Nat.le_refl _) _).alloc (by simp) _).alloc (by simp; omega) _)
  have hR0 : Hid (Cir.viol d o = Cir.vbfs d o (9 - 0) 0 [(0, [])]) := Lib.hid rfl
  generalize Cir.viol d o = res at *
  clear p0 p1 p2 p3
  go_wp2_with fail
  clear hs3
  go_loopw [5, 6, 7, 8] (fun vs vf vh i wr => ∃ (s' f' h' : Value) (k : Nat) (l : List (Nat × List Nat)) (fr how : List Nat), s' = vs ∧ f' = vf ∧ h' = vh ∧ i = .int .i64 k ∧ k ≤ l.length ∧ 1 ≤ l.length ∧ l.length ≤ 8 ∧ Hid (Cir.Vs d l) ∧ Hid (Cir.Back l fr how) ∧ Hid (∀ y ∈ how, y ≤ 1000) ∧ Hid (res = Cir.vbfs d o (9 - k) k l) ∧ Hid (VT w1.heap.size l fr how vs vf vh wr) ∧ Below w1.heap.size w1 wr) (fun _ _ _ i _ => 8 - (intOf i).toNat)
  case atStart => exact ⟨_, _, _, 0, [(0, [])], [0], [0], rfl, rfl, rfl, rfl, by simp, by simp, by simp, Lib.hid (Cir.Vs.zero d), Lib.hid Cir.Back.start, Lib.hid (by simp), hR0, HT0, Bm.out⟩
  case round =>
    obtain ⟨vs, vf, vh, k, l, fr, how, hs', hf', hh', rfl, hk, hpos, hl8, Hvs, HBk, Hhow, hres, HT, hb⟩ := hrel
    subst hs' hf' hh'
    clear HT0 Bm hR0
    have Hb := Lib.hid hb
    have hzb := hb.size
    obtain ⟨gs, cs, hvs', hgs, hgs2, hcs, hcsm⟩ := own_open HT.out.s (by omega)
    subst hvs'
    unfold maxLen at hcsm
    clear hb
    by_cases hlt : k < l.length
    · obtain ⟨⟨s, p⟩, hs⟩ := at_some hlt
      have Hgs := Lib.hid hs
      have hf : 9 - k = 9 - (k + 1) + 1 := by omega
      rw [hf] at hres
      have hdl : decide (k < l.length) = true := decide_eq_true hlt
      have hs8 : s < 8 := by
        have h1 := Hvs.out.sts.lt s (List.mem_of_getElem? (Cir.vsts_get hs))
        have h2 : 2 ^ d.next.length ≤ 2 ^ 3 := Nat.pow_le_pow_right (show 0 < 2 by decide) l2
        omega
      clear hs hf
      go_wp2_with fail
      obtain ⟨Wk, hWk⟩ : ∃ Wk, Wk = wr := ⟨_, rfl⟩
      subst hWk
      go_loopw [5, 6, 7, 9] (fun vs vf vh i wr => ∃ (s' f' h' : Value) (j : Nat) (fr how : List Nat), s' = vs ∧ f' = vf ∧ h' = vh ∧ i = .int .i64 j ∧ j ≤ M ∧ Hid (∀ y, y < j → Cir.bad d o s y = false) ∧ Hid (Cir.Back (Cir.vpushes d s p j l) fr how) ∧ Hid (∀ y ∈ how, y ≤ 1000) ∧ Hid (VT w1.heap.size (Cir.vpushes d s p j l) fr how vs vf vh wr) ∧ Below w1.heap.size w1 wr) (fun _ _ _ i _ => M - (intOf i).toNat)
      case atStart => exact ⟨_, _, _, 0, fr, how, rfl, rfl, rfl, rfl, Nat.zero_le _, Lib.hid (fun y hy => by omega), HBk, Hhow, HT, Hb.out⟩
      case round =>
        obtain ⟨vs, vf, vh, j, fr, how, hs', hf', hh', rfl, hj, Hnb, HBk, Hhow, HT, hb⟩ := hrel
        subst hs' hf' hh'
        have Hb := Lib.hid hb
        have hzb := hb.size
        have PCr := Lib.hid (PC1.out.below hb)
        have HCr := Lib.hid (HC1.out.below hb)
        have Hvs2 := Lib.hid (Hvs.out.pushes Hgs.out j (by rw [← HM.out]; exact hj))
        have hL8 := Hvs2.out.size Hd.out
        have Hgj := Lib.hid (Cir.vpushes_get (c := d) (s := s) (p := p) (j := j) Hgs.out)
        have Hsu := Lib.hid (Cir.vpushes_succ d s p j l)
        have hkL := (List.getElem?_eq_some_iff.1 Hgj.out).1
        obtain ⟨z, p0, p1, p2, p3⟩ := PCr.out
        clear hb
        by_cases hlj : j < M
        · obtain ⟨L2, hL2⟩ : ∃ L2, Cir.vpushes d s p (j + 1) l = L2 := ⟨_, rfl⟩
          rw [hL2] at Hsu
          have HL2 := Lib.hid hL2
          clear hL2
          generalize Cir.vpushes d s p j l = L at *
          obtain ⟨gs, cs, hvs', hgs, hgs2, hcs, hcsm⟩ := own_open HT.out.s (by omega)
          subst hvs'
          unfold maxLen at hcsm
          obtain ⟨u0, hu0, hd0, hf0⟩ := own_slot HT.out.s (j := k) (by omega)
          have hu0' : u0 = .int .i64 (s : Int) := by
            have h1 := Cir.vsts_get Hgj.out
            have h2 : (nints (Cir.vsts L))[k]? = some (.int .i64 (s : Int)) := by unfold nints ints nats; rw [List.map_map, List.getElem?_map, h1]; rfl
            exact Option.some.inj (hu0.symm.trans h2)
          subst hu0'
          have hdM : decide (j < M) = true := decide_eq_true hlj
          clear hu0 hf0
          go_wp2_with fail
          obtain ⟨w4, hw4⟩ : ∃ w4, w4 = wr := ⟨_, rfl⟩
          subst hw4
          have hol : (Cir.outsOf d s j).length = d.outs.length := outsOf_length d s j
          have Hol := Lib.hid hol
          clear hol
          have hok := Ho.out
          refine wp_region_rs (quietRS Try.prog _ w4 _) quietRS_ok (by kernel_rfl) (by kernel_rfl) (by kernel_rfl) (Nat.le_of_ble_eq_true rfl) trivial trivial ?_
          apply rs_eq quietRS_ok quiet_any
          · intro ρ w' ho hK
            have ho : Only _ w4 w' := ho
            obtain ⟨h0, -⟩ := hK
            have h0' : ρ (.tmp 2) = _ := h0
            have hb := only_below ho
            have q0 := (hb.cell (p := ⟨w.heap.size, 0, none⟩) z).trans p0
            have q1 := (hb.cell (p := ⟨w.heap.size, 1, none⟩) z).trans p1
            have q2 := (hb.cell (p := ⟨w.heap.size, 2, none⟩) z).trans p2
            have q3 := (hb.cell (p := ⟨w.heap.size, 3, none⟩) z).trans p3
            have q4 := (hb.cell (p := ⟨gs, k, none⟩) hgs2).trans hd0
            go_simp
            try exact rfl
          refine rs_old quietRS_ok quiet_any _ (.inl rfl) _ rfl rfl ?_
          refine rs_old quietRS_ok quiet_any _ (.inl rfl) _ rfl rfl ?_
          apply rs_eq quietRS_ok quiet_any
          · intro ρ w' ho hK
            have ho : Only _ w4 w' := ho
            obtain ⟨h0, h1, -⟩ := hK
            have h0' : ρ (.tmp 41) = _ := h0
            have h1' : ρ (.tmp 42) = _ := h1
            go_simp
            try exact rfl
          apply rs_eq quietRS_ok quiet_any
          · intro ρ w' ho hK
            have ho : Only _ w4 w' := ho
            obtain ⟨h0, -⟩ := hK
            have h0' : ρ (.tmp 43) = _ := h0
            have hb := only_below ho
            have q0 := (hb.cell (p := ⟨w.heap.size, 0, none⟩) z).trans p0
            have q1 := (hb.cell (p := ⟨w.heap.size, 1, none⟩) z).trans p1
            have q2 := (hb.cell (p := ⟨w.heap.size, 2, none⟩) z).trans p2
            have q3 := (hb.cell (p := ⟨w.heap.size, 3, none⟩) z).trans p3
            have q4 := (hb.cell (p := ⟨gs, k, none⟩) hgs2).trans hd0
            go_simp
            try exact rfl
          refine rs_old quietRS_ok quiet_any _ (.inl rfl) _ rfl rfl ?_
          refine rs_call quietRS_ok quiet_any (TBools (Cir.outsOf d s j)) (stb_bools _) 97 _ _ rfl (fun ρ w' ho hK => by
            have ho : Only _ w4 w' := ho
            obtain ⟨h0, h1, h2, h3, -⟩ := hK
            have h0' : ρ (.func 97) = .func (.func 97) #[] #[] := h0
            have h1' : ρ (.tmp 40) = _ := h1
            have h2' : ρ (.tmp 44) = _ := h2
            have h3' : ρ (.tmp 45) = _ := h3
            refine ⟨#[ρ (.tmp 40), ρ (.tmp 44), ρ (.tmp 45)], ?_, ?_⟩
            · go_simp
            · rw [h1', h2', h3']
              refine (l16Outs_any _ d s j w' (HCr.out.below (only_below ho)) Hd.out (by omega) (by omega)).mono ?_
              rintro e w2 ⟨⟨u, rfl, hO⟩, hb⟩
              exact ⟨u, rfl, hO, hb⟩) ?_
          refine rs_old quietRS_ok quiet_any _ (.inl rfl) _ rfl rfl ?_
          refine rs_look quietRS_ok quiet_any (TPB (Cir.bad d o s j)) (stb_pb _) (fun ρ w' ho hK => by
            obtain ⟨h0, h1, -⟩ := hK
            have h0' : BoolsAt w' (ρ (.tmp 46)) (Cir.outsOf d s j) := h0
            have h1' : ρ (.tmp 47) = .int .i64 o := h1
            obtain ⟨A9, c9, e9, -, hc9⟩ := Row.shape h0'
            unfold maxLen at hc9
            unfold BoolsAt at h0'
            rw [e9] at h0'
            obtain ⟨b', o', x9, hA, hbl', hx, hcell⟩ := bools_open (w := w') (wr := w') h0' (Below.refl _ _) (i := o) rfl (by rw [Hol.out]; exact hok)
            subst hA
            rw [Hol.out] at e9
            have hxb : x9 = Cir.bad d o s j := by unfold Cir.bad; rw [List.getD_eq_getElem?_getD, hx.out]; rfl
            refine ⟨.pointer (some ⟨b', o' + o, none⟩), ?_, b', o' + o, rfl, hbl', by rw [← hxb]; exact hcell⟩
            clear hx hcell hxb h0' h0 h1
            go_simp) ?_
          apply rs_eq quietRS_ok quiet_any
          · intro ρ w' ho hK
            have ho : Only _ w4 w' := ho
            obtain ⟨h0, -⟩ := hK
            have h0' : (TPB (Cir.bad d o s j)) w' (ρ (.tmp 48)) := h0
            have hb := only_below ho
            have q0 := (hb.cell (p := ⟨w.heap.size, 0, none⟩) z).trans p0
            have q1 := (hb.cell (p := ⟨w.heap.size, 1, none⟩) z).trans p1
            have q2 := (hb.cell (p := ⟨w.heap.size, 2, none⟩) z).trans p2
            have q3 := (hb.cell (p := ⟨w.heap.size, 3, none⟩) z).trans p3
            have q4 := (hb.cell (p := ⟨gs, k, none⟩) hgs2).trans hd0
            obtain ⟨g9, i9, e9, hg9, hc9⟩ := h0'
            go_simp
            try exact rfl
          intro f w9 k9 hk9 hI9 ht9 hcp9
          have E0 : f 0 = _ := ht9 0 (Nat.le_of_ble_eq_true rfl)
          have E1 : f 1 = _ := ht9 1 (Nat.le_of_ble_eq_true rfl)
          have E2 : f 2 = _ := ht9 2 (Nat.le_of_ble_eq_true rfl)
          have E3 : f 3 = _ := ht9 3 (Nat.le_of_ble_eq_true rfl)
          have E4 : f 4 = _ := ht9 4 (Nat.le_of_ble_eq_true rfl)
          have E5 : f 5 = _ := ht9 5 (Nat.le_of_ble_eq_true rfl)
          have E6 : (TBools (Cir.outsOf d s j)) w9 (f 6) := ht9 6 (Nat.le_of_ble_eq_true rfl)
          have E7 : f 7 = _ := ht9 7 (Nat.le_of_ble_eq_true rfl)
          have E8 : (TPB (Cir.bad d o s j)) w9 (f 8) := ht9 8 (Nat.le_of_ble_eq_true rfl)
          have E9 : f 9 = _ := ht9 9 (Nat.le_of_ble_eq_true rfl)
          have Ho9 : Only _ w4 w9 := hI9.2.1
          simp only [putAll, E0, E1, E2, E3, E4, E5, E7, E9, Nat.zero_add, Nat.reduceAdd, Act.put, List.setIfInBounds_toArray, List.set_cons_succ, List.set_cons_zero]
          clear E0 E1 E2 E3 E4 E5 E7 E9
          clear hI9 ht9 hcp9 hk9
          generalize f 6 = r6 at *
          generalize f 8 = r8 at *
          have hb9 := only_below Ho9
          have HT9 := Lib.hid (HT.out.below hb9)
          have Hb9 := Lib.hid (Hb.out.trans (hb9.mono hzb))
          have PC9 := Lib.hid (PCr.out.below hb9)
          have HC9 := Lib.hid (HCr.out.below hb9)
          have hz9 := hb9.size
          have hd9 := (hb9.cell (p := ⟨gs, k, none⟩) hgs2).trans hd0
          clear hb9 Ho9 p0 p1 p2 p3 z hd0 HT E6 E8
          obtain ⟨w5, hw5⟩ : ∃ w5, w5 = w9 := ⟨_, rfl⟩
          subst hw5
          obtain ⟨z, p0, p1, p2, p3⟩ := PC9.out
          cases hbad : Cir.bad d o s j
          · have Hnb2 : Hid (∀ y, y < j + 1 → Cir.bad d o s y = false) := Lib.hid (fun y hy => by
              rcases Nat.lt_or_ge y j with h | h
              · exact Hnb.out y h
              · obtain rfl : y = j := by omega
                exact hbad)
            clear hbad Hnb
            go_wp2_with fail
            refine wp_region_rs (quietRS Try.prog _ w5 _) quietRS_ok (by kernel_rfl) (by kernel_rfl) (by kernel_rfl) (Nat.le_of_ble_eq_true rfl) trivial trivial ?_
            apply rs_eq quietRS_ok quiet_any
            · intro ρ w' ho hK
              have ho : Only _ w5 w' := ho
              obtain ⟨h0, -⟩ := hK
              have h0' : ρ (.tmp 2) = _ := h0
              have hb := only_below ho
              have q0 := (hb.cell (p := ⟨w.heap.size, 0, none⟩) z).trans p0
              have q1 := (hb.cell (p := ⟨w.heap.size, 1, none⟩) z).trans p1
              have q2 := (hb.cell (p := ⟨w.heap.size, 2, none⟩) z).trans p2
              have q3 := (hb.cell (p := ⟨w.heap.size, 3, none⟩) z).trans p3
              have q4 := (hb.cell (p := ⟨gs, k, none⟩) (Nat.lt_of_lt_of_le hgs2 hz9)).trans hd9
              go_simp
              try exact rfl
            refine rs_old quietRS_ok quiet_any _ (.inl rfl) _ rfl rfl ?_
            refine rs_old quietRS_ok quiet_any _ (.inl rfl) _ rfl rfl ?_
            apply rs_eq quietRS_ok quiet_any
            · intro ρ w' ho hK
              have ho : Only _ w5 w' := ho
              obtain ⟨h0, h1, -⟩ := hK
              have h0' : ρ (.tmp 58) = _ := h0
              have h1' : ρ (.tmp 59) = _ := h1
              go_simp
              try exact rfl
            apply rs_eq quietRS_ok quiet_any
            · intro ρ w' ho hK
              have ho : Only _ w5 w' := ho
              obtain ⟨h0, -⟩ := hK
              have h0' : ρ (.tmp 60) = _ := h0
              have hb := only_below ho
              have q0 := (hb.cell (p := ⟨w.heap.size, 0, none⟩) z).trans p0
              have q1 := (hb.cell (p := ⟨w.heap.size, 1, none⟩) z).trans p1
              have q2 := (hb.cell (p := ⟨w.heap.size, 2, none⟩) z).trans p2
              have q3 := (hb.cell (p := ⟨w.heap.size, 3, none⟩) z).trans p3
              have q4 := (hb.cell (p := ⟨gs, k, none⟩) (Nat.lt_of_lt_of_le hgs2 hz9)).trans hd9
              go_simp
              try exact rfl
            refine rs_old quietRS_ok quiet_any _ (.inl rfl) _ rfl rfl ?_
            refine rs_call quietRS_ok quiet_any (TEq (.int .i64 (Cir.nextOf d s j : Nat))) (stb_eq _ _) 99 _ _ rfl (fun ρ w' ho hK => by
              have ho : Only _ w5 w' := ho
              obtain ⟨h0, h1, h2, h3, -⟩ := hK
              have h0' : ρ (.func 99) = .func (.func 99) #[] #[] := h0
              have h1' : ρ (.tmp 57) = _ := h1
              have h2' : ρ (.tmp 61) = _ := h2
              have h3' : ρ (.tmp 62) = _ := h3
              refine ⟨#[ρ (.tmp 57), ρ (.tmp 61), ρ (.tmp 62)], ?_, ?_⟩
              · go_simp
              · rw [h1', h2', h3']
                refine (l16Next_any _ d s j w' (HC9.out.below (only_below ho)) Hd.out (by omega) (by omega)).mono ?_
                rintro e w2 ⟨rfl, hb⟩
                exact ⟨_, rfl, rfl, hb⟩) ?_
            refine rs_same quietRS_ok quiet_any 63 6 (.inr rfl) rfl _ rfl ?_
            intro f w9 k9 hk9 hI9 ht9 hcp9
            have E0 : f 0 = _ := ht9 0 (Nat.le_of_ble_eq_true rfl)
            have E1 : f 1 = _ := ht9 1 (Nat.le_of_ble_eq_true rfl)
            have E2 : f 2 = _ := ht9 2 (Nat.le_of_ble_eq_true rfl)
            have E3 : f 3 = _ := ht9 3 (Nat.le_of_ble_eq_true rfl)
            have E4 : f 4 = _ := ht9 4 (Nat.le_of_ble_eq_true rfl)
            have E5 : f 5 = _ := ht9 5 (Nat.le_of_ble_eq_true rfl)
            have E6 : f 6 = _ := ht9 6 (Nat.le_of_ble_eq_true rfl)
            have E7 : f 7 = _ := ht9 7 (Nat.le_of_ble_eq_true rfl)
            have Ho9 : Only _ w5 w9 := hI9.2.1
            simp only [putAll, E0, E1, E2, E3, E4, E5, E6, E7, Nat.zero_add, Nat.reduceAdd, Act.put, List.setIfInBounds_toArray, List.set_cons_succ, List.set_cons_zero]
            clear E0 E1 E2 E3 E4 E5 E6 E7
            clear hI9 ht9 hcp9 hk9
            have hb6 := only_below Ho9
            have HT6 := Lib.hid (HT9.out.below hb6)
            have Hb6 := Lib.hid (Hb9.out.trans (hb6.mono (by omega)))
            have hz6 := hb6.size
            clear hb6 Ho9 p0 p1 p2 p3 z hd9 HT9
            obtain ⟨w6, hw6⟩ : ∃ w6, w6 = w9 := ⟨_, rfl⟩
            subst hw6
            have hN8 : Cir.nextOf d s j < 8 := by
              have h1 := Cir.nextOf_lt d s j
              have h2 : 2 ^ d.next.length ≤ 2 ^ 3 := Nat.pow_le_pow_right (show 0 < 2 by decide) l2
              omega
            generalize Cir.nextOf d s j = N at *
            go_wp2_with fail
            refine (l16Has_any _ (Cir.vsts L) N _ (own_nats (by rw [Cir.vsts_length]; exact HT6.out.s)) (by omega)).mono ?_
            rintro e w' ⟨rfl, rfl⟩
            cases hc : Cir.memB (Cir.vsts L) N
            · have HPu := Lib.hid (Cir.vpush_no (p := p ++ [j]) hc)
              have HBn := Lib.hid (HBk.out.snoc (n := N) (x := j) Hgj.out)
              have Hhn : Hid (∀ y ∈ how ++ [j], y ≤ 1000) := Lib.hid (fun y hy => by
                rcases List.mem_append.1 hy with hy | hy
                · exact Hhow.out y hy
                · obtain rfl := List.mem_singleton.1 hy; omega)
              obtain ⟨Af, cf, hvf⟩ := slice_of_own HT6.out.f
              obtain ⟨Ah, ch, hvh⟩ := slice_of_own HT6.out.h
              subst hvf hvh
              have hz1r : w1.heap.size ≤ w6.heap.size := by omega
              have Hl6 := Lib.hid (Row.of_own (World.ownsRow_lit (base := w6.heap.size) (e := 3) (size := 1) w6 #[.int .i64 N] 1 (Nat.le_refl _) (by unfold maxLen; omega) rfl))
              clear hc
              go_wp2_with (first
                | (at_builtin; refine append_ints rfl (.tmp 68) (.tmp 70) rfl w1.heap.size _ L.length (nints (Cir.vsts L)) rfl (HT6.out.s.alloc _) _ 1 [.int .i64 N] rfl Hl6.out (by simp [Value.oneCell']) (by omega) (by simp; omega) ?_; intro va wa howna hga hata; obtain ⟨Aa, ca, hva⟩ := slice_of_own howna; subst hva; have Ga := Lib.hid howna; have Hga := Lib.hid hga; have Hata := Lib.hid hata; have hza := hga.size; rw [World.size_alloc] at hza; have Fa := Lib.hid (own_kept (HT6.out.f.alloc (.cells #[.int .i64 N] 3)) hga (fun g h1 h2 => HT6.out.a1 g h2 h1)); have Ha := Lib.hid (own_kept (HT6.out.h.alloc (.cells #[.int .i64 N] 3)) hga (fun g h1 h2 => HT6.out.a2 g h2 h1)); have Hla := Lib.hid (Row.of_own (World.ownsRow_lit (base := wa.heap.size) (e := 3) (size := 1) wa #[.int .i64 k] 1 (Nat.le_refl _) (by unfold maxLen; omega) rfl)); clear howna hga hata)
                | (at_builtin; refine append_ints rfl (.tmp 72) (.tmp 74) rfl w1.heap.size _ L.length (nints fr) rfl (Fa.out.alloc _) _ 1 [.int .i64 k] rfl Hla.out (by simp [Value.oneCell']) (by omega) (by simp; omega) ?_; intro vb wb hownb hgb hatb; obtain ⟨Ab, cb, hvb⟩ := slice_of_own hownb; subst hvb; have Fb := Lib.hid hownb; have Hgb := Lib.hid hgb; have Hatb := Lib.hid hatb; have hzb2 := hgb.size; rw [World.size_alloc] at hzb2; have Hb := Lib.hid (own_kept (Ha.out.alloc (.cells #[.int .i64 k] 3)) hgb (fun g h1 h2 => HT6.out.a3 g h2 h1)); have Aab := Lib.hid (apart_new HT6.out.a1 Hata.out (fun g hg => by rw [World.size_alloc]; have := (HT6.out.f.lt g hg).2; omega)); have Gb := Lib.hid (own_kept (Ga.out.alloc (.cells #[.int .i64 k] 3)) hgb (fun g h1 h2 => Aab.out g h1 h2)); have Hlb := Lib.hid (Row.of_own (World.ownsRow_lit (base := wb.heap.size) (e := 3) (size := 1) wb #[.int .i64 j] 1 (Nat.le_refl _) (by unfold maxLen; omega) rfl)); clear hownb hgb hatb)
                | (at_builtin; refine append_ints rfl (.tmp 76) (.tmp 78) rfl w1.heap.size _ L.length (nints how) rfl (Hb.out.alloc _) _ 1 [.int .i64 j] rfl Hlb.out (by simp [Value.oneCell']) (by omega) (by simp; omega) ?_; intro vc wc hownc hgc hatc; obtain ⟨Ac, cc, hvc⟩ := slice_of_own hownc; subst hvc; have Hc := Lib.hid hownc; have Hgc := Lib.hid hgc; have Hatc := Lib.hid hatc; clear hownc hgc hatc))
              have HT8 : Hid (VT w1.heap.size (L ++ [(N, p ++ [j])]) (fr ++ [k]) (how ++ [j]) (.slice Aa (L.length + 1) ca) (.slice Ab (L.length + 1) cb) (.slice Ac (L.length + 1) cc) wc) := Lib.hid (by
                have A13 := apart_new HT6.out.a2 Hata.out (fun g hg => by rw [World.size_alloc]; have := (HT6.out.h.lt g hg).2; omega)
                have A12 := (apart_new Aab.out.symm Hatb.out (fun g hg => by rw [World.size_alloc]; have := (Ga.out.lt g hg).2; omega)).symm
                have A23 := apart_new HT6.out.a3 Hatb.out (fun g hg => by rw [World.size_alloc]; have := (Ha.out.lt g hg).2; omega)
                have B13 := (apart_new A13.symm Hatc.out (fun g hg => by rw [World.size_alloc]; have := (Gb.out.lt g hg).2; omega)).symm
                have B23 := (apart_new A23.symm Hatc.out (fun g hg => by rw [World.size_alloc]; have := (Fb.out.lt g hg).2; omega)).symm
                refine ⟨?_, ?_, ?_, A12, B13, B23⟩
                · rw [List.length_append, List.length_singleton, show Cir.vsts (L ++ [(N, p ++ [j])]) = Cir.vsts L ++ [N] from by unfold Cir.vsts; simp, nints_snoc]
                  exact own_kept (Gb.out.alloc _) Hgc.out (fun g h1 h2 => A13 g h1 h2)
                · rw [List.length_append, List.length_singleton, nints_snoc]
                  exact own_kept (Fb.out.alloc _) Hgc.out (fun g h1 h2 => A23 g h1 h2)
                · rw [List.length_append, List.length_singleton, nints_snoc]
                  exact Hc.out)
              go_roundw
              case rel => exact ⟨_, _, _, j + 1, fr ++ [k], how ++ [j], rfl, rfl, rfl, by go_num, by omega, Hnb2, Lib.hid (by rw [HL2.out, Hsu.out, HPu.out]; exact HBn.out), Hhn, Lib.hid (by rw [HL2.out, Hsu.out, HPu.out]; exact HT8.out), by
                have b1 := (Hb6.out.alloc Hb6.out.size (.cells #[.int .i64 N] 3)).grown Hga.out (Hb6.out.alloc Hb6.out.size _).size (own_ge0 HT6.out.s)
                have b2 := (b1.alloc b1.size (.cells #[.int .i64 k] 3)).grown Hgb.out (b1.alloc b1.size _).size (own_ge0 Fa.out)
                exact (b2.alloc b2.size (.cells #[.int .i64 j] 3)).grown Hgc.out (b2.alloc b2.size _).size (own_ge0 Hb.out)⟩
              case measure => simp [intOf] <;> omega
            · have HPu := Lib.hid (Cir.vpush_yes (p := p ++ [j]) hc)
              clear hc
              go_wp2_with fail
              go_roundw
              case rel => exact ⟨_, _, _, j + 1, fr, how, rfl, rfl, rfl, by go_num, by omega, Hnb2, Lib.hid (by rw [HL2.out, Hsu.out, HPu.out]; exact HBk.out), Hhow, Lib.hid (by rw [HL2.out, Hsu.out, HPu.out]; exact HT6.out), Hb6.out⟩
              case measure => simp [intOf] <;> omega
          · have Hf := Lib.hid (Cir.vfind_some (M := 2 ^ d.ins) (by rw [← HM.out]; exact hlj) hbad Hnb.out)
            clear hbad Hnb
            have Hr : res = some (p ++ [j]) := by rw [hres.out]; exact Cir.vbfs_hit Hgs.out Hf.out
            clear hres Hf
            subst Hr
            have hl1 := HBk.out.l1
            have hl2 := HBk.out.l2
            have HF9 : Hid (NatsAt w5 vf fr) := Lib.hid (own_nats (by rw [hl1]; exact HT9.out.f))
            have HH9 : Hid (NatsAt w5 vh how) := Lib.hid (own_nats (by rw [hl2]; exact HT9.out.h))
            go_wp2_with fail
            refine (l16Rows_any _ vf vh d L fr how k s j p _ HC9.out (by omega) HF9.out HH9.out HBk.out Hgj.out hL8 (by omega) Hhow.out).mono ?_
            rintro e w6 ⟨⟨u, rfl, hS6⟩, hb6⟩
            have hR2 := (Hb9.out.block (w.heap.size + 1) (by omega)).trans HRes1.out
            have hR6 := (hb6.block (w.heap.size + 1) (by omega)).trans hR2
            have o0 := blk_cell hR6 0
            have o1 := blk_cell hR6 1
            have b0 := blk_free hR6 0
            have b1 := blk_free hR6 1
            simp at o0 o1
            have B6 := Lib.hid ((B1.out.trans (Hb9.out.mono B1.out.size)).trans (hb6.mono (by omega)))
            obtain ⟨Au, cu, hvu, -⟩ := hS6.at.shape
            subst hvu
            have HS6 := Lib.hid hS6
            have z6 := hb6.size
            clear hR2 hR6 hb6 hS6 p0 p1 p2 p3
            go_wp2_with fail
            refine bodyPost_ret (v := .agg #[.bool true, .slice Au (rowsOf d.ins (p ++ [j])).length cu]) (by simp [results, Try.results43, go_sem, o0, o1]) rfl ⟨⟨_, rfl, ?_⟩, ?_⟩
            · refine ((HS6.out.only (E := fun g => g = w.heap.size + 1) (Only.grown (set_grown _ _ _ _) (fun k hk => (Option.some.inj hk).symm)) ?_).only (E := fun g => g = w.heap.size + 1) (Only.grown (set_grown _ _ _ _) (fun k hk => (Option.some.inj hk).symm)) ?_).at
              · intro g hg e; unfold From at hg; omega
              · intro g hg e; unfold From at hg; omega
            · exact ((B6.out.setCell (by simp only; omega) _).setCell (by simp only; omega) _)
        · obtain rfl : j = M := by omega
          have Hf := Lib.hid (Cir.vfind_none (M := 2 ^ d.ins) (by rw [← HM.out]; exact Hnb.out))
          have HMr : Hid (res = Cir.vbfs d o (9 - (k + 1)) (k + 1) (Cir.vpushes d s p j l)) := Lib.hid (by rw [hres.out, Cir.vbfs_step Hgs.out Hf.out, HM.out])
          clear Hnb
          generalize Cir.vpushes d s p j l = L at *
          clear p1 p2 p3
          go_wp2_with fail
          go_roundw
          case rel => exact ⟨_, _, _, k + 1, L, fr, how, rfl, rfl, rfl, by go_num, by omega, by omega, hL8, Hvs2, HBk, Hhow, HMr, HT, Hb.out⟩
          case measure => simp [intOf] <;> omega
    · obtain rfl : k = l.length := by omega
      have hr : res = none := by rw [hres.out, Cir.vbfs_end]
      subst hr
      have hR2 := (Hb.out.block (w.heap.size + 1) (by omega)).trans HRes1.out
      have o0 := blk_cell hR2 0
      have o1 := blk_cell hR2 1
      have b0 := blk_free hR2 0
      have b1 := blk_free hR2 1
      simp at o0 o1
      have B2 := Lib.hid (B1.out.trans (Hb.out.mono B1.out.size))
      clear hR2
      go_wp2_with fail
      refine bodyPost_ret (v := .agg #[.bool false, .slice none 0 0]) (by simp [results, Try.results43, go_sem, o0, o1]) rfl ⟨⟨_, rfl, SSAt.nil _ _⟩, ?_⟩
      exact ((B2.out.setCell (by simp only; omega) _).setCell (by simp only; omega) _)
end Go.Proofs.Ytmlcbikljlhhkaa

namespace Go.Proofs.Ytmlcbikljlhhkaa
open Go.RowKit
set_option maxRecDepth 100000
set_option maxHeartbeats 4000000
theorem valid_outs {c : Cz} (h : Cir.valid c = true) : c.outs.length ≤ 3 := (valid_sizes h).2.2.2.2
theorem specViol_no (v : Value) (c : Cz) (o : Int) (w : World) (h : CircAt w v c) (hno : Cir.valid c = false ∨ (Cir.valid c = true ∧ ¬ (0 ≤ o ∧ o < c.outs.length))) :
    Calls Try.prog 43 #[v, .int .i64 o] w (SpecViol (Cir.nat c).ins none w) := by
  have HC := Lib.hid h
  obtain ⟨An, cn, Ag, cg, Ao, co, rfl⟩ := h.shape
  have hb0 := bel_new w (.cells #[.int .i64 c.ins, .slice An c.next.length cn, .slice Ag c.gates.length cg, .slice Ao c.outs.length co] 30)
  have hb1 := bel_new (w.alloc (.cells #[.int .i64 c.ins, .slice An c.next.length cn, .slice Ag c.gates.length cg, .slice Ao c.outs.length co] 30)) (.cells #[.bool false, .slice none 0 0] 55)
  have B0 := Lib.hid (hb0.trans (hb1.mono hb0.size))
  have PC := Lib.hid ((PCells.boxed w c.ins (.slice An c.next.length cn) (.slice Ag c.gates.length cg) (.slice Ao c.outs.length co) 30).below hb1)
  have hsz : ((w.alloc (.cells #[.int .i64 c.ins, .slice An c.next.length cn, .slice Ag c.gates.length cg, .slice Ao c.outs.length co] 30)).alloc (.cells #[.bool false, .slice none 0 0] 55)).heap.size = w.heap.size + 1 + 1 := by simp
  have hR : ((w.alloc (.cells #[.int .i64 c.ins, .slice An c.next.length cn, .slice Ag c.gates.length cg, .slice Ao c.outs.length co] 30)).alloc (.cells #[.bool false, .slice none 0 0] 55)).heap[w.heap.size + 1]? = some (.cells #[.bool false, .slice none 0 0] 55 (0, 0)) := by
    have := heap_alloc_new (w.alloc (.cells #[.int .i64 c.ins, .slice An c.next.length cn, .slice Ag c.gates.length cg, .slice Ao c.outs.length co] 30)) (.cells #[.bool false, .slice none 0 0] 55)
    rwa [World.size_alloc] at this
  have HRes := Lib.hid hR
  obtain ⟨z, p0, p1, p2, p3⟩ := PC.out
  have HV := Lib.hid (specValid_any _ _ _ (HC.out.below B0.out))
  have Hno := Lib.hid hno
  clear HC hb0 hb1 hR hno
  rcases Hno.out with hv | ⟨hv, h1⟩
  ·
    rw [hv] at HV
    skip
    clear hv Hno
    go_enter Try.func43, Try.ntmps43
    go_wp2_with fail
    generalize (w.alloc (.cells #[.int .i64 c.ins, .slice An c.next.length cn, .slice Ag c.gates.length cg, .slice Ao c.outs.length co] 30)).alloc (.cells #[.bool false, .slice none 0 0] 55) = W at *
    refine HV.out.mono ?_
    rintro e w1 ⟨rfl, hb1⟩
    have B1 := Lib.hid (B0.out.trans (hb1.mono B0.out.size))
    have PC1 := Lib.hid (PC.out.below hb1)
    have hR1 := (hb1.block _ (by omega)).trans HRes.out
    have z1 := hb1.size
    have o0 := blk_cell hR1 0
    have o1 := blk_cell hR1 1
    have b0 := blk_free hR1 0
    have b1 := blk_free hR1 1
    simp at o0 o1
    clear hb1 hR1 p0 p1 p2 p3 z HV HRes PC
    obtain ⟨z, p0, p1, p2, p3⟩ := PC1.out
    go_wp2_with fail
    refine bodyPost_ret (v := .agg #[.bool false, .slice none 0 0]) (by simp [results, Try.results43, go_sem, o0, o1]) rfl ⟨⟨_, rfl, SSAt.nil _ _⟩, ?_⟩
    exact ((B1.out.setCell (by simp only; omega) _).setCell (by simp only; omega) _)
  ·
    rw [hv] at HV
    have hl := valid_outs hv
    have hwl := IntWalk.i64_in ((c.outs.length : Int) - 1) (by omega)
    have Hin := Lib.hid (fun w' => l1In_any o 0 ((c.outs.length : Int) - 1) w')
    rw [show decide (0 ≤ o ∧ o ≤ (c.outs.length : Int) - 1) = false from decide_eq_false (by omega)] at Hin
    clear h1 hl
    clear hv Hno
    go_enter Try.func43, Try.ntmps43
    go_wp2_with fail
    generalize (w.alloc (.cells #[.int .i64 c.ins, .slice An c.next.length cn, .slice Ag c.gates.length cg, .slice Ao c.outs.length co] 30)).alloc (.cells #[.bool false, .slice none 0 0] 55) = W at *
    refine HV.out.mono ?_
    rintro e w1 ⟨rfl, hb1⟩
    have B1 := Lib.hid (B0.out.trans (hb1.mono B0.out.size))
    have PC1 := Lib.hid (PC.out.below hb1)
    have hR1 := (hb1.block _ (by omega)).trans HRes.out
    have z1 := hb1.size
    have o0 := blk_cell hR1 0
    have o1 := blk_cell hR1 1
    have b0 := blk_free hR1 0
    have b1 := blk_free hR1 1
    simp at o0 o1
    clear hb1 hR1 p0 p1 p2 p3 z HV HRes PC
    obtain ⟨z, p0, p1, p2, p3⟩ := PC1.out
    go_wp2_with fail
    refine (Hin.out w1).mono ?_
    rintro e w' ⟨rfl, rfl⟩
    clear Hin hwl
    go_wp2_with fail
    refine bodyPost_ret (v := .agg #[.bool false, .slice none 0 0]) (by simp [results, Try.results43, go_sem, o0, o1]) rfl ⟨⟨_, rfl, SSAt.nil _ _⟩, ?_⟩
    exact ((B1.out.setCell (by simp only; omega) _).setCell (by simp only; omega) _)
theorem specViol_any (v : Value) (c : Cz) (o : Int) (w : World) (h : CircAt w v c) :
    Calls Try.prog 43 #[v, .int .i64 o] w (SpecViol (Cir.nat c).ins (Cir.violI c o) w) := by
  by_cases hc : Cir.valid c = true ∧ 0 ≤ o ∧ o < c.outs.length
  · obtain ⟨d1, d2⟩ := Cir.nat_ok hc.1
    obtain ⟨m, rfl⟩ := Int.eq_ofNat_of_zero_le hc.2.1
    have hr : Cir.violI c (m : Int) = Cir.viol (Cir.nat c) m := by unfold Cir.violI; rw [if_pos hc]; rfl
    rw [hr]
    exact specViol_ok v (Cir.nat c) m w (by rw [← d1]; exact h) d2 (by rw [← d1]; exact hc.1) (by have := hc.2.2; unfold Cir.nat; simp only [List.length_map]; omega)
  · have hr : Cir.violI c o = none := by unfold Cir.violI; rw [if_neg hc]
    rw [hr]
    refine specViol_no v c o w h ?_
    cases hv : Cir.valid c
    · exact .inl rfl
    · exact .inr ⟨rfl, fun hh => hc ⟨hv, hh⟩⟩
/-! Invariants. -/
theorem inv_out {o : Int} {n : Nat} {b : Bool} (h : ¬ (0 ≤ o ∧ o < (n : Int))) : (true && (decide (0 ≤ o) && (decide (o < (n : Int)) && b))) = false := by
  by_cases h2 : 0 ≤ o
  · rw [decide_eq_true h2, decide_eq_false (show ¬ o < (n : Int) from fun hh => h ⟨h2, hh⟩)]; rfl
  · rw [decide_eq_false h2]; rfl
theorem viol_field0 (b : Bool) (A : Option Addr) (n c : Nat) (w : World) : (Instr.field 55 (.agg #[.bool b, .slice A n c]) 0).run Try.prog w = .ok (.bool b) w := by kernel_rfl
def Cir.invI (c : Cz) (o : Int) : Bool := Cir.valid c && (decide (0 ≤ o) && (decide (o < c.outs.length) && !(Cir.violI c o).isSome))
theorem implInv_any (v : Value) (c : Cz) (o : Int) (w : World) (h : CircAt w v c) :
    Calls Try.prog 42 #[v, .int .i64 o] w fun e w' => e = .returned (.bool (Cir.invI c o)) ∧ Below w.heap.size w w' := by
  have HC := Lib.hid h
  obtain ⟨An, cn, Ag, cg, Ao, co, rfl⟩ := h.shape
  have B0 := Lib.hid (bel_new w (.cells #[.int .i64 c.ins, .slice An c.next.length cn, .slice Ag c.gates.length cg, .slice Ao c.outs.length co] 30))
  have PC := Lib.hid (PCells.boxed w c.ins (.slice An c.next.length cn) (.slice Ag c.gates.length cg) (.slice Ao c.outs.length co) 30)
  have hsz : (w.alloc (.cells #[.int .i64 c.ins, .slice An c.next.length cn, .slice Ag c.gates.length cg, .slice Ao c.outs.length co] 30)).heap.size = w.heap.size + 1 := by simp
  obtain ⟨z, p0, p1, p2, p3⟩ := PC.out
  have HC0 := Lib.hid (HC.out.below B0.out)
  have HV := Lib.hid (implValid_any _ _ _ HC0.out)
  clear HC h
  cases hv : Cir.valid c
  · rw [hv] at HV
    have HR : Hid (Cir.invI c o = false) := Lib.hid (by unfold Cir.invI; rw [hv]; rfl)
    rw [HR.out]
    clear HR hv
    go_enter Try.func42, Try.ntmps42
    go_wp2_with fail
    refine HV.out.mono ?_
    rintro e w1 ⟨rfl, hb1⟩
    have B1 := Lib.hid (B0.out.trans (hb1.mono B0.out.size))
    clear hb1
    go_wp2_with fail
    go_ret
    exact ⟨rfl, B1.out⟩
  · rw [hv] at HV
    have hl := valid_outs hv
    by_cases h0 : o < 0
    · have t0 : decide (0 ≤ o) = false := decide_eq_false (by omega)
      have HR : Hid (Cir.invI c o = false) := Lib.hid (by unfold Cir.invI; rw [hv, t0]; rfl)
      rw [HR.out]
      clear HR hv hl h0
      go_enter Try.func42, Try.ntmps42
      go_wp2_with fail
      generalize w.alloc (.cells #[.int .i64 c.ins, .slice An c.next.length cn, .slice Ag c.gates.length cg, .slice Ao c.outs.length co] 30) = W at *
      refine HV.out.mono ?_
      rintro e w1 ⟨rfl, hb1⟩
      have B1 := Lib.hid (B0.out.trans (hb1.mono B0.out.size))
      have HC1 := Lib.hid (HC0.out.below hb1)
      have PC1 := Lib.hid (PC.out.below hb1)
      have z1 := hb1.size
      clear hb1 p0 p1 p2 p3 z HV PC HC0
      obtain ⟨z, p0, p1, p2, p3⟩ := PC1.out
      go_wp2_with fail
      go_ret
      exact ⟨rfl, B1.out⟩
    · by_cases h1 : (c.outs.length : Int) ≤ o
      · have t0 : decide (0 ≤ o) = true := decide_eq_true (by omega)
        have t1 : decide (o < (c.outs.length : Int)) = false := decide_eq_false (by omega)
        have HR : Hid (Cir.invI c o = false) := Lib.hid (by unfold Cir.invI; rw [hv, t0, t1]; rfl)
        rw [HR.out]
        clear HR hv hl h0 h1
        go_enter Try.func42, Try.ntmps42
        go_wp2_with fail
        generalize w.alloc (.cells #[.int .i64 c.ins, .slice An c.next.length cn, .slice Ag c.gates.length cg, .slice Ao c.outs.length co] 30) = W at *
        refine HV.out.mono ?_
        rintro e w1 ⟨rfl, hb1⟩
        have B1 := Lib.hid (B0.out.trans (hb1.mono B0.out.size))
        have HC1 := Lib.hid (HC0.out.below hb1)
        have PC1 := Lib.hid (PC.out.below hb1)
        have z1 := hb1.size
        clear hb1 p0 p1 p2 p3 z HV PC HC0
        obtain ⟨z, p0, p1, p2, p3⟩ := PC1.out
        go_wp2_with fail
        go_ret
        exact ⟨rfl, B1.out⟩
      · have t0 : decide (0 ≤ o) = true := decide_eq_true (by omega)
        have t1 : decide (o < (c.outs.length : Int)) = true := decide_eq_true (by omega)
        have HR : Hid (Cir.invI c o = !(Cir.violI c o).isSome) := Lib.hid (by unfold Cir.invI; rw [hv, t0, t1]; rfl)
        rw [HR.out]
        clear HR hv hl h0 h1
        go_enter Try.func42, Try.ntmps42
        go_wp2_with fail
        generalize w.alloc (.cells #[.int .i64 c.ins, .slice An c.next.length cn, .slice Ag c.gates.length cg, .slice Ao c.outs.length co] 30) = W at *
        refine HV.out.mono ?_
        rintro e w1 ⟨rfl, hb1⟩
        have B1 := Lib.hid (B0.out.trans (hb1.mono B0.out.size))
        have HC1 := Lib.hid (HC0.out.below hb1)
        have PC1 := Lib.hid (PC.out.below hb1)
        have z1 := hb1.size
        clear hb1 p0 p1 p2 p3 z HV PC HC0
        obtain ⟨z, p0, p1, p2, p3⟩ := PC1.out
        go_wp2_with fail
        refine (implViol_any _ c o _ HC1.out).mono ?_
        rintro e w2 ⟨v2, rfl, hO, hb2⟩
        obtain ⟨A2, c2, hv2, -⟩ := hO.at.shape
        subst hv2
        have B2 := Lib.hid (B1.out.trans (hb2.mono B1.out.size))
        clear hb2 hO
        generalize hbb : (Cir.violI c o).isSome = bb at *
        have Hbb := Lib.hid hbb
        clear hbb
        have hff := viol_field0 bb A2 (vrows (Cir.nat c).ins (Cir.violI c o)).length c2
        go_wp2_with fail
        go_ret
        exact ⟨ret_bool (by rw [Hbb.out]), B2.out⟩
theorem specInv_any (v : Value) (c : Cz) (o : Int) (w : World) (h : CircAt w v c) :
    Calls Try.prog 41 #[v, .int .i64 o] w fun e w' => e = .returned (.bool (Cir.invI c o)) ∧ Below w.heap.size w w' := by
  have HC := Lib.hid h
  obtain ⟨An, cn, Ag, cg, Ao, co, rfl⟩ := h.shape
  have B0 := Lib.hid (bel_new w (.cells #[.int .i64 c.ins, .slice An c.next.length cn, .slice Ag c.gates.length cg, .slice Ao c.outs.length co] 30))
  have PC := Lib.hid (PCells.boxed w c.ins (.slice An c.next.length cn) (.slice Ag c.gates.length cg) (.slice Ao c.outs.length co) 30)
  have hsz : (w.alloc (.cells #[.int .i64 c.ins, .slice An c.next.length cn, .slice Ag c.gates.length cg, .slice Ao c.outs.length co] 30)).heap.size = w.heap.size + 1 := by simp
  obtain ⟨z, p0, p1, p2, p3⟩ := PC.out
  have HC0 := Lib.hid (HC.out.below B0.out)
  have HV := Lib.hid (specValid_any _ _ _ HC0.out)
  clear HC h
  cases hv : Cir.valid c
  · rw [hv] at HV
    have HR : Hid (Cir.invI c o = false) := Lib.hid (by unfold Cir.invI; rw [hv]; rfl)
    rw [HR.out]
    clear HR hv
    go_enter Try.func41, Try.ntmps41
    go_wp2_with fail
    refine HV.out.mono ?_
    rintro e w1 ⟨rfl, hb1⟩
    have B1 := Lib.hid (B0.out.trans (hb1.mono B0.out.size))
    clear hb1
    go_wp2_with fail
    go_ret
    exact ⟨rfl, B1.out⟩
  · rw [hv] at HV
    have hl := valid_outs hv
    have hwl := IntWalk.i64_in ((c.outs.length : Int) - 1) (by omega)
    have Hin := Lib.hid (fun w' => l1In_any o 0 ((c.outs.length : Int) - 1) w')
    by_cases h0 : 0 ≤ o ∧ o < (c.outs.length : Int)
    · rw [show decide (0 ≤ o ∧ o ≤ (c.outs.length : Int) - 1) = true from decide_eq_true (by omega)] at Hin
      have t0 : decide (0 ≤ o) = true := decide_eq_true (by omega)
      have t1 : decide (o < (c.outs.length : Int)) = true := decide_eq_true (by omega)
      have HR : Hid (Cir.invI c o = !(Cir.violI c o).isSome) := Lib.hid (by unfold Cir.invI; rw [hv, t0, t1]; rfl)
      clear t0 t1
      rw [HR.out]
      clear HR hv hl h0
      go_enter Try.func41, Try.ntmps41
      go_wp2_with fail
      generalize w.alloc (.cells #[.int .i64 c.ins, .slice An c.next.length cn, .slice Ag c.gates.length cg, .slice Ao c.outs.length co] 30) = W at *
      refine HV.out.mono ?_
      rintro e w1 ⟨rfl, hb1⟩
      have B1 := Lib.hid (B0.out.trans (hb1.mono B0.out.size))
      have HC1 := Lib.hid (HC0.out.below hb1)
      have PC1 := Lib.hid (PC.out.below hb1)
      have z1 := hb1.size
      clear hb1 p0 p1 p2 p3 z HV PC HC0
      obtain ⟨z, p0, p1, p2, p3⟩ := PC1.out
      go_wp2_with fail
      refine (Hin.out w1).mono ?_
      rintro e w' ⟨rfl, rfl⟩
      clear Hin hwl
      go_wp2_with fail
      refine (specViol_any _ c o _ HC1.out).mono ?_
      rintro e w2 ⟨⟨v2, rfl, hO⟩, hb2⟩
      obtain ⟨A2, c2, hv2, -⟩ := hO.shape
      subst hv2
      have B2 := Lib.hid (B1.out.trans (hb2.mono B1.out.size))
      clear hb2 hO
      generalize hbb : (Cir.violI c o).isSome = bb at *
      have Hbb := Lib.hid hbb
      clear hbb
      have hff := viol_field0 bb A2 (vrows (Cir.nat c).ins (Cir.violI c o)).length c2
      go_wp2_with fail
      go_ret
      exact ⟨ret_bool (by rw [Hbb.out]), B2.out⟩
    · rw [show decide (0 ≤ o ∧ o ≤ (c.outs.length : Int) - 1) = false from decide_eq_false (by omega)] at Hin
      have HR : Hid (Cir.invI c o = false) := Lib.hid (by unfold Cir.invI; rw [hv]; exact inv_out h0)
      rw [HR.out]
      clear HR hv hl h0
      go_enter Try.func41, Try.ntmps41
      go_wp2_with fail
      generalize w.alloc (.cells #[.int .i64 c.ins, .slice An c.next.length cn, .slice Ag c.gates.length cg, .slice Ao c.outs.length co] 30) = W at *
      refine HV.out.mono ?_
      rintro e w1 ⟨rfl, hb1⟩
      have B1 := Lib.hid (B0.out.trans (hb1.mono B0.out.size))
      have HC1 := Lib.hid (HC0.out.below hb1)
      have PC1 := Lib.hid (PC.out.below hb1)
      have z1 := hb1.size
      clear hb1 p0 p1 p2 p3 z HV PC HC0
      obtain ⟨z, p0, p1, p2, p3⟩ := PC1.out
      go_wp2_with fail
      refine (Hin.out w1).mono ?_
      rintro e w' ⟨rfl, rfl⟩
      clear Hin hwl
      go_wp2_with fail
      go_ret
      exact ⟨rfl, B1.out⟩
end Go.Proofs.Ytmlcbikljlhhkaa

namespace Go.Proofs.Ytmlcbikljlhhkaa
open Go.RowKit
set_option maxRecDepth 100000
/-! Inductive, by the program. -/
namespace Cir
def indOk (c : Cz) (o k : Int) : Prop := valid c = true ∧ (0 ≤ o ∧ o < c.outs.length) ∧ 1 ≤ k ∧ k ≤ 4
instance (c : Cz) (o k : Int) : Decidable (indOk c o k) := by unfold indOk; exact inferInstance
def indI (c : Cz) (o k : Int) : Bool := if indOk c o k then ind (nat c) o.toNat k.toNat else false
theorem indI_no {c : Cz} {o k : Int} (h : ¬ indOk c o k) : indI c o k = false := if_neg h
theorem indI_yes {c : Cz} {o k : Int} (h : indOk c o k) : indI c o k = ind (nat c) o.toNat k.toNat := if_pos h
theorem advN_lt {c : Ci} (hc : Ok c) {o : Nat} {S : Nat → Bool} (hS : ∀ x, S x = true → x < 8) : ∀ j x, advN c o S j x = true → x < 8
  | 0, x, h => hS x h
  | j + 1, x, h => by
    obtain ⟨s, _, _, y, _, _, rfl⟩ := adv_iff.1 h
    exact next_lt8 hc s y
theorem only0_lt (x : Nat) (h : only0 x = true) : x < 8 := by unfold only0 at h; have := eq_of_beq h; omega
theorem upTo_lt {n : Nat} (hn : n ≤ 8) (x : Nat) (h : upTo n x = true) : x < 8 := by unfold upTo at h; have := of_decide_eq_true h; omega
theorem upTo_succ (n x : Nat) : upTo (n + 1) x = (upTo n x || x == n) := by
  unfold upTo
  rw [Bool.eq_iff_iff, Bool.or_eq_true, decide_eq_true_iff, decide_eq_true_iff, beq_iff_eq]
  omega
end Cir
set_option maxHeartbeats 8000000 in
theorem implInd_ok (v : Value) (d : Ci) (o k : Nat) (w : World) (h : CircAt w v (Cir.toCz d)) (hd : Cir.Ok d) (hv : Cir.valid (Cir.toCz d) = true) (ho : o < d.outs.length) (hk1 : 1 ≤ k) (hk4 : k ≤ 4) :
    Calls Try.prog 40 #[v, .int .i64 o, .int .i64 k] w fun e w' => e = .returned (.bool (Cir.ind d o k)) ∧ Below w.heap.size w w' := by
  have l1 := hd.ins
  have l2 := hd.nexts
  have HC := Lib.hid h
  obtain ⟨vn, vg, vo, rfl, r1, r2, r3⟩ := h
  obtain ⟨Ao, co, rfl, hco, hcom⟩ := NatsAt.shape (xs := d.outs) r3
  obtain ⟨An, cn, rfl, hcn, hcmn⟩ := NatsAt.shape (xs := d.next) r1
  have hins : (Cir.toCz d).ins = (d.ins : Int) := rfl
  have HP := Lib.hid (PCirc.boxed (c := Cir.toCz d) 30 r1 r2 r3)
  rw [hins] at HC HP ⊢
  have B0 := Lib.hid (bel_new w (.cells #[.int .i64 d.ins, .slice An d.next.length cn, vg, .slice Ao d.outs.length co] 30))
  have PC := Lib.hid (PCells.boxed w d.ins (.slice An d.next.length cn) vg (.slice Ao d.outs.length co) 30)
  have hsz : (w.alloc (.cells #[.int .i64 d.ins, .slice An d.next.length cn, vg, .slice Ao d.outs.length co] 30)).heap.size = w.heap.size + 1 := by simp
  obtain ⟨z, p0, p1, p2, p3⟩ := PC.out
  have HC0 := Lib.hid (HC.out.below B0.out)
  have HV := Lib.hid (implValid_any _ _ _ HC0.out)
  rw [hv] at HV
  have Hd := Lib.hid hd
  have Ho := Lib.hid ho
  have t2 : decide (d.outs.length ≤ o) = false := decide_eq_false (by omega)
  have t3 : decide (k < 1) = false := decide_eq_false (by omega)
  have t4 : decide (4 < k) = false := decide_eq_false (by omega)
  obtain ⟨N, eN, hN⟩ : ∃ N : Nat, (2 : Int) ^ d.next.length = (N : Int) ∧ N = 2 ^ d.next.length := ⟨2 ^ d.next.length, two_pow d.next.length, rfl⟩
  have hN8 : N ≤ 8 := by rw [hN]; exact Nat.pow_le_pow_right (show 0 < 2 by decide) l2
  have hwN := IntWalk.i64_in (N : Int) (by omega)
  have HN := Lib.hid hN
  have hmm := @run_makeMap Try.prog
  clear r1 r2 r3 hd hins hv HC ho hco hcom hN hcn hcmn
  go_enter Try.func40, Try.ntmps40
  go_wp2_with fail
  generalize w.alloc (.cells #[.int .i64 d.ins, .slice An d.next.length cn, vg, .slice Ao d.outs.length co] 30) = W at *
  refine HV.out.mono ?_
  rintro e w1 ⟨rfl, hb1⟩
  have B1 := Lib.hid (B0.out.trans (hb1.mono B0.out.size))
  have HP1 := Lib.hid (HP.out.below hb1)
  have PC1 := Lib.hid (PC.out.below hb1)
  have z1 := hb1.size
  clear hb1 p0 p1 p2 p3 z HV HP HC0 PC
  obtain ⟨z, p0, p1, p2, p3⟩ := PC1.out
  have Hset0 := Lib.hid (setAt_made w1)
  go_wp2_with (with_reducible refine wpList_add_set _ rfl (.tmp 36) _ _ (.inr rfl) _ _ _ rfl Hset0.out (by omega) 0 (by omega) rfl rfl ?_; intro w2 hset2 hg2; refine Stop.out ?_)
  refine ⟨?_⟩
  have hz2 := hg2.size
  rw [World.size_alloc] at hz2
  have hb2 := (bel_new w1 (.map #[] 0)).grown hg2 (by simp) (fun q hq => by have := Option.some.inj hq; omega)
  have hb3 := bel_new w2 (.map #[] 0)
  have hb13 := hb2.trans (hb3.mono hb2.size)
  have HS0 := Lib.hid ((hset2.congr (S' := Cir.only0) (fun x => by unfold Cir.only0; simp)).below hb3)
  have HA0 : Hid (SetAt (w2.alloc (.map #[] 0)) w2.heap.size 0 (Cir.upTo 0)) := Lib.hid ((setAt_made w2).congr fun x => by unfold Cir.upTo; simp)
  have PC3 := PC1.out.below hb13
  have HB3 := Lib.hid hb13
  have hz3 : (w2.alloc (.map #[] 0)).heap.size = w2.heap.size + 1 := by simp
  clear hset2 hg2 Hset0 p0 p1 p2 p3 z hb2 hb3 hb13 hmm
  obtain ⟨z, p0, p1, p2, p3⟩ := PC3
  have hmm := @run_makeMap Try.prog
  go_wp2_with fail
  clear hmm z p0 p1 p2 p3
  generalize w2.alloc (.map #[] 0) = w3 at *
  obtain ⟨ma, hma⟩ : ∃ ma, w2.heap.size = ma := ⟨_, rfl⟩
  rw [hma] at HA0 hz3 hz2 ⊢
  clear hma
  go_loopw [43] (fun i wr => ∃ j m : Nat, i = .int .i64 j ∧ j ≤ N ∧ m ≤ j ∧ Hid (SetAt wr ma m (Cir.upTo j)) ∧ Hid (SetAt wr w1.heap.size 1 Cir.only0) ∧ Below w1.heap.size w1 wr) (fun i _ => N - (intOf i).toNat)
  case atStart => exact ⟨0, 0, rfl, Nat.zero_le _, Nat.le_refl _, HA0, HS0, HB3.out⟩
  case round =>
    obtain ⟨j, m, rfl, hj, hm, HA, HS, hb⟩ := hrel
    clear HA0 HS0 HB3
    have Hb := Lib.hid hb
    clear hb
    by_cases hlt : j < N
    · go_wp2_with (first
        | (at_mapUpdate; refine wpList_add_set _ rfl (.tmp 46) (.tmp 47) _ (.inl rfl) _ _ _ rfl HA.out (by omega) j (by omega) rfl rfl ?_; intro w6 hset6 hg6; have Hset6 := Lib.hid hset6; have Hg6 := Lib.hid hg6; clear hset6 hg6))
      go_roundw
      case rel => exact ⟨j + 1, m + 1, by go_num, by omega, by omega, Lib.hid (Hset6.out.congr fun x => (Cir.upTo_succ j x).symm), Lib.hid (HS.out.only (Only.grown (E := fun g => g = ma) Hg6.out (fun k hk => (Option.some.inj hk).symm)) (fun e => by omega)), Hb.out.grown Hg6.out Hb.out.size (fun q hq => by have := Option.some.inj hq; omega)⟩
      case measure => simp [intOf] <;> omega
    · obtain rfl : j = N := by omega
      have HA2 : Hid (SetAt wr ma 200 (Cir.advN d o (Cir.upTo (2 ^ d.next.length)) 0)) := Lib.hid ((HA.out.mono (by omega)).congr fun x => by rw [HN.out]; rfl)
      have HS2 : Hid (SetAt wr w1.heap.size 200 (Cir.advN d o Cir.only0 0)) := Lib.hid (HS.out.mono (by omega))
      have HUp : Hid (∀ x, Cir.upTo (2 ^ d.next.length) x = true → x < 8) := Lib.hid (Cir.upTo_lt (by rw [← HN.out]; omega))
      clear HA HS
      go_wp2_with fail
      go_loopw [7, 8, 50] (fun sv av i wr => ∃ sb ab q : Nat, sv = .map (some sb) ∧ av = .map (some ab) ∧ i = .int .i64 q ∧ q ≤ k ∧ Hid (SetAt wr sb 200 (Cir.advN d o Cir.only0 q)) ∧ Hid (SetAt wr ab 200 (Cir.advN d o (Cir.upTo (2 ^ d.next.length)) q)) ∧ Hid (∀ i, i < q → Cir.good d o (Cir.advN d o Cir.only0 i) = true) ∧ Below w1.heap.size w1 wr) (fun _ _ i _ => k - (intOf i).toNat)
      case atStart => exact ⟨_, _, 0, rfl, rfl, rfl, Nat.zero_le _, HS2, HA2, Lib.hid (fun i hi => by omega), Hb.out⟩
      case round =>
        obtain ⟨sb, ab, q, rfl, rfl, rfl, hq, HS, HA, HG, hb⟩ := hrel
        clear HA2 HS2
        have Hb := Lib.hid hb
        have hzb := hb.size
        clear hb
        by_cases hlq : q < k
        · go_wp2_with fail
          refine (advance_any w.heap.size sb 200 d o _ _ (HP1.out.below Hb.out) Hd.out Ho.out HS.out (Cir.advN_lt Hd.out Cir.only0_lt q)).mono ?_
          rintro e w5 ⟨mb, n5, rfl, hset5, hn5, hb5⟩
          have HS5 := Lib.hid (hset5.mono (show n5 ≤ 200 from hn5))
          have HA5 := Lib.hid (HA.out.below hb5)
          have Hb5 := Lib.hid (Hb.out.trans (hb5.mono hzb))
          have hz5 := Nat.le_trans hzb hb5.size
          clear hset5 hb5
          cases hg : Cir.good d o (Cir.advN d o Cir.only0 q)
          · have HR : Hid (Cir.ind d o k = false) := Lib.hid (Cir.ind_no hlq hg)
            clear hg
            go_wp2_with fail
            go_ret
            exact ⟨ret_bool HR.out.symm, B1.out.trans (Hb5.out.mono B1.out.size)⟩
          · have HG5 : Hid (∀ i, i < q + 1 → Cir.good d o (Cir.advN d o Cir.only0 i) = true) := Lib.hid (fun i hi => by
              rcases Nat.lt_or_ge i q with h | h
              · exact HG.out i h
              · obtain rfl : i = q := by omega
                exact hg)
            clear hg HG
            go_wp2_with fail
            refine (advance_any w.heap.size ab 200 d o _ _ (HP1.out.below Hb5.out) Hd.out Ho.out HA5.out (Cir.advN_lt Hd.out HUp.out q)).mono ?_
            rintro e w6 ⟨mb2, n6, rfl, hset6, hn6, hb6⟩
            have HA6 := Lib.hid (hset6.mono (show n6 ≤ 200 from hn6))
            have HS6 := Lib.hid (HS5.out.below hb6)
            have Hb6 := Lib.hid (Hb5.out.trans (hb6.mono hz5))
            clear hset6 hb6
            generalize Cir.good d o (Cir.advN d o (Cir.upTo (2 ^ d.next.length)) q) = gq at *
            go_wp2_with fail
            go_roundw
            case rel => exact ⟨_, _, q + 1, rfl, rfl, by go_num, by omega, HS6, HA6, HG5, Hb6.out⟩
            case measure => simp [intOf] <;> omega
        · obtain rfl : q = k := by omega
          have HR : Hid (Cir.ind d o q = Cir.good d o (Cir.advN d o (Cir.upTo (2 ^ d.next.length)) q)) := Lib.hid (Cir.ind_yes HG.out)
          clear HG
          go_wp2_with fail
          refine (advance_any w.heap.size ab 200 d o _ _ (HP1.out.below Hb.out) Hd.out Ho.out HA.out (Cir.advN_lt Hd.out HUp.out q)).mono ?_
          rintro e w6 ⟨mb2, n6, rfl, hset6, hn6, hb6⟩
          have Hb6 := Lib.hid (Hb.out.trans (hb6.mono hzb))
          clear hset6 hb6
          generalize Cir.good d o (Cir.advN d o (Cir.upTo (2 ^ d.next.length)) q) = gq at *
          go_wp2_with fail
          go_ret
          exact ⟨ret_bool HR.out.symm, B1.out.trans (Hb6.out.mono B1.out.size)⟩
theorem implInd_no (v : Value) (c : Cz) (o k : Int) (w : World) (h : CircAt w v c) (hno : ¬ Cir.indOk c o k) :
    Calls Try.prog 40 #[v, .int .i64 o, .int .i64 k] w fun e w' => e = .returned (.bool false) ∧ Below w.heap.size w w' := by
  have HC := Lib.hid h
  obtain ⟨An, cn, Ag, cg, Ao, co, rfl⟩ := h.shape
  have B0 := Lib.hid (bel_new w (.cells #[.int .i64 c.ins, .slice An c.next.length cn, .slice Ag c.gates.length cg, .slice Ao c.outs.length co] 30))
  have PC := Lib.hid (PCells.boxed w c.ins (.slice An c.next.length cn) (.slice Ag c.gates.length cg) (.slice Ao c.outs.length co) 30)
  have hsz : (w.alloc (.cells #[.int .i64 c.ins, .slice An c.next.length cn, .slice Ag c.gates.length cg, .slice Ao c.outs.length co] 30)).heap.size = w.heap.size + 1 := by simp
  obtain ⟨z, p0, p1, p2, p3⟩ := PC.out
  have HV := Lib.hid (implValid_any _ _ _ (HC.out.below B0.out))
  have Hno := Lib.hid hno
  clear HC h hno
  cases hv : Cir.valid c
  · rw [hv] at HV
    clear hv Hno
    go_enter Try.func40, Try.ntmps40
    go_wp2_with fail
    generalize w.alloc (.cells #[.int .i64 c.ins, .slice An c.next.length cn, .slice Ag c.gates.length cg, .slice Ao c.outs.length co] 30) = W at *
    refine HV.out.mono ?_
    rintro e w1 ⟨rfl, hb1⟩
    have B1 := Lib.hid (B0.out.trans (hb1.mono B0.out.size))
    have PC1 := Lib.hid (PC.out.below hb1)
    have z1 := hb1.size
    clear hb1 p0 p1 p2 p3 z HV PC
    obtain ⟨z, p0, p1, p2, p3⟩ := PC1.out
    go_wp2_with fail
    go_ret
    exact ⟨rfl, B1.out⟩
  · by_cases h1 : o < 0
    · rw [hv] at HV
      have t1 : decide (o < 0) = true := decide_eq_true h1
      clear h1
      clear hv Hno
      go_enter Try.func40, Try.ntmps40
      go_wp2_with fail
      generalize w.alloc (.cells #[.int .i64 c.ins, .slice An c.next.length cn, .slice Ag c.gates.length cg, .slice Ao c.outs.length co] 30) = W at *
      refine HV.out.mono ?_
      rintro e w1 ⟨rfl, hb1⟩
      have B1 := Lib.hid (B0.out.trans (hb1.mono B0.out.size))
      have PC1 := Lib.hid (PC.out.below hb1)
      have z1 := hb1.size
      clear hb1 p0 p1 p2 p3 z HV PC
      obtain ⟨z, p0, p1, p2, p3⟩ := PC1.out
      go_wp2_with fail
      go_ret
      exact ⟨rfl, B1.out⟩
    · by_cases h2 : (c.outs.length : Int) ≤ o
      · rw [hv] at HV
        have t1 : decide (o < 0) = false := decide_eq_false (by omega)
        have t2 : decide ((c.outs.length : Int) ≤ o) = true := decide_eq_true h2
        clear h1 h2
        clear hv Hno
        go_enter Try.func40, Try.ntmps40
        go_wp2_with fail
        generalize w.alloc (.cells #[.int .i64 c.ins, .slice An c.next.length cn, .slice Ag c.gates.length cg, .slice Ao c.outs.length co] 30) = W at *
        refine HV.out.mono ?_
        rintro e w1 ⟨rfl, hb1⟩
        have B1 := Lib.hid (B0.out.trans (hb1.mono B0.out.size))
        have PC1 := Lib.hid (PC.out.below hb1)
        have z1 := hb1.size
        clear hb1 p0 p1 p2 p3 z HV PC
        obtain ⟨z, p0, p1, p2, p3⟩ := PC1.out
        go_wp2_with fail
        go_ret
        exact ⟨rfl, B1.out⟩
      · by_cases h3 : k < 1
        · rw [hv] at HV
          have t1 : decide (o < 0) = false := decide_eq_false (by omega)
          have t2 : decide ((c.outs.length : Int) ≤ o) = false := decide_eq_false (by omega)
          have t3 : decide (k < 1) = true := decide_eq_true h3
          clear h1 h2 h3
          clear hv Hno
          go_enter Try.func40, Try.ntmps40
          go_wp2_with fail
          generalize w.alloc (.cells #[.int .i64 c.ins, .slice An c.next.length cn, .slice Ag c.gates.length cg, .slice Ao c.outs.length co] 30) = W at *
          refine HV.out.mono ?_
          rintro e w1 ⟨rfl, hb1⟩
          have B1 := Lib.hid (B0.out.trans (hb1.mono B0.out.size))
          have PC1 := Lib.hid (PC.out.below hb1)
          have z1 := hb1.size
          clear hb1 p0 p1 p2 p3 z HV PC
          obtain ⟨z, p0, p1, p2, p3⟩ := PC1.out
          go_wp2_with fail
          go_ret
          exact ⟨rfl, B1.out⟩
        · by_cases h4 : 4 < k
          · rw [hv] at HV
            have t1 : decide (o < 0) = false := decide_eq_false (by omega)
            have t2 : decide ((c.outs.length : Int) ≤ o) = false := decide_eq_false (by omega)
            have t3 : decide (k < 1) = false := decide_eq_false (by omega)
            have t4 : decide (4 < k) = true := decide_eq_true h4
            clear h1 h2 h3 h4
            clear hv Hno
            go_enter Try.func40, Try.ntmps40
            go_wp2_with fail
            generalize w.alloc (.cells #[.int .i64 c.ins, .slice An c.next.length cn, .slice Ag c.gates.length cg, .slice Ao c.outs.length co] 30) = W at *
            refine HV.out.mono ?_
            rintro e w1 ⟨rfl, hb1⟩
            have B1 := Lib.hid (B0.out.trans (hb1.mono B0.out.size))
            have PC1 := Lib.hid (PC.out.below hb1)
            have z1 := hb1.size
            clear hb1 p0 p1 p2 p3 z HV PC
            obtain ⟨z, p0, p1, p2, p3⟩ := PC1.out
            go_wp2_with fail
            go_ret
            exact ⟨rfl, B1.out⟩
          · exact absurd (by unfold Cir.indOk; exact ⟨hv, ⟨by omega, by omega⟩, by omega, by omega⟩) Hno.out
theorem implInd_any (v : Value) (c : Cz) (o k : Int) (w : World) (h : CircAt w v c) :
    Calls Try.prog 40 #[v, .int .i64 o, .int .i64 k] w fun e w' => e = .returned (.bool (Cir.indI c o k)) ∧ Below w.heap.size w w' := by
  by_cases hc : Cir.indOk c o k
  · rw [Cir.indI_yes hc]
    obtain ⟨hv, ⟨h1, h2⟩, h3, h4⟩ := hc
    obtain ⟨d1, d2⟩ := Cir.nat_ok hv
    obtain ⟨m, rfl⟩ := Int.eq_ofNat_of_zero_le h1
    obtain ⟨q, rfl⟩ := Int.eq_ofNat_of_zero_le (show 0 ≤ k by omega)
    exact implInd_ok v (Cir.nat c) m q w (by rw [← d1]; exact h) d2 (by rw [← d1]; exact hv) (by unfold Cir.nat; simp only [List.length_map]; omega) (by omega) (by omega)
  · rw [Cir.indI_no hc]
    exact implInd_no v c o k w h hc
end Go.Proofs.Ytmlcbikljlhhkaa

namespace Go.Proofs.Ytmlcbikljlhhkaa
open Go.RowKit
/-- A value of an own row of booleans, as it lies in memory. -/
theorem bools_at_own {w : World} {B n : Nat} {v : Value} {xs : List Bool} (h : w.ownsRow B 4 1 v n (bools xs)) (hn : xs.length = n) : BoolsAt w v xs := by subst hn; exact Row.of_own h
theorem boolsAt_cell {w : World} {u : Value} {xs : List Bool} {i : Nat} {b : Bool} (h : BoolsAt w u xs) (hx : xs[i]? = some b) : ∃ bb oo c, u = .slice (some ⟨bb, oo, none⟩) xs.length c ∧ bb < w.heap.size ∧ w.cell? ⟨bb, oo + i, none⟩ = some (.bool b) := by
  have hi := (List.getElem?_eq_some_iff.1 hx).1
  obtain ⟨A, c, rfl, -, -⟩ := Row.shape h
  obtain ⟨b', o', x, hA, hbl, hxx, hcell⟩ := bools_open (w := w) (wr := w) h (Below.refl _ _) (i := i) rfl hi
  subst hA
  obtain rfl : x = b := Option.some.inj (hxx.out.symm.trans hx)
  exact ⟨b', o', c, rfl, hbl, hcell⟩
end Go.Proofs.Ytmlcbikljlhhkaa

namespace Go.Proofs.Ytmlcbikljlhhkaa
open Go.RowKit
set_option maxRecDepth 100000
/-! Inductive, by the reference. -/
namespace Cir
def safeJ (c : Ci) (o k s j : Nat) : Bool := (List.range j).all fun x => !bad c o s x && safe c o k (nextOf c s x)
theorem safeJ_succ (c : Ci) (o k s j : Nat) : safeJ c o k s (j + 1) = (safeJ c o k s j && (!bad c o s j && safe c o k (nextOf c s j))) := by
  unfold safeJ; rw [List.range_succ, List.all_append]; simp
def safes (c : Ci) (o k n : Nat) : List Bool := (List.range n).map (safe c o k)
theorem safes_succ (c : Ci) (o k n : Nat) : safes c o k (n + 1) = safes c o k n ++ [safe c o k n] := by
  unfold safes; rw [List.range_succ, List.map_append]; rfl
theorem safes_length (c : Ci) (o k n : Nat) : (safes c o k n).length = n := by unfold safes; simp
theorem safes_get {c : Ci} {o k n i : Nat} (h : i < n) : (safes c o k n)[i]? = some (safe c o k i) := by unfold safes; simp [h]
theorem stepB_hit {c : Ci} {o k s j : Nat} (hj : j < 2 ^ c.ins) (hb : bad c o s j = false) (h : stepB c o k (nextOf c s j) = false) : stepB c o (k + 1) s = false := by
  refine Bool.eq_false_iff.2 fun ht => ?_
  rcases stepB_succ.1 ht j hj with h1 | h1
  · rw [hb] at h1; cases h1
  · rw [h] at h1; cases h1
theorem stepB_hit0 {c : Ci} {o s j : Nat} (hj : j < 2 ^ c.ins) (hb : bad c o s j = true) : stepB c o 0 s = false := by
  refine Bool.eq_false_iff.2 fun ht => ?_
  have := stepB_zero.1 ht j hj
  rw [hb] at this; cases this
end Cir
theorem bad_get {d : Ci} {o s x : Nat} (ho : o < d.outs.length) : (Cir.outsOf d s x)[o]? = some (Cir.bad d o s x) := by
  unfold Cir.bad
  rw [List.getD_eq_getElem?_getD, List.getElem?_eq_getElem (by rw [outsOf_length]; exact ho)]
  rfl
set_option maxHeartbeats 16000000 in
theorem l31Safe_any (v : Value) (d : Ci) (o k : Nat) (w : World) (h : CircAt w v (Cir.toCz d)) (hd : Cir.Ok d) (ho : o < d.outs.length) (hk : k ≤ 4) :
    Calls Try.prog 94 #[v, .int .i64 o, .int .i64 k] w (OwnBools (Cir.safes d o k (2 ^ d.next.length)) w) := by
  have l1 := hd.ins
  have l2 := hd.nexts
  have HC := Lib.hid h
  obtain ⟨vn, vg, vo, rfl, r1, r2, r3⟩ := h
  obtain ⟨An, cn, rfl, hcn, hcmn⟩ := NatsAt.shape (xs := d.next) r1
  have hins : (Cir.toCz d).ins = (d.ins : Int) := rfl
  rw [hins] at HC ⊢
  have B0 := Lib.hid (bel_new w (.cells #[.int .i64 d.ins, .slice An d.next.length cn, vg, vo] 30))
  have PC := Lib.hid (PCells.boxed w d.ins (.slice An d.next.length cn) vg vo 30)
  have hsz : (w.alloc (.cells #[.int .i64 d.ins, .slice An d.next.length cn, vg, vo] 30)).heap.size = w.heap.size + 1 := by simp
  have HC0 := Lib.hid (HC.out.below B0.out)
  have Hd := Lib.hid hd
  have Ho := Lib.hid ho
  obtain ⟨N, eN, hN⟩ : ∃ N : Nat, (2 : Int) ^ d.next.length = (N : Int) ∧ N = 2 ^ d.next.length := ⟨2 ^ d.next.length, two_pow d.next.length, rfl⟩
  have hN8 : N ≤ 8 := by rw [hN]; exact Nat.pow_le_pow_right (show 0 < 2 by decide) l2
  have hwN := IntWalk.i64_in (N : Int) (by omega)
  have HN := Lib.hid hN
  obtain ⟨M, e, hM⟩ : ∃ M : Nat, (2 : Int) ^ d.ins = (M : Int) ∧ M = 2 ^ d.ins := ⟨2 ^ d.ins, two_pow d.ins, rfl⟩
  have hM16 : M ≤ 16 := by rw [hM]; exact Nat.pow_le_pow_right (show 0 < 2 by decide) l1
  have hwM := IntWalk.i64_in (M : Int) (by omega)
  have HM := Lib.hid hM
  rw [← hN]
  obtain ⟨z, p0, p1, p2, p3⟩ := PC.out
  clear r1 r2 r3 hd hins HC ho hM hN hcn hcmn
  have Ho0 : Hid (((w.alloc (.cells #[.int .i64 d.ins, .slice An d.next.length cn, vg, vo] 30)).alloc (.cells #[] 4)).ownsRow w.heap.size 4 1 (.slice (some ⟨w.heap.size + 1, 0, none⟩) 0 0) 0 (bools (Cir.safes d o 0 0))) := Lib.hid (by
    have := World.ownsRow_lit (base := w.heap.size) (e := 4) (size := 1) (w.alloc (.cells #[.int .i64 d.ins, .slice An d.next.length cn, vg, vo] 30)) #[] 0 (by simp) (by unfold maxLen; omega) rfl
    rwa [World.size_alloc] at this)
  have HB0 := Lib.hid (bel_new (w.alloc (.cells #[.int .i64 d.ins, .slice An d.next.length cn, vg, vo] 30)) (.cells #[] 4))
  clear p0 p1 p2 p3
  go_enter Try.func94, Try.ntmps94
  go_wp2_with fail
  generalize w.alloc (.cells #[.int .i64 d.ins, .slice An d.next.length cn, vg, vo] 30) = W at *
  go_loopw [7, 8] (fun v i wr => ∃ (vv : Value) (j : Nat), vv = v ∧ i = .int .i64 j ∧ j ≤ N ∧ Hid (wr.ownsRow (w.heap.size + 1) 4 1 v j (bools (Cir.safes d o 0 j))) ∧ Below W.heap.size W wr) (fun _ i _ => N - (intOf i).toNat)
  case atStart => exact ⟨_, 0, rfl, rfl, Nat.zero_le _, Lib.hid (by
      obtain ⟨g1, hg1⟩ := Ho0.out
      exact ⟨g1, hg1.imp id fun ⟨g, cap, cur, a1, a2, a3⟩ => ⟨g, cap, cur, a1, by injection a1 with e1; have := Option.some.inj e1; injection this with e2; omega, a3⟩⟩), HB0.out⟩
  case round =>
    obtain ⟨vv, j, hvv, rfl, hj, Hv, hb⟩ := hrel
    subst hvv
    clear Ho0 HB0
    have Hb := Lib.hid hb
    have hzb := hb.size
    have PCr := Lib.hid (PC.out.below hb)
    obtain ⟨z, p0, p1, p2, p3⟩ := PCr.out
    clear hb
    by_cases hlt : j < N
    · have HSn := Lib.hid (Cir.safes_succ d o 0 j)
      have Hlit := Lib.hid (Row.of_own (World.ownsRow_lit (base := wr.heap.size) (e := 4) (size := 1) wr #[.bool true] 1 (Nat.le_refl _) (by unfold maxLen; omega) rfl))
      have hdj : decide (j < N) = true := decide_eq_true hlt
      go_wp2_with (at_builtin; refine append_bools rfl (.tmp 22) (.tmp 23) rfl (w.heap.size + 1) _ j (bools (Cir.safes d o 0 j)) rfl (Hv.out.alloc _) _ 1 [.bool true] rfl Hlit.out (by simp [Value.oneCell']) (by omega) (by simp; omega) ?_; intro v7 w7 hown7 hg7 hat7; have Ho7 := Lib.hid hown7; have Hg7 := Lib.hid hg7; clear hown7 hg7 hat7)
      go_roundw
      case rel => exact ⟨_, j + 1, rfl, by go_num, by omega, Lib.hid (by rw [HSn.out, bools_append]; exact Ho7.out), (Hb.out.alloc Hb.out.size _).grown Hg7.out (Hb.out.alloc Hb.out.size _).size (fun q hq => by have := (Hv.out.lt q hq).1; omega)⟩
      case measure => simp [intOf] <;> omega
    · obtain rfl : j = N := by omega
      have hdj : decide (j < j) = false := decide_eq_false (by omega)
      have HS0 : Hid (wr.ownsRow (w.heap.size + 1) 4 1 vv j (bools (Cir.safes d o (k - k) j))) := Lib.hid (by rw [Nat.sub_self]; exact Hv.out)
      clear Hv
      go_wp2_with fail
      clear p0 p1 p2 p3 z
      go_loopw [2, 7] (fun i v wr => ∃ (vv : Value) (q : Nat), vv = v ∧ i = .int .i64 q ∧ q ≤ k ∧ Hid (wr.ownsRow (w.heap.size + 1) 4 1 v j (bools (Cir.safes d o (k - q) j))) ∧ Below W.heap.size W wr) (fun i _ _ => (intOf i).toNat)
      case atStart => exact ⟨_, k, rfl, rfl, Nat.le_refl _, HS0, Hb.out⟩
      case round =>
        obtain ⟨vv, q, hvv, rfl, hq, Hv, hb⟩ := hrel
        subst hvv
        clear HS0
        have Hb := Lib.hid hb
        have hzb := hb.size
        clear hb
        obtain ⟨Av, cv, hvs⟩ := slice_of_own Hv.out
        subst hvs
        by_cases hq0 : 0 < q
        · have hdq : decide (0 < q) = true := decide_eq_true hq0
          have Hqs : Hid (k - (q - 1) = k - q + 1) := Lib.hid (by omega)
          have Hlit0 : Hid ((wr.alloc (.cells #[] 4)).ownsRow wr.heap.size 4 1 (.slice (some ⟨wr.heap.size, 0, none⟩) 0 0) 0 (bools (Cir.safes d o (k - q + 1) 0))) := Lib.hid (World.ownsRow_lit (base := wr.heap.size) (e := 4) (size := 1) wr #[] 0 (Nat.le_refl _) (by unfold maxLen; omega) rfl)
          have HBl := Lib.hid (bel_new wr (.cells #[] 4))
          obtain ⟨K, hK⟩ : ∃ K, k - q = K := ⟨_, rfl⟩
          rw [hK] at Hlit0 Hv Hqs
          clear hK
          go_wp2_with fail
          obtain ⟨Wk, hWk⟩ : ∃ Wk, Wk = wr := ⟨_, rfl⟩
          subst hWk
          go_loopw [9, 10] (fun u i wr => ∃ (uu : Value) (s : Nat), uu = u ∧ i = .int .i64 s ∧ s ≤ j ∧ Hid (wr.ownsRow Wk.heap.size 4 1 u s (bools (Cir.safes d o (K + 1) s))) ∧ Below Wk.heap.size Wk wr) (fun _ i _ => j - (intOf i).toNat)
          case atStart => exact ⟨_, 0, rfl, rfl, Nat.zero_le _, Hlit0, HBl.out⟩
          case round =>
            obtain ⟨uu, s, huu, rfl, hs, Hu, hbk⟩ := hrel
            subst huu
            clear Hlit0 HBl
            have Hbk := Lib.hid hbk
            have hzk := hbk.size
            clear hbk
            by_cases hls : s < j
            · have HSn := Lib.hid (Cir.safes_succ d o (K + 1) s)
              have HJ0 : Hid (Cir.safeJ d o K s 0 = true) := Lib.hid rfl
              have hds : decide (s < j) = true := decide_eq_true hls
              go_wp2_with fail
              obtain ⟨W2, hW2⟩ : ∃ W2, W2 = wr := ⟨_, rfl⟩
              subst hW2
              go_loopw [11, 12] (fun b i wr => ∃ x : Nat, b = .bool (Cir.safeJ d o K s x) ∧ i = .int .i64 x ∧ x ≤ M ∧ Below W2.heap.size W2 wr) (fun _ i _ => M - (intOf i).toNat)
              case atStart => exact ⟨0, rfl, rfl, Nat.zero_le _, Below.refl _ _⟩
              case round =>
                obtain ⟨x, rfl, rfl, hx, hb2⟩ := hrel
                have Hb2 := Lib.hid hb2
                have hz2 := hb2.size
                have HbWk := Lib.hid (Hbk.out.trans (hb2.mono hzk))
                have HbW := Lib.hid (Hb.out.trans (HbWk.out.mono hzb))
                have PCr := Lib.hid (PC.out.below HbW.out)
                have HCr := Lib.hid (HC0.out.below HbW.out)
                obtain ⟨z, p0, p1, p2, p3⟩ := PCr.out
                clear hb2
                by_cases hlx : x < M
                · have HJs := Lib.hid (Cir.safeJ_succ d o K s x)
                  have hdx : decide (x < M) = true := decide_eq_true hlx
                  have hN8' : Cir.nextOf d s x < j := by rw [HN.out]; exact Cir.nextOf_lt d s x
                  cases hJ : Cir.safeJ d o K s x
                  · have HJn : Hid (Cir.safeJ d o K s (x + 1) = false) := Lib.hid (by rw [HJs.out, hJ]; rfl)
                    clear hJ HJs
                    go_wp2_with fail
                    go_roundw
                    case rel => exact ⟨x + 1, by rw [HJn.out], by go_num, by omega, Hb2.out⟩
                    case measure => simp [intOf] <;> omega
                  · have Hbg := Lib.hid (bad_get (s := s) (x := x) Ho.out)
                    rw [hJ] at HJs
                    clear hJ
                    go_wp2_with fail
                    refine (l16Outs_any _ d s x _ HCr.out Hd.out (by omega) (by omega)).mono ?_
                    rintro e w5 ⟨⟨u5, rfl, hu5⟩, hb5⟩
                    obtain ⟨bb, oo, cc, rfl, hbb, hcell⟩ := boolsAt_cell hu5 Hbg.out
                    rw [outsOf_length] at *
                    have PC5 := Lib.hid (PCr.out.below hb5)
                    have HC5 := Lib.hid (HCr.out.below hb5)
                    have Hb5 := Lib.hid (Hb2.out.trans (hb5.mono hz2))
                    have hz5 := Nat.le_trans hz2 hb5.size
                    have hok := Ho.out
                    clear hb5 p0 p1 p2 p3 z hu5
                    obtain ⟨z, p0, p1, p2, p3⟩ := PC5.out
                    cases hbad : Cir.bad d o s x
                    · rw [hbad] at HJs hcell
                      clear hbad
                      go_wp2_with fail
                      refine (l16Next_any _ d s x _ HC5.out Hd.out (by omega) (by omega)).mono ?_
                      rintro e w6 ⟨rfl, hb6⟩
                      have Hb6 := Lib.hid (Hb5.out.trans (hb6.mono hz5))
                      have hVr := own_below (own_below Hv.out Hbk.out) Hb6.out
                      obtain ⟨b7, o7, c7, e7, hb7, hcell7⟩ := boolsAt_cell (bools_at_own hVr (Cir.safes_length d o K j)) (Cir.safes_get hN8')
                      rw [Cir.safes_length] at e7
                      injection e7 with e71 e72 e73
                      subst e71 e73
                      have HJn : Hid (Cir.safeJ d o K s (x + 1) = Cir.safe d o K (Cir.nextOf d s x)) := Lib.hid (by rw [HJs.out]; simp)
                      clear hb6 hVr p0 p1 p2 p3 z HJs
                      generalize Cir.safe d o K (Cir.nextOf d s x) = sv at *
                      generalize Cir.nextOf d s x = nx at *
                      go_wp2_with fail
                      go_roundw
                      case rel => exact ⟨x + 1, by rw [HJn.out], by go_num, by omega, Hb6.out⟩
                      case measure => simp [intOf] <;> omega
                    · have HJn : Hid (Cir.safeJ d o K s (x + 1) = false) := Lib.hid (by rw [HJs.out, hbad]; simp)
                      rw [hbad] at hcell
                      clear hbad HJs
                      go_wp2_with fail
                      go_roundw
                      case rel => exact ⟨x + 1, by rw [HJn.out], by go_num, by omega, Hb5.out⟩
                      case measure => simp [intOf] <;> omega
                · obtain rfl : x = M := by omega
                  have hdx : decide (x < x) = false := decide_eq_false (by omega)
                  have HJe : Hid (Cir.safeJ d o K s x = Cir.safe d o (K + 1) s) := Lib.hid (by rw [HM.out]; rfl)
                  have Hu2 := Lib.hid (own_below Hu.out Hb2.out)
                  generalize Cir.safeJ d o K s x = sv at *
                  have Hlit := Lib.hid (Row.of_own (World.ownsRow_lit (base := wr.heap.size) (e := 4) (size := 1) wr #[.bool sv] 1 (Nat.le_refl _) (by unfold maxLen; omega) rfl))
                  clear p1 p2 p3
                  go_wp2_with (at_builtin; refine append_bools rfl (.tmp 63) (.tmp 65) rfl Wk.heap.size _ s (bools (Cir.safes d o (K + 1) s)) rfl (Hu2.out.alloc _) _ 1 [.bool sv] rfl Hlit.out (by simp [Value.oneCell']) (by omega) (by simp; omega) ?_; intro v7 w7 hown7 hg7 hat7; have Ho7 := Lib.hid hown7; have Hg7 := Lib.hid hg7; clear hown7 hg7 hat7)
                  go_roundw
                  case rel => exact ⟨_, s + 1, rfl, by go_num, by omega, Lib.hid (by rw [HSn.out, ← HJe.out, bools_append]; exact Ho7.out), (HbWk.out.alloc HbWk.out.size _).grown Hg7.out (HbWk.out.alloc HbWk.out.size _).size (own_ge0 Hu2.out)⟩
                  case measure => simp [intOf] <;> omega
            · obtain rfl : s = j := by omega
              have hds : decide (s < s) = false := decide_eq_false (by omega)
              have Hu2 : Hid (wr.ownsRow (w.heap.size + 1) 4 1 uu s (bools (Cir.safes d o (k - (q - 1)) s))) := Lib.hid (by rw [Hqs.out]; exact own_mono Hu.out (by omega))
              have hwq : IntKind.i64.wrap ((q : Int) - 1) = (q : Int) - 1 := IntWalk.i64_in _ (by omega)
              go_wp2_with fail
              go_roundw
              case rel => exact ⟨_, q - 1, rfl, by go_num, by omega, Hu2, Hb.out.trans (Hbk.out.mono hzb)⟩
              case measure => simp [intOf] <;> omega
        · obtain rfl : q = 0 := by omega
          have hdq : decide (0 < 0) = false := decide_eq_false (by omega)
          have Hvf : Hid (wr.ownsRow w.heap.size 4 1 (.slice Av j cv) (Cir.safes d o k j).length (bools (Cir.safes d o k j))) := Lib.hid (by rw [Cir.safes_length]; have := Hv.out; rw [Nat.sub_zero] at this; exact own_mono this (by omega))
          clear Hv
          go_wp2_with fail
          go_ret
          exact ⟨_, rfl, Hvf.out, B0.out.trans (Hb.out.mono B0.out.size)⟩
end Go.Proofs.Ytmlcbikljlhhkaa

namespace Go.Proofs.Ytmlcbikljlhhkaa
open Go.RowKit
set_option maxRecDepth 100000
/-! Inductive, by the reference: the step of the induction, and the whole. -/
set_option maxHeartbeats 16000000 in
theorem l31Step_zero (d : Ci) (o : Nat)  (hd : Cir.Ok d) (ho : o < d.outs.length) (s : Nat) (v : Value) (w : World) (h : CircAt w v (Cir.toCz d)) (hs : s < 8) :
    Calls Try.prog 95 #[v, .int .i64 o, .int .i64 s, .int .i64 (0 : Int)] w fun e w' => e = .returned (.bool (Cir.stepB d o 0 s)) ∧ Below w.heap.size w w' := by
  have l1 := hd.ins
  have l4 := hd.outss
  have HC := Lib.hid h
  obtain ⟨vn, vg, vo, rfl, r1, r2, r3⟩ := h
  obtain ⟨An, cn, rfl, hcn, hcmn⟩ := NatsAt.shape (xs := d.next) r1
  have hins : (Cir.toCz d).ins = (d.ins : Int) := rfl
  rw [hins] at HC ⊢
  have B0 := Lib.hid (bel_new w (.cells #[.int .i64 d.ins, .slice An d.next.length cn, vg, vo] 30))
  have PC := Lib.hid (PCells.boxed w d.ins (.slice An d.next.length cn) vg vo 30)
  have hsz : (w.alloc (.cells #[.int .i64 d.ins, .slice An d.next.length cn, vg, vo] 30)).heap.size = w.heap.size + 1 := by simp
  have HC0 := Lib.hid (HC.out.below B0.out)
  have Hd := Lib.hid hd
  have Ho := Lib.hid ho
  obtain ⟨M, e, hM⟩ : ∃ M : Nat, (2 : Int) ^ d.ins = (M : Int) ∧ M = 2 ^ d.ins := ⟨2 ^ d.ins, two_pow d.ins, rfl⟩
  have hM16 : M ≤ 16 := by rw [hM]; exact Nat.pow_le_pow_right (show 0 < 2 by decide) l1
  have hwM := IntWalk.i64_in (M : Int) (by omega)
  have HM := Lib.hid hM
  have HF : Hid (Cir.stepB d o 0 s = (List.range (2 ^ d.ins)).all fun x => !Cir.bad d o s x) := Lib.hid rfl
  clear r1 r2 r3 hd hins HC ho hM hcn hcmn
  obtain ⟨z, p0, p1, p2, p3⟩ := PC.out
  go_enter Try.func95, Try.ntmps95
  go_wp2_with fail
  generalize w.alloc (.cells #[.int .i64 d.ins, .slice An d.next.length cn, vg, vo] 30) = W at *
  go_loopw [9] (fun i wr => ∃ x : Nat, i = .int .i64 x ∧ x ≤ M ∧ Hid (∀ y, y < x → (!Cir.bad d o s y) = true) ∧ Below W.heap.size W wr) (fun i _ => M - (intOf i).toNat)
  case atStart => exact ⟨0, rfl, Nat.zero_le _, Lib.hid (fun y hy => absurd hy (Nat.not_lt_zero _)), Below.refl _ _⟩
  case round =>
    obtain ⟨x, rfl, hx, HJ, hb⟩ := hrel
    have Hb := Lib.hid hb
    have hzb := hb.size
    have PCr := Lib.hid (PC.out.below hb)
    have HCr := Lib.hid (HC0.out.below hb)
    clear hb p0 p1 p2 p3 z
    obtain ⟨z, p0, p1, p2, p3⟩ := PCr.out
    by_cases hlx : x < M
    · have hdx : decide (x < M) = true := decide_eq_true hlx
      have Hbg := Lib.hid (bad_get (s := s) (x := x) Ho.out)
      have HNo : Hid (∀ (h : (!Cir.bad d o s x) = false), Cir.stepB d o 0 s = false) := Lib.hid (fun h => by
        rw [HF.out]
        refine Bool.eq_false_iff.2 fun ha => ?_
        have := List.all_eq_true.1 ha x (List.mem_range.2 (by rw [← HM.out]; exact hlx))
        rw [h] at this
        cases this)
      have HJ2 : Hid (∀ (h : (!Cir.bad d o s x) = true), ∀ y, y < x + 1 → (!Cir.bad d o s y) = true) := Lib.hid (fun h y hy => by
        rcases Nat.lt_or_ge y x with h2 | h2
        · exact HJ.out y h2
        · obtain rfl : y = x := by omega
          exact h)
      clear HJ HF
      go_wp2_with fail
      refine (l16Outs_any _ d s x _ HCr.out Hd.out (by omega) (by omega)).mono ?_
      rintro e w5 ⟨⟨u5, rfl, hu5⟩, hb5⟩
      obtain ⟨bb, oo, cc, rfl, hbb, hcell⟩ := boolsAt_cell hu5 Hbg.out
      rw [outsOf_length] at *
      have PC5 := Lib.hid (PCr.out.below hb5)
      have HC5 := Lib.hid (HCr.out.below hb5)
      have Hb5 := Lib.hid (Hb.out.trans (hb5.mono hzb))
      have hok := Ho.out
      clear hb5 p0 p1 p2 p3 z hu5 HCr PCr
      obtain ⟨z, p0, p1, p2, p3⟩ := PC5.out
      cases hbad : Cir.bad d o s x
      · rw [hbad] at hcell
        have HJt := Lib.hid (HJ2.out (by rw [hbad]; rfl))
        clear hbad HNo HJ2
        have hz0 : decide (0 < 0) = false := rfl
        go_wp2_with fail
        refine wp_region_grow (by kernel_rfl) (by kernel_rfl) ?_
        repeat (go_big_quiet_step ((fail)))
        refine wpQuiet_nil ?_
        intro _ hw'
        obtain ⟨nq, hw''⟩ := hw'
        subst hw''
        have hgq := gw_below nq
        generalize gw nq = wq at *
        clear nq
        have Hb6 := Lib.hid (Hb5.out.trans (hgq.mono Hb5.out.size))
        clear hgq p0 p1 p2 p3 z
        go_wp2_with fail
        go_roundw
        case rel => exact ⟨x + 1, by go_num, by omega, HJt, Hb6.out⟩
        case measure => simp [intOf] <;> omega
      · have HR := Lib.hid (HNo.out (by rw [hbad]; rfl))
        rw [hbad] at hcell
        clear hbad HNo HJ2
        go_wp2_with fail
        go_ret
        exact ⟨ret_bool HR.out.symm, B0.out.trans (Hb5.out.mono B0.out.size)⟩
    · obtain rfl : x = M := by omega
      have hdx : decide (x < x) = false := decide_eq_false (by omega)
      have HR : Hid (Cir.stepB d o 0 s = true) := Lib.hid (by
        rw [HF.out, List.all_eq_true]
        exact fun y hy => HJ.out y (by rw [HM.out]; exact List.mem_range.1 hy))
      clear HF HJ
      go_wp2_with fail
      go_ret
      exact ⟨ret_bool HR.out.symm, B0.out.trans (Hb.out.mono B0.out.size)⟩

set_option maxHeartbeats 16000000 in
theorem l31Step_succ (d : Ci) (o : Nat) (k : Nat) (hk : k + 1 ≤ 4) (HI : Hid (∀ (s : Nat) (v : Value) (w : World), CircAt w v (Cir.toCz d) → s < 8 → Calls Try.prog 95 #[v, .int .i64 o, .int .i64 s, .int .i64 k] w fun e w' => e = .returned (.bool (Cir.stepB d o k s)) ∧ Below w.heap.size w w')) (hd : Cir.Ok d) (ho : o < d.outs.length) (s : Nat) (v : Value) (w : World) (h : CircAt w v (Cir.toCz d)) (hs : s < 8) :
    Calls Try.prog 95 #[v, .int .i64 o, .int .i64 s, .int .i64 ((k + 1 : Nat) : Int)] w fun e w' => e = .returned (.bool (Cir.stepB d o (k + 1) s)) ∧ Below w.heap.size w w' := by
  have l1 := hd.ins
  have l4 := hd.outss
  have HC := Lib.hid h
  obtain ⟨vn, vg, vo, rfl, r1, r2, r3⟩ := h
  obtain ⟨An, cn, rfl, hcn, hcmn⟩ := NatsAt.shape (xs := d.next) r1
  have hins : (Cir.toCz d).ins = (d.ins : Int) := rfl
  rw [hins] at HC ⊢
  have B0 := Lib.hid (bel_new w (.cells #[.int .i64 d.ins, .slice An d.next.length cn, vg, vo] 30))
  have PC := Lib.hid (PCells.boxed w d.ins (.slice An d.next.length cn) vg vo 30)
  have hsz : (w.alloc (.cells #[.int .i64 d.ins, .slice An d.next.length cn, vg, vo] 30)).heap.size = w.heap.size + 1 := by simp
  have HC0 := Lib.hid (HC.out.below B0.out)
  have Hd := Lib.hid hd
  have Ho := Lib.hid ho
  obtain ⟨M, e, hM⟩ : ∃ M : Nat, (2 : Int) ^ d.ins = (M : Int) ∧ M = 2 ^ d.ins := ⟨2 ^ d.ins, two_pow d.ins, rfl⟩
  have hM16 : M ≤ 16 := by rw [hM]; exact Nat.pow_le_pow_right (show 0 < 2 by decide) l1
  have hwM := IntWalk.i64_in (M : Int) (by omega)
  have HM := Lib.hid hM
  obtain ⟨K, hK⟩ : ∃ K : Nat, K = k + 1 := ⟨_, rfl⟩
  rw [← hK]
  have hK0 : ((K : Int) == 0) = false := by simp; omega
  have hK1 : decide (0 < K) = true := decide_eq_true (by omega)
  have hwk : IntKind.i64.wrap ((K : Int) - 1) = (k : Int) := by rw [hK]; exact (IntWalk.i64_in _ (by omega)).trans (by omega)
  have HF : Hid (Cir.stepB d o K s = (List.range (2 ^ d.ins)).all fun x => Cir.bad d o s x || Cir.stepB d o k (Cir.nextOf d s x)) := Lib.hid (by rw [hK]; rfl)
  clear hK hk
  clear r1 r2 r3 hd hins HC ho hM hcn hcmn
  obtain ⟨z, p0, p1, p2, p3⟩ := PC.out
  go_enter Try.func95, Try.ntmps95
  go_wp2_with fail
  generalize w.alloc (.cells #[.int .i64 d.ins, .slice An d.next.length cn, vg, vo] 30) = W at *
  go_loopw [9] (fun i wr => ∃ x : Nat, i = .int .i64 x ∧ x ≤ M ∧ Hid (∀ y, y < x → (Cir.bad d o s y || Cir.stepB d o k (Cir.nextOf d s y)) = true) ∧ Below W.heap.size W wr) (fun i _ => M - (intOf i).toNat)
  case atStart => exact ⟨0, rfl, Nat.zero_le _, Lib.hid (fun y hy => absurd hy (Nat.not_lt_zero _)), Below.refl _ _⟩
  case round =>
    obtain ⟨x, rfl, hx, HJ, hb⟩ := hrel
    have Hb := Lib.hid hb
    have hzb := hb.size
    have PCr := Lib.hid (PC.out.below hb)
    have HCr := Lib.hid (HC0.out.below hb)
    clear hb p0 p1 p2 p3 z
    obtain ⟨z, p0, p1, p2, p3⟩ := PCr.out
    by_cases hlx : x < M
    · have hdx : decide (x < M) = true := decide_eq_true hlx
      have Hbg := Lib.hid (bad_get (s := s) (x := x) Ho.out)
      have HNo : Hid (∀ (h : (Cir.bad d o s x || Cir.stepB d o k (Cir.nextOf d s x)) = false), Cir.stepB d o K s = false) := Lib.hid (fun h => by
        rw [HF.out]
        refine Bool.eq_false_iff.2 fun ha => ?_
        have := List.all_eq_true.1 ha x (List.mem_range.2 (by rw [← HM.out]; exact hlx))
        rw [h] at this
        cases this)
      have HJ2 : Hid (∀ (h : (Cir.bad d o s x || Cir.stepB d o k (Cir.nextOf d s x)) = true), ∀ y, y < x + 1 → (Cir.bad d o s y || Cir.stepB d o k (Cir.nextOf d s y)) = true) := Lib.hid (fun h y hy => by
        rcases Nat.lt_or_ge y x with h2 | h2
        · exact HJ.out y h2
        · obtain rfl : y = x := by omega
          exact h)
      clear HJ HF
      go_wp2_with fail
      refine (l16Outs_any _ d s x _ HCr.out Hd.out (by omega) (by omega)).mono ?_
      rintro e w5 ⟨⟨u5, rfl, hu5⟩, hb5⟩
      obtain ⟨bb, oo, cc, rfl, hbb, hcell⟩ := boolsAt_cell hu5 Hbg.out
      rw [outsOf_length] at *
      have PC5 := Lib.hid (PCr.out.below hb5)
      have HC5 := Lib.hid (HCr.out.below hb5)
      have Hb5 := Lib.hid (Hb.out.trans (hb5.mono hzb))
      have hok := Ho.out
      clear hb5 p0 p1 p2 p3 z hu5 HCr PCr
      obtain ⟨z, p0, p1, p2, p3⟩ := PC5.out
      cases hbad : Cir.bad d o s x
      · rw [hbad] at hcell
        have HNX := Lib.hid (Cir.next_lt8 Hd.out s x)
        have HNo' : Hid (Cir.stepB d o k (Cir.nextOf d s x) = false → Cir.stepB d o K s = false) := Lib.hid (fun h => HNo.out (by rw [hbad, h]; rfl))
        have HJ2' : Hid (Cir.stepB d o k (Cir.nextOf d s x) = true → ∀ y, y < x + 1 → (Cir.bad d o s y || Cir.stepB d o k (Cir.nextOf d s y)) = true) := Lib.hid (fun h => HJ2.out (by rw [hbad, h]; rfl))
        have g0 := gw_cell p0 z
        have g1 := gw_cell p1 z
        have g2 := gw_cell p2 z
        have g3 := gw_cell p3 z
        have HN : Hid (∀ n : GW w5, Calls Try.prog 99 #[.agg #[.int .i64 d.ins, .slice An d.next.length cn, vg, vo], .int .i64 s, .int .i64 x] (gw n) fun e w' => e = .returned (.int .i64 (Cir.nextOf d s x : Nat)) ∧ Below (gw n).heap.size (gw n) w') := Lib.hid fun n => l16Next_any _ d s x _ (HC5.out.below (gw_below n)) Hd.out (by omega) (by omega)
        have HS : Hid (∀ n : GW w5, Calls Try.prog 95 #[.agg #[.int .i64 d.ins, .slice An d.next.length cn, vg, vo], .int .i64 o, .int .i64 (Cir.nextOf d s x : Nat), .int .i64 k] (gw n) fun e w' => e = .returned (.bool (Cir.stepB d o k (Cir.nextOf d s x))) ∧ Below (gw n).heap.size (gw n) w') := Lib.hid fun n => HI.out _ _ _ (HC5.out.below (gw_below n)) HNX.out
        clear hbad HNo HJ2 HI
        generalize Cir.stepB d o k (Cir.nextOf d s x) = sv at *
        generalize Cir.nextOf d s x = nx at *
        go_wp2_with fail
        refine wp_region_grow (by kernel_rfl) (by kernel_rfl) ?_
        repeat (go_big_quiet_step ((first | (go_at_call 99; exact grow_call (HN.out _)) | (go_at_call 95; exact grow_call (HS.out _)))))
        refine wpQuiet_nil ?_
        intro _ hw'
        obtain ⟨nq, hw''⟩ := hw'
        subst hw''
        have hgq := gw_below nq
        generalize gw nq = wq at *
        clear nq
        have Hb6 := Lib.hid (Hb5.out.trans (hgq.mono Hb5.out.size))
        clear hgq g0 g1 g2 g3 HN HS p0 p1 p2 p3 z
        cases sv
        · have HR := Lib.hid (HNo'.out rfl)
          clear HNo' HJ2'
          go_wp2_with fail
          go_ret
          exact ⟨ret_bool HR.out.symm, B0.out.trans (Hb6.out.mono B0.out.size)⟩
        · go_wp2_with fail
          go_roundw
          case rel => exact ⟨x + 1, by go_num, by omega, Lib.hid (HJ2'.out rfl), Hb6.out⟩
          case measure => simp [intOf] <;> omega
      · have HJt := Lib.hid (HJ2.out (by rw [hbad]; rfl))
        rw [hbad] at hcell
        clear hbad HNo HJ2
        go_wp2_with fail
        go_roundw
        case rel => exact ⟨x + 1, by go_num, by omega, HJt, Hb5.out⟩
        case measure => simp [intOf] <;> omega
    · obtain rfl : x = M := by omega
      have hdx : decide (x < x) = false := decide_eq_false (by omega)
      have HR : Hid (Cir.stepB d o K s = true) := Lib.hid (by
        rw [HF.out, List.all_eq_true]
        exact fun y hy => HJ.out y (by rw [HM.out]; exact List.mem_range.1 hy))
      clear HF HJ
      go_wp2_with fail
      go_ret
      exact ⟨ret_bool HR.out.symm, B0.out.trans (Hb.out.mono B0.out.size)⟩

theorem l31Step_any (d : Ci) (o : Nat) (hd : Cir.Ok d) (ho : o < d.outs.length) : ∀ (k : Nat), k ≤ 4 → ∀ (s : Nat) (v : Value) (w : World), CircAt w v (Cir.toCz d) → s < 8 →
    Calls Try.prog 95 #[v, .int .i64 o, .int .i64 s, .int .i64 k] w fun e w' => e = .returned (.bool (Cir.stepB d o k s)) ∧ Below w.heap.size w w'
  | 0, _, s, v, w, h, hs => l31Step_zero d o hd ho s v w h hs
  | k + 1, hk, s, v, w, h, hs => l31Step_succ d o k hk (Lib.hid (l31Step_any d o hd ho k (by omega))) hd ho s v w h hs
set_option maxHeartbeats 16000000 in
theorem specInd_ok (v : Value) (d : Ci) (o k : Nat) (w : World) (h : CircAt w v (Cir.toCz d)) (hd : Cir.Ok d) (hv : Cir.valid (Cir.toCz d) = true) (ho : o < d.outs.length) (hk1 : 1 ≤ k) (hk4 : k ≤ 4) :
    Calls Try.prog 39 #[v, .int .i64 o, .int .i64 k] w fun e w' => e = .returned (.bool (Cir.ind d o k)) ∧ Below w.heap.size w w' := by
  have l1 := hd.ins
  have l2 := hd.nexts
  have l4 := hd.outss
  have HC := Lib.hid h
  obtain ⟨vn, vg, vo, rfl, r1, r2, r3⟩ := h
  obtain ⟨Ao, co, rfl, hco, hcom⟩ := NatsAt.shape (xs := d.outs) r3
  obtain ⟨An, cn, rfl, hcn, hcmn⟩ := NatsAt.shape (xs := d.next) r1
  have hins : (Cir.toCz d).ins = (d.ins : Int) := rfl
  rw [hins] at HC ⊢
  have B0 := Lib.hid (bel_new w (.cells #[.int .i64 d.ins, .slice An d.next.length cn, vg, .slice Ao d.outs.length co] 30))
  have PC := Lib.hid (PCells.boxed w d.ins (.slice An d.next.length cn) vg (.slice Ao d.outs.length co) 30)
  have hsz : (w.alloc (.cells #[.int .i64 d.ins, .slice An d.next.length cn, vg, .slice Ao d.outs.length co] 30)).heap.size = w.heap.size + 1 := by simp
  obtain ⟨z, p0, p1, p2, p3⟩ := PC.out
  have HC0 := Lib.hid (HC.out.below B0.out)
  have HV := Lib.hid (specValid_any _ _ _ HC0.out)
  rw [hv] at HV
  have Hd := Lib.hid hd
  have Ho := Lib.hid ho
  have HIS := Lib.hid (Cir.ind_spec hd o k)
  obtain ⟨N, eN, hN⟩ : ∃ N : Nat, (2 : Int) ^ d.next.length = (N : Int) ∧ N = 2 ^ d.next.length := ⟨2 ^ d.next.length, two_pow d.next.length, rfl⟩
  have hN8 : N ≤ 8 := by rw [hN]; exact Nat.pow_le_pow_right (show 0 < 2 by decide) l2
  have hN0 : 0 < N := by rw [hN]; exact Nat.pow_pos (by decide)
  have hwN := IntWalk.i64_in (N : Int) (by omega)
  have hwl := IntWalk.i64_in ((d.outs.length : Int) - 1) (by omega)
  have Hin := Lib.hid (fun w' => l1In_any (o : Int) 0 ((d.outs.length : Int) - 1) w')
  rw [show decide ((0 : Int) ≤ (o : Int) ∧ (o : Int) ≤ (d.outs.length : Int) - 1) = true from decide_eq_true (by omega)] at Hin
  have Hik := Lib.hid (fun w' => l1In_any (k : Int) 1 4 w')
  rw [show decide ((1 : Int) ≤ (k : Int) ∧ (k : Int) ≤ 4) = true from decide_eq_true (by omega)] at Hik
  rw [← hN] at HIS
  have HN := Lib.hid hN
  clear r1 r2 r3 hd hins hv HC ho hco hcom hcn hcmn hN
  go_enter Try.func39, Try.ntmps39
  go_wp2_with fail
  generalize w.alloc (.cells #[.int .i64 d.ins, .slice An d.next.length cn, vg, .slice Ao d.outs.length co] 30) = W at *
  refine HV.out.mono ?_
  rintro e w1 ⟨rfl, hb1⟩
  have B1 := Lib.hid (B0.out.trans (hb1.mono B0.out.size))
  have HC1 := Lib.hid (HC0.out.below hb1)
  have PC1 := Lib.hid (PC.out.below hb1)
  have z1 := hb1.size
  clear hb1 p0 p1 p2 p3 z HV HC0 PC
  obtain ⟨z, p0, p1, p2, p3⟩ := PC1.out
  have hrw := (Hin.out w1)
  go_wp2_with fail
  refine hrw.mono ?_
  rintro e w' ⟨rfl, rfl⟩
  clear hrw Hin hwl
  go_wp2_with fail
  refine (Hik.out w1).mono ?_
  rintro e w' ⟨rfl, rfl⟩
  clear Hik
  go_wp2_with fail
  refine (l31Safe_any _ d o k _ HC1.out Hd.out Ho.out (by omega)).mono ?_
  rintro e w2 ⟨u2, rfl, hO2, hb2⟩
  rw [← HN.out] at hO2
  obtain ⟨bb, oo, cc, hu2, hbb, hcell⟩ := boolsAt_cell (bools_at_own hO2 rfl) (Cir.safes_get (c := d) (o := o) (k := k) hN0)
  rw [Cir.safes_length] at hu2
  subst hu2
  have B2 := Lib.hid (B1.out.trans (hb2.mono B1.out.size))
  have HC2 := Lib.hid (HC1.out.below hb2)
  have PC2 := Lib.hid (PC1.out.below hb2)
  have z2 := hb2.size
  clear hb2 hO2 p0 p1 p2 p3 z HC1 PC1
  obtain ⟨z, p0, p1, p2, p3⟩ := PC2.out
  cases hsf : Cir.safe d o k 0
  · have HR : Hid (Cir.ind d o k = false) := Lib.hid (by rw [HIS.out, hsf]; rfl)
    rw [Nat.add_zero] at hcell
    rw [hsf] at hcell
    clear HIS hsf
    go_wp2_with fail
    go_ret
    exact ⟨ret_bool HR.out.symm, B2.out⟩
  · rw [hsf, Bool.true_and] at HIS
    rw [Nat.add_zero] at hcell
    rw [hsf] at hcell
    clear hsf
    go_wp2_with fail
    clear hcell hbb p0 p1 p2 p3 z
    go_loopw [7] (fun i wr => ∃ s : Nat, i = .int .i64 s ∧ s ≤ N ∧ Hid (∀ y, y < s → Cir.stepB d o k y = true) ∧ Below w2.heap.size w2 wr) (fun i _ => N - (intOf i).toNat)
    case atStart => exact ⟨0, rfl, Nat.zero_le _, Lib.hid (fun y hy => absurd hy (Nat.not_lt_zero _)), Below.refl _ _⟩
    case round =>
      obtain ⟨s, rfl, hs, HJ, hb⟩ := hrel
      have Hb := Lib.hid hb
      have hzb := hb.size
      have PCr := Lib.hid (PC2.out.below hb)
      have HCr := Lib.hid (HC2.out.below hb)
      clear hb
      obtain ⟨z, p0, p1, p2, p3⟩ := PCr.out
      by_cases hls : s < N
      · have hds : decide (s < N) = true := decide_eq_true hls
        go_wp2_with fail
        refine (l31Step_any d o Hd.out Ho.out k (by omega) s _ _ HCr.out (by omega)).mono ?_
        rintro e w5 ⟨rfl, hb5⟩
        have Hb5 := Lib.hid (Hb.out.trans (hb5.mono hzb))
        clear hb5 p0 p1 p2 p3 z
        cases hst : Cir.stepB d o k s
        · have HR : Hid (Cir.ind d o k = false) := Lib.hid (by
            rw [HIS.out]
            refine Bool.eq_false_iff.2 fun ha => ?_
            have := List.all_eq_true.1 ha s (List.mem_range.2 hls)
            rw [hst] at this
            cases this)
          clear HIS hst
          go_wp2_with fail
          go_ret
          exact ⟨ret_bool HR.out.symm, B2.out.trans (Hb5.out.mono B2.out.size)⟩
        · have HJ2 : Hid (∀ y, y < s + 1 → Cir.stepB d o k y = true) := Lib.hid (fun y hy => by
            rcases Nat.lt_or_ge y s with h2 | h2
            · exact HJ.out y h2
            · obtain rfl : y = s := by omega
              exact hst)
          clear hst HJ
          go_wp2_with fail
          go_roundw
          case rel => exact ⟨s + 1, by go_num, by omega, HJ2, Hb5.out⟩
          case measure => simp [intOf] <;> omega
      · obtain rfl : s = N := by omega
        have hds : decide (s < s) = false := decide_eq_false (by omega)
        have HR : Hid (Cir.ind d o k = true) := Lib.hid (by
          rw [HIS.out, List.all_eq_true]
          exact fun y hy => HJ.out y (List.mem_range.1 hy))
        clear HIS HJ
        go_wp2_with fail
        go_ret
        exact ⟨ret_bool HR.out.symm, B2.out.trans (Hb.out.mono B2.out.size)⟩
theorem specInd_no (v : Value) (c : Cz) (o k : Int) (w : World) (h : CircAt w v c) (hno : ¬ Cir.indOk c o k) :
    Calls Try.prog 39 #[v, .int .i64 o, .int .i64 k] w fun e w' => e = .returned (.bool false) ∧ Below w.heap.size w w' := by
  have HC := Lib.hid h
  obtain ⟨An, cn, Ag, cg, Ao, co, rfl⟩ := h.shape
  have B0 := Lib.hid (bel_new w (.cells #[.int .i64 c.ins, .slice An c.next.length cn, .slice Ag c.gates.length cg, .slice Ao c.outs.length co] 30))
  have PC := Lib.hid (PCells.boxed w c.ins (.slice An c.next.length cn) (.slice Ag c.gates.length cg) (.slice Ao c.outs.length co) 30)
  have hsz : (w.alloc (.cells #[.int .i64 c.ins, .slice An c.next.length cn, .slice Ag c.gates.length cg, .slice Ao c.outs.length co] 30)).heap.size = w.heap.size + 1 := by simp
  obtain ⟨z, p0, p1, p2, p3⟩ := PC.out
  have HV := Lib.hid (specValid_any _ _ _ (HC.out.below B0.out))
  have Hno := Lib.hid hno
  clear HC h hno
  cases hv : Cir.valid c
  · rw [hv] at HV
    clear hv Hno
    go_enter Try.func39, Try.ntmps39
    go_wp2_with fail
    generalize w.alloc (.cells #[.int .i64 c.ins, .slice An c.next.length cn, .slice Ag c.gates.length cg, .slice Ao c.outs.length co] 30) = W at *
    refine HV.out.mono ?_
    rintro e w1 ⟨rfl, hb1⟩
    have B1 := Lib.hid (B0.out.trans (hb1.mono B0.out.size))
    have PC1 := Lib.hid (PC.out.below hb1)
    have z1 := hb1.size
    clear hb1 p0 p1 p2 p3 z HV PC
    obtain ⟨z, p0, p1, p2, p3⟩ := PC1.out
    go_wp2_with fail
    go_ret
    exact ⟨rfl, B1.out⟩
  · have hl := valid_outs hv
    have hwl := IntWalk.i64_in ((c.outs.length : Int) - 1) (by omega)
    have Hin := Lib.hid (fun w' => l1In_any o 0 ((c.outs.length : Int) - 1) w')
    rw [hv] at HV
    by_cases h1 : 0 ≤ o ∧ o < c.outs.length
    · rw [show decide (0 ≤ o ∧ o ≤ (c.outs.length : Int) - 1) = true from decide_eq_true (by omega)] at Hin
      have Hik := Lib.hid (fun w' => l1In_any k 1 4 w')
      rw [show decide (1 ≤ k ∧ k ≤ 4) = false from decide_eq_false (fun hk => Hno.out (by unfold Cir.indOk; exact ⟨hv, h1, hk.1, hk.2⟩))] at Hik
      clear h1 hl hv Hno
      go_enter Try.func39, Try.ntmps39
      go_wp2_with fail
      generalize w.alloc (.cells #[.int .i64 c.ins, .slice An c.next.length cn, .slice Ag c.gates.length cg, .slice Ao c.outs.length co] 30) = W at *
      refine HV.out.mono ?_
      rintro e w1 ⟨rfl, hb1⟩
      have B1 := Lib.hid (B0.out.trans (hb1.mono B0.out.size))
      have PC1 := Lib.hid (PC.out.below hb1)
      have z1 := hb1.size
      clear hb1 p0 p1 p2 p3 z HV PC
      obtain ⟨z, p0, p1, p2, p3⟩ := PC1.out
      go_wp2_with fail
      refine (Hin.out w1).mono ?_
      rintro e w' ⟨rfl, rfl⟩
      clear Hin hwl
      go_wp2_with fail
      refine (Hik.out w1).mono ?_
      rintro e w' ⟨rfl, rfl⟩
      clear Hik
      go_wp2_with fail
      go_ret
      exact ⟨rfl, B1.out⟩
    · rw [show decide (0 ≤ o ∧ o ≤ (c.outs.length : Int) - 1) = false from decide_eq_false (by omega)] at Hin
      clear h1 hl hv Hno
      go_enter Try.func39, Try.ntmps39
      go_wp2_with fail
      generalize w.alloc (.cells #[.int .i64 c.ins, .slice An c.next.length cn, .slice Ag c.gates.length cg, .slice Ao c.outs.length co] 30) = W at *
      refine HV.out.mono ?_
      rintro e w1 ⟨rfl, hb1⟩
      have B1 := Lib.hid (B0.out.trans (hb1.mono B0.out.size))
      have PC1 := Lib.hid (PC.out.below hb1)
      have z1 := hb1.size
      clear hb1 p0 p1 p2 p3 z HV PC
      obtain ⟨z, p0, p1, p2, p3⟩ := PC1.out
      go_wp2_with fail
      refine (Hin.out w1).mono ?_
      rintro e w' ⟨rfl, rfl⟩
      clear Hin hwl
      go_wp2_with fail
      go_ret
      exact ⟨rfl, B1.out⟩
theorem specInd_any (v : Value) (c : Cz) (o k : Int) (w : World) (h : CircAt w v c) :
    Calls Try.prog 39 #[v, .int .i64 o, .int .i64 k] w fun e w' => e = .returned (.bool (Cir.indI c o k)) ∧ Below w.heap.size w w' := by
  by_cases hc : Cir.indOk c o k
  · rw [Cir.indI_yes hc]
    obtain ⟨hv, ⟨h1, h2⟩, h3, h4⟩ := hc
    obtain ⟨d1, d2⟩ := Cir.nat_ok hv
    obtain ⟨m, rfl⟩ := Int.eq_ofNat_of_zero_le h1
    obtain ⟨q, rfl⟩ := Int.eq_ofNat_of_zero_le (show 0 ≤ k by omega)
    exact specInd_ok v (Cir.nat c) m q w (by rw [← d1]; exact h) d2 (by rw [← d1]; exact hv) (by unfold Cir.nat; simp only [List.length_map]; omega) (by omega) (by omega)
  · rw [Cir.indI_no hc]
    exact specInd_no v c o k w h hc
end Go.Proofs.Ytmlcbikljlhhkaa
