import Derived.Test.YtopimdakpnnbhaaS08
set_option linter.unusedVariables false
set_option linter.unusedSimpArgs false
namespace Go.Proofs.Ytopimdakpnnbhaa
open Go.RowKit
set_option maxRecDepth 100000
/-! FindViolation, by the reference. -/
def SpecViol (ins : Nat) (r : Option (List Nat)) (w : World) (e : Ending) (w' : World) : Prop := (∃ v, e = .returned (.agg #[.bool r.isSome, v]) ∧ SSAt bools w' v (vrows ins r)) ∧ Below w.heap.size w w'
structure VT (B : Nat) (l : List (Nat × List Nat)) (fr how : List Nat) (vs vf vh : Value) (w : World) : Prop where
  s : w.ownsRow B 3 1 vs l.length (nints (Cir.vsts l))
  f : w.ownsRow B 3 1 vf l.length (nints fr)
  h : w.ownsRow B 3 1 vh l.length (nints how)
  a1 : Apart vs vf
  a2 : Apart vs vh
  a3 : Apart vf vh
theorem VT.below {B : Nat} {l : List (Nat × List Nat)} {fr how : List Nat} {vs vf vh : Value} {w w' : World} (h : VT B l fr how vs vf vh w) (hb : Below w.heap.size w w') : VT B l fr how vs vf vh w' :=
  ⟨own_below h.s hb, own_below h.f hb, own_below h.h hb, h.a1, h.a2, h.a3⟩
/-- A pointer to a boolean. -/
def TPB (b : Bool) : Ty := fun w v => ∃ g i, v = .pointer (some ⟨g, i, none⟩) ∧ g < w.heap.size ∧ w.cell? ⟨g, i, none⟩ = some (.bool b)
theorem stb_pb (b : Bool) : Stb (fun _ => False) (TPB b) := by
  rintro v w w' ⟨g, i, rfl, hg, hc⟩ ho
  exact ⟨g, i, rfl, Nat.lt_of_lt_of_le hg ho.size, ((only_below ho).cell (p := ⟨g, i, none⟩) hg).trans hc⟩
set_option maxHeartbeats 16000000 in
theorem specViol_ok (v : Value) (d : Ci) (o : Nat) (w : World) (h : CircAt w v (Cir.toCz d)) (hd : Cir.Ok d) (hv : Cir.valid (Cir.toCz d) = true) (ho : o < d.outs.length) :
    Calls Try.prog 49 #[v, .int .i64 o] w (SpecViol d.ins (Cir.viol d o) w) := by
  have l1 := hd.ins
  have l2 := hd.nexts
  have l4 := hd.outss
  have HC := Lib.hid h
  obtain ⟨vn, vg, vo, rfl, r1, r2, r3⟩ := h
  obtain ⟨Ao, co, rfl, hco, hcom⟩ := NatsAt.shape (xs := d.outs) r3
  have hins : (Cir.toCz d).ins = (d.ins : Int) := rfl
  rw [hins] at HC ⊢
  have hb0 := bel_new w (.cells #[.int .i64 d.ins, vn, vg, .slice Ao d.outs.length co] 26)
  have hb1 := bel_new (w.alloc (.cells #[.int .i64 d.ins, vn, vg, .slice Ao d.outs.length co] 26)) (.cells #[.bool false, .slice none 0 0] 58)
  have B0 := Lib.hid (hb0.trans (hb1.mono hb0.size))
  have PC := Lib.hid ((PCells.boxed w d.ins vn vg (.slice Ao d.outs.length co) 26).below hb1)
  have hsz : ((w.alloc (.cells #[.int .i64 d.ins, vn, vg, .slice Ao d.outs.length co] 26)).alloc (.cells #[.bool false, .slice none 0 0] 58)).heap.size = w.heap.size + 1 + 1 := by simp
  have hR : ((w.alloc (.cells #[.int .i64 d.ins, vn, vg, .slice Ao d.outs.length co] 26)).alloc (.cells #[.bool false, .slice none 0 0] 58)).heap[w.heap.size + 1]? = some (.cells #[.bool false, .slice none 0 0] 58 (0, 0)) := by
    have := heap_alloc_new (w.alloc (.cells #[.int .i64 d.ins, vn, vg, .slice Ao d.outs.length co] 26)) (.cells #[.bool false, .slice none 0 0] 58)
    rwa [World.size_alloc] at this
  have HRes := Lib.hid hR
  obtain ⟨z, p0, p1, p2, p3⟩ := PC.out
  have HC0 := Lib.hid (HC.out.below B0.out)
  have HV := Lib.hid (specValid_any _ _ _ HC0.out)
  rw [hv] at HV
  have Hd := Lib.hid hd
  have Ho := Lib.hid ho
  obtain ⟨M, e, hM⟩ : ∃ M : Nat, (2 : Int) ^ d.ins = (M : Int) ∧ M = 2 ^ d.ins := ⟨2 ^ d.ins, two_pow d.ins, rfl⟩
  have hM16 : M ≤ 16 := by rw [hM]; exact Nat.pow_le_pow_right (show 0 < 2 by decide) l1
  have hwM := IntWalk.i64_in (M : Int) (by omega)
  have HM := Lib.hid hM
  have hwl := IntWalk.i64_in ((d.outs.length : Int) - 1) (by omega)
  have Hin := Lib.hid (fun w' => l1In_any (o : Int) 0 ((d.outs.length : Int) - 1) w')
  rw [show decide ((0 : Int) ≤ (o : Int) ∧ (o : Int) ≤ (d.outs.length : Int) - 1) = true from decide_eq_true (by omega)] at Hin
  clear r1 r2 r3 hd hins hv HC hb0 hb1 hR ho hco hcom hM
  go_enter Try.func49, Try.ntmps49
  go_wp2_with fail
  generalize (w.alloc (.cells #[.int .i64 d.ins, vn, vg, .slice Ao d.outs.length co] 26)).alloc (.cells #[.bool false, .slice none 0 0] 58) = W at *
  refine HV.out.mono ?_
  rintro e w1 ⟨rfl, hb1⟩
  have B1 := Lib.hid (B0.out.trans (hb1.mono B0.out.size))
  have HC1 := Lib.hid (HC0.out.below hb1)
  have HRes1 := Lib.hid ((hb1.block _ (by omega)).trans HRes.out)
  have PC1 := Lib.hid (PC.out.below hb1)
  have z1 := hb1.size
  clear hb1 p0 p1 p2 p3 z HV HC0 HRes PC
  obtain ⟨z, p0, p1, p2, p3⟩ := PC1.out
  have hrw := (Hin.out w1)
  go_wp2_with fail
  refine hrw.mono ?_
  rintro e w' ⟨rfl, rfl⟩
  clear hrw Hin hwl
  have hs3 : (((w1.alloc (.cells #[.int .i64 0] 3)).alloc (.cells #[.int .i64 0] 3)).alloc (.cells #[.int .i64 0] 3)).heap.size = w1.heap.size + 1 + 1 + 1 := by simp
  have HT0 : Hid (VT w1.heap.size [(0, [])] [0] [0] (.slice (some ⟨w1.heap.size, 0, none⟩) 1 1) (.slice (some ⟨w1.heap.size + 1, 0, none⟩) 1 1) (.slice (some ⟨w1.heap.size + 1 + 1, 0, none⟩) 1 1) (((w1.alloc (.cells #[.int .i64 0] 3)).alloc (.cells #[.int .i64 0] 3)).alloc (.cells #[.int .i64 0] 3))) := Lib.hid (by
    have a1 := ((World.ownsRow_lit (base := w1.heap.size) (e := 3) (size := 1) w1 #[.int .i64 0] 1 (Nat.le_refl _) (by unfold maxLen; omega) rfl).alloc (.cells #[.int .i64 0] 3)).alloc (.cells #[.int .i64 0] 3)
    have a2 := ((World.ownsRow_lit (base := w1.heap.size) (e := 3) (size := 1) (w1.alloc (.cells #[.int .i64 0] 3)) #[.int .i64 0] 1 (by simp) (by unfold maxLen; omega) rfl).alloc (.cells #[.int .i64 0] 3))
    have a3 := (World.ownsRow_lit (base := w1.heap.size) (e := 3) (size := 1) ((w1.alloc (.cells #[.int .i64 0] 3)).alloc (.cells #[.int .i64 0] 3)) #[.int .i64 0] 1 (by simp; omega) (by unfold maxLen; omega) rfl)
    rw [World.size_alloc] at a2 a3
    rw [World.size_alloc] at a3
    refine ⟨a1, a2, a3, fun g h1 h2 => ?_, fun g h1 h2 => ?_, fun g h1 h2 => ?_⟩
    all_goals
      have h3 := Option.some.inj h1
      have h4 := Option.some.inj h2
      simp only at h3 h4
      omega)
  have Bm : Hid (Below w1.heap.size w1 (((w1.alloc (.cells #[.int .i64 0] 3)).alloc (.cells #[.int .i64 0] 3)).alloc (.cells #[.int .i64 0] 3))) := Lib.hid ((((Below.refl _ _).alloc (Nat.le_refl _) _).alloc (by simp) _).alloc (by simp; omega) _)
  have hR0 : Hid (Cir.viol d o = Cir.vbfs d o (9 - 0) 0 [(0, [])]) := Lib.hid rfl
  generalize Cir.viol d o = res at *
  clear p0 p1 p2 p3
  go_wp2_with fail
  clear hs3
  go_loopw [5, 6, 7, 8] (fun vs vf vh i wr => ∃ (s' f' h' : Value) (k : Nat) (l : List (Nat × List Nat)) (fr how : List Nat), s' = vs ∧ f' = vf ∧ h' = vh ∧ i = .int .i64 k ∧ k ≤ l.length ∧ 1 ≤ l.length ∧ l.length ≤ 8 ∧ Hid (Cir.Vs d l) ∧ Hid (Cir.Back l fr how) ∧ Hid (∀ y ∈ how, y ≤ 1000) ∧ Hid (res = Cir.vbfs d o (9 - k) k l) ∧ Hid (VT w1.heap.size l fr how vs vf vh wr) ∧ Below w1.heap.size w1 wr) (fun _ _ _ i _ => 8 - (intOf i).toNat)
  case atStart => exact ⟨_, _, _, 0, [(0, [])], [0], [0], rfl, rfl, rfl, rfl, by simp, by simp, by simp, Lib.hid (Cir.Vs.zero d), Lib.hid Cir.Back.start, Lib.hid (by simp), hR0, HT0, Bm.out⟩
  case round =>
    obtain ⟨vs, vf, vh, k, l, fr, how, hs', hf', hh', rfl, hk, hpos, hl8, Hvs, HBk, Hhow, hres, HT, hb⟩ := hrel
    subst hs' hf' hh'
    clear HT0 Bm hR0
    have Hb := Lib.hid hb
    have hzb := hb.size
    obtain ⟨gs, cs, hvs', hgs, hgs2, hcs, hcsm⟩ := own_open HT.out.s (by omega)
    subst hvs'
    unfold maxLen at hcsm
    clear hb
    by_cases hlt : k < l.length
    · obtain ⟨⟨s, p⟩, hs⟩ := at_some hlt
      have Hgs := Lib.hid hs
      have hf : 9 - k = 9 - (k + 1) + 1 := by omega
      rw [hf] at hres
      have hdl : decide (k < l.length) = true := decide_eq_true hlt
      have hs8 : s < 8 := by
        have h1 := Hvs.out.sts.lt s (List.mem_of_getElem? (Cir.vsts_get hs))
        have h2 : 2 ^ d.next.length ≤ 2 ^ 3 := Nat.pow_le_pow_right (show 0 < 2 by decide) l2
        omega
      clear hs hf
      go_wp2_with fail
      obtain ⟨Wk, hWk⟩ : ∃ Wk, Wk = wr := ⟨_, rfl⟩
      subst hWk
      go_loopw [5, 6, 7, 9] (fun vs vf vh i wr => ∃ (s' f' h' : Value) (j : Nat) (fr how : List Nat), s' = vs ∧ f' = vf ∧ h' = vh ∧ i = .int .i64 j ∧ j ≤ M ∧ Hid (∀ y, y < j → Cir.bad d o s y = false) ∧ Hid (Cir.Back (Cir.vpushes d s p j l) fr how) ∧ Hid (∀ y ∈ how, y ≤ 1000) ∧ Hid (VT w1.heap.size (Cir.vpushes d s p j l) fr how vs vf vh wr) ∧ Below w1.heap.size w1 wr) (fun _ _ _ i _ => M - (intOf i).toNat)
      case atStart => exact ⟨_, _, _, 0, fr, how, rfl, rfl, rfl, rfl, Nat.zero_le _, Lib.hid (fun y hy => by omega), HBk, Hhow, HT, Hb.out⟩
      case round =>
        obtain ⟨vs, vf, vh, j, fr, how, hs', hf', hh', rfl, hj, Hnb, HBk, Hhow, HT, hb⟩ := hrel
        subst hs' hf' hh'
        have Hb := Lib.hid hb
        have hzb := hb.size
        have PCr := Lib.hid (PC1.out.below hb)
        have HCr := Lib.hid (HC1.out.below hb)
        have Hvs2 := Lib.hid (Hvs.out.pushes Hgs.out j (by rw [← HM.out]; exact hj))
        have hL8 := Hvs2.out.size Hd.out
        have Hgj := Lib.hid (Cir.vpushes_get (c := d) (s := s) (p := p) (j := j) Hgs.out)
        have Hsu := Lib.hid (Cir.vpushes_succ d s p j l)
        have hkL := (List.getElem?_eq_some_iff.1 Hgj.out).1
        obtain ⟨z, p0, p1, p2, p3⟩ := PCr.out
        clear hb
        by_cases hlj : j < M
        · obtain ⟨L2, hL2⟩ : ∃ L2, Cir.vpushes d s p (j + 1) l = L2 := ⟨_, rfl⟩
          rw [hL2] at Hsu
          have HL2 := Lib.hid hL2
          clear hL2
          generalize Cir.vpushes d s p j l = L at *
          obtain ⟨gs, cs, hvs', hgs, hgs2, hcs, hcsm⟩ := own_open HT.out.s (by omega)
          subst hvs'
          unfold maxLen at hcsm
          obtain ⟨u0, hu0, hd0, hf0⟩ := own_slot HT.out.s (j := k) (by omega)
          have hu0' : u0 = .int .i64 (s : Int) := by
            have h1 := Cir.vsts_get Hgj.out
            have h2 : (nints (Cir.vsts L))[k]? = some (.int .i64 (s : Int)) := by unfold nints ints nats; rw [List.map_map, List.getElem?_map, h1]; rfl
            exact Option.some.inj (hu0.symm.trans h2)
          subst hu0'
          have hdM : decide (j < M) = true := decide_eq_true hlj
          clear hu0 hf0
          go_wp2_with fail
          obtain ⟨w4, hw4⟩ : ∃ w4, w4 = wr := ⟨_, rfl⟩
          subst hw4
          have hol : (Cir.outsOf d s j).length = d.outs.length := outsOf_length d s j
          have Hol := Lib.hid hol
          clear hol
          have hok := Ho.out
          refine wp_region_rs (quietRS Try.prog _ w4 _) quietRS_ok (by kernel_rfl) (by kernel_rfl) (by kernel_rfl) (Nat.le_of_ble_eq_true rfl) trivial trivial ?_
          apply rs_eq quietRS_ok quiet_any
          · intro ρ w' ho hK
            have ho : Only _ w4 w' := ho
            obtain ⟨h0, -⟩ := hK
            have h0' : ρ (.tmp 2) = _ := h0
            have hb := only_below ho
            have q0 := (hb.cell (p := ⟨w.heap.size, 0, none⟩) z).trans p0
            have q1 := (hb.cell (p := ⟨w.heap.size, 1, none⟩) z).trans p1
            have q2 := (hb.cell (p := ⟨w.heap.size, 2, none⟩) z).trans p2
            have q3 := (hb.cell (p := ⟨w.heap.size, 3, none⟩) z).trans p3
            have q4 := (hb.cell (p := ⟨gs, k, none⟩) hgs2).trans hd0
            go_simp
            try exact rfl
          refine rs_old quietRS_ok quiet_any _ (.inl rfl) _ rfl rfl ?_
          refine rs_old quietRS_ok quiet_any _ (.inl rfl) _ rfl rfl ?_
          apply rs_eq quietRS_ok quiet_any
          · intro ρ w' ho hK
            have ho : Only _ w4 w' := ho
            obtain ⟨h0, h1, -⟩ := hK
            have h0' : ρ (.tmp 41) = _ := h0
            have h1' : ρ (.tmp 42) = _ := h1
            go_simp
            try exact rfl
          apply rs_eq quietRS_ok quiet_any
          · intro ρ w' ho hK
            have ho : Only _ w4 w' := ho
            obtain ⟨h0, -⟩ := hK
            have h0' : ρ (.tmp 43) = _ := h0
            have hb := only_below ho
            have q0 := (hb.cell (p := ⟨w.heap.size, 0, none⟩) z).trans p0
            have q1 := (hb.cell (p := ⟨w.heap.size, 1, none⟩) z).trans p1
            have q2 := (hb.cell (p := ⟨w.heap.size, 2, none⟩) z).trans p2
            have q3 := (hb.cell (p := ⟨w.heap.size, 3, none⟩) z).trans p3
            have q4 := (hb.cell (p := ⟨gs, k, none⟩) hgs2).trans hd0
            go_simp
            try exact rfl
          refine rs_old quietRS_ok quiet_any _ (.inl rfl) _ rfl rfl ?_
          refine rs_call quietRS_ok quiet_any (TBools (Cir.outsOf d s j)) (stb_bools _) 98 _ _ rfl (fun ρ w' ho hK => by
            have ho : Only _ w4 w' := ho
            obtain ⟨h0, h1, h2, h3, -⟩ := hK
            have h0' : ρ (.func 98) = .func (.func 98) #[] #[] := h0
            have h1' : ρ (.tmp 40) = _ := h1
            have h2' : ρ (.tmp 44) = _ := h2
            have h3' : ρ (.tmp 45) = _ := h3
            refine ⟨#[ρ (.tmp 40), ρ (.tmp 44), ρ (.tmp 45)], ?_, ?_⟩
            · go_simp
            · rw [h1', h2', h3']
              refine (l16Outs_any _ d s j w' (HCr.out.below (only_below ho)) Hd.out (by omega) (by omega)).mono ?_
              rintro e w2 ⟨⟨u, rfl, hO⟩, hb⟩
              exact ⟨u, rfl, hO, hb⟩) ?_
          refine rs_old quietRS_ok quiet_any _ (.inl rfl) _ rfl rfl ?_
          refine rs_look quietRS_ok quiet_any (TPB (Cir.bad d o s j)) (stb_pb _) (fun ρ w' ho hK => by
            obtain ⟨h0, h1, -⟩ := hK
            have h0' : BoolsAt w' (ρ (.tmp 46)) (Cir.outsOf d s j) := h0
            have h1' : ρ (.tmp 47) = .int .i64 o := h1
            obtain ⟨A9, c9, e9, -, hc9⟩ := Row.shape h0'
            unfold maxLen at hc9
            unfold BoolsAt at h0'
            rw [e9] at h0'
            obtain ⟨b', o', x9, hA, hbl', hx, hcell⟩ := bools_open (w := w') (wr := w') h0' (Below.refl _ _) (i := o) rfl (by rw [Hol.out]; exact hok)
            subst hA
            rw [Hol.out] at e9
            have hxb : x9 = Cir.bad d o s j := by unfold Cir.bad; rw [List.getD_eq_getElem?_getD, hx.out]; rfl
            refine ⟨.pointer (some ⟨b', o' + o, none⟩), ?_, b', o' + o, rfl, hbl', by rw [← hxb]; exact hcell⟩
            clear hx hcell hxb h0' h0 h1
            go_simp) ?_
          apply rs_eq quietRS_ok quiet_any
          · intro ρ w' ho hK
            have ho : Only _ w4 w' := ho
            obtain ⟨h0, -⟩ := hK
            have h0' : (TPB (Cir.bad d o s j)) w' (ρ (.tmp 48)) := h0
            have hb := only_below ho
            have q0 := (hb.cell (p := ⟨w.heap.size, 0, none⟩) z).trans p0
            have q1 := (hb.cell (p := ⟨w.heap.size, 1, none⟩) z).trans p1
            have q2 := (hb.cell (p := ⟨w.heap.size, 2, none⟩) z).trans p2
            have q3 := (hb.cell (p := ⟨w.heap.size, 3, none⟩) z).trans p3
            have q4 := (hb.cell (p := ⟨gs, k, none⟩) hgs2).trans hd0
            obtain ⟨g9, i9, e9, hg9, hc9⟩ := h0'
            go_simp
            try exact rfl
          intro f w9 k9 hk9 hI9 ht9 hcp9
          have E0 : f 0 = _ := ht9 0 (Nat.le_of_ble_eq_true rfl)
          have E1 : f 1 = _ := ht9 1 (Nat.le_of_ble_eq_true rfl)
          conv at E1 => rhs; whnf
          have E2 : f 2 = _ := ht9 2 (Nat.le_of_ble_eq_true rfl)
          conv at E2 => rhs; whnf
          have E3 : f 3 = _ := ht9 3 (Nat.le_of_ble_eq_true rfl)
          have E4 : f 4 = _ := ht9 4 (Nat.le_of_ble_eq_true rfl)
          have E5 : f 5 = _ := ht9 5 (Nat.le_of_ble_eq_true rfl)
          conv at E5 => rhs; whnf
          have E6 : (TBools (Cir.outsOf d s j)) w9 (f 6) := ht9 6 (Nat.le_of_ble_eq_true rfl)
          have E7 : f 7 = _ := ht9 7 (Nat.le_of_ble_eq_true rfl)
          conv at E7 => rhs; whnf
          have E8 : (TPB (Cir.bad d o s j)) w9 (f 8) := ht9 8 (Nat.le_of_ble_eq_true rfl)
          have E9 : f 9 = _ := ht9 9 (Nat.le_of_ble_eq_true rfl)
          have Ho9 : Only _ w4 w9 := hI9.2.1
          simp only [putAll, E0, E1, E2, E3, E4, E5, E7, E9, Nat.zero_add, Nat.reduceAdd, Act.put, List.setIfInBounds_toArray, List.set_cons_succ, List.set_cons_zero]
          clear E0 E1 E2 E3 E4 E5 E7 E9
          clear hI9 ht9 hcp9 hk9
          generalize f 6 = r6 at *
          generalize f 8 = r8 at *
          have hb9 := only_below Ho9
          have HT9 := Lib.hid (HT.out.below hb9)
          have Hb9 := Lib.hid (Hb.out.trans (hb9.mono hzb))
          have PC9 := Lib.hid (PCr.out.below hb9)
          have HC9 := Lib.hid (HCr.out.below hb9)
          have hz9 := hb9.size
          have hd9 := (hb9.cell (p := ⟨gs, k, none⟩) hgs2).trans hd0
          clear hb9 Ho9 p0 p1 p2 p3 z hd0 HT E6 E8
          obtain ⟨w5, hw5⟩ : ∃ w5, w5 = w9 := ⟨_, rfl⟩
          subst hw5
          obtain ⟨z, p0, p1, p2, p3⟩ := PC9.out
          cases hbad : Cir.bad d o s j
          · have Hnb2 : Hid (∀ y, y < j + 1 → Cir.bad d o s y = false) := Lib.hid (fun y hy => by
              rcases Nat.lt_or_ge y j with h | h
              · exact Hnb.out y h
              · obtain rfl : y = j := by omega
                exact hbad)
            clear hbad Hnb
            go_wp2_with fail
            refine wp_region_rs (quietRS Try.prog _ w5 _) quietRS_ok (by kernel_rfl) (by kernel_rfl) (by kernel_rfl) (Nat.le_of_ble_eq_true rfl) trivial trivial ?_
            apply rs_eq quietRS_ok quiet_any
            · intro ρ w' ho hK
              have ho : Only _ w5 w' := ho
              obtain ⟨h0, -⟩ := hK
              have h0' : ρ (.tmp 2) = _ := h0
              have hb := only_below ho
              have q0 := (hb.cell (p := ⟨w.heap.size, 0, none⟩) z).trans p0
              have q1 := (hb.cell (p := ⟨w.heap.size, 1, none⟩) z).trans p1
              have q2 := (hb.cell (p := ⟨w.heap.size, 2, none⟩) z).trans p2
              have q3 := (hb.cell (p := ⟨w.heap.size, 3, none⟩) z).trans p3
              have q4 := (hb.cell (p := ⟨gs, k, none⟩) (Nat.lt_of_lt_of_le hgs2 hz9)).trans hd9
              go_simp
              try exact rfl
            refine rs_old quietRS_ok quiet_any _ (.inl rfl) _ rfl rfl ?_
            refine rs_old quietRS_ok quiet_any _ (.inl rfl) _ rfl rfl ?_
            apply rs_eq quietRS_ok quiet_any
            · intro ρ w' ho hK
              have ho : Only _ w5 w' := ho
              obtain ⟨h0, h1, -⟩ := hK
              have h0' : ρ (.tmp 58) = _ := h0
              have h1' : ρ (.tmp 59) = _ := h1
              go_simp
              try exact rfl
            apply rs_eq quietRS_ok quiet_any
            · intro ρ w' ho hK
              have ho : Only _ w5 w' := ho
              obtain ⟨h0, -⟩ := hK
              have h0' : ρ (.tmp 60) = _ := h0
              have hb := only_below ho
              have q0 := (hb.cell (p := ⟨w.heap.size, 0, none⟩) z).trans p0
              have q1 := (hb.cell (p := ⟨w.heap.size, 1, none⟩) z).trans p1
              have q2 := (hb.cell (p := ⟨w.heap.size, 2, none⟩) z).trans p2
              have q3 := (hb.cell (p := ⟨w.heap.size, 3, none⟩) z).trans p3
              have q4 := (hb.cell (p := ⟨gs, k, none⟩) (Nat.lt_of_lt_of_le hgs2 hz9)).trans hd9
              go_simp
              try exact rfl
            refine rs_old quietRS_ok quiet_any _ (.inl rfl) _ rfl rfl ?_
            refine rs_call quietRS_ok quiet_any (TEq (.int .i64 (Cir.nextOf d s j : Nat))) (stb_eq _ _) 100 _ _ rfl (fun ρ w' ho hK => by
              have ho : Only _ w5 w' := ho
              obtain ⟨h0, h1, h2, h3, -⟩ := hK
              have h0' : ρ (.func 100) = .func (.func 100) #[] #[] := h0
              have h1' : ρ (.tmp 57) = _ := h1
              have h2' : ρ (.tmp 61) = _ := h2
              have h3' : ρ (.tmp 62) = _ := h3
              refine ⟨#[ρ (.tmp 57), ρ (.tmp 61), ρ (.tmp 62)], ?_, ?_⟩
              · go_simp
              · rw [h1', h2', h3']
                refine (l16Next_any _ d s j w' (HC9.out.below (only_below ho)) Hd.out (by omega) (by omega)).mono ?_
                rintro e w2 ⟨rfl, hb⟩
                exact ⟨_, rfl, rfl, hb⟩) ?_
            refine rs_same quietRS_ok quiet_any 63 6 (.inr rfl) rfl _ rfl ?_
            intro f w9 k9 hk9 hI9 ht9 hcp9
            have E0 : f 0 = _ := ht9 0 (Nat.le_of_ble_eq_true rfl)
            have E1 : f 1 = _ := ht9 1 (Nat.le_of_ble_eq_true rfl)
            conv at E1 => rhs; whnf
            have E2 : f 2 = _ := ht9 2 (Nat.le_of_ble_eq_true rfl)
            conv at E2 => rhs; whnf
            have E3 : f 3 = _ := ht9 3 (Nat.le_of_ble_eq_true rfl)
            have E4 : f 4 = _ := ht9 4 (Nat.le_of_ble_eq_true rfl)
            have E5 : f 5 = _ := ht9 5 (Nat.le_of_ble_eq_true rfl)
            conv at E5 => rhs; whnf
            have E6 : f 6 = _ := ht9 6 (Nat.le_of_ble_eq_true rfl)
            have E7 : f 7 = _ := ht9 7 (Nat.le_of_ble_eq_true rfl)
            have Ho9 : Only _ w5 w9 := hI9.2.1
            simp only [putAll, E0, E1, E2, E3, E4, E5, E6, E7, Nat.zero_add, Nat.reduceAdd, Act.put, List.setIfInBounds_toArray, List.set_cons_succ, List.set_cons_zero]
            clear E0 E1 E2 E3 E4 E5 E6 E7
            clear hI9 ht9 hcp9 hk9
            have hb6 := only_below Ho9
            have HT6 := Lib.hid (HT9.out.below hb6)
            have Hb6 := Lib.hid (Hb9.out.trans (hb6.mono (by omega)))
            have hz6 := hb6.size
            clear hb6 Ho9 p0 p1 p2 p3 z hd9 HT9
            obtain ⟨w6, hw6⟩ : ∃ w6, w6 = w9 := ⟨_, rfl⟩
            subst hw6
            have hN8 : Cir.nextOf d s j < 8 := by
              have h1 := Cir.nextOf_lt d s j
              have h2 : 2 ^ d.next.length ≤ 2 ^ 3 := Nat.pow_le_pow_right (show 0 < 2 by decide) l2
              omega
            generalize Cir.nextOf d s j = N at *
            go_wp2_with fail
            refine (l16Has_any _ (Cir.vsts L) N _ (own_nats (by rw [Cir.vsts_length]; exact HT6.out.s)) (by omega)).mono ?_
            rintro e w' ⟨rfl, rfl⟩
            cases hc : Cir.memB (Cir.vsts L) N
            · have HPu := Lib.hid (Cir.vpush_no (p := p ++ [j]) hc)
              have HBn := Lib.hid (HBk.out.snoc (n := N) (x := j) Hgj.out)
              have Hhn : Hid (∀ y ∈ how ++ [j], y ≤ 1000) := Lib.hid (fun y hy => by
                rcases List.mem_append.1 hy with hy | hy
                · exact Hhow.out y hy
                · obtain rfl := List.mem_singleton.1 hy; omega)
              obtain ⟨Af, cf, hvf⟩ := slice_of_own HT6.out.f
              obtain ⟨Ah, ch, hvh⟩ := slice_of_own HT6.out.h
              subst hvf hvh
              have hz1r : w1.heap.size ≤ w6.heap.size := by omega
              have Hl6 := Lib.hid (Row.of_own (World.ownsRow_lit (base := w6.heap.size) (e := 3) (size := 1) w6 #[.int .i64 N] 1 (Nat.le_refl _) (by unfold maxLen; omega) rfl))
              clear hc
              go_wp2_with (first
                | (at_builtin; refine append_ints rfl (.tmp 68) (.tmp 70) rfl w1.heap.size _ L.length (nints (Cir.vsts L)) rfl (HT6.out.s.alloc _) _ 1 [.int .i64 N] rfl Hl6.out (by simp [Value.oneCell']) (by omega) (by simp; omega) ?_; intro va wa howna hga hata; obtain ⟨Aa, ca, hva⟩ := slice_of_own howna; subst hva; have Ga := Lib.hid howna; have Hga := Lib.hid hga; have Hata := Lib.hid hata; have hza := hga.size; rw [World.size_alloc] at hza; have Fa := Lib.hid (own_kept (HT6.out.f.alloc (.cells #[.int .i64 N] 3)) hga (fun g h1 h2 => HT6.out.a1 g h2 h1)); have Ha := Lib.hid (own_kept (HT6.out.h.alloc (.cells #[.int .i64 N] 3)) hga (fun g h1 h2 => HT6.out.a2 g h2 h1)); have Hla := Lib.hid (Row.of_own (World.ownsRow_lit (base := wa.heap.size) (e := 3) (size := 1) wa #[.int .i64 k] 1 (Nat.le_refl _) (by unfold maxLen; omega) rfl)); clear howna hga hata)
                | (at_builtin; refine append_ints rfl (.tmp 72) (.tmp 74) rfl w1.heap.size _ L.length (nints fr) rfl (Fa.out.alloc _) _ 1 [.int .i64 k] rfl Hla.out (by simp [Value.oneCell']) (by omega) (by simp; omega) ?_; intro vb wb hownb hgb hatb; obtain ⟨Ab, cb, hvb⟩ := slice_of_own hownb; subst hvb; have Fb := Lib.hid hownb; have Hgb := Lib.hid hgb; have Hatb := Lib.hid hatb; have hzb2 := hgb.size; rw [World.size_alloc] at hzb2; have Hb := Lib.hid (own_kept (Ha.out.alloc (.cells #[.int .i64 k] 3)) hgb (fun g h1 h2 => HT6.out.a3 g h2 h1)); have Aab := Lib.hid (apart_new HT6.out.a1 Hata.out (fun g hg => by rw [World.size_alloc]; have := (HT6.out.f.lt g hg).2; omega)); have Gb := Lib.hid (own_kept (Ga.out.alloc (.cells #[.int .i64 k] 3)) hgb (fun g h1 h2 => Aab.out g h1 h2)); have Hlb := Lib.hid (Row.of_own (World.ownsRow_lit (base := wb.heap.size) (e := 3) (size := 1) wb #[.int .i64 j] 1 (Nat.le_refl _) (by unfold maxLen; omega) rfl)); clear hownb hgb hatb)
                | (at_builtin; refine append_ints rfl (.tmp 76) (.tmp 78) rfl w1.heap.size _ L.length (nints how) rfl (Hb.out.alloc _) _ 1 [.int .i64 j] rfl Hlb.out (by simp [Value.oneCell']) (by omega) (by simp; omega) ?_; intro vc wc hownc hgc hatc; obtain ⟨Ac, cc, hvc⟩ := slice_of_own hownc; subst hvc; have Hc := Lib.hid hownc; have Hgc := Lib.hid hgc; have Hatc := Lib.hid hatc; clear hownc hgc hatc))
              have HT8 : Hid (VT w1.heap.size (L ++ [(N, p ++ [j])]) (fr ++ [k]) (how ++ [j]) (.slice Aa (L.length + 1) ca) (.slice Ab (L.length + 1) cb) (.slice Ac (L.length + 1) cc) wc) := Lib.hid (by
                have A13 := apart_new HT6.out.a2 Hata.out (fun g hg => by rw [World.size_alloc]; have := (HT6.out.h.lt g hg).2; omega)
                have A12 := (apart_new Aab.out.symm Hatb.out (fun g hg => by rw [World.size_alloc]; have := (Ga.out.lt g hg).2; omega)).symm
                have A23 := apart_new HT6.out.a3 Hatb.out (fun g hg => by rw [World.size_alloc]; have := (Ha.out.lt g hg).2; omega)
                have B13 := (apart_new A13.symm Hatc.out (fun g hg => by rw [World.size_alloc]; have := (Gb.out.lt g hg).2; omega)).symm
                have B23 := (apart_new A23.symm Hatc.out (fun g hg => by rw [World.size_alloc]; have := (Fb.out.lt g hg).2; omega)).symm
                refine ⟨?_, ?_, ?_, A12, B13, B23⟩
                · rw [List.length_append, List.length_singleton, show Cir.vsts (L ++ [(N, p ++ [j])]) = Cir.vsts L ++ [N] from by unfold Cir.vsts; simp, nints_snoc]
                  exact own_kept (Gb.out.alloc _) Hgc.out (fun g h1 h2 => A13 g h1 h2)
                · rw [List.length_append, List.length_singleton, nints_snoc]
                  exact own_kept (Fb.out.alloc _) Hgc.out (fun g h1 h2 => A23 g h1 h2)
                · rw [List.length_append, List.length_singleton, nints_snoc]
                  exact Hc.out)
              go_roundw
              case rel => exact ⟨_, _, _, j + 1, fr ++ [k], how ++ [j], rfl, rfl, rfl, by go_num, by omega, Hnb2, Lib.hid (by rw [HL2.out, Hsu.out, HPu.out]; exact HBn.out), Hhn, Lib.hid (by rw [HL2.out, Hsu.out, HPu.out]; exact HT8.out), by
                have b1 := (Hb6.out.alloc Hb6.out.size (.cells #[.int .i64 N] 3)).grown Hga.out (Hb6.out.alloc Hb6.out.size _).size (own_ge0 HT6.out.s)
                have b2 := (b1.alloc b1.size (.cells #[.int .i64 k] 3)).grown Hgb.out (b1.alloc b1.size _).size (own_ge0 Fa.out)
                exact (b2.alloc b2.size (.cells #[.int .i64 j] 3)).grown Hgc.out (b2.alloc b2.size _).size (own_ge0 Hb.out)⟩
              case measure => simp [intOf] <;> omega
            · have HPu := Lib.hid (Cir.vpush_yes (p := p ++ [j]) hc)
              clear hc
              go_wp2_with fail
              go_roundw
              case rel => exact ⟨_, _, _, j + 1, fr, how, rfl, rfl, rfl, by go_num, by omega, Hnb2, Lib.hid (by rw [HL2.out, Hsu.out, HPu.out]; exact HBk.out), Hhow, Lib.hid (by rw [HL2.out, Hsu.out, HPu.out]; exact HT6.out), Hb6.out⟩
              case measure => simp [intOf] <;> omega
          · have Hf := Lib.hid (Cir.vfind_some (M := 2 ^ d.ins) (by rw [← HM.out]; exact hlj) hbad Hnb.out)
            clear hbad Hnb
            have Hr : res = some (p ++ [j]) := by rw [hres.out]; exact Cir.vbfs_hit Hgs.out Hf.out
            clear hres Hf
            subst Hr
            have hl1 := HBk.out.l1
            have hl2 := HBk.out.l2
            have HF9 : Hid (NatsAt w5 vf fr) := Lib.hid (own_nats (by rw [hl1]; exact HT9.out.f))
            have HH9 : Hid (NatsAt w5 vh how) := Lib.hid (own_nats (by rw [hl2]; exact HT9.out.h))
            go_wp2_with fail
            refine (l16Rows_any _ vf vh d L fr how k s j p _ HC9.out (by omega) HF9.out HH9.out HBk.out Hgj.out hL8 (by omega) Hhow.out).mono ?_
            rintro e w6 ⟨⟨u, rfl, hS6⟩, hb6⟩
            have hR2 := (Hb9.out.block (w.heap.size + 1) (by omega)).trans HRes1.out
            have hR6 := (hb6.block (w.heap.size + 1) (by omega)).trans hR2
            have o0 := blk_cell hR6 0
            have o1 := blk_cell hR6 1
            have b0 := blk_free hR6 0
            have b1 := blk_free hR6 1
            simp at o0 o1
            have B6 := Lib.hid ((B1.out.trans (Hb9.out.mono B1.out.size)).trans (hb6.mono (by omega)))
            obtain ⟨Au, cu, hvu, -⟩ := hS6.at.shape
            subst hvu
            have HS6 := Lib.hid hS6
            have z6 := hb6.size
            clear hR2 hR6 hb6 hS6 p0 p1 p2 p3
            go_wp2_with fail
            refine bodyPost_ret (v := .agg #[.bool true, .slice Au (rowsOf d.ins (p ++ [j])).length cu]) (by simp [results, Try.results49, go_sem, o0, o1]) rfl ⟨⟨_, rfl, ?_⟩, ?_⟩
            · refine ((HS6.out.only (E := fun g => g = w.heap.size + 1) (Only.grown (set_grown _ _ _ _) (fun k hk => (Option.some.inj hk).symm)) ?_).only (E := fun g => g = w.heap.size + 1) (Only.grown (set_grown _ _ _ _) (fun k hk => (Option.some.inj hk).symm)) ?_).at
              · intro g hg e; unfold From at hg; omega
              · intro g hg e; unfold From at hg; omega
            · exact ((B6.out.setCell (by simp only; omega) _).setCell (by simp only; omega) _)
        · obtain rfl : j = M := by omega
          have Hf := Lib.hid (Cir.vfind_none (M := 2 ^ d.ins) (by rw [← HM.out]; exact Hnb.out))
          have HMr : Hid (res = Cir.vbfs d o (9 - (k + 1)) (k + 1) (Cir.vpushes d s p j l)) := Lib.hid (by rw [hres.out, Cir.vbfs_step Hgs.out Hf.out, HM.out])
          clear Hnb
          generalize Cir.vpushes d s p j l = L at *
          clear p1 p2 p3
          go_wp2_with fail
          go_roundw
          case rel => exact ⟨_, _, _, k + 1, L, fr, how, rfl, rfl, rfl, by go_num, by omega, by omega, hL8, Hvs2, HBk, Hhow, HMr, HT, Hb.out⟩
          case measure => simp [intOf] <;> omega
    · obtain rfl : k = l.length := by omega
      have hr : res = none := by rw [hres.out, Cir.vbfs_end]
      subst hr
      have hR2 := (Hb.out.block (w.heap.size + 1) (by omega)).trans HRes1.out
      have o0 := blk_cell hR2 0
      have o1 := blk_cell hR2 1
      have b0 := blk_free hR2 0
      have b1 := blk_free hR2 1
      simp at o0 o1
      have B2 := Lib.hid (B1.out.trans (Hb.out.mono B1.out.size))
      clear hR2
      go_wp2_with fail
      refine bodyPost_ret (v := .agg #[.bool false, .slice none 0 0]) (by simp [results, Try.results49, go_sem, o0, o1]) rfl ⟨⟨_, rfl, SSAt.nil _ _⟩, ?_⟩
      exact ((B2.out.setCell (by simp only; omega) _).setCell (by simp only; omega) _)
end Go.Proofs.Ytopimdakpnnbhaa

namespace Go.Proofs.Ytopimdakpnnbhaa
open Go.RowKit
set_option maxRecDepth 100000
set_option maxHeartbeats 4000000
theorem valid_outs {c : Cz} (h : Cir.valid c = true) : c.outs.length ≤ 3 := (valid_sizes h).2.2.2.2
theorem specViol_no (v : Value) (c : Cz) (o : Int) (w : World) (h : CircAt w v c) (hno : Cir.valid c = false ∨ (Cir.valid c = true ∧ ¬ (0 ≤ o ∧ o < c.outs.length))) :
    Calls Try.prog 49 #[v, .int .i64 o] w (SpecViol (Cir.nat c).ins none w) := by
  have HC := Lib.hid h
  obtain ⟨An, cn, Ag, cg, Ao, co, rfl⟩ := h.shape
  have hb0 := bel_new w (.cells #[.int .i64 c.ins, .slice An c.next.length cn, .slice Ag c.gates.length cg, .slice Ao c.outs.length co] 26)
  have hb1 := bel_new (w.alloc (.cells #[.int .i64 c.ins, .slice An c.next.length cn, .slice Ag c.gates.length cg, .slice Ao c.outs.length co] 26)) (.cells #[.bool false, .slice none 0 0] 58)
  have B0 := Lib.hid (hb0.trans (hb1.mono hb0.size))
  have PC := Lib.hid ((PCells.boxed w c.ins (.slice An c.next.length cn) (.slice Ag c.gates.length cg) (.slice Ao c.outs.length co) 26).below hb1)
  have hsz : ((w.alloc (.cells #[.int .i64 c.ins, .slice An c.next.length cn, .slice Ag c.gates.length cg, .slice Ao c.outs.length co] 26)).alloc (.cells #[.bool false, .slice none 0 0] 58)).heap.size = w.heap.size + 1 + 1 := by simp
  have hR : ((w.alloc (.cells #[.int .i64 c.ins, .slice An c.next.length cn, .slice Ag c.gates.length cg, .slice Ao c.outs.length co] 26)).alloc (.cells #[.bool false, .slice none 0 0] 58)).heap[w.heap.size + 1]? = some (.cells #[.bool false, .slice none 0 0] 58 (0, 0)) := by
    have := heap_alloc_new (w.alloc (.cells #[.int .i64 c.ins, .slice An c.next.length cn, .slice Ag c.gates.length cg, .slice Ao c.outs.length co] 26)) (.cells #[.bool false, .slice none 0 0] 58)
    rwa [World.size_alloc] at this
  have HRes := Lib.hid hR
  obtain ⟨z, p0, p1, p2, p3⟩ := PC.out
  have HV := Lib.hid (specValid_any _ _ _ (HC.out.below B0.out))
  have Hno := Lib.hid hno
  clear HC hb0 hb1 hR hno
  rcases Hno.out with hv | ⟨hv, h1⟩
  ·
    rw [hv] at HV
    skip
    clear hv Hno
    go_enter Try.func49, Try.ntmps49
    go_wp2_with fail
    generalize (w.alloc (.cells #[.int .i64 c.ins, .slice An c.next.length cn, .slice Ag c.gates.length cg, .slice Ao c.outs.length co] 26)).alloc (.cells #[.bool false, .slice none 0 0] 58) = W at *
    refine HV.out.mono ?_
    rintro e w1 ⟨rfl, hb1⟩
    have B1 := Lib.hid (B0.out.trans (hb1.mono B0.out.size))
    have PC1 := Lib.hid (PC.out.below hb1)
    have hR1 := (hb1.block _ (by omega)).trans HRes.out
    have z1 := hb1.size
    have o0 := blk_cell hR1 0
    have o1 := blk_cell hR1 1
    have b0 := blk_free hR1 0
    have b1 := blk_free hR1 1
    simp at o0 o1
    clear hb1 hR1 p0 p1 p2 p3 z HV HRes PC
    obtain ⟨z, p0, p1, p2, p3⟩ := PC1.out
    go_wp2_with fail
    refine bodyPost_ret (v := .agg #[.bool false, .slice none 0 0]) (by simp [results, Try.results49, go_sem, o0, o1]) rfl ⟨⟨_, rfl, SSAt.nil _ _⟩, ?_⟩
    exact ((B1.out.setCell (by simp only; omega) _).setCell (by simp only; omega) _)
  ·
    rw [hv] at HV
    have hl := valid_outs hv
    have hwl := IntWalk.i64_in ((c.outs.length : Int) - 1) (by omega)
    have Hin := Lib.hid (fun w' => l1In_any o 0 ((c.outs.length : Int) - 1) w')
    rw [show decide (0 ≤ o ∧ o ≤ (c.outs.length : Int) - 1) = false from decide_eq_false (by omega)] at Hin
    clear h1 hl
    clear hv Hno
    go_enter Try.func49, Try.ntmps49
    go_wp2_with fail
    generalize (w.alloc (.cells #[.int .i64 c.ins, .slice An c.next.length cn, .slice Ag c.gates.length cg, .slice Ao c.outs.length co] 26)).alloc (.cells #[.bool false, .slice none 0 0] 58) = W at *
    refine HV.out.mono ?_
    rintro e w1 ⟨rfl, hb1⟩
    have B1 := Lib.hid (B0.out.trans (hb1.mono B0.out.size))
    have PC1 := Lib.hid (PC.out.below hb1)
    have hR1 := (hb1.block _ (by omega)).trans HRes.out
    have z1 := hb1.size
    have o0 := blk_cell hR1 0
    have o1 := blk_cell hR1 1
    have b0 := blk_free hR1 0
    have b1 := blk_free hR1 1
    simp at o0 o1
    clear hb1 hR1 p0 p1 p2 p3 z HV HRes PC
    obtain ⟨z, p0, p1, p2, p3⟩ := PC1.out
    go_wp2_with fail
    refine (Hin.out w1).mono ?_
    rintro e w' ⟨rfl, rfl⟩
    clear Hin hwl
    go_wp2_with fail
    refine bodyPost_ret (v := .agg #[.bool false, .slice none 0 0]) (by simp [results, Try.results49, go_sem, o0, o1]) rfl ⟨⟨_, rfl, SSAt.nil _ _⟩, ?_⟩
    exact ((B1.out.setCell (by simp only; omega) _).setCell (by simp only; omega) _)
theorem specViol_any (v : Value) (c : Cz) (o : Int) (w : World) (h : CircAt w v c) :
    Calls Try.prog 49 #[v, .int .i64 o] w (SpecViol (Cir.nat c).ins (Cir.violI c o) w) := by
  by_cases hc : Cir.valid c = true ∧ 0 ≤ o ∧ o < c.outs.length
  · obtain ⟨d1, d2⟩ := Cir.nat_ok hc.1
    obtain ⟨m, rfl⟩ := Int.eq_ofNat_of_zero_le hc.2.1
    have hr : Cir.violI c (m : Int) = Cir.viol (Cir.nat c) m := by unfold Cir.violI; rw [if_pos hc]; rfl
    rw [hr]
    exact specViol_ok v (Cir.nat c) m w (by rw [← d1]; exact h) d2 (by rw [← d1]; exact hc.1) (by have := hc.2.2; unfold Cir.nat; simp only [List.length_map]; omega)
  · have hr : Cir.violI c o = none := by unfold Cir.violI; rw [if_neg hc]
    rw [hr]
    refine specViol_no v c o w h ?_
    cases hv : Cir.valid c
    · exact .inl rfl
    · exact .inr ⟨rfl, fun hh => hc ⟨hv, hh⟩⟩
/-! Invariants. -/
theorem inv_out {o : Int} {n : Nat} {b : Bool} (h : ¬ (0 ≤ o ∧ o < (n : Int))) : (true && (decide (0 ≤ o) && (decide (o < (n : Int)) && b))) = false := by
  by_cases h2 : 0 ≤ o
  · rw [decide_eq_true h2, decide_eq_false (show ¬ o < (n : Int) from fun hh => h ⟨h2, hh⟩)]; rfl
  · rw [decide_eq_false h2]; rfl
theorem viol_field0 (b : Bool) (A : Option Addr) (n c : Nat) (w : World) : (Instr.field 58 (.agg #[.bool b, .slice A n c]) 0).run Try.prog w = .ok (.bool b) w := by kernel_rfl
def Cir.invI (c : Cz) (o : Int) : Bool := Cir.valid c && (decide (0 ≤ o) && (decide (o < c.outs.length) && !(Cir.violI c o).isSome))
theorem implInv_any (v : Value) (c : Cz) (o : Int) (w : World) (h : CircAt w v c) :
    Calls Try.prog 35 #[v, .int .i64 o] w fun e w' => e = .returned (.bool (Cir.invI c o)) ∧ Below w.heap.size w w' := by
  have HC := Lib.hid h
  obtain ⟨An, cn, Ag, cg, Ao, co, rfl⟩ := h.shape
  have B0 := Lib.hid (bel_new w (.cells #[.int .i64 c.ins, .slice An c.next.length cn, .slice Ag c.gates.length cg, .slice Ao c.outs.length co] 26))
  have PC := Lib.hid (PCells.boxed w c.ins (.slice An c.next.length cn) (.slice Ag c.gates.length cg) (.slice Ao c.outs.length co) 26)
  have hsz : (w.alloc (.cells #[.int .i64 c.ins, .slice An c.next.length cn, .slice Ag c.gates.length cg, .slice Ao c.outs.length co] 26)).heap.size = w.heap.size + 1 := by simp
  obtain ⟨z, p0, p1, p2, p3⟩ := PC.out
  have HC0 := Lib.hid (HC.out.below B0.out)
  have HV := Lib.hid (implValid_any _ _ _ HC0.out)
  clear HC h
  cases hv : Cir.valid c
  · rw [hv] at HV
    have HR : Hid (Cir.invI c o = false) := Lib.hid (by unfold Cir.invI; rw [hv]; rfl)
    rw [HR.out]
    clear HR hv
    go_enter Try.func35, Try.ntmps35
    go_wp2_with fail
    refine HV.out.mono ?_
    rintro e w1 ⟨rfl, hb1⟩
    have B1 := Lib.hid (B0.out.trans (hb1.mono B0.out.size))
    clear hb1
    go_wp2_with fail
    go_ret
    exact ⟨rfl, B1.out⟩
  · rw [hv] at HV
    have hl := valid_outs hv
    by_cases h0 : o < 0
    · have t0 : decide (0 ≤ o) = false := decide_eq_false (by omega)
      have HR : Hid (Cir.invI c o = false) := Lib.hid (by unfold Cir.invI; rw [hv, t0]; rfl)
      rw [HR.out]
      clear HR hv hl h0
      go_enter Try.func35, Try.ntmps35
      go_wp2_with fail
      generalize w.alloc (.cells #[.int .i64 c.ins, .slice An c.next.length cn, .slice Ag c.gates.length cg, .slice Ao c.outs.length co] 26) = W at *
      refine HV.out.mono ?_
      rintro e w1 ⟨rfl, hb1⟩
      have B1 := Lib.hid (B0.out.trans (hb1.mono B0.out.size))
      have HC1 := Lib.hid (HC0.out.below hb1)
      have PC1 := Lib.hid (PC.out.below hb1)
      have z1 := hb1.size
      clear hb1 p0 p1 p2 p3 z HV PC HC0
      obtain ⟨z, p0, p1, p2, p3⟩ := PC1.out
      go_wp2_with fail
      go_ret
      exact ⟨rfl, B1.out⟩
    · by_cases h1 : (c.outs.length : Int) ≤ o
      · have t0 : decide (0 ≤ o) = true := decide_eq_true (by omega)
        have t1 : decide (o < (c.outs.length : Int)) = false := decide_eq_false (by omega)
        have HR : Hid (Cir.invI c o = false) := Lib.hid (by unfold Cir.invI; rw [hv, t0, t1]; rfl)
        rw [HR.out]
        clear HR hv hl h0 h1
        go_enter Try.func35, Try.ntmps35
        go_wp2_with fail
        generalize w.alloc (.cells #[.int .i64 c.ins, .slice An c.next.length cn, .slice Ag c.gates.length cg, .slice Ao c.outs.length co] 26) = W at *
        refine HV.out.mono ?_
        rintro e w1 ⟨rfl, hb1⟩
        have B1 := Lib.hid (B0.out.trans (hb1.mono B0.out.size))
        have HC1 := Lib.hid (HC0.out.below hb1)
        have PC1 := Lib.hid (PC.out.below hb1)
        have z1 := hb1.size
        clear hb1 p0 p1 p2 p3 z HV PC HC0
        obtain ⟨z, p0, p1, p2, p3⟩ := PC1.out
        go_wp2_with fail
        go_ret
        exact ⟨rfl, B1.out⟩
      · have t0 : decide (0 ≤ o) = true := decide_eq_true (by omega)
        have t1 : decide (o < (c.outs.length : Int)) = true := decide_eq_true (by omega)
        have HR : Hid (Cir.invI c o = !(Cir.violI c o).isSome) := Lib.hid (by unfold Cir.invI; rw [hv, t0, t1]; rfl)
        rw [HR.out]
        clear HR hv hl h0 h1
        go_enter Try.func35, Try.ntmps35
        go_wp2_with fail
        generalize w.alloc (.cells #[.int .i64 c.ins, .slice An c.next.length cn, .slice Ag c.gates.length cg, .slice Ao c.outs.length co] 26) = W at *
        refine HV.out.mono ?_
        rintro e w1 ⟨rfl, hb1⟩
        have B1 := Lib.hid (B0.out.trans (hb1.mono B0.out.size))
        have HC1 := Lib.hid (HC0.out.below hb1)
        have PC1 := Lib.hid (PC.out.below hb1)
        have z1 := hb1.size
        clear hb1 p0 p1 p2 p3 z HV PC HC0
        obtain ⟨z, p0, p1, p2, p3⟩ := PC1.out
        go_wp2_with fail
        refine (implViol_any _ c o _ HC1.out).mono ?_
        rintro e w2 ⟨v2, rfl, hO, hb2⟩
        obtain ⟨A2, c2, hv2, -⟩ := hO.at.shape
        subst hv2
        have B2 := Lib.hid (B1.out.trans (hb2.mono B1.out.size))
        clear hb2 hO
        generalize hbb : (Cir.violI c o).isSome = bb at *
        have Hbb := Lib.hid hbb
        clear hbb
        have hff := viol_field0 bb A2 (vrows (Cir.nat c).ins (Cir.violI c o)).length c2
        go_wp2_with fail
        go_ret
        exact ⟨ret_bool (by rw [Hbb.out]), B2.out⟩
theorem specInv_any (v : Value) (c : Cz) (o : Int) (w : World) (h : CircAt w v c) :
    Calls Try.prog 36 #[v, .int .i64 o] w fun e w' => e = .returned (.bool (Cir.invI c o)) ∧ Below w.heap.size w w' := by
  have HC := Lib.hid h
  obtain ⟨An, cn, Ag, cg, Ao, co, rfl⟩ := h.shape
  have B0 := Lib.hid (bel_new w (.cells #[.int .i64 c.ins, .slice An c.next.length cn, .slice Ag c.gates.length cg, .slice Ao c.outs.length co] 26))
  have PC := Lib.hid (PCells.boxed w c.ins (.slice An c.next.length cn) (.slice Ag c.gates.length cg) (.slice Ao c.outs.length co) 26)
  have hsz : (w.alloc (.cells #[.int .i64 c.ins, .slice An c.next.length cn, .slice Ag c.gates.length cg, .slice Ao c.outs.length co] 26)).heap.size = w.heap.size + 1 := by simp
  obtain ⟨z, p0, p1, p2, p3⟩ := PC.out
  have HC0 := Lib.hid (HC.out.below B0.out)
  have HV := Lib.hid (specValid_any _ _ _ HC0.out)
  clear HC h
  cases hv : Cir.valid c
  · rw [hv] at HV
    have HR : Hid (Cir.invI c o = false) := Lib.hid (by unfold Cir.invI; rw [hv]; rfl)
    rw [HR.out]
    clear HR hv
    go_enter Try.func36, Try.ntmps36
    go_wp2_with fail
    refine HV.out.mono ?_
    rintro e w1 ⟨rfl, hb1⟩
    have B1 := Lib.hid (B0.out.trans (hb1.mono B0.out.size))
    clear hb1
    go_wp2_with fail
    go_ret
    exact ⟨rfl, B1.out⟩
  · rw [hv] at HV
    have hl := valid_outs hv
    have hwl := IntWalk.i64_in ((c.outs.length : Int) - 1) (by omega)
    have Hin := Lib.hid (fun w' => l1In_any o 0 ((c.outs.length : Int) - 1) w')
    by_cases h0 : 0 ≤ o ∧ o < (c.outs.length : Int)
    · rw [show decide (0 ≤ o ∧ o ≤ (c.outs.length : Int) - 1) = true from decide_eq_true (by omega)] at Hin
      have t0 : decide (0 ≤ o) = true := decide_eq_true (by omega)
      have t1 : decide (o < (c.outs.length : Int)) = true := decide_eq_true (by omega)
      have HR : Hid (Cir.invI c o = !(Cir.violI c o).isSome) := Lib.hid (by unfold Cir.invI; rw [hv, t0, t1]; rfl)
      clear t0 t1
      rw [HR.out]
      clear HR hv hl h0
      go_enter Try.func36, Try.ntmps36
      go_wp2_with fail
      generalize w.alloc (.cells #[.int .i64 c.ins, .slice An c.next.length cn, .slice Ag c.gates.length cg, .slice Ao c.outs.length co] 26) = W at *
      refine HV.out.mono ?_
      rintro e w1 ⟨rfl, hb1⟩
      have B1 := Lib.hid (B0.out.trans (hb1.mono B0.out.size))
      have HC1 := Lib.hid (HC0.out.below hb1)
      have PC1 := Lib.hid (PC.out.below hb1)
      have z1 := hb1.size
      clear hb1 p0 p1 p2 p3 z HV PC HC0
      obtain ⟨z, p0, p1, p2, p3⟩ := PC1.out
      go_wp2_with fail
      refine (Hin.out w1).mono ?_
      rintro e w' ⟨rfl, rfl⟩
      clear Hin hwl
      go_wp2_with fail
      refine (specViol_any _ c o _ HC1.out).mono ?_
      rintro e w2 ⟨⟨v2, rfl, hO⟩, hb2⟩
      obtain ⟨A2, c2, hv2, -⟩ := hO.shape
      subst hv2
      have B2 := Lib.hid (B1.out.trans (hb2.mono B1.out.size))
      clear hb2 hO
      generalize hbb : (Cir.violI c o).isSome = bb at *
      have Hbb := Lib.hid hbb
      clear hbb
      have hff := viol_field0 bb A2 (vrows (Cir.nat c).ins (Cir.violI c o)).length c2
      go_wp2_with fail
      go_ret
      exact ⟨ret_bool (by rw [Hbb.out]), B2.out⟩
    · rw [show decide (0 ≤ o ∧ o ≤ (c.outs.length : Int) - 1) = false from decide_eq_false (by omega)] at Hin
      have HR : Hid (Cir.invI c o = false) := Lib.hid (by unfold Cir.invI; rw [hv]; exact inv_out h0)
      rw [HR.out]
      clear HR hv hl h0
      go_enter Try.func36, Try.ntmps36
      go_wp2_with fail
      generalize w.alloc (.cells #[.int .i64 c.ins, .slice An c.next.length cn, .slice Ag c.gates.length cg, .slice Ao c.outs.length co] 26) = W at *
      refine HV.out.mono ?_
      rintro e w1 ⟨rfl, hb1⟩
      have B1 := Lib.hid (B0.out.trans (hb1.mono B0.out.size))
      have HC1 := Lib.hid (HC0.out.below hb1)
      have PC1 := Lib.hid (PC.out.below hb1)
      have z1 := hb1.size
      clear hb1 p0 p1 p2 p3 z HV PC HC0
      obtain ⟨z, p0, p1, p2, p3⟩ := PC1.out
      go_wp2_with fail
      refine (Hin.out w1).mono ?_
      rintro e w' ⟨rfl, rfl⟩
      clear Hin hwl
      go_wp2_with fail
      go_ret
      exact ⟨rfl, B1.out⟩
end Go.Proofs.Ytopimdakpnnbhaa

namespace Go.Proofs.Ytopimdakpnnbhaa
open Go.RowKit
/-! What a violation's rows of inputs do, plainly; a boxed violation. -/
def VCells (w : World) (g : Nat) (b : Bool) (v : Value) : Prop := g < w.heap.size ∧ w.cell? ⟨g, 0, none⟩ = some (.bool b) ∧ w.cell? ⟨g, 1, none⟩ = some v
theorem VCells.below {w w' : World} {g : Nat} {b : Bool} {v : Value} (h : VCells w g b v) (hb : Below w.heap.size w w') : VCells w' g b v := by
  obtain ⟨hg, c0, c1⟩ := h
  exact ⟨Nat.lt_of_lt_of_le hg hb.size, (hb.cell (p := ⟨g, 0, none⟩) hg).trans c0, (hb.cell (p := ⟨g, 1, none⟩) hg).trans c1⟩
theorem VCells.boxed (w : World) (b : Bool) (v : Value) (t : TypeId) : VCells (w.alloc (.cells #[.bool b, v] t)) w.heap.size b v :=
  ⟨by simp, World.cell?_alloc_new _ _ _ 0, World.cell?_alloc_new _ _ _ 1⟩
namespace Cir
theorem vbfs_small {c : Ci} (hc : Ok c) (o : Nat) : ∀ (f k : Nat) (l : List (Nat × List Nat)), Vs c l → ∀ p, vbfs c o f k l = some p → p.length ≤ 9
  | 0, _, _, _, p, h => by cases h
  | f + 1, k, l, hl, p, h => by
    rw [vbfs] at h
    cases hk : l[k]? with
    | none => rw [hk] at h; cases h
    | some sp =>
      obtain ⟨s, q⟩ := sp
      rw [hk] at h
      simp only at h
      cases hf : vfind c o s (2 ^ c.ins) with
      | none =>
        rw [hf] at h
        exact vbfs_small hc o f (k + 1) _ (hl.pushes hk _ (Nat.le_refl _)) p h
      | some x =>
        rw [hf] at h
        obtain rfl := Option.some.inj h
        have h1 := hl.len k s q hk
        have h2 := (List.getElem?_eq_some_iff.1 hk).1
        have h3 := hl.size hc
        rw [List.length_append, List.length_singleton]; omega
theorem viol_small {c : Ci} (hc : Ok c) {o : Nat} {p : List Nat} (h : viol c o = some p) : p.length ≤ 9 := vbfs_small hc o 9 0 _ (Vs.zero c) p h
theorem violI_some {c : Cz} {o : Int} (h : (violI c o).isSome = true) : ∃ m p, valid c = true ∧ o = (m : Nat) ∧ m < (nat c).outs.length ∧ viol (nat c) m = some p ∧ violI c o = some p := by
  obtain ⟨p, hp⟩ := Option.isSome_iff_exists.1 h
  unfold violI at hp ⊢
  by_cases hc : valid c = true ∧ 0 ≤ o ∧ o < c.outs.length
  · rw [if_pos hc] at hp ⊢
    obtain ⟨h1, h2, h3⟩ := hc
    obtain ⟨m, rfl⟩ := Int.eq_ofNat_of_zero_le h2
    exact ⟨m, p, h1, rfl, by unfold nat; simp only [List.length_map]; omega, hp, hp⟩
  · rw [if_neg hc] at hp; cases hp
theorem viol_sim {d : Ci} {o : Nat} {p : List Nat} (h : viol d o = some p) (ho : o < d.outs.length) {i : Nat} (hi : i < p.length) : ∃ row, (simL d (bits 0 d.next.length) (rowsOf d.ins p))[i]? = some row ∧ row[o]? = some (i + 1 == p.length) ∧ row.length = d.outs.length := by
  have hx := List.getElem?_eq_getElem hi
  refine ⟨outsOf d (runN d 0 (p.take i)) p[i], ?_, ?_, lits_len _ _⟩
  · show (simL d (bits 0 d.next.length) (rowsN d.ins p))[i]? = _
    rw [simL_rows, hx]
    rfl
  · rw [← viol_outs h hx]
    unfold bad
    rw [List.getD_eq_getElem?_getD, List.getElem?_eq_getElem (show o < (outsOf d (runN d 0 (p.take i)) p[i]).length from by unfold outsOf; rw [lits_len]; exact ho)]
    rfl
end Cir
end Go.Proofs.Ytopimdakpnnbhaa
