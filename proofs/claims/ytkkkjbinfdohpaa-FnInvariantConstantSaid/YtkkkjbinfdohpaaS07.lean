import Derived.Test.YtkkkjbinfdohpaaS06
import Derived.Test.YtkkkjbinfdohpaaS02
import Derived.Test.YtkkkjbinfdohpaaS04
import Derived.Test.YtkkkjbinfdohpaaS05
import Derived.Test.YtkkkjbinfdohpaaS01
import Derived.Test.YtkkkjbinfdohpaaProg
import Derived.RegionTactic
import Derived.DeepKeys4
set_option linter.unusedVariables false
set_option linter.unusedSimpArgs false
namespace Go.Proofs.Ytkkkjbinfdohpaa
open Go.RowKit
set_option maxRecDepth 100000
/-! FindViolation, by the reference. -/
def SpecViol (ins : Nat) (r : Option (List Nat)) (w : World) (e : Ending) (w' : World) : Prop := (∃ v, e = .returned (.agg #[.bool r.isSome, v]) ∧ SSAt bools w' v (vrows ins r)) ∧ Below w.heap.size w w'
structure VT (B : Nat) (l : List (Nat × List Nat)) (fr how : List Nat) (vs vf vh : Value) (w : World) : Prop where
  s : w.ownsRow B 3 1 vs l.length (nints (Cir.vsts l))
  f : w.ownsRow B 3 1 vf l.length (nints fr)
  h : w.ownsRow B 3 1 vh l.length (nints how)
  a1 : Apart vs vf
  a2 : Apart vs vh
  a3 : Apart vf vh
theorem VT.below {B : Nat} {l : List (Nat × List Nat)} {fr how : List Nat} {vs vf vh : Value} {w w' : World} (h : VT B l fr how vs vf vh w) (hb : Below w.heap.size w w') : VT B l fr how vs vf vh w' :=
  ⟨own_below h.s hb, own_below h.f hb, own_below h.h hb, h.a1, h.a2, h.a3⟩
/-- A pointer to a boolean. -/
def TPB (b : Bool) : Ty := fun w v => ∃ g i, v = .pointer (some ⟨g, i, none⟩) ∧ g < w.heap.size ∧ w.cell? ⟨g, i, none⟩ = some (.bool b)
theorem stb_pb (b : Bool) : Stb (fun _ => False) (TPB b) := by
  rintro v w w' ⟨g, i, rfl, hg, hc⟩ ho
  exact ⟨g, i, rfl, Nat.lt_of_lt_of_le hg ho.size, ((only_below ho).cell (p := ⟨g, i, none⟩) hg).trans hc⟩
set_option maxHeartbeats 16000000 in
theorem specViol_ok (v : Value) (d : Ci) (o : Nat) (w : World) (h : CircAt w v (Cir.toCz d)) (hd : Cir.Ok d) (hv : Cir.valid (Cir.toCz d) = true) (ho : o < d.outs.length) :
    Calls Try.prog 59 #[v, .int .i64 o] w (SpecViol d.ins (Cir.viol d o) w) := by
  have l1 := hd.ins
  have l2 := hd.nexts
  have l4 := hd.outss
  have HC := Lib.hid h
  obtain ⟨vn, vg, vo, rfl, r1, r2, r3⟩ := h
  obtain ⟨Ao, co, rfl, hco, hcom⟩ := NatsAt.shape (xs := d.outs) r3
  have hins : (Cir.toCz d).ins = (d.ins : Int) := rfl
  rw [hins] at HC ⊢
  have hb0 := bel_new w (.cells #[.int .i64 d.ins, vn, vg, .slice Ao d.outs.length co] 26)
  have hb1 := bel_new (w.alloc (.cells #[.int .i64 d.ins, vn, vg, .slice Ao d.outs.length co] 26)) (.cells #[.bool false, .slice none 0 0] 90)
  have B0 := Lib.hid (hb0.trans (hb1.mono hb0.size))
  have PC := Lib.hid ((PCells.boxed w d.ins vn vg (.slice Ao d.outs.length co) 26).below hb1)
  have hsz : ((w.alloc (.cells #[.int .i64 d.ins, vn, vg, .slice Ao d.outs.length co] 26)).alloc (.cells #[.bool false, .slice none 0 0] 90)).heap.size = w.heap.size + 1 + 1 := by simp
  have hR : ((w.alloc (.cells #[.int .i64 d.ins, vn, vg, .slice Ao d.outs.length co] 26)).alloc (.cells #[.bool false, .slice none 0 0] 90)).heap[w.heap.size + 1]? = some (.cells #[.bool false, .slice none 0 0] 90 (0, 0)) := by
    have := heap_alloc_new (w.alloc (.cells #[.int .i64 d.ins, vn, vg, .slice Ao d.outs.length co] 26)) (.cells #[.bool false, .slice none 0 0] 90)
    rwa [World.size_alloc] at this
  have HRes := Lib.hid hR
  obtain ⟨z, p0, p1, p2, p3⟩ := PC.out
  have HC0 := Lib.hid (HC.out.below B0.out)
  have HV := Lib.hid (specValid_any _ _ _ HC0.out)
  rw [hv] at HV
  have Hd := Lib.hid hd
  have Ho := Lib.hid ho
  obtain ⟨M, e, hM⟩ : ∃ M : Nat, (2 : Int) ^ d.ins = (M : Int) ∧ M = 2 ^ d.ins := ⟨2 ^ d.ins, two_pow d.ins, rfl⟩
  have hM16 : M ≤ 16 := by rw [hM]; exact Nat.pow_le_pow_right (show 0 < 2 by decide) l1
  have hwM := IntWalk.i64_in (M : Int) (by omega)
  have HM := Lib.hid hM
  have hwl := IntWalk.i64_in ((d.outs.length : Int) - 1) (by omega)
  have Hin := Lib.hid (fun w' => l1In_any (o : Int) 0 ((d.outs.length : Int) - 1) w')
  rw [show decide ((0 : Int) ≤ (o : Int) ∧ (o : Int) ≤ (d.outs.length : Int) - 1) = true from decide_eq_true (by omega)] at Hin
  clear r1 r2 r3 hd hins hv HC hb0 hb1 hR ho hco hcom hM
  go_enter Try.func59, Try.ntmps59
  go_wp2_with fail
  generalize (w.alloc (.cells #[.int .i64 d.ins, vn, vg, .slice Ao d.outs.length co] 26)).alloc (.cells #[.bool false, .slice none 0 0] 90) = W at *
  refine HV.out.mono ?_
  rintro e w1 ⟨rfl, hb1⟩
  have B1 := Lib.hid (B0.out.trans (hb1.mono B0.out.size))
  have HC1 := Lib.hid (HC0.out.below hb1)
  have HRes1 := Lib.hid ((hb1.block _ (by omega)).trans HRes.out)
  have PC1 := Lib.hid (PC.out.below hb1)
  have z1 := hb1.size
  clear hb1 p0 p1 p2 p3 z HV HC0 HRes PC
  obtain ⟨z, p0, p1, p2, p3⟩ := PC1.out
  have hrw := (Hin.out w1)
  go_wp2_with fail
  refine hrw.mono ?_
  rintro e w' ⟨rfl, rfl⟩
  clear hrw Hin hwl
  have hs3 : (((w1.alloc (.cells #[.int .i64 0] 3)).alloc (.cells #[.int .i64 0] 3)).alloc (.cells #[.int .i64 0] 3)).heap.size = w1.heap.size + 1 + 1 + 1 := by simp
  have HT0 : Hid (VT w1.heap.size [(0, [])] [0] [0] (.slice (some ⟨w1.heap.size, 0, none⟩) 1 1) (.slice (some ⟨w1.heap.size + 1, 0, none⟩) 1 1) (.slice (some ⟨w1.heap.size + 1 + 1, 0, none⟩) 1 1) (((w1.alloc (.cells #[.int .i64 0] 3)).alloc (.cells #[.int .i64 0] 3)).alloc (.cells #[.int .i64 0] 3))) := Lib.hid (by
    have a1 := ((World.ownsRow_lit (base := w1.heap.size) (e := 3) (size := 1) w1 #[.int .i64 0] 1 (Nat.le_refl _) (by unfold maxLen; omega) rfl).alloc (.cells #[.int .i64 0] 3)).alloc (.cells #[.int .i64 0] 3)
    have a2 := ((World.ownsRow_lit (base := w1.heap.size) (e := 3) (size := 1) (w1.alloc (.cells #[.int .i64 0] 3)) #[.int .i64 0] 1 (by simp) (by unfold maxLen; omega) rfl).alloc (.cells #[.int .i64 0] 3))
    have a3 := (World.ownsRow_lit (base := w1.heap.size) (e := 3) (size := 1) ((w1.alloc (.cells #[.int .i64 0] 3)).alloc (.cells #[.int .i64 0] 3)) #[.int .i64 0] 1 (by simp; omega) (by unfold maxLen; omega) rfl)
    rw [World.size_alloc] at a2 a3
    rw [World.size_alloc] at a3
    refine ⟨a1, a2, a3, fun g h1 h2 => ?_, fun g h1 h2 => ?_, fun g h1 h2 => ?_⟩
    all_goals
      have h3 := Option.some.inj h1
      have h4 := Option.some.inj h2
      simp only at h3 h4
      omega)
  have Bm : Hid (Below w1.heap.size w1 (((w1.alloc (.cells #[.int .i64 0] 3)).alloc (.cells #[.int .i64 0] 3)).alloc (.cells #[.int .i64 0] 3))) := Lib.hid ((((Below.refl _ _).alloc (Nat.le_refl _) _).alloc (by simp) _).alloc (by simp; omega) _)
  have hR0 : Hid (Cir.viol d o = Cir.vbfs d o (9 - 0) 0 [(0, [])]) := Lib.hid rfl
  generalize Cir.viol d o = res at *
  clear p0 p1 p2 p3
  go_wp2_with fail
  clear hs3
  go_loopw [5, 6, 7, 8] (fun vs vf vh i wr => ∃ (s' f' h' : Value) (k : Nat) (l : List (Nat × List Nat)) (fr how : List Nat), s' = vs ∧ f' = vf ∧ h' = vh ∧ i = .int .i64 k ∧ k ≤ l.length ∧ 1 ≤ l.length ∧ l.length ≤ 8 ∧ Hid (Cir.Vs d l) ∧ Hid (Cir.Back l fr how) ∧ Hid (∀ y ∈ how, y ≤ 1000) ∧ Hid (res = Cir.vbfs d o (9 - k) k l) ∧ Hid (VT w1.heap.size l fr how vs vf vh wr) ∧ Below w1.heap.size w1 wr) (fun _ _ _ i _ => 8 - (intOf i).toNat)
  case atStart => exact ⟨_, _, _, 0, [(0, [])], [0], [0], rfl, rfl, rfl, rfl, by simp, by simp, by simp, Lib.hid (Cir.Vs.zero d), Lib.hid Cir.Back.start, Lib.hid (by simp), hR0, HT0, Bm.out⟩
  case round =>
    obtain ⟨vs, vf, vh, k, l, fr, how, hs', hf', hh', rfl, hk, hpos, hl8, Hvs, HBk, Hhow, hres, HT, hb⟩ := hrel
    subst hs' hf' hh'
    clear HT0 Bm hR0
    have Hb := Lib.hid hb
    have hzb := hb.size
    obtain ⟨gs, cs, hvs', hgs, hgs2, hcs, hcsm⟩ := own_open HT.out.s (by omega)
    subst hvs'
    unfold maxLen at hcsm
    clear hb
    by_cases hlt : k < l.length
    · obtain ⟨⟨s, p⟩, hs⟩ := at_some hlt
      have Hgs := Lib.hid hs
      have hf : 9 - k = 9 - (k + 1) + 1 := by omega
      rw [hf] at hres
      have hdl : decide (k < l.length) = true := decide_eq_true hlt
      have hs8 : s < 8 := by
        have h1 := Hvs.out.sts.lt s (List.mem_of_getElem? (Cir.vsts_get hs))
        have h2 : 2 ^ d.next.length ≤ 2 ^ 3 := Nat.pow_le_pow_right (show 0 < 2 by decide) l2
        omega
      clear hs hf
      go_wp2_with fail
      obtain ⟨Wk, hWk⟩ : ∃ Wk, Wk = wr := ⟨_, rfl⟩
      subst hWk
      go_loopw [5, 6, 7, 9] (fun vs vf vh i wr => ∃ (s' f' h' : Value) (j : Nat) (fr how : List Nat), s' = vs ∧ f' = vf ∧ h' = vh ∧ i = .int .i64 j ∧ j ≤ M ∧ Hid (∀ y, y < j → Cir.bad d o s y = false) ∧ Hid (Cir.Back (Cir.vpushes d s p j l) fr how) ∧ Hid (∀ y ∈ how, y ≤ 1000) ∧ Hid (VT w1.heap.size (Cir.vpushes d s p j l) fr how vs vf vh wr) ∧ Below w1.heap.size w1 wr) (fun _ _ _ i _ => M - (intOf i).toNat)
      case atStart => exact ⟨_, _, _, 0, fr, how, rfl, rfl, rfl, rfl, Nat.zero_le _, Lib.hid (fun y hy => by omega), HBk, Hhow, HT, Hb.out⟩
      case round =>
        obtain ⟨vs, vf, vh, j, fr, how, hs', hf', hh', rfl, hj, Hnb, HBk, Hhow, HT, hb⟩ := hrel
        subst hs' hf' hh'
        have Hb := Lib.hid hb
        have hzb := hb.size
        have PCr := Lib.hid (PC1.out.below hb)
        have HCr := Lib.hid (HC1.out.below hb)
        have Hvs2 := Lib.hid (Hvs.out.pushes Hgs.out j (by rw [← HM.out]; exact hj))
        have hL8 := Hvs2.out.size Hd.out
        have Hgj := Lib.hid (Cir.vpushes_get (c := d) (s := s) (p := p) (j := j) Hgs.out)
        have Hsu := Lib.hid (Cir.vpushes_succ d s p j l)
        have hkL := (List.getElem?_eq_some_iff.1 Hgj.out).1
        obtain ⟨z, p0, p1, p2, p3⟩ := PCr.out
        clear hb
        by_cases hlj : j < M
        · obtain ⟨L2, hL2⟩ : ∃ L2, Cir.vpushes d s p (j + 1) l = L2 := ⟨_, rfl⟩
          rw [hL2] at Hsu
          have HL2 := Lib.hid hL2
          clear hL2
          generalize Cir.vpushes d s p j l = L at *
          obtain ⟨gs, cs, hvs', hgs, hgs2, hcs, hcsm⟩ := own_open HT.out.s (by omega)
          subst hvs'
          unfold maxLen at hcsm
          obtain ⟨u0, hu0, hd0, hf0⟩ := own_slot HT.out.s (j := k) (by omega)
          have hu0' : u0 = .int .i64 (s : Int) := by
            have h1 := Cir.vsts_get Hgj.out
            have h2 : (nints (Cir.vsts L))[k]? = some (.int .i64 (s : Int)) := by unfold nints ints nats; rw [List.map_map, List.getElem?_map, h1]; rfl
            exact Option.some.inj (hu0.symm.trans h2)
          subst hu0'
          have hdM : decide (j < M) = true := decide_eq_true hlj
          clear hu0 hf0
          go_wp2_with fail
          obtain ⟨w4, hw4⟩ : ∃ w4, w4 = wr := ⟨_, rfl⟩
          subst hw4
          have hol : (Cir.outsOf d s j).length = d.outs.length := outsOf_length d s j
          have Hol := Lib.hid hol
          clear hol
          have hok := Ho.out
          refine wp_region_rs (quietRS Try.prog _ w4 _) quietRS_ok (by kernel_rfl) (by kernel_rfl) (by kernel_rfl) (Nat.le_of_ble_eq_true rfl) trivial trivial ?_
          apply rs_eq quietRS_ok quiet_any
          · intro ρ w' ho hK
            have ho : Only _ w4 w' := ho
            obtain ⟨h0, -⟩ := hK
            have h0' : ρ (.tmp 2) = _ := h0
            have hb := only_below ho
            have q0 := (hb.cell (p := ⟨w.heap.size, 0, none⟩) z).trans p0
            have q1 := (hb.cell (p := ⟨w.heap.size, 1, none⟩) z).trans p1
            have q2 := (hb.cell (p := ⟨w.heap.size, 2, none⟩) z).trans p2
            have q3 := (hb.cell (p := ⟨w.heap.size, 3, none⟩) z).trans p3
            have q4 := (hb.cell (p := ⟨gs, k, none⟩) hgs2).trans hd0
            go_simp
            try exact rfl
          refine rs_old quietRS_ok quiet_any _ (.inl rfl) _ rfl rfl ?_
          refine rs_old quietRS_ok quiet_any _ (.inl rfl) _ rfl rfl ?_
          apply rs_eq quietRS_ok quiet_any
          · intro ρ w' ho hK
            have ho : Only _ w4 w' := ho
            obtain ⟨h0, h1, -⟩ := hK
            have h0' : ρ (.tmp 41) = _ := h0
            have h1' : ρ (.tmp 42) = _ := h1
            go_simp
            try exact rfl
          apply rs_eq quietRS_ok quiet_any
          · intro ρ w' ho hK
            have ho : Only _ w4 w' := ho
            obtain ⟨h0, -⟩ := hK
            have h0' : ρ (.tmp 43) = _ := h0
            have hb := only_below ho
            have q0 := (hb.cell (p := ⟨w.heap.size, 0, none⟩) z).trans p0
            have q1 := (hb.cell (p := ⟨w.heap.size, 1, none⟩) z).trans p1
            have q2 := (hb.cell (p := ⟨w.heap.size, 2, none⟩) z).trans p2
            have q3 := (hb.cell (p := ⟨w.heap.size, 3, none⟩) z).trans p3
            have q4 := (hb.cell (p := ⟨gs, k, none⟩) hgs2).trans hd0
            go_simp
            try exact rfl
          refine rs_old quietRS_ok quiet_any _ (.inl rfl) _ rfl rfl ?_
          refine rs_call quietRS_ok quiet_any (TBools (Cir.outsOf d s j)) (stb_bools _) 77 _ _ rfl (fun ρ w' ho hK => by
            have ho : Only _ w4 w' := ho
            obtain ⟨h0, h1, h2, h3, -⟩ := hK
            have h0' : ρ (.func 77) = .func (.func 77) #[] #[] := h0
            have h1' : ρ (.tmp 40) = _ := h1
            have h2' : ρ (.tmp 44) = _ := h2
            have h3' : ρ (.tmp 45) = _ := h3
            refine ⟨#[ρ (.tmp 40), ρ (.tmp 44), ρ (.tmp 45)], ?_, ?_⟩
            · go_simp
            · rw [h1', h2', h3']
              refine (l16Outs_any _ d s j w' (HCr.out.below (only_below ho)) Hd.out (by omega) (by omega)).mono ?_
              rintro e w2 ⟨⟨u, rfl, hO⟩, hb⟩
              exact ⟨u, rfl, hO, hb⟩) ?_
          refine rs_old quietRS_ok quiet_any _ (.inl rfl) _ rfl rfl ?_
          refine rs_look quietRS_ok quiet_any (TPB (Cir.bad d o s j)) (stb_pb _) (fun ρ w' ho hK => by
            obtain ⟨h0, h1, -⟩ := hK
            have h0' : BoolsAt w' (ρ (.tmp 46)) (Cir.outsOf d s j) := h0
            have h1' : ρ (.tmp 47) = .int .i64 o := h1
            obtain ⟨A9, c9, e9, -, hc9⟩ := Row.shape h0'
            unfold maxLen at hc9
            unfold BoolsAt at h0'
            rw [e9] at h0'
            obtain ⟨b', o', x9, hA, hbl', hx, hcell⟩ := bools_open (w := w') (wr := w') h0' (Below.refl _ _) (i := o) rfl (by rw [Hol.out]; exact hok)
            subst hA
            rw [Hol.out] at e9
            have hxb : x9 = Cir.bad d o s j := by unfold Cir.bad; rw [List.getD_eq_getElem?_getD, hx.out]; rfl
            refine ⟨.pointer (some ⟨b', o' + o, none⟩), ?_, b', o' + o, rfl, hbl', by rw [← hxb]; exact hcell⟩
            clear hx hcell hxb h0' h0 h1
            go_simp) ?_
          apply rs_eq quietRS_ok quiet_any
          · intro ρ w' ho hK
            have ho : Only _ w4 w' := ho
            obtain ⟨h0, -⟩ := hK
            have h0' : (TPB (Cir.bad d o s j)) w' (ρ (.tmp 48)) := h0
            have hb := only_below ho
            have q0 := (hb.cell (p := ⟨w.heap.size, 0, none⟩) z).trans p0
            have q1 := (hb.cell (p := ⟨w.heap.size, 1, none⟩) z).trans p1
            have q2 := (hb.cell (p := ⟨w.heap.size, 2, none⟩) z).trans p2
            have q3 := (hb.cell (p := ⟨w.heap.size, 3, none⟩) z).trans p3
            have q4 := (hb.cell (p := ⟨gs, k, none⟩) hgs2).trans hd0
            obtain ⟨g9, i9, e9, hg9, hc9⟩ := h0'
            go_simp
            try exact rfl
          intro f w9 k9 hk9 hI9 ht9 hcp9
          have E0 : f 0 = _ := ht9 0 (Nat.le_of_ble_eq_true rfl)
          have E1 : f 1 = _ := ht9 1 (Nat.le_of_ble_eq_true rfl)
          conv at E1 => rhs; whnf
          have E2 : f 2 = _ := ht9 2 (Nat.le_of_ble_eq_true rfl)
          conv at E2 => rhs; whnf
          have E3 : f 3 = _ := ht9 3 (Nat.le_of_ble_eq_true rfl)
          have E4 : f 4 = _ := ht9 4 (Nat.le_of_ble_eq_true rfl)
          have E5 : f 5 = _ := ht9 5 (Nat.le_of_ble_eq_true rfl)
          conv at E5 => rhs; whnf
          have E6 : (TBools (Cir.outsOf d s j)) w9 (f 6) := ht9 6 (Nat.le_of_ble_eq_true rfl)
          have E7 : f 7 = _ := ht9 7 (Nat.le_of_ble_eq_true rfl)
          conv at E7 => rhs; whnf
          have E8 : (TPB (Cir.bad d o s j)) w9 (f 8) := ht9 8 (Nat.le_of_ble_eq_true rfl)
          have E9 : f 9 = _ := ht9 9 (Nat.le_of_ble_eq_true rfl)
          have Ho9 : Only _ w4 w9 := hI9.2.1
          simp only [putAll, E0, E1, E2, E3, E4, E5, E7, E9, Nat.zero_add, Nat.reduceAdd, Act.put, List.setIfInBounds_toArray, List.set_cons_succ, List.set_cons_zero]
          clear E0 E1 E2 E3 E4 E5 E7 E9
          clear hI9 ht9 hcp9 hk9
          generalize f 6 = r6 at *
          generalize f 8 = r8 at *
          have hb9 := only_below Ho9
          have HT9 := Lib.hid (HT.out.below hb9)
          have Hb9 := Lib.hid (Hb.out.trans (hb9.mono hzb))
          have PC9 := Lib.hid (PCr.out.below hb9)
          have HC9 := Lib.hid (HCr.out.below hb9)
          have hz9 := hb9.size
          have hd9 := (hb9.cell (p := ⟨gs, k, none⟩) hgs2).trans hd0
          clear hb9 Ho9 p0 p1 p2 p3 z hd0 HT E6 E8
          obtain ⟨w5, hw5⟩ : ∃ w5, w5 = w9 := ⟨_, rfl⟩
          subst hw5
          obtain ⟨z, p0, p1, p2, p3⟩ := PC9.out
          cases hbad : Cir.bad d o s j
          · have Hnb2 : Hid (∀ y, y < j + 1 → Cir.bad d o s y = false) := Lib.hid (fun y hy => by
              rcases Nat.lt_or_ge y j with h | h
              · exact Hnb.out y h
              · obtain rfl : y = j := by omega
                exact hbad)
            clear hbad Hnb
            go_wp2_with fail
            refine wp_region_rs (quietRS Try.prog _ w5 _) quietRS_ok (by kernel_rfl) (by kernel_rfl) (by kernel_rfl) (Nat.le_of_ble_eq_true rfl) trivial trivial ?_
            apply rs_eq quietRS_ok quiet_any
            · intro ρ w' ho hK
              have ho : Only _ w5 w' := ho
              obtain ⟨h0, -⟩ := hK
              have h0' : ρ (.tmp 2) = _ := h0
              have hb := only_below ho
              have q0 := (hb.cell (p := ⟨w.heap.size, 0, none⟩) z).trans p0
              have q1 := (hb.cell (p := ⟨w.heap.size, 1, none⟩) z).trans p1
              have q2 := (hb.cell (p := ⟨w.heap.size, 2, none⟩) z).trans p2
              have q3 := (hb.cell (p := ⟨w.heap.size, 3, none⟩) z).trans p3
              have q4 := (hb.cell (p := ⟨gs, k, none⟩) (Nat.lt_of_lt_of_le hgs2 hz9)).trans hd9
              go_simp
              try exact rfl
            refine rs_old quietRS_ok quiet_any _ (.inl rfl) _ rfl rfl ?_
            refine rs_old quietRS_ok quiet_any _ (.inl rfl) _ rfl rfl ?_
            apply rs_eq quietRS_ok quiet_any
            · intro ρ w' ho hK
              have ho : Only _ w5 w' := ho
              obtain ⟨h0, h1, -⟩ := hK
              have h0' : ρ (.tmp 58) = _ := h0
              have h1' : ρ (.tmp 59) = _ := h1
              go_simp
              try exact rfl
            apply rs_eq quietRS_ok quiet_any
            · intro ρ w' ho hK
              have ho : Only _ w5 w' := ho
              obtain ⟨h0, -⟩ := hK
              have h0' : ρ (.tmp 60) = _ := h0
              have hb := only_below ho
              have q0 := (hb.cell (p := ⟨w.heap.size, 0, none⟩) z).trans p0
              have q1 := (hb.cell (p := ⟨w.heap.size, 1, none⟩) z).trans p1
              have q2 := (hb.cell (p := ⟨w.heap.size, 2, none⟩) z).trans p2
              have q3 := (hb.cell (p := ⟨w.heap.size, 3, none⟩) z).trans p3
              have q4 := (hb.cell (p := ⟨gs, k, none⟩) (Nat.lt_of_lt_of_le hgs2 hz9)).trans hd9
              go_simp
              try exact rfl
            refine rs_old quietRS_ok quiet_any _ (.inl rfl) _ rfl rfl ?_
            refine rs_call quietRS_ok quiet_any (TEq (.int .i64 (Cir.nextOf d s j : Nat))) (stb_eq _ _) 75 _ _ rfl (fun ρ w' ho hK => by
              have ho : Only _ w5 w' := ho
              obtain ⟨h0, h1, h2, h3, -⟩ := hK
              have h0' : ρ (.func 75) = .func (.func 75) #[] #[] := h0
              have h1' : ρ (.tmp 57) = _ := h1
              have h2' : ρ (.tmp 61) = _ := h2
              have h3' : ρ (.tmp 62) = _ := h3
              refine ⟨#[ρ (.tmp 57), ρ (.tmp 61), ρ (.tmp 62)], ?_, ?_⟩
              · go_simp
              · rw [h1', h2', h3']
                refine (l16Next_any _ d s j w' (HC9.out.below (only_below ho)) Hd.out (by omega) (by omega)).mono ?_
                rintro e w2 ⟨rfl, hb⟩
                exact ⟨_, rfl, rfl, hb⟩) ?_
            refine rs_same quietRS_ok quiet_any 63 6 (.inr rfl) rfl _ rfl ?_
            intro f w9 k9 hk9 hI9 ht9 hcp9
            have E0 : f 0 = _ := ht9 0 (Nat.le_of_ble_eq_true rfl)
            have E1 : f 1 = _ := ht9 1 (Nat.le_of_ble_eq_true rfl)
            conv at E1 => rhs; whnf
            have E2 : f 2 = _ := ht9 2 (Nat.le_of_ble_eq_true rfl)
            conv at E2 => rhs; whnf
            have E3 : f 3 = _ := ht9 3 (Nat.le_of_ble_eq_true rfl)
            have E4 : f 4 = _ := ht9 4 (Nat.le_of_ble_eq_true rfl)
            have E5 : f 5 = _ := ht9 5 (Nat.le_of_ble_eq_true rfl)
            conv at E5 => rhs; whnf
            have E6 : f 6 = _ := ht9 6 (Nat.le_of_ble_eq_true rfl)
            have E7 : f 7 = _ := ht9 7 (Nat.le_of_ble_eq_true rfl)
            have Ho9 : Only _ w5 w9 := hI9.2.1
            simp only [putAll, E0, E1, E2, E3, E4, E5, E6, E7, Nat.zero_add, Nat.reduceAdd, Act.put, List.setIfInBounds_toArray, List.set_cons_succ, List.set_cons_zero]
            clear E0 E1 E2 E3 E4 E5 E6 E7
            clear hI9 ht9 hcp9 hk9
            have hb6 := only_below Ho9
            have HT6 := Lib.hid (HT9.out.below hb6)
            have Hb6 := Lib.hid (Hb9.out.trans (hb6.mono (by omega)))
            have hz6 := hb6.size
            clear hb6 Ho9 p0 p1 p2 p3 z hd9 HT9
            obtain ⟨w6, hw6⟩ : ∃ w6, w6 = w9 := ⟨_, rfl⟩
            subst hw6
            have hN8 : Cir.nextOf d s j < 8 := by
              have h1 := Cir.nextOf_lt d s j
              have h2 : 2 ^ d.next.length ≤ 2 ^ 3 := Nat.pow_le_pow_right (show 0 < 2 by decide) l2
              omega
            generalize Cir.nextOf d s j = N at *
            go_wp2_with fail
            refine (l16Has_any _ (Cir.vsts L) N _ (own_nats (by rw [Cir.vsts_length]; exact HT6.out.s)) (by omega)).mono ?_
            rintro e w' ⟨rfl, rfl⟩
            cases hc : Cir.memB (Cir.vsts L) N
            · have HPu := Lib.hid (Cir.vpush_no (p := p ++ [j]) hc)
              have HBn := Lib.hid (HBk.out.snoc (n := N) (x := j) Hgj.out)
              have Hhn : Hid (∀ y ∈ how ++ [j], y ≤ 1000) := Lib.hid (fun y hy => by
                rcases List.mem_append.1 hy with hy | hy
                · exact Hhow.out y hy
                · obtain rfl := List.mem_singleton.1 hy; omega)
              obtain ⟨Af, cf, hvf⟩ := slice_of_own HT6.out.f
              obtain ⟨Ah, ch, hvh⟩ := slice_of_own HT6.out.h
              subst hvf hvh
              have hz1r : w1.heap.size ≤ w6.heap.size := by omega
              have Hl6 := Lib.hid (Row.of_own (World.ownsRow_lit (base := w6.heap.size) (e := 3) (size := 1) w6 #[.int .i64 N] 1 (Nat.le_refl _) (by unfold maxLen; omega) rfl))
              clear hc
              go_wp2_with (first
                | (at_builtin; refine append_ints rfl (.tmp 68) (.tmp 70) rfl w1.heap.size _ L.length (nints (Cir.vsts L)) rfl (HT6.out.s.alloc _) _ 1 [.int .i64 N] rfl Hl6.out (by simp [Value.oneCell']) (by omega) (by simp; omega) ?_; intro va wa howna hga hata; obtain ⟨Aa, ca, hva⟩ := slice_of_own howna; subst hva; have Ga := Lib.hid howna; have Hga := Lib.hid hga; have Hata := Lib.hid hata; have hza := hga.size; rw [World.size_alloc] at hza; have Fa := Lib.hid (own_kept (HT6.out.f.alloc (.cells #[.int .i64 N] 3)) hga (fun g h1 h2 => HT6.out.a1 g h2 h1)); have Ha := Lib.hid (own_kept (HT6.out.h.alloc (.cells #[.int .i64 N] 3)) hga (fun g h1 h2 => HT6.out.a2 g h2 h1)); have Hla := Lib.hid (Row.of_own (World.ownsRow_lit (base := wa.heap.size) (e := 3) (size := 1) wa #[.int .i64 k] 1 (Nat.le_refl _) (by unfold maxLen; omega) rfl)); clear howna hga hata)
                | (at_builtin; refine append_ints rfl (.tmp 72) (.tmp 74) rfl w1.heap.size _ L.length (nints fr) rfl (Fa.out.alloc _) _ 1 [.int .i64 k] rfl Hla.out (by simp [Value.oneCell']) (by omega) (by simp; omega) ?_; intro vb wb hownb hgb hatb; obtain ⟨Ab, cb, hvb⟩ := slice_of_own hownb; subst hvb; have Fb := Lib.hid hownb; have Hgb := Lib.hid hgb; have Hatb := Lib.hid hatb; have hzb2 := hgb.size; rw [World.size_alloc] at hzb2; have Hb := Lib.hid (own_kept (Ha.out.alloc (.cells #[.int .i64 k] 3)) hgb (fun g h1 h2 => HT6.out.a3 g h2 h1)); have Aab := Lib.hid (apart_new HT6.out.a1 Hata.out (fun g hg => by rw [World.size_alloc]; have := (HT6.out.f.lt g hg).2; omega)); have Gb := Lib.hid (own_kept (Ga.out.alloc (.cells #[.int .i64 k] 3)) hgb (fun g h1 h2 => Aab.out g h1 h2)); have Hlb := Lib.hid (Row.of_own (World.ownsRow_lit (base := wb.heap.size) (e := 3) (size := 1) wb #[.int .i64 j] 1 (Nat.le_refl _) (by unfold maxLen; omega) rfl)); clear hownb hgb hatb)
                | (at_builtin; refine append_ints rfl (.tmp 76) (.tmp 78) rfl w1.heap.size _ L.length (nints how) rfl (Hb.out.alloc _) _ 1 [.int .i64 j] rfl Hlb.out (by simp [Value.oneCell']) (by omega) (by simp; omega) ?_; intro vc wc hownc hgc hatc; obtain ⟨Ac, cc, hvc⟩ := slice_of_own hownc; subst hvc; have Hc := Lib.hid hownc; have Hgc := Lib.hid hgc; have Hatc := Lib.hid hatc; clear hownc hgc hatc))
              have HT8 : Hid (VT w1.heap.size (L ++ [(N, p ++ [j])]) (fr ++ [k]) (how ++ [j]) (.slice Aa (L.length + 1) ca) (.slice Ab (L.length + 1) cb) (.slice Ac (L.length + 1) cc) wc) := Lib.hid (by
                have A13 := apart_new HT6.out.a2 Hata.out (fun g hg => by rw [World.size_alloc]; have := (HT6.out.h.lt g hg).2; omega)
                have A12 := (apart_new Aab.out.symm Hatb.out (fun g hg => by rw [World.size_alloc]; have := (Ga.out.lt g hg).2; omega)).symm
                have A23 := apart_new HT6.out.a3 Hatb.out (fun g hg => by rw [World.size_alloc]; have := (Ha.out.lt g hg).2; omega)
                have B13 := (apart_new A13.symm Hatc.out (fun g hg => by rw [World.size_alloc]; have := (Gb.out.lt g hg).2; omega)).symm
                have B23 := (apart_new A23.symm Hatc.out (fun g hg => by rw [World.size_alloc]; have := (Fb.out.lt g hg).2; omega)).symm
                refine ⟨?_, ?_, ?_, A12, B13, B23⟩
                · rw [List.length_append, List.length_singleton, show Cir.vsts (L ++ [(N, p ++ [j])]) = Cir.vsts L ++ [N] from by unfold Cir.vsts; simp, nints_snoc]
                  exact own_kept (Gb.out.alloc _) Hgc.out (fun g h1 h2 => A13 g h1 h2)
                · rw [List.length_append, List.length_singleton, nints_snoc]
                  exact own_kept (Fb.out.alloc _) Hgc.out (fun g h1 h2 => A23 g h1 h2)
                · rw [List.length_append, List.length_singleton, nints_snoc]
                  exact Hc.out)
              go_roundw
              case rel => exact ⟨_, _, _, j + 1, fr ++ [k], how ++ [j], rfl, rfl, rfl, by go_num, by omega, Hnb2, Lib.hid (by rw [HL2.out, Hsu.out, HPu.out]; exact HBn.out), Hhn, Lib.hid (by rw [HL2.out, Hsu.out, HPu.out]; exact HT8.out), by
                have b1 := (Hb6.out.alloc Hb6.out.size (.cells #[.int .i64 N] 3)).grown Hga.out (Hb6.out.alloc Hb6.out.size _).size (own_ge0 HT6.out.s)
                have b2 := (b1.alloc b1.size (.cells #[.int .i64 k] 3)).grown Hgb.out (b1.alloc b1.size _).size (own_ge0 Fa.out)
                exact (b2.alloc b2.size (.cells #[.int .i64 j] 3)).grown Hgc.out (b2.alloc b2.size _).size (own_ge0 Hb.out)⟩
              case measure => simp [intOf] <;> omega
            · have HPu := Lib.hid (Cir.vpush_yes (p := p ++ [j]) hc)
              clear hc
              go_wp2_with fail
              go_roundw
              case rel => exact ⟨_, _, _, j + 1, fr, how, rfl, rfl, rfl, by go_num, by omega, Hnb2, Lib.hid (by rw [HL2.out, Hsu.out, HPu.out]; exact HBk.out), Hhow, Lib.hid (by rw [HL2.out, Hsu.out, HPu.out]; exact HT6.out), Hb6.out⟩
              case measure => simp [intOf] <;> omega
          · have Hf := Lib.hid (Cir.vfind_some (M := 2 ^ d.ins) (by rw [← HM.out]; exact hlj) hbad Hnb.out)
            clear hbad Hnb
            have Hr : res = some (p ++ [j]) := by rw [hres.out]; exact Cir.vbfs_hit Hgs.out Hf.out
            clear hres Hf
            subst Hr
            have hl1 := HBk.out.l1
            have hl2 := HBk.out.l2
            have HF9 : Hid (NatsAt w5 vf fr) := Lib.hid (own_nats (by rw [hl1]; exact HT9.out.f))
            have HH9 : Hid (NatsAt w5 vh how) := Lib.hid (own_nats (by rw [hl2]; exact HT9.out.h))
            go_wp2_with fail
            refine (l16Rows_any _ vf vh d L fr how k s j p _ HC9.out (by omega) HF9.out HH9.out HBk.out Hgj.out hL8 (by omega) Hhow.out).mono ?_
            rintro e w6 ⟨⟨u, rfl, hS6⟩, hb6⟩
            have hR2 := (Hb9.out.block (w.heap.size + 1) (by omega)).trans HRes1.out
            have hR6 := (hb6.block (w.heap.size + 1) (by omega)).trans hR2
            have o0 := blk_cell hR6 0
            have o1 := blk_cell hR6 1
            have b0 := blk_free hR6 0
            have b1 := blk_free hR6 1
            simp at o0 o1
            have B6 := Lib.hid ((B1.out.trans (Hb9.out.mono B1.out.size)).trans (hb6.mono (by omega)))
            obtain ⟨Au, cu, hvu, -⟩ := hS6.at.shape
            subst hvu
            have HS6 := Lib.hid hS6
            have z6 := hb6.size
            clear hR2 hR6 hb6 hS6 p0 p1 p2 p3
            go_wp2_with fail
            refine bodyPost_ret (v := .agg #[.bool true, .slice Au (rowsOf d.ins (p ++ [j])).length cu]) (by simp [results, Try.results59, go_sem, o0, o1]) rfl ⟨⟨_, rfl, ?_⟩, ?_⟩
            · refine ((HS6.out.only (E := fun g => g = w.heap.size + 1) (Only.grown (set_grown _ _ _ _) (fun k hk => (Option.some.inj hk).symm)) ?_).only (E := fun g => g = w.heap.size + 1) (Only.grown (set_grown _ _ _ _) (fun k hk => (Option.some.inj hk).symm)) ?_).at
              · intro g hg e; unfold From at hg; omega
              · intro g hg e; unfold From at hg; omega
            · exact ((B6.out.setCell (by simp only; omega) _).setCell (by simp only; omega) _)
        · obtain rfl : j = M := by omega
          have Hf := Lib.hid (Cir.vfind_none (M := 2 ^ d.ins) (by rw [← HM.out]; exact Hnb.out))
          have HMr : Hid (res = Cir.vbfs d o (9 - (k + 1)) (k + 1) (Cir.vpushes d s p j l)) := Lib.hid (by rw [hres.out, Cir.vbfs_step Hgs.out Hf.out, HM.out])
          clear Hnb
          generalize Cir.vpushes d s p j l = L at *
          clear p1 p2 p3
          go_wp2_with fail
          go_roundw
          case rel => exact ⟨_, _, _, k + 1, L, fr, how, rfl, rfl, rfl, by go_num, by omega, by omega, hL8, Hvs2, HBk, Hhow, HMr, HT, Hb.out⟩
          case measure => simp [intOf] <;> omega
    · obtain rfl : k = l.length := by omega
      have hr : res = none := by rw [hres.out, Cir.vbfs_end]
      subst hr
      have hR2 := (Hb.out.block (w.heap.size + 1) (by omega)).trans HRes1.out
      have o0 := blk_cell hR2 0
      have o1 := blk_cell hR2 1
      have b0 := blk_free hR2 0
      have b1 := blk_free hR2 1
      simp at o0 o1
      have B2 := Lib.hid (B1.out.trans (Hb.out.mono B1.out.size))
      clear hR2
      go_wp2_with fail
      refine bodyPost_ret (v := .agg #[.bool false, .slice none 0 0]) (by simp [results, Try.results59, go_sem, o0, o1]) rfl ⟨⟨_, rfl, SSAt.nil _ _⟩, ?_⟩
      exact ((B2.out.setCell (by simp only; omega) _).setCell (by simp only; omega) _)
end Go.Proofs.Ytkkkjbinfdohpaa

namespace Go.Proofs.Ytkkkjbinfdohpaa
open Go.RowKit
set_option maxRecDepth 100000
set_option maxHeartbeats 4000000
theorem valid_outs {c : Cz} (h : Cir.valid c = true) : c.outs.length ≤ 3 := (valid_sizes h).2.2.2.2
theorem specViol_no (v : Value) (c : Cz) (o : Int) (w : World) (h : CircAt w v c) (hno : Cir.valid c = false ∨ (Cir.valid c = true ∧ ¬ (0 ≤ o ∧ o < c.outs.length))) :
    Calls Try.prog 59 #[v, .int .i64 o] w (SpecViol (Cir.nat c).ins none w) := by
  have HC := Lib.hid h
  obtain ⟨An, cn, Ag, cg, Ao, co, rfl⟩ := h.shape
  have hb0 := bel_new w (.cells #[.int .i64 c.ins, .slice An c.next.length cn, .slice Ag c.gates.length cg, .slice Ao c.outs.length co] 26)
  have hb1 := bel_new (w.alloc (.cells #[.int .i64 c.ins, .slice An c.next.length cn, .slice Ag c.gates.length cg, .slice Ao c.outs.length co] 26)) (.cells #[.bool false, .slice none 0 0] 90)
  have B0 := Lib.hid (hb0.trans (hb1.mono hb0.size))
  have PC := Lib.hid ((PCells.boxed w c.ins (.slice An c.next.length cn) (.slice Ag c.gates.length cg) (.slice Ao c.outs.length co) 26).below hb1)
  have hsz : ((w.alloc (.cells #[.int .i64 c.ins, .slice An c.next.length cn, .slice Ag c.gates.length cg, .slice Ao c.outs.length co] 26)).alloc (.cells #[.bool false, .slice none 0 0] 90)).heap.size = w.heap.size + 1 + 1 := by simp
  have hR : ((w.alloc (.cells #[.int .i64 c.ins, .slice An c.next.length cn, .slice Ag c.gates.length cg, .slice Ao c.outs.length co] 26)).alloc (.cells #[.bool false, .slice none 0 0] 90)).heap[w.heap.size + 1]? = some (.cells #[.bool false, .slice none 0 0] 90 (0, 0)) := by
    have := heap_alloc_new (w.alloc (.cells #[.int .i64 c.ins, .slice An c.next.length cn, .slice Ag c.gates.length cg, .slice Ao c.outs.length co] 26)) (.cells #[.bool false, .slice none 0 0] 90)
    rwa [World.size_alloc] at this
  have HRes := Lib.hid hR
  obtain ⟨z, p0, p1, p2, p3⟩ := PC.out
  have HV := Lib.hid (specValid_any _ _ _ (HC.out.below B0.out))
  have Hno := Lib.hid hno
  clear HC hb0 hb1 hR hno
  rcases Hno.out with hv | ⟨hv, h1⟩
  ·
    rw [hv] at HV
    skip
    clear hv Hno
    go_enter Try.func59, Try.ntmps59
    go_wp2_with fail
    generalize (w.alloc (.cells #[.int .i64 c.ins, .slice An c.next.length cn, .slice Ag c.gates.length cg, .slice Ao c.outs.length co] 26)).alloc (.cells #[.bool false, .slice none 0 0] 90) = W at *
    refine HV.out.mono ?_
    rintro e w1 ⟨rfl, hb1⟩
    have B1 := Lib.hid (B0.out.trans (hb1.mono B0.out.size))
    have PC1 := Lib.hid (PC.out.below hb1)
    have hR1 := (hb1.block _ (by omega)).trans HRes.out
    have z1 := hb1.size
    have o0 := blk_cell hR1 0
    have o1 := blk_cell hR1 1
    have b0 := blk_free hR1 0
    have b1 := blk_free hR1 1
    simp at o0 o1
    clear hb1 hR1 p0 p1 p2 p3 z HV HRes PC
    obtain ⟨z, p0, p1, p2, p3⟩ := PC1.out
    go_wp2_with fail
    refine bodyPost_ret (v := .agg #[.bool false, .slice none 0 0]) (by simp [results, Try.results59, go_sem, o0, o1]) rfl ⟨⟨_, rfl, SSAt.nil _ _⟩, ?_⟩
    exact ((B1.out.setCell (by simp only; omega) _).setCell (by simp only; omega) _)
  ·
    rw [hv] at HV
    have hl := valid_outs hv
    have hwl := IntWalk.i64_in ((c.outs.length : Int) - 1) (by omega)
    have Hin := Lib.hid (fun w' => l1In_any o 0 ((c.outs.length : Int) - 1) w')
    rw [show decide (0 ≤ o ∧ o ≤ (c.outs.length : Int) - 1) = false from decide_eq_false (by omega)] at Hin
    clear h1 hl
    clear hv Hno
    go_enter Try.func59, Try.ntmps59
    go_wp2_with fail
    generalize (w.alloc (.cells #[.int .i64 c.ins, .slice An c.next.length cn, .slice Ag c.gates.length cg, .slice Ao c.outs.length co] 26)).alloc (.cells #[.bool false, .slice none 0 0] 90) = W at *
    refine HV.out.mono ?_
    rintro e w1 ⟨rfl, hb1⟩
    have B1 := Lib.hid (B0.out.trans (hb1.mono B0.out.size))
    have PC1 := Lib.hid (PC.out.below hb1)
    have hR1 := (hb1.block _ (by omega)).trans HRes.out
    have z1 := hb1.size
    have o0 := blk_cell hR1 0
    have o1 := blk_cell hR1 1
    have b0 := blk_free hR1 0
    have b1 := blk_free hR1 1
    simp at o0 o1
    clear hb1 hR1 p0 p1 p2 p3 z HV HRes PC
    obtain ⟨z, p0, p1, p2, p3⟩ := PC1.out
    go_wp2_with fail
    refine (Hin.out w1).mono ?_
    rintro e w' ⟨rfl, rfl⟩
    clear Hin hwl
    go_wp2_with fail
    refine bodyPost_ret (v := .agg #[.bool false, .slice none 0 0]) (by simp [results, Try.results59, go_sem, o0, o1]) rfl ⟨⟨_, rfl, SSAt.nil _ _⟩, ?_⟩
    exact ((B1.out.setCell (by simp only; omega) _).setCell (by simp only; omega) _)
theorem specViol_any (v : Value) (c : Cz) (o : Int) (w : World) (h : CircAt w v c) :
    Calls Try.prog 59 #[v, .int .i64 o] w (SpecViol (Cir.nat c).ins (Cir.violI c o) w) := by
  by_cases hc : Cir.valid c = true ∧ 0 ≤ o ∧ o < c.outs.length
  · obtain ⟨d1, d2⟩ := Cir.nat_ok hc.1
    obtain ⟨m, rfl⟩ := Int.eq_ofNat_of_zero_le hc.2.1
    have hr : Cir.violI c (m : Int) = Cir.viol (Cir.nat c) m := by unfold Cir.violI; rw [if_pos hc]; rfl
    rw [hr]
    exact specViol_ok v (Cir.nat c) m w (by rw [← d1]; exact h) d2 (by rw [← d1]; exact hc.1) (by have := hc.2.2; unfold Cir.nat; simp only [List.length_map]; omega)
  · have hr : Cir.violI c o = none := by unfold Cir.violI; rw [if_neg hc]
    rw [hr]
    refine specViol_no v c o w h ?_
    cases hv : Cir.valid c
    · exact .inl rfl
    · exact .inr ⟨rfl, fun hh => hc ⟨hv, hh⟩⟩
/-! Invariants. -/
theorem inv_out {o : Int} {n : Nat} {b : Bool} (h : ¬ (0 ≤ o ∧ o < (n : Int))) : (true && (decide (0 ≤ o) && (decide (o < (n : Int)) && b))) = false := by
  by_cases h2 : 0 ≤ o
  · rw [decide_eq_true h2, decide_eq_false (show ¬ o < (n : Int) from fun hh => h ⟨h2, hh⟩)]; rfl
  · rw [decide_eq_false h2]; rfl
theorem viol_field0 (b : Bool) (A : Option Addr) (n c : Nat) (w : World) : (Instr.field 90 (.agg #[.bool b, .slice A n c]) 0).run Try.prog w = .ok (.bool b) w := by kernel_rfl
def Cir.invI (c : Cz) (o : Int) : Bool := Cir.valid c && (decide (0 ≤ o) && (decide (o < c.outs.length) && !(Cir.violI c o).isSome))
theorem implInv_any (v : Value) (c : Cz) (o : Int) (w : World) (h : CircAt w v c) :
    Calls Try.prog 19 #[v, .int .i64 o] w fun e w' => e = .returned (.bool (Cir.invI c o)) ∧ Below w.heap.size w w' := by
  have HC := Lib.hid h
  obtain ⟨An, cn, Ag, cg, Ao, co, rfl⟩ := h.shape
  have B0 := Lib.hid (bel_new w (.cells #[.int .i64 c.ins, .slice An c.next.length cn, .slice Ag c.gates.length cg, .slice Ao c.outs.length co] 26))
  have PC := Lib.hid (PCells.boxed w c.ins (.slice An c.next.length cn) (.slice Ag c.gates.length cg) (.slice Ao c.outs.length co) 26)
  have hsz : (w.alloc (.cells #[.int .i64 c.ins, .slice An c.next.length cn, .slice Ag c.gates.length cg, .slice Ao c.outs.length co] 26)).heap.size = w.heap.size + 1 := by simp
  obtain ⟨z, p0, p1, p2, p3⟩ := PC.out
  have HC0 := Lib.hid (HC.out.below B0.out)
  have HV := Lib.hid (implValid_any _ _ _ HC0.out)
  clear HC h
  cases hv : Cir.valid c
  · rw [hv] at HV
    have HR : Hid (Cir.invI c o = false) := Lib.hid (by unfold Cir.invI; rw [hv]; rfl)
    rw [HR.out]
    clear HR hv
    go_enter Try.func19, Try.ntmps19
    go_wp2_with fail
    refine HV.out.mono ?_
    rintro e w1 ⟨rfl, hb1⟩
    have B1 := Lib.hid (B0.out.trans (hb1.mono B0.out.size))
    clear hb1
    go_wp2_with fail
    go_ret
    exact ⟨rfl, B1.out⟩
  · rw [hv] at HV
    have hl := valid_outs hv
    by_cases h0 : o < 0
    · have t0 : decide (0 ≤ o) = false := decide_eq_false (by omega)
      have HR : Hid (Cir.invI c o = false) := Lib.hid (by unfold Cir.invI; rw [hv, t0]; rfl)
      rw [HR.out]
      clear HR hv hl h0
      go_enter Try.func19, Try.ntmps19
      go_wp2_with fail
      generalize w.alloc (.cells #[.int .i64 c.ins, .slice An c.next.length cn, .slice Ag c.gates.length cg, .slice Ao c.outs.length co] 26) = W at *
      refine HV.out.mono ?_
      rintro e w1 ⟨rfl, hb1⟩
      have B1 := Lib.hid (B0.out.trans (hb1.mono B0.out.size))
      have HC1 := Lib.hid (HC0.out.below hb1)
      have PC1 := Lib.hid (PC.out.below hb1)
      have z1 := hb1.size
      clear hb1 p0 p1 p2 p3 z HV PC HC0
      obtain ⟨z, p0, p1, p2, p3⟩ := PC1.out
      go_wp2_with fail
      go_ret
      exact ⟨rfl, B1.out⟩
    · by_cases h1 : (c.outs.length : Int) ≤ o
      · have t0 : decide (0 ≤ o) = true := decide_eq_true (by omega)
        have t1 : decide (o < (c.outs.length : Int)) = false := decide_eq_false (by omega)
        have HR : Hid (Cir.invI c o = false) := Lib.hid (by unfold Cir.invI; rw [hv, t0, t1]; rfl)
        rw [HR.out]
        clear HR hv hl h0 h1
        go_enter Try.func19, Try.ntmps19
        go_wp2_with fail
        generalize w.alloc (.cells #[.int .i64 c.ins, .slice An c.next.length cn, .slice Ag c.gates.length cg, .slice Ao c.outs.length co] 26) = W at *
        refine HV.out.mono ?_
        rintro e w1 ⟨rfl, hb1⟩
        have B1 := Lib.hid (B0.out.trans (hb1.mono B0.out.size))
        have HC1 := Lib.hid (HC0.out.below hb1)
        have PC1 := Lib.hid (PC.out.below hb1)
        have z1 := hb1.size
        clear hb1 p0 p1 p2 p3 z HV PC HC0
        obtain ⟨z, p0, p1, p2, p3⟩ := PC1.out
        go_wp2_with fail
        go_ret
        exact ⟨rfl, B1.out⟩
      · have t0 : decide (0 ≤ o) = true := decide_eq_true (by omega)
        have t1 : decide (o < (c.outs.length : Int)) = true := decide_eq_true (by omega)
        have HR : Hid (Cir.invI c o = !(Cir.violI c o).isSome) := Lib.hid (by unfold Cir.invI; rw [hv, t0, t1]; rfl)
        rw [HR.out]
        clear HR hv hl h0 h1
        go_enter Try.func19, Try.ntmps19
        go_wp2_with fail
        generalize w.alloc (.cells #[.int .i64 c.ins, .slice An c.next.length cn, .slice Ag c.gates.length cg, .slice Ao c.outs.length co] 26) = W at *
        refine HV.out.mono ?_
        rintro e w1 ⟨rfl, hb1⟩
        have B1 := Lib.hid (B0.out.trans (hb1.mono B0.out.size))
        have HC1 := Lib.hid (HC0.out.below hb1)
        have PC1 := Lib.hid (PC.out.below hb1)
        have z1 := hb1.size
        clear hb1 p0 p1 p2 p3 z HV PC HC0
        obtain ⟨z, p0, p1, p2, p3⟩ := PC1.out
        go_wp2_with fail
        refine (implViol_any _ c o _ HC1.out).mono ?_
        rintro e w2 ⟨v2, rfl, hO, hb2⟩
        obtain ⟨A2, c2, hv2, -⟩ := hO.at.shape
        subst hv2
        have B2 := Lib.hid (B1.out.trans (hb2.mono B1.out.size))
        clear hb2 hO
        generalize hbb : (Cir.violI c o).isSome = bb at *
        have Hbb := Lib.hid hbb
        clear hbb
        have hff := viol_field0 bb A2 (vrows (Cir.nat c).ins (Cir.violI c o)).length c2
        go_wp2_with fail
        go_ret
        exact ⟨ret_bool (by rw [Hbb.out]), B2.out⟩
theorem specInv_any (v : Value) (c : Cz) (o : Int) (w : World) (h : CircAt w v c) :
    Calls Try.prog 20 #[v, .int .i64 o] w fun e w' => e = .returned (.bool (Cir.invI c o)) ∧ Below w.heap.size w w' := by
  have HC := Lib.hid h
  obtain ⟨An, cn, Ag, cg, Ao, co, rfl⟩ := h.shape
  have B0 := Lib.hid (bel_new w (.cells #[.int .i64 c.ins, .slice An c.next.length cn, .slice Ag c.gates.length cg, .slice Ao c.outs.length co] 26))
  have PC := Lib.hid (PCells.boxed w c.ins (.slice An c.next.length cn) (.slice Ag c.gates.length cg) (.slice Ao c.outs.length co) 26)
  have hsz : (w.alloc (.cells #[.int .i64 c.ins, .slice An c.next.length cn, .slice Ag c.gates.length cg, .slice Ao c.outs.length co] 26)).heap.size = w.heap.size + 1 := by simp
  obtain ⟨z, p0, p1, p2, p3⟩ := PC.out
  have HC0 := Lib.hid (HC.out.below B0.out)
  have HV := Lib.hid (specValid_any _ _ _ HC0.out)
  clear HC h
  cases hv : Cir.valid c
  · rw [hv] at HV
    have HR : Hid (Cir.invI c o = false) := Lib.hid (by unfold Cir.invI; rw [hv]; rfl)
    rw [HR.out]
    clear HR hv
    go_enter Try.func20, Try.ntmps20
    go_wp2_with fail
    refine HV.out.mono ?_
    rintro e w1 ⟨rfl, hb1⟩
    have B1 := Lib.hid (B0.out.trans (hb1.mono B0.out.size))
    clear hb1
    go_wp2_with fail
    go_ret
    exact ⟨rfl, B1.out⟩
  · rw [hv] at HV
    have hl := valid_outs hv
    have hwl := IntWalk.i64_in ((c.outs.length : Int) - 1) (by omega)
    have Hin := Lib.hid (fun w' => l1In_any o 0 ((c.outs.length : Int) - 1) w')
    by_cases h0 : 0 ≤ o ∧ o < (c.outs.length : Int)
    · rw [show decide (0 ≤ o ∧ o ≤ (c.outs.length : Int) - 1) = true from decide_eq_true (by omega)] at Hin
      have t0 : decide (0 ≤ o) = true := decide_eq_true (by omega)
      have t1 : decide (o < (c.outs.length : Int)) = true := decide_eq_true (by omega)
      have HR : Hid (Cir.invI c o = !(Cir.violI c o).isSome) := Lib.hid (by unfold Cir.invI; rw [hv, t0, t1]; rfl)
      clear t0 t1
      rw [HR.out]
      clear HR hv hl h0
      go_enter Try.func20, Try.ntmps20
      go_wp2_with fail
      generalize w.alloc (.cells #[.int .i64 c.ins, .slice An c.next.length cn, .slice Ag c.gates.length cg, .slice Ao c.outs.length co] 26) = W at *
      refine HV.out.mono ?_
      rintro e w1 ⟨rfl, hb1⟩
      have B1 := Lib.hid (B0.out.trans (hb1.mono B0.out.size))
      have HC1 := Lib.hid (HC0.out.below hb1)
      have PC1 := Lib.hid (PC.out.below hb1)
      have z1 := hb1.size
      clear hb1 p0 p1 p2 p3 z HV PC HC0
      obtain ⟨z, p0, p1, p2, p3⟩ := PC1.out
      go_wp2_with fail
      refine (Hin.out w1).mono ?_
      rintro e w' ⟨rfl, rfl⟩
      clear Hin hwl
      go_wp2_with fail
      refine (specViol_any _ c o _ HC1.out).mono ?_
      rintro e w2 ⟨⟨v2, rfl, hO⟩, hb2⟩
      obtain ⟨A2, c2, hv2, -⟩ := hO.shape
      subst hv2
      have B2 := Lib.hid (B1.out.trans (hb2.mono B1.out.size))
      clear hb2 hO
      generalize hbb : (Cir.violI c o).isSome = bb at *
      have Hbb := Lib.hid hbb
      clear hbb
      have hff := viol_field0 bb A2 (vrows (Cir.nat c).ins (Cir.violI c o)).length c2
      go_wp2_with fail
      go_ret
      exact ⟨ret_bool (by rw [Hbb.out]), B2.out⟩
    · rw [show decide (0 ≤ o ∧ o ≤ (c.outs.length : Int) - 1) = false from decide_eq_false (by omega)] at Hin
      have HR : Hid (Cir.invI c o = false) := Lib.hid (by unfold Cir.invI; rw [hv]; exact inv_out h0)
      rw [HR.out]
      clear HR hv hl h0
      go_enter Try.func20, Try.ntmps20
      go_wp2_with fail
      generalize w.alloc (.cells #[.int .i64 c.ins, .slice An c.next.length cn, .slice Ag c.gates.length cg, .slice Ao c.outs.length co] 26) = W at *
      refine HV.out.mono ?_
      rintro e w1 ⟨rfl, hb1⟩
      have B1 := Lib.hid (B0.out.trans (hb1.mono B0.out.size))
      have HC1 := Lib.hid (HC0.out.below hb1)
      have PC1 := Lib.hid (PC.out.below hb1)
      have z1 := hb1.size
      clear hb1 p0 p1 p2 p3 z HV PC HC0
      obtain ⟨z, p0, p1, p2, p3⟩ := PC1.out
      go_wp2_with fail
      refine (Hin.out w1).mono ?_
      rintro e w' ⟨rfl, rfl⟩
      clear Hin hwl
      go_wp2_with fail
      go_ret
      exact ⟨rfl, B1.out⟩
end Go.Proofs.Ytkkkjbinfdohpaa

namespace Go.Proofs.Ytkkkjbinfdohpaa
open Go.RowKit
set_option maxRecDepth 100000
/-! Inductive, by the program. -/
namespace Cir
def indOk (c : Cz) (o k : Int) : Prop := valid c = true ∧ (0 ≤ o ∧ o < c.outs.length) ∧ 1 ≤ k ∧ k ≤ 4
instance (c : Cz) (o k : Int) : Decidable (indOk c o k) := by unfold indOk; exact inferInstance
def indI (c : Cz) (o k : Int) : Bool := if indOk c o k then ind (nat c) o.toNat k.toNat else false
theorem indI_no {c : Cz} {o k : Int} (h : ¬ indOk c o k) : indI c o k = false := if_neg h
theorem indI_yes {c : Cz} {o k : Int} (h : indOk c o k) : indI c o k = ind (nat c) o.toNat k.toNat := if_pos h
theorem advN_lt {c : Ci} (hc : Ok c) {o : Nat} {S : Nat → Bool} (hS : ∀ x, S x = true → x < 8) : ∀ j x, advN c o S j x = true → x < 8
  | 0, x, h => hS x h
  | j + 1, x, h => by
    obtain ⟨s, _, _, y, _, _, rfl⟩ := adv_iff.1 h
    exact next_lt8 hc s y
theorem only0_lt (x : Nat) (h : only0 x = true) : x < 8 := by unfold only0 at h; have := eq_of_beq h; omega
theorem upTo_lt {n : Nat} (hn : n ≤ 8) (x : Nat) (h : upTo n x = true) : x < 8 := by unfold upTo at h; have := of_decide_eq_true h; omega
theorem upTo_succ (n x : Nat) : upTo (n + 1) x = (upTo n x || x == n) := by
  unfold upTo
  rw [Bool.eq_iff_iff, Bool.or_eq_true, decide_eq_true_iff, decide_eq_true_iff, beq_iff_eq]
  omega
end Cir
set_option maxHeartbeats 8000000 in
theorem implInd_ok (v : Value) (d : Ci) (o k : Nat) (w : World) (h : CircAt w v (Cir.toCz d)) (hd : Cir.Ok d) (hv : Cir.valid (Cir.toCz d) = true) (ho : o < d.outs.length) (hk1 : 1 ≤ k) (hk4 : k ≤ 4) :
    Calls Try.prog 22 #[v, .int .i64 o, .int .i64 k] w fun e w' => e = .returned (.bool (Cir.ind d o k)) ∧ Below w.heap.size w w' := by
  have l1 := hd.ins
  have l2 := hd.nexts
  have HC := Lib.hid h
  obtain ⟨vn, vg, vo, rfl, r1, r2, r3⟩ := h
  obtain ⟨Ao, co, rfl, hco, hcom⟩ := NatsAt.shape (xs := d.outs) r3
  obtain ⟨An, cn, rfl, hcn, hcmn⟩ := NatsAt.shape (xs := d.next) r1
  have hins : (Cir.toCz d).ins = (d.ins : Int) := rfl
  have HP := Lib.hid (PCirc.boxed (c := Cir.toCz d) 26 r1 r2 r3)
  rw [hins] at HC HP ⊢
  have B0 := Lib.hid (bel_new w (.cells #[.int .i64 d.ins, .slice An d.next.length cn, vg, .slice Ao d.outs.length co] 26))
  have PC := Lib.hid (PCells.boxed w d.ins (.slice An d.next.length cn) vg (.slice Ao d.outs.length co) 26)
  have hsz : (w.alloc (.cells #[.int .i64 d.ins, .slice An d.next.length cn, vg, .slice Ao d.outs.length co] 26)).heap.size = w.heap.size + 1 := by simp
  obtain ⟨z, p0, p1, p2, p3⟩ := PC.out
  have HC0 := Lib.hid (HC.out.below B0.out)
  have HV := Lib.hid (implValid_any _ _ _ HC0.out)
  rw [hv] at HV
  have Hd := Lib.hid hd
  have Ho := Lib.hid ho
  have t2 : decide (d.outs.length ≤ o) = false := decide_eq_false (by omega)
  have t3 : decide (k < 1) = false := decide_eq_false (by omega)
  have t4 : decide (4 < k) = false := decide_eq_false (by omega)
  obtain ⟨N, eN, hN⟩ : ∃ N : Nat, (2 : Int) ^ d.next.length = (N : Int) ∧ N = 2 ^ d.next.length := ⟨2 ^ d.next.length, two_pow d.next.length, rfl⟩
  have hN8 : N ≤ 8 := by rw [hN]; exact Nat.pow_le_pow_right (show 0 < 2 by decide) l2
  have hwN := IntWalk.i64_in (N : Int) (by omega)
  have HN := Lib.hid hN
  have hmm := @run_makeMap Try.prog
  clear r1 r2 r3 hd hins hv HC ho hco hcom hN hcn hcmn
  go_enter Try.func22, Try.ntmps22
  go_wp2_with fail
  generalize w.alloc (.cells #[.int .i64 d.ins, .slice An d.next.length cn, vg, .slice Ao d.outs.length co] 26) = W at *
  refine HV.out.mono ?_
  rintro e w1 ⟨rfl, hb1⟩
  have B1 := Lib.hid (B0.out.trans (hb1.mono B0.out.size))
  have HP1 := Lib.hid (HP.out.below hb1)
  have PC1 := Lib.hid (PC.out.below hb1)
  have z1 := hb1.size
  clear hb1 p0 p1 p2 p3 z HV HP HC0 PC
  obtain ⟨z, p0, p1, p2, p3⟩ := PC1.out
  have Hset0 := Lib.hid (setAt_made w1)
  go_wp2_with (with_reducible refine wpList_add_set _ rfl (.tmp 36) _ _ (.inr rfl) _ _ _ rfl Hset0.out (by omega) 0 (by omega) rfl rfl ?_; intro w2 hset2 hg2; refine Stop.out ?_)
  refine ⟨?_⟩
  have hz2 := hg2.size
  rw [World.size_alloc] at hz2
  have hb2 := (bel_new w1 (.map #[] 0)).grown hg2 (by simp) (fun q hq => by have := Option.some.inj hq; omega)
  have hb3 := bel_new w2 (.map #[] 0)
  have hb13 := hb2.trans (hb3.mono hb2.size)
  have HS0 := Lib.hid ((hset2.congr (S' := Cir.only0) (fun x => by unfold Cir.only0; simp)).below hb3)
  have HA0 : Hid (SetAt (w2.alloc (.map #[] 0)) w2.heap.size 0 (Cir.upTo 0)) := Lib.hid ((setAt_made w2).congr fun x => by unfold Cir.upTo; simp)
  have PC3 := PC1.out.below hb13
  have HB3 := Lib.hid hb13
  have hz3 : (w2.alloc (.map #[] 0)).heap.size = w2.heap.size + 1 := by simp
  clear hset2 hg2 Hset0 p0 p1 p2 p3 z hb2 hb3 hb13 hmm
  obtain ⟨z, p0, p1, p2, p3⟩ := PC3
  have hmm := @run_makeMap Try.prog
  go_wp2_with fail
  clear hmm z p0 p1 p2 p3
  generalize w2.alloc (.map #[] 0) = w3 at *
  obtain ⟨ma, hma⟩ : ∃ ma, w2.heap.size = ma := ⟨_, rfl⟩
  rw [hma] at HA0 hz3 hz2 ⊢
  clear hma
  go_loopw [43] (fun i wr => ∃ j m : Nat, i = .int .i64 j ∧ j ≤ N ∧ m ≤ j ∧ Hid (SetAt wr ma m (Cir.upTo j)) ∧ Hid (SetAt wr w1.heap.size 1 Cir.only0) ∧ Below w1.heap.size w1 wr) (fun i _ => N - (intOf i).toNat)
  case atStart => exact ⟨0, 0, rfl, Nat.zero_le _, Nat.le_refl _, HA0, HS0, HB3.out⟩
  case round =>
    obtain ⟨j, m, rfl, hj, hm, HA, HS, hb⟩ := hrel
    clear HA0 HS0 HB3
    have Hb := Lib.hid hb
    clear hb
    by_cases hlt : j < N
    · go_wp2_with (first
        | (at_mapUpdate; refine wpList_add_set _ rfl (.tmp 46) (.tmp 47) _ (.inl rfl) _ _ _ rfl HA.out (by omega) j (by omega) rfl rfl ?_; intro w6 hset6 hg6; have Hset6 := Lib.hid hset6; have Hg6 := Lib.hid hg6; clear hset6 hg6))
      go_roundw
      case rel => exact ⟨j + 1, m + 1, by go_num, by omega, by omega, Lib.hid (Hset6.out.congr fun x => (Cir.upTo_succ j x).symm), Lib.hid (HS.out.only (Only.grown (E := fun g => g = ma) Hg6.out (fun k hk => (Option.some.inj hk).symm)) (fun e => by omega)), Hb.out.grown Hg6.out Hb.out.size (fun q hq => by have := Option.some.inj hq; omega)⟩
      case measure => simp [intOf] <;> omega
    · obtain rfl : j = N := by omega
      have HA2 : Hid (SetAt wr ma 200 (Cir.advN d o (Cir.upTo (2 ^ d.next.length)) 0)) := Lib.hid ((HA.out.mono (by omega)).congr fun x => by rw [HN.out]; rfl)
      have HS2 : Hid (SetAt wr w1.heap.size 200 (Cir.advN d o Cir.only0 0)) := Lib.hid (HS.out.mono (by omega))
      have HUp : Hid (∀ x, Cir.upTo (2 ^ d.next.length) x = true → x < 8) := Lib.hid (Cir.upTo_lt (by rw [← HN.out]; omega))
      clear HA HS
      go_wp2_with fail
      go_loopw [7, 8, 50] (fun sv av i wr => ∃ sb ab q : Nat, sv = .map (some sb) ∧ av = .map (some ab) ∧ i = .int .i64 q ∧ q ≤ k ∧ Hid (SetAt wr sb 200 (Cir.advN d o Cir.only0 q)) ∧ Hid (SetAt wr ab 200 (Cir.advN d o (Cir.upTo (2 ^ d.next.length)) q)) ∧ Hid (∀ i, i < q → Cir.good d o (Cir.advN d o Cir.only0 i) = true) ∧ Below w1.heap.size w1 wr) (fun _ _ i _ => k - (intOf i).toNat)
      case atStart => exact ⟨_, _, 0, rfl, rfl, rfl, Nat.zero_le _, HS2, HA2, Lib.hid (fun i hi => by omega), Hb.out⟩
      case round =>
        obtain ⟨sb, ab, q, rfl, rfl, rfl, hq, HS, HA, HG, hb⟩ := hrel
        clear HA2 HS2
        have Hb := Lib.hid hb
        have hzb := hb.size
        clear hb
        by_cases hlq : q < k
        · go_wp2_with fail
          refine (advance_any w.heap.size sb 200 d o _ _ (HP1.out.below Hb.out) Hd.out Ho.out HS.out (Cir.advN_lt Hd.out Cir.only0_lt q)).mono ?_
          rintro e w5 ⟨mb, n5, rfl, hset5, hn5, hb5⟩
          have HS5 := Lib.hid (hset5.mono (show n5 ≤ 200 from hn5))
          have HA5 := Lib.hid (HA.out.below hb5)
          have Hb5 := Lib.hid (Hb.out.trans (hb5.mono hzb))
          have hz5 := Nat.le_trans hzb hb5.size
          clear hset5 hb5
          cases hg : Cir.good d o (Cir.advN d o Cir.only0 q)
          · have HR : Hid (Cir.ind d o k = false) := Lib.hid (Cir.ind_no hlq hg)
            clear hg
            go_wp2_with fail
            go_ret
            exact ⟨ret_bool HR.out.symm, B1.out.trans (Hb5.out.mono B1.out.size)⟩
          · have HG5 : Hid (∀ i, i < q + 1 → Cir.good d o (Cir.advN d o Cir.only0 i) = true) := Lib.hid (fun i hi => by
              rcases Nat.lt_or_ge i q with h | h
              · exact HG.out i h
              · obtain rfl : i = q := by omega
                exact hg)
            clear hg HG
            go_wp2_with fail
            refine (advance_any w.heap.size ab 200 d o _ _ (HP1.out.below Hb5.out) Hd.out Ho.out HA5.out (Cir.advN_lt Hd.out HUp.out q)).mono ?_
            rintro e w6 ⟨mb2, n6, rfl, hset6, hn6, hb6⟩
            have HA6 := Lib.hid (hset6.mono (show n6 ≤ 200 from hn6))
            have HS6 := Lib.hid (HS5.out.below hb6)
            have Hb6 := Lib.hid (Hb5.out.trans (hb6.mono hz5))
            clear hset6 hb6
            generalize Cir.good d o (Cir.advN d o (Cir.upTo (2 ^ d.next.length)) q) = gq at *
            go_wp2_with fail
            go_roundw
            case rel => exact ⟨_, _, q + 1, rfl, rfl, by go_num, by omega, HS6, HA6, HG5, Hb6.out⟩
            case measure => simp [intOf] <;> omega
        · obtain rfl : q = k := by omega
          have HR : Hid (Cir.ind d o q = Cir.good d o (Cir.advN d o (Cir.upTo (2 ^ d.next.length)) q)) := Lib.hid (Cir.ind_yes HG.out)
          clear HG
          go_wp2_with fail
          refine (advance_any w.heap.size ab 200 d o _ _ (HP1.out.below Hb.out) Hd.out Ho.out HA.out (Cir.advN_lt Hd.out HUp.out q)).mono ?_
          rintro e w6 ⟨mb2, n6, rfl, hset6, hn6, hb6⟩
          have Hb6 := Lib.hid (Hb.out.trans (hb6.mono hzb))
          clear hset6 hb6
          generalize Cir.good d o (Cir.advN d o (Cir.upTo (2 ^ d.next.length)) q) = gq at *
          go_wp2_with fail
          go_ret
          exact ⟨ret_bool HR.out.symm, B1.out.trans (Hb6.out.mono B1.out.size)⟩
theorem implInd_no (v : Value) (c : Cz) (o k : Int) (w : World) (h : CircAt w v c) (hno : ¬ Cir.indOk c o k) :
    Calls Try.prog 22 #[v, .int .i64 o, .int .i64 k] w fun e w' => e = .returned (.bool false) ∧ Below w.heap.size w w' := by
  have HC := Lib.hid h
  obtain ⟨An, cn, Ag, cg, Ao, co, rfl⟩ := h.shape
  have B0 := Lib.hid (bel_new w (.cells #[.int .i64 c.ins, .slice An c.next.length cn, .slice Ag c.gates.length cg, .slice Ao c.outs.length co] 26))
  have PC := Lib.hid (PCells.boxed w c.ins (.slice An c.next.length cn) (.slice Ag c.gates.length cg) (.slice Ao c.outs.length co) 26)
  have hsz : (w.alloc (.cells #[.int .i64 c.ins, .slice An c.next.length cn, .slice Ag c.gates.length cg, .slice Ao c.outs.length co] 26)).heap.size = w.heap.size + 1 := by simp
  obtain ⟨z, p0, p1, p2, p3⟩ := PC.out
  have HV := Lib.hid (implValid_any _ _ _ (HC.out.below B0.out))
  have Hno := Lib.hid hno
  clear HC h hno
  cases hv : Cir.valid c
  · rw [hv] at HV
    clear hv Hno
    go_enter Try.func22, Try.ntmps22
    go_wp2_with fail
    generalize w.alloc (.cells #[.int .i64 c.ins, .slice An c.next.length cn, .slice Ag c.gates.length cg, .slice Ao c.outs.length co] 26) = W at *
    refine HV.out.mono ?_
    rintro e w1 ⟨rfl, hb1⟩
    have B1 := Lib.hid (B0.out.trans (hb1.mono B0.out.size))
    have PC1 := Lib.hid (PC.out.below hb1)
    have z1 := hb1.size
    clear hb1 p0 p1 p2 p3 z HV PC
    obtain ⟨z, p0, p1, p2, p3⟩ := PC1.out
    go_wp2_with fail
    go_ret
    exact ⟨rfl, B1.out⟩
  · by_cases h1 : o < 0
    · rw [hv] at HV
      have t1 : decide (o < 0) = true := decide_eq_true h1
      clear h1
      clear hv Hno
      go_enter Try.func22, Try.ntmps22
      go_wp2_with fail
      generalize w.alloc (.cells #[.int .i64 c.ins, .slice An c.next.length cn, .slice Ag c.gates.length cg, .slice Ao c.outs.length co] 26) = W at *
      refine HV.out.mono ?_
      rintro e w1 ⟨rfl, hb1⟩
      have B1 := Lib.hid (B0.out.trans (hb1.mono B0.out.size))
      have PC1 := Lib.hid (PC.out.below hb1)
      have z1 := hb1.size
      clear hb1 p0 p1 p2 p3 z HV PC
      obtain ⟨z, p0, p1, p2, p3⟩ := PC1.out
      go_wp2_with fail
      go_ret
      exact ⟨rfl, B1.out⟩
    · by_cases h2 : (c.outs.length : Int) ≤ o
      · rw [hv] at HV
        have t1 : decide (o < 0) = false := decide_eq_false (by omega)
        have t2 : decide ((c.outs.length : Int) ≤ o) = true := decide_eq_true h2
        clear h1 h2
        clear hv Hno
        go_enter Try.func22, Try.ntmps22
        go_wp2_with fail
        generalize w.alloc (.cells #[.int .i64 c.ins, .slice An c.next.length cn, .slice Ag c.gates.length cg, .slice Ao c.outs.length co] 26) = W at *
        refine HV.out.mono ?_
        rintro e w1 ⟨rfl, hb1⟩
        have B1 := Lib.hid (B0.out.trans (hb1.mono B0.out.size))
        have PC1 := Lib.hid (PC.out.below hb1)
        have z1 := hb1.size
        clear hb1 p0 p1 p2 p3 z HV PC
        obtain ⟨z, p0, p1, p2, p3⟩ := PC1.out
        go_wp2_with fail
        go_ret
        exact ⟨rfl, B1.out⟩
      · by_cases h3 : k < 1
        · rw [hv] at HV
          have t1 : decide (o < 0) = false := decide_eq_false (by omega)
          have t2 : decide ((c.outs.length : Int) ≤ o) = false := decide_eq_false (by omega)
          have t3 : decide (k < 1) = true := decide_eq_true h3
          clear h1 h2 h3
          clear hv Hno
          go_enter Try.func22, Try.ntmps22
          go_wp2_with fail
          generalize w.alloc (.cells #[.int .i64 c.ins, .slice An c.next.length cn, .slice Ag c.gates.length cg, .slice Ao c.outs.length co] 26) = W at *
          refine HV.out.mono ?_
          rintro e w1 ⟨rfl, hb1⟩
          have B1 := Lib.hid (B0.out.trans (hb1.mono B0.out.size))
          have PC1 := Lib.hid (PC.out.below hb1)
          have z1 := hb1.size
          clear hb1 p0 p1 p2 p3 z HV PC
          obtain ⟨z, p0, p1, p2, p3⟩ := PC1.out
          go_wp2_with fail
          go_ret
          exact ⟨rfl, B1.out⟩
        · by_cases h4 : 4 < k
          · rw [hv] at HV
            have t1 : decide (o < 0) = false := decide_eq_false (by omega)
            have t2 : decide ((c.outs.length : Int) ≤ o) = false := decide_eq_false (by omega)
            have t3 : decide (k < 1) = false := decide_eq_false (by omega)
            have t4 : decide (4 < k) = true := decide_eq_true h4
            clear h1 h2 h3 h4
            clear hv Hno
            go_enter Try.func22, Try.ntmps22
            go_wp2_with fail
            generalize w.alloc (.cells #[.int .i64 c.ins, .slice An c.next.length cn, .slice Ag c.gates.length cg, .slice Ao c.outs.length co] 26) = W at *
            refine HV.out.mono ?_
            rintro e w1 ⟨rfl, hb1⟩
            have B1 := Lib.hid (B0.out.trans (hb1.mono B0.out.size))
            have PC1 := Lib.hid (PC.out.below hb1)
            have z1 := hb1.size
            clear hb1 p0 p1 p2 p3 z HV PC
            obtain ⟨z, p0, p1, p2, p3⟩ := PC1.out
            go_wp2_with fail
            go_ret
            exact ⟨rfl, B1.out⟩
          · exact absurd (by unfold Cir.indOk; exact ⟨hv, ⟨by omega, by omega⟩, by omega, by omega⟩) Hno.out
theorem implInd_any (v : Value) (c : Cz) (o k : Int) (w : World) (h : CircAt w v c) :
    Calls Try.prog 22 #[v, .int .i64 o, .int .i64 k] w fun e w' => e = .returned (.bool (Cir.indI c o k)) ∧ Below w.heap.size w w' := by
  by_cases hc : Cir.indOk c o k
  · rw [Cir.indI_yes hc]
    obtain ⟨hv, ⟨h1, h2⟩, h3, h4⟩ := hc
    obtain ⟨d1, d2⟩ := Cir.nat_ok hv
    obtain ⟨m, rfl⟩ := Int.eq_ofNat_of_zero_le h1
    obtain ⟨q, rfl⟩ := Int.eq_ofNat_of_zero_le (show 0 ≤ k by omega)
    exact implInd_ok v (Cir.nat c) m q w (by rw [← d1]; exact h) d2 (by rw [← d1]; exact hv) (by unfold Cir.nat; simp only [List.length_map]; omega) (by omega) (by omega)
  · rw [Cir.indI_no hc]
    exact implInd_no v c o k w h hc
end Go.Proofs.Ytkkkjbinfdohpaa

namespace Go.Proofs.Ytkkkjbinfdohpaa
open Go.RowKit
/-- A value of an own row of booleans, as it lies in memory. -/
theorem bools_at_own {w : World} {B n : Nat} {v : Value} {xs : List Bool} (h : w.ownsRow B 4 1 v n (bools xs)) (hn : xs.length = n) : BoolsAt w v xs := by subst hn; exact Row.of_own h
theorem boolsAt_cell {w : World} {u : Value} {xs : List Bool} {i : Nat} {b : Bool} (h : BoolsAt w u xs) (hx : xs[i]? = some b) : ∃ bb oo c, u = .slice (some ⟨bb, oo, none⟩) xs.length c ∧ bb < w.heap.size ∧ w.cell? ⟨bb, oo + i, none⟩ = some (.bool b) := by
  have hi := (List.getElem?_eq_some_iff.1 hx).1
  obtain ⟨A, c, rfl, -, -⟩ := Row.shape h
  obtain ⟨b', o', x, hA, hbl, hxx, hcell⟩ := bools_open (w := w) (wr := w) h (Below.refl _ _) (i := i) rfl hi
  subst hA
  obtain rfl : x = b := Option.some.inj (hxx.out.symm.trans hx)
  exact ⟨b', o', c, rfl, hbl, hcell⟩
end Go.Proofs.Ytkkkjbinfdohpaa

namespace Go.Proofs.Ytkkkjbinfdohpaa
open Go.RowKit
set_option maxRecDepth 100000
/-! Inductive, by the reference. -/
namespace Cir
def safeJ (c : Ci) (o k s j : Nat) : Bool := (List.range j).all fun x => !bad c o s x && safe c o k (nextOf c s x)
theorem safeJ_succ (c : Ci) (o k s j : Nat) : safeJ c o k s (j + 1) = (safeJ c o k s j && (!bad c o s j && safe c o k (nextOf c s j))) := by
  unfold safeJ; rw [List.range_succ, List.all_append]; simp
def safes (c : Ci) (o k n : Nat) : List Bool := (List.range n).map (safe c o k)
theorem safes_succ (c : Ci) (o k n : Nat) : safes c o k (n + 1) = safes c o k n ++ [safe c o k n] := by
  unfold safes; rw [List.range_succ, List.map_append]; rfl
theorem safes_length (c : Ci) (o k n : Nat) : (safes c o k n).length = n := by unfold safes; simp
theorem safes_get {c : Ci} {o k n i : Nat} (h : i < n) : (safes c o k n)[i]? = some (safe c o k i) := by unfold safes; simp [h]
theorem stepB_hit {c : Ci} {o k s j : Nat} (hj : j < 2 ^ c.ins) (hb : bad c o s j = false) (h : stepB c o k (nextOf c s j) = false) : stepB c o (k + 1) s = false := by
  refine Bool.eq_false_iff.2 fun ht => ?_
  rcases stepB_succ.1 ht j hj with h1 | h1
  · rw [hb] at h1; cases h1
  · rw [h] at h1; cases h1
theorem stepB_hit0 {c : Ci} {o s j : Nat} (hj : j < 2 ^ c.ins) (hb : bad c o s j = true) : stepB c o 0 s = false := by
  refine Bool.eq_false_iff.2 fun ht => ?_
  have := stepB_zero.1 ht j hj
  rw [hb] at this; cases this
end Cir
theorem bad_get {d : Ci} {o s x : Nat} (ho : o < d.outs.length) : (Cir.outsOf d s x)[o]? = some (Cir.bad d o s x) := by
  unfold Cir.bad
  rw [List.getD_eq_getElem?_getD, List.getElem?_eq_getElem (by rw [outsOf_length]; exact ho)]
  rfl
end Go.Proofs.Ytkkkjbinfdohpaa

namespace Go.Proofs.Ytkkkjbinfdohpaa
open Go.RowKit
set_option maxRecDepth 100000
/-! Inductive, by the reference: the step of the induction, and the whole. -/
end Go.Proofs.Ytkkkjbinfdohpaa

namespace Go.Proofs.Ytkkkjbinfdohpaa
namespace Cir
/-! Simulation, plainly; reachable states as states of runs; what the inputs of a violation do. -/
theorem num_bit : ∀ (l : List Bool) (i : Nat), (num l).testBit i = l.getD i false
  | [], i => by simp [num]
  | b :: l, 0 => by
    rw [num, Nat.testBit_zero]
    cases b <;> simp <;> omega
  | b :: l, i + 1 => by
    rw [num, Nat.testBit_succ, show ((if b = true then 1 else 0) + 2 * num l) / 2 = num l from by cases b <;> simp <;> omega, num_bit l i]
    simp
theorem bits_num (l : List Bool) : bits (num l) l.length = l := by
  unfold bits
  apply List.ext_getElem
  · simp
  · intro i h1 h2
    simp [num_bit, List.getElem?_eq_getElem h2]
theorem bits_numL {l : List Bool} {n : Nat} (h : l.length = n) : bits (num l) n = l := h ▸ bits_num l
theorem lits_len (v : List Bool) (ls : List Nat) : (lits v ls).length = ls.length := List.length_map _
/-- The outputs, cycle by cycle. -/
def simL (c : Ci) : List Bool → List (List Bool) → List (List Bool)
  | _, [] => []
  | st, r :: rs => lits (vals c st r) c.outs :: simL c (lits (vals c st r) c.next) rs
/-- The state behind some cycles. -/
def runL (c : Ci) : List Bool → List (List Bool) → List Bool
  | st, [] => st
  | st, r :: rs => runL c (lits (vals c st r) c.next) rs
theorem simL_length (c : Ci) : ∀ (rs : List (List Bool)) (st : List Bool), (simL c st rs).length = rs.length
  | [], _ => rfl
  | r :: rs, st => by rw [simL, List.length_cons, simL_length c rs, List.length_cons]
theorem simL_snoc (c : Ci) (r : List Bool) : ∀ (rs : List (List Bool)) (st : List Bool), simL c st (rs ++ [r]) = simL c st rs ++ [lits (vals c (runL c st rs) r) c.outs]
  | [], _ => rfl
  | q :: rs, st => by rw [List.cons_append, simL, simL_snoc c r rs, simL, runL, List.cons_append]
theorem runL_snoc (c : Ci) (r : List Bool) : ∀ (rs : List (List Bool)) (st : List Bool), runL c st (rs ++ [r]) = lits (vals c (runL c st rs) r) c.next
  | [], _ => rfl
  | q :: rs, st => by rw [List.cons_append, runL, runL_snoc c r rs, runL]
theorem runL_append (c : Ci) (ts : List (List Bool)) : ∀ (rs : List (List Bool)) (st : List Bool), runL c st (rs ++ ts) = runL c (runL c st rs) ts
  | [], _ => rfl
  | q :: rs, st => by rw [List.cons_append, runL, runL_append c ts rs, runL]
theorem runL_length (c : Ci) : ∀ (rs : List (List Bool)) (st : List Bool), st.length = c.next.length → (runL c st rs).length = c.next.length
  | [], _, h => h
  | r :: rs, st, _ => runL_length c rs _ (lits_len _ _)
/-- The same, of numbers. -/
def runN (c : Ci) : Nat → List Nat → Nat
  | s, [] => s
  | s, x :: xs => runN c (nextOf c s x) xs
theorem runN_snoc (c : Ci) (x : Nat) : ∀ (xs : List Nat) (s : Nat), runN c s (xs ++ [x]) = nextOf c (runN c s xs) x
  | [], _ => rfl
  | y :: xs, s => by rw [List.cons_append, runN, runN_snoc c x xs, runN]
def rowsN (n : Nat) (xs : List Nat) : List (List Bool) := xs.map fun x => bits x n
theorem lits_next (c : Ci) (s x : Nat) : lits (vals c (bits s c.next.length) (bits x c.ins)) c.next = bits (nextOf c s x) c.next.length := (bits_numL (lits_len _ _)).symm
theorem runL_rows (c : Ci) : ∀ (xs : List Nat) (s : Nat), runL c (bits s c.next.length) (rowsN c.ins xs) = bits (runN c s xs) c.next.length
  | [], _ => rfl
  | x :: xs, s => by
    show runL c (lits (vals c (bits s c.next.length) (bits x c.ins)) c.next) (rowsN c.ins xs) = _
    rw [lits_next, runL_rows c xs]
    rfl
theorem simL_rows (c : Ci) : ∀ (xs : List Nat) (s i : Nat), (simL c (bits s c.next.length) (rowsN c.ins xs))[i]? = (xs[i]?).map fun x => outsOf c (runN c s (xs.take i)) x
  | [], _, i => by simp [rowsN, simL]
  | x :: xs, s, 0 => rfl
  | x :: xs, s, i + 1 => by
    show (simL c (lits (vals c (bits s c.next.length) (bits x c.ins)) c.next) (rowsN c.ins xs))[i]? = _
    rw [lits_next, simL_rows c xs, List.getElem?_cons_succ, List.take_succ_cons]
    rfl
theorem bits_zero (n : Nat) : bits 0 n = List.replicate n false := by
  unfold bits
  apply List.ext_getElem
  · simp
  · intro i h1 h2; simp
/-! ### Reachable states -/
theorem mem_push {l : List Nat} {n x : Nat} : x ∈ push l n ↔ x ∈ l ∨ x = n := by
  unfold push
  cases h : l.contains n
  · simp
  · have hn : n ∈ l := by simpa using h
    simp only [if_true]
    exact ⟨.inl, fun h => h.elim id fun e => e ▸ hn⟩
theorem mem_pushes {c : Ci} {s : Nat} {l : List Nat} {y : Nat} : ∀ {j : Nat}, y ∈ pushes c s j l ↔ y ∈ l ∨ ∃ x, x < j ∧ nextOf c s x = y
  | 0 => by rw [pushes_zero]; exact ⟨.inl, fun h => h.elim id fun ⟨x, hx, _⟩ => absurd hx (by omega)⟩
  | j + 1 => by
    rw [pushes_succ, mem_push, mem_pushes (j := j)]
    constructor
    · rintro ((h | ⟨x, hx, h⟩) | h)
      · exact .inl h
      · exact .inr ⟨x, by omega, h⟩
      · exact .inr ⟨j, by omega, h.symm⟩
    · rintro (h | ⟨x, hx, h⟩)
      · exact .inl (.inl h)
      · rcases Nat.lt_or_ge x j with hj | hj
        · exact .inl (.inr ⟨x, hj, h⟩)
        · exact .inr (by rw [← h, show x = j from by omega])
theorem bfs_get {c : Ci} : ∀ (f k : Nat) {l : List Nat} {i x : Nat}, l[i]? = some x → (bfs c f k l)[i]? = some x
  | 0, _, _, _, _, h => h
  | f + 1, k, l, i, x, h => by
    rw [bfs]
    split
    · exact h
    · exact bfs_get f (k + 1) (pushes_get h)
theorem bfs_closed {c : Ci} (hc : Ok c) : ∀ (f k : Nat) (l : List Nat), 9 ≤ f + k → Sts c l → k ≤ l.length → (∀ i s, i < k → l[i]? = some s → ∀ x, x < 2 ^ c.ins → nextOf c s x ∈ l) → ∀ s ∈ bfs c f k l, ∀ x, x < 2 ^ c.ins → nextOf c s x ∈ bfs c f k l
  | 0, k, l, hf, hl, hk, _ => absurd (hl.len hc) (by omega)
  | f + 1, k, l, hf, hl, hk, h => by
    rw [bfs]
    cases hs : l[k]? with
    | none =>
      intro s hm x hx
      have hm : s ∈ l := hm
      obtain ⟨i, hi, rfl⟩ := List.mem_iff_getElem.1 hm
      have hkl : l.length ≤ k := by simpa using hs
      exact h i _ (by omega) (List.getElem?_eq_getElem hi) x hx
    | some t =>
      simp only
      obtain ⟨hkl, ht⟩ := List.getElem?_eq_some_iff.1 hs
      obtain ⟨m, hm⟩ := pushes_prefix c t l (2 ^ c.ins)
      refine bfs_closed hc f (k + 1) _ (by omega) (hl.pushes t _) (by rw [hm, List.length_append]; omega) fun i s hi hs' x hx => ?_
      have hil : i < l.length := by omega
      rw [hm, List.getElem?_append_left hil] at hs'
      rcases Nat.lt_or_ge i k with h1 | h1
      · exact mem_pushes.2 (.inl (h i s h1 hs' x hx))
      · obtain rfl : i = k := by omega
        rw [hs] at hs'
        obtain rfl := Option.some.inj hs'
        exact mem_pushes.2 (.inr ⟨x, hx, rfl⟩)
theorem reach_closed {c : Ci} (hc : Ok c) {s x : Nat} (h : s ∈ reach c) (hx : x < 2 ^ c.ins) : nextOf c s x ∈ reach c :=
  bfs_closed hc 9 0 [0] (by omega) (Sts.zero c) (by omega) (fun i s hi => by omega) s h x hx
theorem reach_zero (c : Ci) : 0 ∈ reach c := List.mem_of_getElem? (bfs_get (c := c) 9 0 (l := [0]) (i := 0) rfl)
def Inputs (c : Ci) (p : List Nat) : Prop := ∀ x ∈ p, x < 2 ^ c.ins
theorem Inputs.snoc {c : Ci} {p : List Nat} {x : Nat} (h : Inputs c p) (hx : x < 2 ^ c.ins) : Inputs c (p ++ [x]) := fun y hy => by
  rcases List.mem_append.1 hy with h1 | h1
  · exact h y h1
  · rw [List.mem_singleton.1 h1]; exact hx
theorem Inputs.take {c : Ci} {p : List Nat} (h : Inputs c p) (i : Nat) : Inputs c (p.take i) := fun x hx => h x (List.mem_of_mem_take hx)
theorem run_reach {c : Ci} (hc : Ok c) : ∀ (p : List Nat) (s : Nat), s ∈ reach c → Inputs c p → runN c s p ∈ reach c
  | [], _, h, _ => h
  | x :: p, s, h, hp => run_reach hc p _ (reach_closed hc h (hp x (by simp))) fun y hy => hp y (List.mem_cons_of_mem _ hy)
theorem bfs_run {c : Ci} : ∀ (f k : Nat) (l : List Nat), (∀ s ∈ l, ∃ p, Inputs c p ∧ runN c 0 p = s) → ∀ s ∈ bfs c f k l, ∃ p, Inputs c p ∧ runN c 0 p = s
  | 0, _, _, h => h
  | f + 1, k, l, h => by
    rw [bfs]
    cases hs : l[k]? with
    | none => exact h
    | some t =>
      refine bfs_run f (k + 1) _ fun s hm => ?_
      rcases mem_pushes.1 hm with h1 | ⟨x, hx, h1⟩
      · exact h s h1
      · obtain ⟨p, hp, hr⟩ := h t (List.mem_of_getElem? hs)
        exact ⟨p ++ [x], hp.snoc hx, by rw [runN_snoc, hr, h1]⟩
theorem reach_run {c : Ci} {s : Nat} (h : s ∈ reach c) : ∃ p, Inputs c p ∧ runN c 0 p = s :=
  bfs_run 9 0 [0] (fun s hs => ⟨[], fun x hx => (by cases hx), (List.mem_singleton.1 hs).symm⟩) s h
/-! ### Violations -/
theorem vfind_no {c : Ci} {o s M : Nat} (h : vfind c o s M = none) {x : Nat} (hx : x < M) : bad c o s x = false := by
  unfold vfind at h
  rw [List.find?_eq_none] at h
  simpa using h x (List.mem_range.2 hx)
theorem vfind_hit {c : Ci} {o s M x : Nat} (h : vfind c o s M = some x) : x < M ∧ bad c o s x = true := by
  unfold vfind at h
  exact ⟨List.mem_range.1 (List.mem_of_find?_eq_some h), List.find?_some h⟩
theorem vbfs_none {c : Ci} (hc : Ok c) (o : Nat) : ∀ (f k : Nat) (l : List (Nat × List Nat)), 9 ≤ f + k → Vs c l → k ≤ l.length →
    (vbfs c o f k l = none ↔ ∀ i s, k ≤ i → (bfs c f k (vsts l))[i]? = some s → ∀ x, x < 2 ^ c.ins → bad c o s x = false)
  | 0, k, l, hf, hl, hk => absurd (hl.size hc) (by omega)
  | f + 1, k, l, hf, hl, hk => by
    rw [vbfs, bfs]
    cases hs : l[k]? with
    | none =>
      have hkl : l.length ≤ k := by simpa using hs
      have hv : (vsts l)[k]? = none := by rw [List.getElem?_eq_none_iff, vsts_length]; exact hkl
      rw [hv]
      refine ⟨fun _ i s hi h => ?_, fun _ => rfl⟩
      simp only at h
      rw [List.getElem?_eq_none (by rw [vsts_length]; omega)] at h
      cases h
    | some sp =>
      obtain ⟨s, p⟩ := sp
      have hv := vsts_get hs
      rw [hv]
      have hkl := (List.getElem?_eq_some_iff.1 hs).1
      obtain ⟨m, hm⟩ := vpushes_prefix c s p l (2 ^ c.ins)
      have hget : ∀ F K L i y, (vsts l)[i]? = some y → (bfs c F K (pushes c s L (vsts l)))[i]? = some y := fun F K L i y h => bfs_get F K (pushes_get h)
      simp only
      cases hfd : vfind c o s (2 ^ c.ins) with
      | some x =>
        obtain ⟨h1, h2⟩ := vfind_hit hfd
        refine ⟨fun h => (by cases h), fun h => ?_⟩
        have := h k s (Nat.le_refl _) (hget _ _ _ _ _ hv) x h1
        rw [h2] at this; cases this
      | none =>
        have IH := vbfs_none hc o f (k + 1) (vpushes c s p (2 ^ c.ins) l) (by omega) (hl.pushes hs _ (Nat.le_refl _)) (by rw [hm, List.length_append]; omega)
        rw [vsts_vpushes] at IH
        rw [IH]
        constructor
        · intro h i t hi ht x hx
          rcases Nat.lt_or_ge k i with h1 | h1
          · exact h i t h1 ht x hx
          · obtain rfl : i = k := by omega
            rw [hget _ _ _ _ _ hv] at ht
            obtain rfl := Option.some.inj ht
            exact vfind_no hfd hx
        · exact fun h i t hi ht x hx => h i t (by omega) ht x hx
theorem viol_none {c : Ci} (hc : Ok c) {o : Nat} : viol c o = none ↔ ∀ s ∈ reach c, ∀ x, x < 2 ^ c.ins → bad c o s x = false := by
  rw [viol, vbfs_none hc o 9 0 _ (by omega) (Vs.zero c) (by omega)]
  constructor
  · intro h s hs x hx
    obtain ⟨i, hi, rfl⟩ := List.mem_iff_getElem.1 hs
    exact h i _ (Nat.zero_le _) (List.getElem?_eq_getElem hi) x hx
  · exact fun h i s _ hs x hx => h s (List.mem_of_getElem? hs) x hx
/-- The output is 0 in all cycles. -/
def clean (c : Ci) (o : Nat) : Nat → List Nat → Bool
  | _, [] => true
  | s, x :: xs => !bad c o s x && clean c o (nextOf c s x) xs
theorem clean_snoc (c : Ci) (o x : Nat) : ∀ (p : List Nat) (s : Nat), clean c o s (p ++ [x]) = (clean c o s p && !bad c o (runN c s p) x)
  | [], s => by simp [clean, runN]
  | y :: p, s => by rw [List.cons_append, clean, clean_snoc c o x p, clean, runN, Bool.and_assoc]
theorem clean_get {c : Ci} {o : Nat} : ∀ (p : List Nat) (s i : Nat) {x : Nat}, clean c o s p = true → p[i]? = some x → bad c o (runN c s (p.take i)) x = false
  | [], _, _, _, _, h => by simp at h
  | y :: p, s, 0, x, h, hx => by
    rw [clean, Bool.and_eq_true] at h
    obtain rfl : y = x := by simpa using hx
    simpa [runN] using h.1
  | y :: p, s, i + 1, x, h, hx => by
    rw [clean, Bool.and_eq_true] at h
    rw [List.take_succ_cons, runN]
    exact clean_get p _ i h.2 (by simpa using hx)
theorem viol_none_clean {c : Ci} (hc : Ok c) {o : Nat} (h : viol c o = none) : ∀ (p : List Nat) (s : Nat), s ∈ reach c → Inputs c p → clean c o s p = true
  | [], _, _, _ => rfl
  | x :: p, s, hs, hp => by
    have hx := hp x (by simp)
    rw [clean, (viol_none hc).1 h s hs x hx, viol_none_clean hc h p _ (reach_closed hc hs hx) fun y hy => hp y (List.mem_cons_of_mem _ hy)]
    rfl
theorem viol_none_of {c : Ci} (hc : Ok c) {o : Nat} (h : ∀ p, Inputs c p → clean c o 0 p = true) : viol c o = none := by
  refine (viol_none hc).2 fun s hs x hx => ?_
  obtain ⟨p, hp, rfl⟩ := reach_run hs
  have := h _ (hp.snoc hx)
  rw [clean_snoc, Bool.and_eq_true] at this
  simpa using this.2
def Paths (c : Ci) (o : Nat) (l : List (Nat × List Nat)) : Prop := ∀ e ∈ l, Inputs c e.2 ∧ runN c 0 e.2 = e.1 ∧ clean c o 0 e.2 = true
theorem Paths.pushes {c : Ci} {o : Nat} {l : List (Nat × List Nat)} (h : Paths c o l) {s : Nat} {p : List Nat} (hp : (s, p) ∈ l) (hb : ∀ x, x < 2 ^ c.ins → bad c o s x = false) : ∀ j, j ≤ 2 ^ c.ins → Paths c o (vpushes c s p j l)
  | 0, _ => h
  | j + 1, hj => by
    have IH := Paths.pushes h hp hb j (by omega)
    rw [vpushes_succ]
    unfold vpush
    split
    · exact IH
    · intro e he
      rcases List.mem_append.1 he with h1 | h1
      · exact IH e h1
      · obtain rfl := List.mem_singleton.1 h1
        obtain ⟨a1, a2, a3⟩ := h _ hp
        simp only at a1 a2 a3
        exact ⟨a1.snoc (by omega), by rw [runN_snoc, a2], by rw [clean_snoc, a3, a2, hb j (by omega)]; rfl⟩
theorem vbfs_path {c : Ci} (o : Nat) : ∀ (f k : Nat) (l : List (Nat × List Nat)), Paths c o l → ∀ r, vbfs c o f k l = some r → ∃ q x, r = q ++ [x] ∧ Inputs c q ∧ x < 2 ^ c.ins ∧ clean c o 0 q = true ∧ bad c o (runN c 0 q) x = true
  | 0, _, _, _, r, h => by cases h
  | f + 1, k, l, hl, r, h => by
    rw [vbfs] at h
    cases hs : l[k]? with
    | none => rw [hs] at h; cases h
    | some sp =>
      obtain ⟨s, p⟩ := sp
      rw [hs] at h
      simp only at h
      have hm := List.mem_of_getElem? hs
      cases hfd : vfind c o s (2 ^ c.ins) with
      | some x =>
        rw [hfd] at h
        obtain ⟨h1, h2⟩ := vfind_hit hfd
        obtain ⟨a1, a2, a3⟩ := hl _ hm
        simp only at a1 a2 a3
        exact ⟨p, x, (Option.some.inj h).symm, a1, h1, a3, by rw [a2]; exact h2⟩
      | none =>
        rw [hfd] at h
        exact vbfs_path o f (k + 1) _ (hl.pushes hm (fun x hx => vfind_no hfd hx) _ (Nat.le_refl _)) r h
theorem viol_path {c : Ci} {o : Nat} {r : List Nat} (h : viol c o = some r) : ∃ q x, r = q ++ [x] ∧ Inputs c q ∧ x < 2 ^ c.ins ∧ clean c o 0 q = true ∧ bad c o (runN c 0 q) x = true :=
  vbfs_path o 9 0 _ (fun e he => by
    obtain rfl := List.mem_singleton.1 he
    exact ⟨fun x hx => (by cases hx), rfl, rfl⟩) r h
/-- The output is 1 in the last cycle alone. -/
theorem viol_outs {c : Ci} {o : Nat} {r : List Nat} (h : viol c o = some r) {i x : Nat} (hi : r[i]? = some x) : bad c o (runN c 0 (r.take i)) x = (i + 1 == r.length) := by
  obtain ⟨q, y, rfl, -, -, h3, h4⟩ := viol_path h
  have hlt := (List.getElem?_eq_some_iff.1 hi).1
  rw [List.length_append, List.length_singleton] at hlt ⊢
  rcases Nat.lt_or_ge i q.length with h1 | h1
  · rw [List.getElem?_append_left h1] at hi
    rw [List.take_append_of_le_length (by omega), clean_get q 0 i h3 hi]
    symm
    rw [beq_eq_false_iff_ne]
    omega
  · obtain rfl : i = q.length := by omega
    rw [List.getElem?_append_right (Nat.le_refl _), Nat.sub_self] at hi
    obtain rfl : y = x := by simpa using hi
    rw [List.take_left, h4]
    simp
theorem viol_pos {c : Ci} {o : Nat} {r : List Nat} (h : viol c o = some r) : 0 < r.length := by
  obtain ⟨q, y, rfl, -⟩ := viol_path h
  simp
end Cir
end Go.Proofs.Ytkkkjbinfdohpaa

namespace Go.Proofs.Ytkkkjbinfdohpaa
namespace Cir
/-! Induction over clock cycles is sound, plainly. -/
def Sub (S T : Nat → Bool) : Prop := ∀ s, s < 8 → S s = true → T s = true
theorem adv_mono {c : Ci} {o : Nat} {S T : Nat → Bool} (h : Sub S T) : Sub (adv c o S) (adv c o T) := fun y _ hy => by
  obtain ⟨s, hs, h1, h2⟩ := adv_iff.1 hy
  exact adv_iff.2 ⟨s, hs, h s hs h1, h2⟩
theorem advN_mono {c : Ci} {o : Nat} {S T : Nat → Bool} (h : Sub S T) : ∀ j, Sub (advN c o S j) (advN c o T j)
  | 0 => h
  | j + 1 => adv_mono (advN_mono h j)
theorem good_mono {c : Ci} {o : Nat} {S T : Nat → Bool} (h : Sub S T) (hT : good c o T = true) : good c o S = true :=
  good_iff.2 fun s hs hS => good_iff.1 hT s hs (h s hs hS)
theorem advN_add (c : Ci) (o : Nat) (S : Nat → Bool) (i : Nat) : ∀ j, advN c o S (i + j) = advN c o (advN c o S i) j
  | 0 => rfl
  | j + 1 => by
    show adv c o (advN c o S (i + j)) = adv c o (advN c o (advN c o S i) j)
    rw [advN_add c o S i j]
theorem adv_upTo {c : Ci} {o : Nat} {S : Nat → Bool} : Sub (adv c o S) (upTo (2 ^ c.next.length)) := fun y _ hy => by
  obtain ⟨s, _, _, x, _, _, rfl⟩ := adv_iff.1 hy
  exact decide_eq_true (nextOf_lt c s x)
theorem only0_upTo (c : Ci) : Sub only0 (upTo (2 ^ c.next.length)) := fun s _ hs => by
  have : s = 0 := by simpa [only0] using hs
  rw [this]
  exact decide_eq_true (Nat.pow_pos (by decide))
theorem start_upTo (c : Ci) (o : Nat) : ∀ i, Sub (advN c o only0 i) (upTo (2 ^ c.next.length))
  | 0 => only0_upTo c
  | _ + 1 => adv_upTo
theorem ind_parts {c : Ci} {o k : Nat} (h : ind c o k = true) : (∀ j, j < k → good c o (advN c o only0 j) = true) ∧ good c o (advN c o (upTo (2 ^ c.next.length)) k) = true := by
  unfold ind at h
  rw [Bool.and_eq_true, List.all_eq_true] at h
  exact ⟨fun j hj => h.1 j (List.mem_range.2 hj), h.2⟩
theorem ind_all {c : Ci} {o k : Nat} (h : ind c o k = true) (j : Nat) : good c o (advN c o only0 j) = true := by
  obtain ⟨h1, h2⟩ := ind_parts h
  rcases Nat.lt_or_ge j k with hj | hj
  · exact h1 j hj
  · obtain ⟨i, rfl⟩ : ∃ i, j = i + k := ⟨j - k, by omega⟩
    rw [advN_add]
    exact good_mono (advN_mono (start_upTo c o i) k) h2
theorem ind_succ {c : Ci} {o k : Nat} (h : ind c o k = true) : ind c o (k + 1) = true := by
  rw [ind_yes fun j _ => ind_all h j, advN_adv]
  exact good_mono (advN_mono adv_upTo k) (ind_parts h).2
theorem run_adv {c : Ci} (hc : Ok c) {o : Nat} (h : ∀ j, good c o (advN c o only0 j) = true) : ∀ (n : Nat) (p : List Nat), p.length = n → Inputs c p → advN c o only0 n (runN c 0 p) = true ∧ runN c 0 p < 2 ^ c.next.length
  | 0, p, hl, _ => by
    obtain rfl := List.eq_nil_of_length_eq_zero hl
    exact ⟨rfl, Nat.pow_pos (by decide)⟩
  | n + 1, p, hl, hp => by
    have hne : p ≠ [] := by intro e; rw [e] at hl; simp at hl
    obtain ⟨q, x, rfl⟩ : ∃ q x, p = q ++ [x] := ⟨p.dropLast, p.getLast hne, (List.dropLast_concat_getLast hne).symm⟩
    have hq : q.length = n := by simpa using hl
    obtain ⟨h1, h2⟩ := run_adv hc h n q hq fun y hy => hp y (List.mem_append_left _ hy)
    have hx : x < 2 ^ c.ins := hp x (by simp)
    have h8 : 2 ^ c.next.length ≤ 2 ^ 3 := Nat.pow_le_pow_right (show 0 < 2 by decide) hc.nexts
    have hb := good_iff.1 (h n) (runN c 0 q) (by omega) h1 x hx
    rw [runN_snoc]
    exact ⟨adv_iff.2 ⟨runN c 0 q, by omega, h1, x, hx, hb, rfl⟩, nextOf_lt c _ _⟩
theorem ind_viol {c : Ci} (hc : Ok c) {o k : Nat} (h : ind c o k = true) : viol c o = none := by
  refine (viol_none hc).2 fun s hs x hx => ?_
  obtain ⟨p, hp, rfl⟩ := reach_run hs
  obtain ⟨h1, h2⟩ := run_adv hc (ind_all h) p.length p rfl hp
  have h8 : 2 ^ c.next.length ≤ 2 ^ 3 := Nat.pow_le_pow_right (show 0 < 2 by decide) hc.nexts
  exact good_iff.1 (ind_all h p.length) _ (by omega) h1 x hx
end Cir
end Go.Proofs.Ytkkkjbinfdohpaa

namespace Go.Proofs.Ytkkkjbinfdohpaa
/-! Drawn regions with guards whose values are known (gl): a guarded operation is run, or it is skipped. -/
def look1 (gl : List (Nat × Option Bool)) (j : Nat) : Option (Option Bool) := gl.lookup j
/-- The value of a guard: none stands for one that is itself skipped. -/
@[reducible] def gvalO : Option Bool → Value
  | some b => .bool b
  | none => undef
/-- The operation as it runs: without its guard, or as a move of nothing. -/
def norm1 (gl : List (Nat × Option Bool)) (o : Oper) : Oper := match o with
  | ⟨d, op, ty, pos, aft, none⟩ => ⟨d, op, ty, pos, aft, none⟩
  | ⟨d, op, ty, pos, aft, some (j, b)⟩ => if look1 gl j = some (some b) then ⟨d, op, ty, pos, aft, none⟩ else ⟨d, .move (.const undef), ty, pos, aft, none⟩
theorem norm1_dst (gl : List (Nat × Option Bool)) (o : Oper) : (norm1 gl o).dst = o.dst := by
  obtain ⟨d, op, ty, pos, aft, g⟩ := o
  cases g with
  | none => rfl
  | some p => obtain ⟨j, b⟩ := p; unfold norm1; simp only; split <;> rfl
def rgG (gl : List (Nat × Option Bool)) (ops : Array Oper) : Bool :=
  (List.range ops.size).all fun i => match ops[i]? with
    | none => true
    | some o => (match o.guard with | none => true | some (j, _) => decide (j < i) && ancB ops 4 j i && (look1 gl j).isSome && ((ops[j]?).bind (·.dst)).isSome) && o.after.all (fun e => !Region.binds .any e || decide (e.on < i)) &&
        (match o.op with | .select .. => false | .assign _ => o.guard.isNone | _ => true) &&
        (List.range i).all fun j => match ops[j]? with
          | none => true
          | some p => (p.dst.isNone || p.dst != o.dst) && (!clash p o || ancB ops 4 j i)
section
variable {P : Program} {ops : Array Oper} {gl : List (Nat × Option Bool)}
structure RgGOk (gl : List (Nat × Option Bool)) (ops : Array Oper) (i : Nat) (o : Oper) : Prop where
  guard : ∀ j b, o.guard = some (j, b) → j < i ∧ ancB ops 4 j i = true ∧ ∃ x p t, look1 gl j = some x ∧ ops[j]? = some p ∧ p.dst = some t
  back : ∀ e ∈ o.after, Region.binds .any e = true → e.on < i
  sel : ∀ cs b, o.op ≠ .select cs b
  asg : ∀ x, o.op = .assign x → o.guard = none
  one : ∀ j p, j < i → ops[j]? = some p → ∀ d, p.dst = some d → o.dst ≠ some d
  anc : ∀ j p, j < i → ops[j]? = some p → clash p o = true → ancB ops 4 j i = true
theorem rgG_ok (h : rgG gl ops = true) {i : Nat} {o : Oper} (ho : ops[i]? = some o) : RgGOk gl ops i o := by
  have hlt : i < ops.size := (Array.getElem?_eq_some_iff.1 ho).1
  have h1 := List.all_eq_true.1 h i (List.mem_range.2 hlt)
  simp only [ho, Bool.and_eq_true] at h1
  obtain ⟨⟨⟨h1, h2⟩, h3⟩, h4⟩ := h1
  refine ⟨fun j b hg => ?_, fun e he hb => ?_, fun cs b e => by simp [e] at h3, fun x e => by simpa [e] using h3, fun j p hj hp d hd e => ?_, fun j p hj hp hc => ?_⟩
  · rw [hg] at h1
    simp only [Bool.and_eq_true, decide_eq_true_iff] at h1
    obtain ⟨⟨⟨a1, a2⟩, a3⟩, a4⟩ := h1
    obtain ⟨x, hx⟩ := Option.isSome_iff_exists.1 a3
    obtain ⟨t, ht⟩ := Option.isSome_iff_exists.1 a4
    cases hp : ops[j]? with
    | none => rw [hp] at ht; cases ht
    | some p => rw [hp] at ht; exact ⟨a1, a2, x, p, t, hx, rfl, ht⟩
  · have := Array.all_eq_true_iff_forall_mem.1 h2 e he
    simpa [hb] using this
  · have := List.all_eq_true.1 h4 j (List.mem_range.2 hj)
    simp [hp, hd, e] at this
  · have := List.all_eq_true.1 h4 j (List.mem_range.2 hj)
    simp only [hp, Bool.and_eq_true] at this
    simpa [hc] using this.2
theorem Is.stepG (hB : rgG gl ops = true) {a0 a : Act} {L : Nat → Bool} {f : Nat → Value} (h : Is ops a0 L f a) {i : Nat} {o : Oper} (ho : ops[i]? = some o) (hL : L i = false) (v : Value) :
    Is ops a0 (fun j => if j = i then true else L j) (fun j => if j = i then v else f j) (a.put o.dst v) := by
  refine ⟨(put_defers _ _ _).trans h.defers, (put_size _ _ _).trans h.size, fun j p t hj hp ht hlt => ?_, fun t ht => ?_⟩
  · by_cases e : j = i
    · subst e
      obtain rfl := Option.some.inj (ho.symm.trans hp)
      simp only [if_true]
      rw [ht]
      exact put_get _ _ _ (by rw [h.size]; exact hlt)
    · simp only [e, if_false] at hj ⊢
      rw [put_get_ne]
      · exact h.mine j p t hj hp ht hlt
      · intro hd
        rcases Nat.lt_or_gt_of_ne e with hlt' | hgt
        · exact (rgG_ok hB ho).one j p hlt' hp t ht hd
        · exact (rgG_ok hB hp).one i o hgt ho t hd ht
  · rw [put_get_ne]
    · exact h.old t fun j p hj hp => ht j p (by by_cases e : j = i <;> simp [e, hj]) hp
    · exact ht i o (by simp) ho
theorem putAll_isG (hB : rgG gl ops = true) {a0 : Act} {f : Nat → Value} : ∀ (l : List Oper) (k : Nat) (a : Act), ops.toList.drop k = l → Is ops a0 (fun j => decide (j < k)) f a → Is ops a0 (fun j => decide (j < ops.size)) f (putAll l f k a)
  | [], k, a, hl, h => by
    have hk : ops.size ≤ k := by simpa using hl
    have e : Is ops a0 (fun j => decide (j < ops.size)) f a := ⟨h.defers, h.size, fun i o t hi ho => h.mine i o t (by simp at hi ⊢; omega) ho, fun t ht => h.old t fun i o hi ho => ht i o (by
      have := (Array.getElem?_eq_some_iff.1 ho).1
      simpa using this) ho⟩
    exact e
  | o :: l, k, a, hl, h => by
    have hk : k < ops.toList.length := by
      rcases Nat.lt_or_ge k ops.toList.length with h' | h'
      · exact h'
      · rw [List.drop_eq_nil_of_le h'] at hl; cases hl
    rw [List.drop_eq_getElem_cons hk] at hl
    injection hl with h1 h2
    have ho : ops[k]? = some o := by
      rw [← h1, ← Array.getElem?_toList, List.getElem?_eq_getElem hk]
    have hs := h.stepG hB ho (by simp) (f k)
    refine putAll_isG hB l (k + 1) _ h2 ?_
    have e1 : (fun j => if j = k then true else decide (j < k)) = fun j => decide (j < k + 1) := by
      funext j
      by_cases e : j = k
      · subst e; simp
      · simp [e]; omega
    have e2 : (fun j => if j = k then f k else f j) = f := by
      funext j
      by_cases e : j = k <;> simp [e]
    rw [e1, e2] at hs
    exact hs

theorem Inv.knownG {τ : Nat → World → Value → Prop} {d : Nat} {I : Option Value → World → Prop} {a0 a : Act} {L : Nat → Bool} {w : World} (hB : rgG gl ops = true) (hS : (ops.all fun o => match o.dst with | some t => decide (t < a0.tmps.size) | none => true) = true)
    (h : Inv ops τ d I a0 L a w) {i : Nat} {o : Oper} (ho : ops[i]? = some o) (hL : L i = false) (hr : ∀ e ∈ o.after, Region.binds .any e = true → L e.on = true) : (∀ j, ancB ops 4 j i = true → j ≠ i → L j = true) ∧ Known ops τ a0 a.eval w i (norm1 gl o).op.operands.toList := by
  obtain ⟨hC, f, hf, hI, hτ, _⟩ := h
  have anc : ∀ j, ancB ops 4 j i = true → j ≠ i → L j = true := by
    intro j hj hne
    rw [show (4 : Nat) = 3 + 1 from rfl, ancB, Bool.or_eq_true] at hj
    rcases hj with hj | hj
    · exact absurd (by simpa using hj) hne
    · simp only [ho, Option.map_some, Option.getD_some, Array.any_eq_true] at hj
      obtain ⟨k, hk, hj⟩ := hj
      rw [Bool.and_eq_true] at hj
      exact ancB_shut hC 3 j _ hj.2 (hr _ (Array.getElem_mem hk) hj.1)
  have hdst : ∀ (j : Nat) (p : Oper) (t : Tmp), ops[j]? = some p → p.dst = some t → t < a0.tmps.size := by
    intro j p t hp ht
    have := Array.all_eq_true_iff_forall_mem.1 hS p (Array.mem_of_getElem? hp)
    simpa [ht] using this
  refine ⟨anc, ?_⟩
  by_cases hsk : (norm1 gl o).op = .move (.const undef)
  · rw [hsk]; exact ⟨rfl, trivial⟩
  have hop : (norm1 gl o).op = o.op := by
    revert hsk
    obtain ⟨d, op, ty, pos, aft, g⟩ := o
    cases g with
    | none => intro _; rfl
    | some p => obtain ⟨j, b⟩ := p; unfold norm1; simp only; split <;> intro hsk <;> first | rfl | exact absurd rfl hsk
  rw [hop]
  have mem : ∀ t, .tmp t ∈ o.op.operands.toList → ∀ p : Oper, p.dst = some t → clash p o = true := by
    intro t ht p hp
    unfold clash
    rw [hp]
    simp only [Bool.or_eq_true]
    left
    rw [List.contains_iff_mem]
    exact List.mem_filterMap.2 ⟨_, ht, rfl⟩
  have mem' : ∀ t, .tmp t ∈ o.op.operands.toList → ∀ p : Oper, p.dst = some t → clash o p = true := by
    intro t ht p hp
    unfold clash
    rw [hp]
    simp only [Bool.or_eq_true]
    right
    rw [List.contains_iff_mem]
    exact List.mem_filterMap.2 ⟨_, ht, rfl⟩
  -- only what the operation looks at is asked
  have go : ∀ xs : List Operand, (∀ x ∈ xs, x ∈ o.op.operands.toList) → Known ops τ a0 a.eval w i xs := by
    intro xs
    induction xs with
    | nil => intro _; trivial
    | cons x xs ih =>
      intro hx
      have hrest := ih fun y hy => hx y (List.mem_cons_of_mem _ hy)
      cases x with
      | tmp t =>
        have ht := hx (.tmp t) (by simp)
        refine ⟨?_, hrest⟩
        cases hj : writer ops i t with
        | none =>
          show a.tmps.getD t undef = a0.tmps.getD t undef
          refine hf.old t fun j p hLj hp hd => ?_
          have hji : ¬ j < i := fun hlt => by
            have := List.find?_eq_none.1 hj j (List.mem_range.2 hlt)
            simp [hp, hd] at this
          have hne : j ≠ i := fun e => by subst e; rw [hL] at hLj; cases hLj
          -- j comes behind i: then i is listed too
          have hlt : i < j := by omega
          have := ancB_shut hC 4 i j ((rgG_ok hB hp).anc i o hlt ho (mem' t ht p hd)) hLj
          rw [hL] at this; cases this
        | some j =>
          have hj' := List.find?_some hj
          have hji : j < i := List.mem_range.1 (List.mem_of_find?_eq_some hj)
          cases hp : ops[j]? with
          | none => simp [hp] at hj'
          | some p =>
            have hd : p.dst = some t := by simpa [hp] using hj'
            have hLj := anc j ((rgG_ok hB ho).anc j p hji hp (mem t ht p hd)) (by omega)
            have := hf.mine j p t hLj hp hd (hdst j p t hp hd)
            show τ j w (a.tmps.getD t undef)
            rw [this]
            exact (hτ j hLj).2
      | const v => exact ⟨rfl, hrest⟩
      | global v => exact ⟨rfl, hrest⟩
      | func v => exact ⟨rfl, hrest⟩
  exact go _ fun _ h => h

theorem Inv.copyG {τ : Nat → World → Value → Prop} {d : Nat} {I : Option Value → World → Prop} {a0 a : Act} {L : Nat → Bool} {w : World} (hB : rgG gl ops = true) (hS : (ops.all fun o => match o.dst with | some t => decide (t < a0.tmps.size) | none => true) = true)
    (h : Inv ops τ d I a0 L a w) {i : Nat} {o : Oper} (ho : ops[i]? = some o) (hL : L i = false) (hr : ∀ e ∈ o.after, Region.binds .any e = true → L e.on = true) {f : Nat → Value} (hf : Is ops a0 L f a) {t : Tmp} {j : Nat}
    (ha : o.op = .assign (.tmp t)) (hj : writer ops i t = some j) : L j = true ∧ a.eval (.tmp t) = f j := by
  have hC := h.shut
  have hj' := List.find?_some hj
  have hji : j < i := List.mem_range.1 (List.mem_of_find?_eq_some hj)
  cases hp : ops[j]? with
  | none => simp [hp] at hj'
  | some p =>
    have hd : p.dst = some t := by simpa [hp] using hj'
    have hcl : clash p o = true := by
      unfold clash
      rw [hd]
      simp only [Bool.or_eq_true]
      left
      rw [List.contains_iff_mem]
      exact List.mem_filterMap.2 ⟨.tmp t, by rw [ha]; simp [Op.operands], rfl⟩
    have hanc := (rgG_ok hB ho).anc j p hji hp hcl
    have hLj : L j = true := by
      rw [show (4 : Nat) = 3 + 1 from rfl, ancB, Bool.or_eq_true] at hanc
      rcases hanc with h1 | h1
      · exact absurd (by simpa using h1) (Nat.ne_of_lt hji)
      · simp only [ho, Option.map_some, Option.getD_some, Array.any_eq_true] at h1
        obtain ⟨k, hk, h1⟩ := h1
        rw [Bool.and_eq_true] at h1
        exact ancB_shut hC 3 j _ h1.2 (hr _ (Array.getElem_mem hk) h1.1)
    have hdst : t < a0.tmps.size := by
      have := Array.all_eq_true_iff_forall_mem.1 hS p (Array.mem_of_getElem? hp)
      simpa [hd] using this
    exact ⟨hLj, hf.mine j p t hLj hp hd hdst⟩

theorem rg_anyG {Q : Exit → Act → World → Prop} {τ : Nat → World → Value → Prop} {d : Nat} {I : Nat → Option Value → World → Prop} {G : World → World → Prop} {a0 : Act} (hB : rgG gl ops = true) (hS : (ops.all fun o => match o.dst with | some t => decide (t < a0.tmps.size) | none => true) = true)
    (hG : ∀ i v w w', τ i w v → G w w' → τ i w' v)
    (hstep : ∀ i o, ops[i]? = some o → ∀ k ov ρ w, k < ops.size → I k ov w → (ancB ops 8 i d = true → ov = none) → Known ops τ a0 ρ w i (norm1 gl o).op.operands.toList → Good P (norm1 gl o) ρ w fun v w' => τ i w' v ∧ I (k + 1) (if i = d then some v else ov) w' ∧ G w w')
    (hgl : ∀ (i : Nat) (o : Oper) (j : Nat) (b : Bool), ops[i]? = some o → o.guard = some (j, b) → ∀ w v, τ j w v → ∃ x, look1 gl j = some x ∧ v = gvalO x)
    (hd : d < ops.size) (hend : ∀ f w' k, k ≤ ops.size → I k (some (f d)) w' → (∀ i, i < ops.size → τ i w' (f i)) → Copies ops (fun j => decide (j < ops.size)) f → Q .normal (putAll ops.toList f 0 a0) w') :
    ∀ (fuel : Nat) (listed : Array Bool) (a : Act) (w : World) (k : Nat), k + fuel = ops.size → listed.size = ops.size → open_ ops listed ≤ fuel → Inv ops τ d (I k) a0 (fun i => listed.getD i false) a w → wpAny P .any ops Q fuel listed a w := by
  have last : ∀ (listed : Array Bool) (a : Act) (w : World) (k : Nat), k ≤ ops.size → listed.size = ops.size → Inv ops τ d (I k) a0 (fun i => listed.getD i false) a w → Region.ready .any ops listed = [] → Q .normal a w := by
    intro listed a w k hk hsz h hr
    have hall : ∀ i, i < ops.size → listed.getD i false = true := by
      intro i
      induction i using Nat.strongRecOn with
      | _ i ih =>
        intro hi
        rcases hb : listed.getD i false with _ | _
        · exfalso
          have hm : i ∈ Region.ready .any ops listed := mem_ready.2 ⟨by
            have : i < listed.size := by omega
            simpa [Array.getD, this] using hb, ops[i], Array.getElem?_eq_getElem hi, fun e he hbn => ih e.on ((rgG_ok hB (Array.getElem?_eq_getElem hi)).back e he hbn) (by
              have := (rgG_ok hB (Array.getElem?_eq_getElem hi)).back e he hbn
              omega)⟩
          rw [hr] at hm
          cases hm
        · rfl
    obtain ⟨_, f, hf, hI, hτ, hcp⟩ := h
    have hI : I k (some (f d)) w := by simpa [hall d hd] using hI
    have e1 : Is ops a0 (fun j => decide (j < ops.size)) f a := ⟨hf.defers, hf.size, fun i o t hi ho hd hl => hf.mine i o t (hall i (Array.getElem?_eq_some_iff.1 ho).1) ho hd hl,
      fun t ht => hf.old t fun i o hi ho => ht i o (by simpa using (Array.getElem?_eq_some_iff.1 ho).1) ho⟩
    have e0 : Is ops a0 (fun j => decide (j < 0)) f a0 := ⟨rfl, rfl, fun _ _ _ h => by simp at h, fun _ _ => rfl⟩
    rw [e1.same (putAll_isG hB ops.toList 0 a0 rfl e0)]
    refine hend f w k hk hI (fun i hi => (hτ i (hall i hi)).2) fun i o t j hi ho ha hw => ?_
    have hi' : i < ops.size := by simpa using hi
    obtain ⟨h1, h2⟩ := hcp i o t j (hall i hi') ho ha hw
    exact ⟨by simpa using (hτ j h1).1, h2⟩
  intro fuel
  induction fuel with
  | zero =>
    intro listed a w k hk hsz hc h
    have hr : Region.ready .any ops listed = [] := by
      refine List.eq_nil_iff_forall_not_mem.2 fun i hi => ?_
      obtain ⟨h1, o, ho, _⟩ := mem_ready.1 hi
      have hlt := (Array.getElem?_eq_some_iff.1 ho).1
      have hpos : 0 < open_ ops listed := List.countP_pos_iff.2 ⟨i, List.mem_range.2 hlt, by
        have : i < listed.size := by omega
        simpa [Array.getD, this] using h1⟩
      omega
    exact ⟨hr, last listed a w k (by omega) hsz h hr⟩
  | succ fuel ih =>
    intro listed a w k hk0 hsz hc h
    refine ⟨last listed a w k (by omega) hsz h, fun i hi => ?_⟩
    obtain ⟨h1, o, ho, hr⟩ := mem_ready.1 hi
    have hlt := (Array.getElem?_eq_some_iff.1 ho).1
    have hil : i < listed.size := by omega
    have h1' : listed.getD i false = false := by simpa [Array.getD, hil] using h1
    obtain ⟨hanc, hk⟩ := h.knownG hB hS ho h1' hr
    have hcopy : ∀ (f : Nat → Value), Is ops a0 (fun i => listed.getD i false) f a → ∀ t j, o.op = .assign (.tmp t) → writer ops i t = some j → listed.getD j false = true ∧ a.eval (.tmp t) = f j := fun f hf t j ha hw => h.copyG hB hS ho h1' hr hf ha hw
    have hnop : ∀ t, o.op = .assign (.tmp t) → (norm1 gl o).op = .assign (.tmp t) := fun t ha => by
      have hg0 := (rgG_ok hB ho).asg _ ha
      obtain ⟨d', op, ty, pos, aft, g⟩ := o
      simp only at hg0
      subst hg0
      exact ha
    obtain ⟨hC, f, hf, hI, hτ, hcp⟩ := h
    have hg := hstep i o ho k _ a.eval w (by omega) hI (fun e => if_neg (fun hdl => by have := ancB_shut hC 8 i d e hdl; rw [h1'] at this; cases this)) hk
    have hfin : ∀ v w', (τ i w' v ∧ I (k + 1) (if i = d then some v else if listed.getD d false = true then some (f d) else none) w' ∧ G w w') → (∀ x, (norm1 gl o).op = .assign x → v = a.eval x) → wpAny P .any ops Q fuel (listed.setIfInBounds i true) (a.put o.dst v) w' := by
      intro v w' ⟨hv, hI', hgw⟩ hva
      have eL : (fun j => (listed.setIfInBounds i true).getD j false) = fun j => if j = i then true else listed.getD j false := by
        funext j
        by_cases e : j = i
        · subst e; simp [hil]
        · simp only [e, if_false]
          exact getD_set_ne false (fun h => e h.symm)
      refine ih _ _ _ (k + 1) (by omega) (by simpa using hsz) ?_ ?_
      · have : open_ ops (listed.setIfInBounds i true) < open_ ops listed := by
          refine countP_lt (fun x _ hx => ?_) ⟨i, List.mem_range.2 hlt, by simpa using h1', ?_⟩
          · have : (listed.setIfInBounds i true).getD x false = if x = i then true else listed.getD x false := congrFun eL x
            rw [this] at hx
            by_cases e : x = i
            · simp [e] at hx
            · simpa [e] using hx
          · have : (listed.setIfInBounds i true).getD i false = if i = i then true else listed.getD i false := congrFun eL i
            rw [this]
            simp
        omega
      · rw [eL]
        refine ⟨fun j p hj hp e he hb => ?_, _, hf.stepG hB ho h1' v, ?_, fun j hj => ?_, fun j p t q hj hp ha hw => ?_⟩
        · by_cases ej : j = i
          · subst ej
            obtain rfl := Option.some.inj (ho.symm.trans hp)
            have := hr e he hb
            by_cases ee : e.on = j <;> simp [ee, this]
          · simp only [ej, if_false] at hj
            have := hC j p hj hp e he hb
            by_cases ee : e.on = i <;> simp [ee, this]
        · by_cases ed : i = d
          · subst ed
            simpa using hI'
          · simpa [ed, show ¬ d = i from fun h => ed h.symm] using hI'
        · by_cases ej : j = i
          · subst ej
            exact ⟨hlt, by simpa using hv⟩
          · simp only [ej, if_false] at hj ⊢
            exact ⟨(hτ j hj).1, hG j _ _ _ (hτ j hj).2 hgw⟩
        · have hqj : q < j := List.mem_range.1 (List.mem_of_find?_eq_some hw)
          by_cases ej : j = i
          · subst ej
            obtain rfl := Option.some.inj (ho.symm.trans hp)
            obtain ⟨h5, h6⟩ := hcopy f hf t q ha hw
            have hne : q ≠ j := by omega
            exact ⟨by simp only [hne, if_false]; exact h5, by simp only [hne, if_false, if_true]; rw [hva _ (hnop _ ha), h6]⟩
          · simp only [ej, if_false] at hj ⊢
            obtain ⟨h5, h6⟩ := hcp j p t q hj hp ha hw
            have h5' : listed.getD q false = true := h5
            have hne : q ≠ i := fun e => by rw [e, h1'] at h5'; cases h5'
            simp only [hne, if_false]
            exact ⟨h5, h6⟩
    have hga := hg.assign
    unfold wpOp
    simp only [ho]
    cases hgd : o.guard with
    | none =>
      have hn : norm1 gl o = o := by
        obtain ⟨d', op, ty, pos, aft, g⟩ := o
        simp only at hgd
        subst hgd
        rfl
      rw [hn] at hga hfin
      rw [if_pos (by simp [Region.wanted, hgd])]
      exact .inl (Good.wp hga fun v w' ⟨h5, hva⟩ => hfin v w' h5 hva)
    | some jb =>
      obtain ⟨j, b⟩ := jb
      obtain ⟨hji, haj, x, p, t, hx, hp, ht⟩ := (rgG_ok hB ho).guard j b hgd
      have hLj := hanc j haj (by omega)
      obtain ⟨x', hx', hfj⟩ := hgl i o j b ho hgd w (f j) (hτ j hLj).2
      obtain rfl : x' = x := Option.some.inj (hx'.symm.trans hx)
      have htl : t < a0.tmps.size := by
        have := Array.all_eq_true_iff_forall_mem.1 hS p (Array.mem_of_getElem? hp)
        simpa [ht] using this
      have hm := hf.mine j p t hLj hp ht htl
      have hy : yielded ops a.tmps j = x' := by
        have hsz' : t < a.tmps.size := by rw [hf.size]; exact htl
        have e : a.tmps[t]? = some (gvalO x') := by
          rw [Array.getElem?_eq_getElem hsz']
          have : a.tmps.getD t undef = a.tmps[t] := by simp [Array.getD, hsz']
          rw [← this, hm, hfj]
        unfold yielded
        cases x' <;> simp [hp, ht, e, undef]
      by_cases hxb : x' = some b
      · have hn : norm1 gl o = { o with guard := none } := by
          obtain ⟨d', op, ty, pos, aft, g⟩ := o
          simp only at hgd
          subst hgd
          unfold norm1
          simp only [hx', hxb, if_true]
        rw [hn] at hga hfin
        rw [if_pos (by simp [Region.wanted, hgd, hy, hxb])]
        exact .inl (Good.wp (o := o) hga fun v w' ⟨h5, hva⟩ => hfin v w' h5 hva)
      · have hn : norm1 gl o = { o with op := .move (.const undef), guard := none } := by
          obtain ⟨d', op, ty, pos, aft, g⟩ := o
          simp only at hgd
          subst hgd
          unfold norm1
          simp only [hx']
          rw [if_neg (fun e => hxb (Option.some.inj e))]
        rw [hn] at hga hfin
        rw [if_neg (by simp [Region.wanted, hgd, hy, hxb])]
        have hrun : (execOp a.eval { o with op := .move (.const undef), guard := none }).run P w = .ok (.value undef) w := by simp [execOp, go_sem, Act.eval]
        unfold Good at hga
        rw [hrun] at hga
        exact hfin undef w hga.1 hga.2
end
section
variable {S : RS} {Fin : List Ty → Prop}
def GuardsOk (τ : List Ty) : List (Nat × Option Bool) → Prop
  | [] => True
  | (j, b) :: l => tys τ j = TEq (gvalO b) ∧ GuardsOk τ l
theorem guards_of {τ : List Ty} : ∀ {gl : List (Nat × Option Bool)}, GuardsOk τ gl → ∀ {j : Nat} {x : Option Bool}, look1 gl j = some x → tys τ j = TEq (gvalO x)
  | [], _, j, x, h => by cases h
  | (k, b) :: l, ⟨h1, h2⟩, j, x, h => by
    unfold look1 at h
    rw [List.lookup_cons] at h
    by_cases e : j = k
    · subst e
      simp at h
      rw [← h]; exact h1
    · have : (j == k) = false := by simpa using e
      rw [this] at h
      exact guards_of h2 h
theorem rseq_typesG {gl : List (Nat × Option Bool)} : ∀ (l : List Oper) (τs : List Ty), S.ops.toList.drop τs.length = l → τs.length + l.length = S.ops.size → (∀ T ∈ τs, Stb S.E T) → RSeq S Fin (l.map (norm1 gl)) τs.length τs →
    ∃ τ : List Ty, (∀ j, j < τs.length → tys τ j = tys τs j) ∧ (∀ T ∈ τ, Stb S.E T) ∧ Fin τ ∧ ∀ i o, τs.length ≤ i → S.ops[i]? = some o → ∀ k ov ρ w, k < S.ops.size → S.I k ov w → (ancB S.ops 8 i S.d = true → ov = none) → Known S.ops (tys τ) S.a0 ρ w i (norm1 gl o).op.operands.toList → Good S.P (norm1 gl o) ρ w fun v w' => tys τ i w' v ∧ S.I (k + 1) (if i = S.d then some v else ov) w' ∧ Only S.E w w'
  | [], τs, _, hlen, hst, h => by
    simp at hlen
    refine ⟨τs, fun _ _ => rfl, hst, h, fun i o hi ho => ?_⟩
    have := (Array.getElem?_eq_some_iff.1 ho).1
    omega
  | o :: l, τs, hl, hlen, hst, h => by
    rw [List.map_cons] at h
    obtain ⟨T, hT, hg, hr⟩ := h hst
    have hst' : ∀ T' ∈ T :: τs, Stb S.E T' := by
      intro T' hT'
      rcases List.mem_cons.1 hT' with h1 | h1
      · rw [h1]; exact hT
      · exact hst T' h1
    have hdrop : S.ops.toList.drop (T :: τs).length = l := by
      rw [List.length_cons, ← List.drop_drop, hl]; rfl
    obtain ⟨τ, h2, h3, h4, h5⟩ := rseq_typesG l (T :: τs) hdrop (by simp at hlen ⊢; omega) hst' (by rw [List.length_cons]; exact hr)
    rw [List.length_cons] at h2 h5
    have hget : ∀ j, j < τs.length → tys τ j = tys τs j := fun j hj => (h2 j (by omega)).trans (tys_old T τs hj)
    have hgetT : tys τ τs.length = T := (h2 _ (by omega)).trans (tys_new T τs)
    refine ⟨τ, hget, h3, h4, fun i o' hi ho => ?_⟩
    rcases Nat.lt_or_ge τs.length i with hlt | hge
    · exact h5 i o' hlt ho
    · obtain rfl : i = τs.length := by omega
      have : o' = o := by
        have e : S.ops.toList[τs.length]? = some o := by
          have := congrArg (fun l => l[0]?) hl
          simpa using this
        rw [Array.getElem?_toList] at e
        exact Option.some.inj (ho.symm.trans e)
      subst this
      intro k ov ρ w hk hI hd hK
      rw [hgetT]
      exact hg k ov ρ w hk hI hd (known_mono (fun j w v hj h => by rw [← hget j hj]; exact h) _ hK)
/-- THE RULE, with guards. -/
theorem wp_region_rsG {id : Nat} {Q : Exit → Act → World → Prop} (gl : List (Nat × Option Bool)) (S : RS) (hO : S.Ok) (hm : S.P.follows .mixedOrders = true) (hB : rgG gl S.ops = true) (hS : (S.ops.all fun o => match o.dst with | some t => decide (t < S.a0.tmps.size) | none => true) = true) (hd : S.d < S.ops.size)
    (hr : RdO S.rd 0 S.w0) (hJ : S.J none S.w0)
    (h : RSeq S (fun τ => GuardsOk τ gl ∧ ∀ f w' k, k ≤ S.ops.size → S.I k (some (f S.d)) w' → (∀ i, i < S.ops.size → tys τ i w' (f i)) → Copies S.ops (fun j => decide (j < S.ops.size)) f → Q .normal (putAll S.ops.toList f 0 S.a0) w') (S.ops.toList.map (norm1 gl)) 0 []) : (Code.region id S.ops true).wp S.P Q S.a0 S.w0 := by
  obtain ⟨τ, _, h3, ⟨h4g, h4⟩, h5⟩ := rseq_typesG (gl := gl) S.ops.toList [] (by simp) (by simp) (by simp) h
  have h0 : S.I 0 none S.w0.drew := by
    refine ⟨?_, Only.drew _ _, hO.keep _ _ _ hJ (Only.drew _ _)⟩
    cases hrd : S.rd with
    | none => trivial
    | some x =>
      rw [hrd] at hr
      exact Rd.drew1 hr
  refine wp_region_any hm (rg_anyG (gl := gl) (τ := tys τ) (d := S.d) (I := S.I) (G := Only S.E) hB hS (fun i v w w' ht hg => tys_stb h3 i v w w' ht hg) (fun i o ho => h5 i o (Nat.zero_le _) ho) (fun i o j b ho hg w v ht => ?_) hd (fun f w' k hk hI ht hc => h4 f w' k hk hI ht hc) S.ops.size (Array.replicate S.ops.size false) S.a0 _ 0 (by omega) (by simp) ?_ ?_)
  · obtain ⟨_, _, x, p, t, hx, _, _⟩ := (rgG_ok hB ho).guard j b hg
    rw [guards_of h4g hx] at ht
    exact ⟨x, hx, ht⟩
  · unfold open_
    exact Nat.le_trans List.countP_le_length (by simp)
  · have e : (fun i => (Array.replicate S.ops.size false).getD i false) = fun _ => false := by
      funext i
      by_cases h : i < S.ops.size <;> simp [Array.getD, h]
    rw [e]
    exact ⟨(fun j o hj => (by cases hj)), ⟨fun _ => undef, Is.start S.a0 _, h0, (fun i hi => (by cases hi)), (fun i o t j hi => (by cases hi))⟩⟩
variable {gl : List (Nat × Option Bool)} {d : Option Tmp} {op : Op} {ty : TypeId} {pos : String} {aft : Array Edge} {l : List Oper} {i j : Nat} {b : Bool} {τs : List Ty}
theorem rs_peel (h : RSeq S Fin (⟨d, op, ty, pos, aft, none⟩ :: l.map (norm1 gl)) i τs) : RSeq S Fin ((⟨d, op, ty, pos, aft, none⟩ :: l).map (norm1 gl)) i τs := h
theorem rs_run (hb : look1 gl j = some (some b)) (h : RSeq S Fin (⟨d, op, ty, pos, aft, none⟩ :: l.map (norm1 gl)) i τs) : RSeq S Fin ((⟨d, op, ty, pos, aft, some (j, b)⟩ :: l).map (norm1 gl)) i τs := by
  rw [List.map_cons, norm1, if_pos hb]; exact h
theorem rs_skip {x : Option Bool} (hb : look1 gl j = some x) (hx : x ≠ some b) (h : RSeq S Fin (⟨d, .move (.const undef), ty, pos, aft, none⟩ :: l.map (norm1 gl)) i τs) : RSeq S Fin ((⟨d, op, ty, pos, aft, some (j, b)⟩ :: l).map (norm1 gl)) i τs := by
  rw [List.map_cons, norm1, if_neg (fun e => hx (Option.some.inj (hb.symm.trans e)))]; exact h
end
end Go.Proofs.Ytkkkjbinfdohpaa

namespace Go.Proofs.Ytkkkjbinfdohpaa
open Go.RowKit
/-! alive: the circuit without anything is valid. -/

theorem append_nil_nil (w : World) : (Builtin.append_ #[23, 23] 23 #[.slice none 0 0, .slice none 0 0]).run Try.prog w = .ok (.slice none 0 0) w := by kernel_rfl

theorem roots_zero (g : Nat) (w : World) (h1 : w.cell? ⟨g, 1, none⟩ = some (.slice none 0 0)) (h3 : w.cell? ⟨g, 3, none⟩ = some (.slice none 0 0)) :
    Calls Try.prog 81 #[.pointer (some ⟨g, 0, none⟩)] w fun e w' => e = .returned (.slice none 0 0) ∧ Drew w w' := by
  have hap := append_nil_nil
  go_enter Try.func81, Try.ntmps81
  go_wp2_with fail
  go_quiet (fail)
  go_wp2_with fail
  go_ret
  exact ⟨rfl, Drew.by _ _⟩

theorem valid_zero (w : World) : Calls Try.prog 38 #[.agg #[.int .i64 0, .slice none 0 0, .slice none 0 0, .slice none 0 0]] w fun e w' => e = .returned (.bool true) ∧ Below w.heap.size w w' := by
  go_enter Try.func38, Try.ntmps38
  go_wp2
  go_loop [44] (fun i => i = .int .i64 0) (fun _ => 0)
  case atStart => rfl
  case round =>
    obtain rfl := hrel
    go_wp2_with fail
    refine (roots_zero w.heap.size _ ?_ ?_).mono ?_
    · simp [World.cell?_alloc_new]
    · simp [World.cell?_alloc_new]
    rintro e w' ⟨rfl, hd⟩
    go_wp2
    go_loop [68] (fun i => i = .int .i64 0) (fun _ => 0)
    case atStart => rfl
    case round =>
      obtain rfl := hrel
      go_wp2
      go_ret
      exact ⟨rfl, ((Below.refl _ _).alloc (Nat.le_refl _) _).trans (hd.below _)⟩

theorem alive_any (w : World) : Calls Try.prog 10 #[] w fun e w' => e = .returned (.bool true) ∧ Below w.heap.size w w' := by
  go_enter Try.func10, Try.ntmps10
  go_wp2_with (go_at_call 38; refine (valid_zero _).mono ?_; rintro e w' ⟨rfl, hb⟩)
  go_ret
  exact ⟨rfl, hb⟩
end Go.Proofs.Ytkkkjbinfdohpaa

namespace Go.Proofs.Ytkkkjbinfdohpaa
open Go.RowKit
set_option maxRecDepth 100000
/-! Steps of drawn regions, as XMzF has them. -/
section
variable {P : Program} {w : World} {ops : Array Oper} {o : Oper} {a : Act} {K : Act → World → Prop} {Q : Exit → Act → World → Prop} {E : Prop}
theorem step_callY (hw : Region.wanted o (yielded ops a.tmps) = true) {f : FuncId} {vs : Array Value} {R : Value → World → Prop} (hrun : (execOp a.eval o).run P w = .ok (.enter f vs) w)
    (hc : Calls P f vs w fun e w' => ∃ v, e = .returned v ∧ R v w') (h : ∀ v w', R v w' → K (a.put o.dst v) w') : if Region.wanted o (yielded ops a.tmps) = true then Oper.wp P o a w K Q else E := by
  rw [if_pos hw]
  unfold Oper.wp
  rw [hrun]
  simp only [Oper.upon]
  exact hc.mono fun e w' ⟨v, he, hr⟩ => by subst he; exact h v w' hr
end
end Go.Proofs.Ytkkkjbinfdohpaa

namespace Go.Proofs.Ytkkkjbinfdohpaa
/-! What follows a drawn region is proved once: `C` is found when the first order's goal is closed. -/
theorem go_once {G : Prop} {α : Sort _} (F C : α → Prop) (main : (∀ a, F a → C a) → G) (key : ∀ a, F a → C a) : G := main key
theorem go_once2 {G : Prop} {α : Sort _} {β : Sort _} (F C : α → β → Prop) (main : (∀ a b, F a b → C a b) → G) (key : ∀ a b, F a b → C a b) : G := main key
theorem go_once3 {G : Prop} {α : Sort _} {β : Sort _} {γ : Sort _} (F C : α → β → γ → Prop) (main : (∀ a b c, F a b c → C a b c) → G) (key : ∀ a b c, F a b c → C a b c) : G := main key
theorem go_once4 {G : Prop} {α : Sort _} {β : Sort _} {γ : Sort _} {δ : Sort _} (F C : α → β → γ → δ → Prop) (main : (∀ a b c d, F a b c d → C a b c d) → G) (key : ∀ a b c d, F a b c d → C a b c d) : G := main key
theorem go_once0 {G : Prop} (C : Prop) (main : C → G) (key : C) : G := main key
end Go.Proofs.Ytkkkjbinfdohpaa

namespace Go.Proofs.Ytkkkjbinfdohpaa
open Go.RowKit Go.Maps
set_option maxRecDepth 100000
/-! Maps of gates to numbers, made by the call: the table of known gates. -/
theorem gmap_laidOut : laidOutB Try.prog = true := by kernel_rfl
theorem gmap_row : (64 : TypeId) < Try.prog.types.size := of_decide_eq_true (by kernel_rfl)
theorem gmap_deep : Try.prog.keyTypeAt 2 64 = true := by kernel_rfl
theorem gmap_deepT : Try.prog.keyType 64 = true := by kernel_rfl
theorem gmap_wide : (match Try.prog.underlying 64 with | some (.array _ _) | some (.struct _) => true | _ => false) = true := by kernel_rfl
theorem gmap_keyed : Keyed Try.prog 64 := Keyed.of_law (deep_law_laid gmap_laidOut (m := 2) (by omega) gmap_row gmap_deep gmap_wide)
theorem gmap_cells : Try.prog.cellsOf 64 = 2 := by kernel_rfl
theorem gmap_cellsI : Try.prog.cellsOf 3 = 1 := by kernel_rfl
/-- The key of a gate. -/
def gkey (x y : Nat) : Value := .agg #[.int .i64 (x : Int), .int .i64 (y : Int)]
theorem gkey_some {x y : Nat} (hx : (x : Int) ≤ 9223372036854775807) (hy : (y : Int) ≤ 9223372036854775807) : ∃ l, keyOf Try.prog 64 (gkey x y) = some l := by
  obtain ⟨m, hm⟩ : ∃ m, Try.prog.types.size = m + 1 := ⟨_, (Nat.succ_pred_eq_of_pos (Nat.lt_of_le_of_lt (Nat.zero_le _) gmap_row)).symm⟩
  have h2 : (gkey x y).formed Try.prog 64 = true := by
    simp [gkey, Value.formed, Try.underlying64, gmap_cells]
  unfold keyOf
  rw [Try.underlying64]
  simp only [gmap_deepT, h2, Bool.and_self, if_true, hm]
  simp [Program.keyLits, gkey, Try.underlying64, Try.underlying3, Value.cells, gmap_cells, gmap_cellsI, i64_wf hx, i64_wf hy]
theorem gkey_inj {x y x' y' : Nat} (h : gkey x y = gkey x' y') : x = x' ∧ y = y' := by
  unfold gkey at h
  simp at h
  omega
theorem gkey_ne {x y x' y' : Nat} {l l' : Lit} (h : keyOf Try.prog 64 (gkey x y) = some l) (h' : keyOf Try.prog 64 (gkey x' y') = some l') (hne : ¬ (x = x' ∧ y = y')) : l ≠ l' := by
  intro e
  subst e
  exact hne (gkey_inj (gmap_keyed.inj h h'))
/-- Block b is a map of at most n gates; f tells what is known of a gate. -/
def GAt (w : World) (b n : Nat) (f : Nat → Nat → Option Nat) : Prop := ∃ D : DataW Unit, w.ownsMap Try.prog 64 (plainElem Try.prog 3) b n D ∧ IsMap D ∧ ∀ x y l, keyOf Try.prog 64 (gkey x y) = some l → Maps.has D l = (f x y).isSome ∧ D.atKey l (.lit (.int .i64 0)) = .lit (.int .i64 (((f x y).getD 0 : Nat) : Int))
theorem GAt.lt {w : World} {b n : Nat} {f : Nat → Nat → Option Nat} (h : GAt w b n f) : b < w.heap.size := by
  obtain ⟨D, h1, _⟩ := h
  exact h1.lt
theorem GAt.only {E : Nat → Prop} {w w' : World} {b n : Nat} {f : Nat → Nat → Option Nat} (h : GAt w b n f) (ho : Only E w w') (hE : ¬ E b) : GAt w' b n f := by
  have hl := h.lt
  obtain ⟨D, ⟨es, clock, h1, h2, h3, h4⟩, h5⟩ := h
  exact ⟨D, ⟨es, clock, (ho.block b hl hE).trans h1, h2, h3, h4⟩, h5⟩
theorem GAt.mono {w : World} {b n n' : Nat} {f : Nat → Nat → Option Nat} (h : GAt w b n f) (hn : n ≤ n') : GAt w b n' f := by
  obtain ⟨D, h1, h2⟩ := h
  exact ⟨D, h1.mono hn, h2⟩
theorem gAt_made (w : World) : GAt (w.alloc (.map #[] 0)) w.heap.size 0 (fun _ _ => none) :=
  ⟨.map [], World.ownsMap_made w _ _ _, isMap_empty, fun x y l h => ⟨rfl, rfl⟩⟩
section
variable (w : World) {ops : Array Oper} {rest : List Oper} {o : Oper} {a : Act} {Q : Exit → Act → World → Prop}
theorem zero_int (w : World) : (zeroValue 3).run Try.prog w = .ok (.int .i64 0) w := by kernel_rfl
end
end Go.Proofs.Ytkkkjbinfdohpaa

namespace Go.Proofs.Ytkkkjbinfdohpaa
open Go.RowKit Go.Maps
set_option maxRecDepth 100000
/-! The builder of gates: what it knows and what a conjunction does to it, as plain functions; its memory. -/
namespace Cir
/-- The literal of a known gate. -/
def knownG (F : Nat) : List (Nat × Nat) → Nat → Nat → Option Nat
  | [], _, _ => none
  | g :: G, x, y => match knownG F G x y with
    | some l => some l
    | none => if x = g.1 ∧ y = g.2 then some (2 * (F + G.length)) else none
/-- The gates of a builder, the last one first. A conjunction of literals x ≤ y. -/
def andS (F : Nat) (G : List (Nat × Nat)) (x y : Nat) : Nat × List (Nat × Nat) :=
  if x = 0 ∨ x = y ^^^ 1 then (0, G) else if x = 1 ∨ x = y then (y, G) else match knownG F G x y with
    | some l => (l, G)
    | none => (2 * (F + G.length), (x, y) :: G)
def andB (F : Nat) (G : List (Nat × Nat)) (x y : Nat) : Nat × List (Nat × Nat) := if y < x then andS F G y x else andS F G x y
def xorB (F : Nat) (G : List (Nat × Nat)) (x y : Nat) : Nat × List (Nat × Nat) :=
  andB F (andB F (andB F G x y).2 (x ^^^ 1) (y ^^^ 1)).2 ((andB F G x y).1 ^^^ 1) ((andB F (andB F G x y).2 (x ^^^ 1) (y ^^^ 1)).1 ^^^ 1)
def gatesOf (G : List (Nat × Nat)) : List (Int × Int) := G.reverse.map fun g => ((g.1 : Int), (g.2 : Int))
theorem gatesOf_length (G : List (Nat × Nat)) : (gatesOf G).length = G.length := by simp [gatesOf]
theorem gatesOf_cons (g : Nat × Nat) (G : List (Nat × Nat)) : gatesOf (g :: G) = gatesOf G ++ [((g.1 : Int), (g.2 : Int))] := by simp [gatesOf]
theorem knownG_lt {F : Nat} : ∀ {G : List (Nat × Nat)} {x y l : Nat}, knownG F G x y = some l → l < 2 * (F + G.length)
  | [], _, _, _, h => by cases h
  | g :: G, x, y, l, h => by
    unfold knownG at h
    cases hk : knownG F G x y with
    | some l' =>
      rw [hk] at h
      injection h with h
      have := knownG_lt hk
      simp only [List.length_cons]
      omega
    | none =>
      rw [hk] at h
      simp only at h
      split at h
      · injection h with h
        simp only [List.length_cons]
        omega
      · cases h
theorem xor1_lt {x N : Nat} (h : x < 2 * N) : x ^^^ 1 < 2 * N := by
  have h2 : (x ^^^ 1) / 2 = x / 2 := by rw [Nat.xor_div_two]; simp
  omega
theorem andS_len (F : Nat) (G : List (Nat × Nat)) (x y : Nat) : (andS F G x y).2.length ≤ G.length + 1 ∧ G.length ≤ (andS F G x y).2.length := by
  unfold andS
  split
  · simp
  · split
    · simp
    · split <;> simp
theorem andS_lt {F : Nat} {G : List (Nat × Nat)} {x y : Nat} (hF : 0 < F) (hy : y < 2 * (F + G.length)) : (andS F G x y).1 < 2 * (F + (andS F G x y).2.length) := by
  unfold andS
  split
  · simp only; omega
  · split
    · simp only; omega
    · split
      · rename_i l hl
        exact knownG_lt hl
      · simp only [List.length_cons]; omega
theorem andB_len (F : Nat) (G : List (Nat × Nat)) (x y : Nat) : (andB F G x y).2.length ≤ G.length + 1 ∧ G.length ≤ (andB F G x y).2.length := by
  unfold andB
  split <;> exact andS_len ..
theorem andB_lt {F : Nat} {G : List (Nat × Nat)} {x y : Nat} (hF : 0 < F) (hx : x < 2 * (F + G.length)) (hy : y < 2 * (F + G.length)) : (andB F G x y).1 < 2 * (F + (andB F G x y).2.length) := by
  unfold andB
  split
  · exact andS_lt hF hx
  · exact andS_lt hF hy
end Cir
theorem GAt.below {w w' : World} {b n : Nat} {f : Nat → Nat → Option Nat} (h : GAt w b n f) (hb : Below w.heap.size w w') : GAt w' b n f :=
  h.only (E := fun _ => False) ⟨hb.os, hb.tape, hb.output, hb.size, fun k hk _ => hb.block k hk⟩ id
end Go.Proofs.Ytkkkjbinfdohpaa
