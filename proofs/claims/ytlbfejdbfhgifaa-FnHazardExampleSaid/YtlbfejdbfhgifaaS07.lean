import Derived.Test.YtlbfejdbfhgifaaS06
import Derived.Test.YtlbfejdbfhgifaaS04
import Derived.Test.YtlbfejdbfhgifaaS05
import Derived.Test.YtlbfejdbfhgifaaS03
import Derived.Test.YtlbfejdbfhgifaaS02
import Derived.Test.YtlbfejdbfhgifaaS01
set_option linter.unusedVariables false
set_option linter.unusedSimpArgs false
namespace Go.Proofs.Ytlbfejdbfhgifaa
open Go.RowKit
set_option maxRecDepth 100000
/-! MachineOf, by the program. -/
/-- A machine of the call's own, as a result. -/
def OwnMachR (m : Mz) (w : World) (e : Ending) (w' : World) : Prop := ∃ v, e = .returned v ∧ OwnMachE w.heap.size w'.heap.size v m w' ∧ Below w.heap.size w w'
theorem rowI_take {d : Ci} {s j n : Nat} (h : (Cir.rowN d s)[j]? = some n) : ints ((Cir.rowI d s).take (j + 1) ++ nats ((Cir.rowN d s).drop (j + 1))) = (ints ((Cir.rowI d s).take j ++ nats ((Cir.rowN d s).drop j))).set j (.int .i64 (idxOf (Cir.reach d) n)) := by
  obtain ⟨hj, hn⟩ := List.getElem?_eq_some_iff.1 h
  have e1 : (Cir.rowI d s)[j]? = some (idxOf (Cir.reach d) n) := by unfold Cir.rowI; rw [List.getElem?_map, h]; rfl
  have hl : ((Cir.rowI d s).take j).length = j := by
    have : (Cir.rowI d s).length = (Cir.rowN d s).length := by unfold Cir.rowI; simp
    rw [List.length_take]; omega
  have e2 : (Cir.rowN d s).drop j = n :: (Cir.rowN d s).drop (j + 1) := by rw [List.drop_eq_getElem_cons hj, hn]
  unfold ints
  rw [← List.map_set, take_snoc e1, e2]
  unfold nats
  rw [List.map_cons, List.set_append_right _ _ (by omega), hl, Nat.sub_self, List.set_cons_zero, List.append_assoc]
  rfl
set_option maxHeartbeats 16000000 in
theorem implMof_ok (v : Value) (d : Ci) (w : World) (h : CircAt w v (Cir.toCz d)) (hd : Cir.Ok d) (hv : Cir.valid (Cir.toCz d) = true) :
    Calls Try.prog 34 #[v] w (OwnMachR (Cir.machN d) w) := by
  have l1 := hd.ins
  have l2 := hd.nexts
  have HC := Lib.hid h
  obtain ⟨vn, vg, vo, rfl, r1, r2, r3⟩ := h
  have hins : (Cir.toCz d).ins = (d.ins : Int) := rfl
  have HP := Lib.hid (PCirc.boxed (c := Cir.toCz d) 31 r1 r2 r3)
  rw [hins] at HC HP ⊢
  have hb0 := bel_new w (.cells #[.int .i64 d.ins, vn, vg, vo] 31)
  have hb00 := bel_new (w.alloc (.cells #[.int .i64 d.ins, vn, vg, vo] 31)) (.cells #[.int .i64 0, .slice none 0 0, .slice none 0 0] 43)
  have B0 := Lib.hid (hb0.trans (hb00.mono hb0.size))
  have HP := Lib.hid (HP.out.below hb00)
  have PC := Lib.hid ((PCells.boxed w d.ins vn vg vo 31).below hb00)
  have hsz : ((w.alloc (.cells #[.int .i64 d.ins, vn, vg, vo] 31)).alloc (.cells #[.int .i64 0, .slice none 0 0, .slice none 0 0] 43)).heap.size = w.heap.size + 2 := by simp
  have hR : ((w.alloc (.cells #[.int .i64 d.ins, vn, vg, vo] 31)).alloc (.cells #[.int .i64 0, .slice none 0 0, .slice none 0 0] 43)).heap[w.heap.size + 1]? = some (.cells #[.int .i64 0, .slice none 0 0, .slice none 0 0] 43 (0, 0)) := by
    have := heap_alloc_new (w.alloc (.cells #[.int .i64 d.ins, vn, vg, vo] 31)) (.cells #[.int .i64 0, .slice none 0 0, .slice none 0 0] 43)
    rwa [World.size_alloc] at this
  have HRes := Lib.hid hR
  obtain ⟨z, p0, p1, p2, p3⟩ := PC.out
  have HC0 := Lib.hid (HC.out.below B0.out)
  have HV := Lib.hid (implValid_any _ _ _ HC0.out)
  rw [hv] at HV
  have Hv := Lib.hid hv
  have Hd := Lib.hid hd
  obtain ⟨M, e, hM⟩ : ∃ M : Nat, (2 : Int) ^ d.ins = (M : Int) ∧ M = 2 ^ d.ins := ⟨2 ^ d.ins, two_pow d.ins, rfl⟩
  have hM16 : M ≤ 16 := by rw [hM]; exact Nat.pow_le_pow_right (show 0 < 2 by decide) l1
  have hM1 : 1 ≤ M := by rw [hM]; exact Nat.pow_pos (by decide)
  have HM := Lib.hid hM
  have hL8 := (Cir.reach_sts d).len hd
  have HSt := Lib.hid (Cir.reach_sts d)
  clear r1 r2 r3 hd hins hM hv HC hb0 hb00 hR
  go_enter Try.func34, Try.ntmps34
  go_wp2_with fail
  generalize (w.alloc (.cells #[.int .i64 d.ins, vn, vg, vo] 31)).alloc (.cells #[.int .i64 0, .slice none 0 0, .slice none 0 0] 43) = W at *
  refine HV.out.mono ?_
  rintro e w1 ⟨rfl, hb1⟩
  have B1 := Lib.hid (B0.out.trans (hb1.mono B0.out.size))
  have HP1 := Lib.hid (HP.out.below hb1)
  have HC1 := Lib.hid (HC0.out.below hb1)
  have HRes1 := Lib.hid ((hb1.block _ (by omega)).trans HRes.out)
  have PC1 := Lib.hid (PC.out.below hb1)
  have z1 := hb1.size
  clear hb1 p0 p1 p2 p3 z HV HP HC0 HRes PC
  obtain ⟨z, p0, p1, p2, p3⟩ := PC1.out
  go_wp2_with fail
  refine (implReach_ok _ d _ HC1.out Hd.out Hv.out).mono ?_
  rintro e w2 ⟨vs, rfl, hO2, hb2⟩
  have B2 := Lib.hid (B1.out.trans (hb2.mono B1.out.size))
  have HP2 := Lib.hid (HP1.out.below hb2)
  have HRes2 := Lib.hid ((hb2.block _ (by omega)).trans HRes1.out)
  have PC2 := Lib.hid (PC1.out.below hb2)
  have z2 := hb2.size
  have HS2 := Lib.hid (own_nats (v := vs) (xs := Cir.reach d) (by rw [nats_length] at hO2; exact hO2))
  clear hb2 hO2 p0 p1 p2 p3 z HP1 HC1 HRes1 PC1
  obtain ⟨z, p0, p1, p2, p3⟩ := PC2.out
  obtain ⟨As, cs, rfl, hcs, hcsm⟩ := NatsAt.shape HS2.out
  unfold maxLen at hcsm
  have hb3 := bel_new w2 (.cells #[.int .i64 d.ins, .slice none 0 0, .slice none 0 0] 43)
  have HMB := Lib.hid (MB.start (ins := (d.ins : Int)) (w := w2) trivial)
  have HF0 : Hid (Below w2.heap.size w2 (w2.alloc (.cells #[.int .i64 d.ins, .slice none 0 0, .slice none 0 0] 43))) := Lib.hid hb3
  go_wp2_with fail
  clear hb3 p0 p1 p2 p3 z
  generalize w2.alloc (.cells #[.int .i64 d.ins, .slice none 0 0, .slice none 0 0] 43) = w3 at *
  go_loopw [22] (fun i wr => ∃ (k : Nat) (E1 E2 : Nat → Prop) (vN vO : Value), k ≤ (Cir.reach d).length ∧ i = .int .i64 k ∧ Hid (MB w2.heap.size d.ins E1 E2 vN vO ((Cir.machN d).next.take k) ((Cir.machN d).out.take k) wr) ∧ Below w2.heap.size w2 wr) (fun i _ => (Cir.reach d).length - (intOf i).toNat)
  case atStart => exact ⟨0, _, _, _, _, Nat.zero_le _, rfl, HMB, HF0.out⟩
  case round =>
    obtain ⟨k, E1, E2, vN, vO, hk, rfl, HMB, hb⟩ := hrel
    clear HF0
    have Hb := Lib.hid hb
    have hzb := hb.size
    have hgm := mb_lt HMB.out
    clear hb
    by_cases hlt : k < (Cir.reach d).length
    · obtain ⟨b, o, s, rfl, hbl, hx, hs0⟩ := nats_cell (nats_row HS2.out) rfl hlt
      have hs1 := (Hb.out.cell (p := ⟨b, o + k, none⟩) hbl).trans hs0
      have hs8 : s < 8 := by
        have h1 := HSt.out.lt s (List.mem_of_getElem? hx.out)
        have h2 : 2 ^ d.next.length ≤ 2 ^ 3 := Nat.pow_le_pow_right (show 0 < 2 by decide) l2
        omega
      have HX1 : Hid ((Cir.machN d).next.take (k + 1) = (Cir.machN d).next.take k ++ [Cir.rowI d s]) := Lib.hid (take_snoc (by unfold Cir.machN; simp only [List.getElem?_map, hx.out]; rfl))
      have HX2 : Hid ((Cir.machN d).out.take (k + 1) = (Cir.machN d).out.take k ++ [nats (Cir.rowO d s)]) := Lib.hid (take_snoc (by unfold Cir.machN; simp only [List.getElem?_map, hx.out]; rfl))
      have hN1 : (nats (Cir.rowN d s)).length = M := by rw [nats_length, Cir.rowN, List.length_map, List.length_range, HM.out]
      have hO1 : (nats (Cir.rowO d s)).length = M := by rw [nats_length, Cir.rowO, List.length_map, List.length_range, HM.out]
      have HN1 := Lib.hid hN1
      have HO1 := Lib.hid hO1
      clear hN1 hO1
      go_wp2_with fail
      refine (stateRows_any w.heap.size d s _ (HP2.out.below Hb.out) Hd.out (by omega)).mono ?_
      rintro e w4 ⟨va, vb, rfl, oa, ob, hab, hb4⟩
      rw [HN1.out] at oa
      rw [HO1.out] at ob
      have Hb4 := Lib.hid (Hb.out.trans (hb4.mono hzb))
      have HMB4 := Lib.hid (HMB.out.below hb4)
      have hz4 := Nat.le_trans hzb hb4.size
      have hgm4 := mb_lt HMB4.out
      have Oa := Lib.hid (own_mono oa (show w2.heap.size + 1 ≤ wr.heap.size by omega))
      have Ob := Lib.hid (own_mono ob (show w2.heap.size + 1 ≤ wr.heap.size by omega))
      have Hab := Lib.hid hab
      have Na1 : Hid (∀ g, va.ownBlock = some g → ¬ E1 g ∧ ¬ E2 g) := Lib.hid fun g hg => ⟨fun he => by have h1 := HMB.out.l1 g he; have h2 := (oa.lt g hg).1; omega, fun he => by have h1 := HMB.out.l2 g he; have h2 := (oa.lt g hg).1; omega⟩
      have Nb1 : Hid (∀ g, vb.ownBlock = some g → ¬ E1 g ∧ ¬ E2 g) := Lib.hid fun g hg => ⟨fun he => by have h1 := HMB.out.l1 g he; have h2 := (ob.lt g hg).1; omega, fun he => by have h1 := HMB.out.l2 g he; have h2 := (ob.lt g hg).1; omega⟩
      obtain ⟨ga, ca, hva, hga, hga2, hca, hcam⟩ := own_open Oa.out (by omega)
      obtain ⟨gb, cb, hvb, hgb, hgb2, hcb, hcbm⟩ := own_open Ob.out (by omega)
      subst hva hvb
      unfold maxLen at hcam hcbm
      have hcell4 := HMB4.out.cells
      clear hb4 oa ob hab hs1 hs0 hcell4
      go_wp2_with fail
      go_loopw [33] (fun i wr => ∃ j : Nat, j ≤ M ∧ i = .int .i64 j ∧ Hid (wr.ownsRow (w2.heap.size + 1) 3 1 (.slice (some ⟨ga, 0, none⟩) M ca) M (ints ((Cir.rowI d s).take j ++ nats ((Cir.rowN d s).drop j)))) ∧ Hid (w4.grownBy wr (some ga))) (fun i _ => M - (intOf i).toNat)
      case atStart => exact ⟨0, Nat.zero_le _, rfl, Lib.hid (by simpa using Oa.out), Lib.hid (World.grownBy.refl _ _)⟩
      case round =>
        obtain ⟨j, hj, rfl, Ho, Hg⟩ := hrel
        have Hbr := Lib.hid (Hb4.out.grown Hg.out hz4 (fun q hq => by have := Option.some.inj hq; omega))
        by_cases hlj : j < M
        · obtain ⟨n, hn⟩ := at_some (show j < (Cir.rowN d s).length by have := HN1.out; rw [nats_length] at this; omega)
          have hn8 : n ≤ 1000 := by
            unfold Cir.rowN at hn
            rw [List.getElem?_map] at hn
            obtain ⟨x, _, rfl⟩ := Option.map_eq_some_iff.1 hn
            have h1 := Cir.nextOf_lt d s x
            have h2 : 2 ^ d.next.length ≤ 2 ^ 3 := Nat.pow_le_pow_right (show 0 < 2 by decide) l2
            omega
          have hIl : (Cir.rowI d s).length = (Cir.rowN d s).length := by unfold Cir.rowI; simp
          have hjl := (List.getElem?_eq_some_iff.1 hn).1
          have hcj : (ints ((Cir.rowI d s).take j ++ nats ((Cir.rowN d s).drop j)))[j]? = some (.int .i64 (n : Int)) := by
            unfold ints
            rw [List.getElem?_map, List.getElem?_append_right (by rw [List.length_take]; omega), List.length_take, show j - min j (Cir.rowI d s).length = 0 from by omega]
            unfold nats
            rw [List.getElem?_map, List.getElem?_drop, Nat.add_zero, hn]
            rfl
          obtain ⟨u0, hu0, hd0, hf0⟩ := own_slot Ho.out (j := j) (by omega)
          rw [hcj] at hu0
          obtain rfl := Option.some.inj hu0
          have HS := Lib.hid (rowI_take (d := d) hn)
          have Hst := Lib.hid (Ho.out.stored j (.int .i64 (idxOf (Cir.reach d) n)))
          have HSr := Lib.hid (HS2.out.below Hbr.out)
          have hix := idxOf_lo (Cir.reach d) n
          clear hcj hu0 hIl hjl hn
          go_wp2_with fail
          refine (index_any _ (Cir.reach d) n _ HSr.out (by omega)).mono ?_
          rintro e w' ⟨rfl, rfl⟩
          go_wp2_with fail
          go_roundw
          case rel => exact ⟨j + 1, by omega, by go_num, Lib.hid (by rw [HS.out]; exact Hst.out.1), Lib.hid (grownBy_comp Hg.out Hst.out.2)⟩
          case measure => simp [intOf] <;> omega
        · obtain rfl : j = M := by omega
          have hRl : (Cir.rowI d s).length = j := by have := HN1.out; rw [nats_length] at this; unfold Cir.rowI; rw [List.length_map]; exact this
          have Oa5 : Hid (wr.ownsRow (w2.heap.size + 1) 3 1 (.slice (some ⟨ga, 0, none⟩) j ca) (Cir.rowI d s).length (ints (Cir.rowI d s))) := Lib.hid (by
            have := Ho.out
            rw [List.take_of_length_le (by omega), List.drop_eq_nil_of_le (by have := HN1.out; rw [nats_length] at this; omega)] at this
            rw [hRl]
            simpa [nats] using this)
          have Ob5 : Hid (wr.ownsRow (w2.heap.size + 1) 3 1 (.slice (some ⟨gb, 0, none⟩) j cb) (nats (Cir.rowO d s)).length (ints (nats (Cir.rowO d s)))) := Lib.hid (by rw [HO1.out]; exact own_kept Ob.out Hg.out (fun g h1 h2 => Hab.out g h2 h1))
          have HMB5 := Lib.hid (HMB4.out.grown Hg.out (fun e => by have := Option.some.inj e; omega) (fun g hg => (Na1.out g (by rw [← hg]; rfl)).1) (fun g hg => (Na1.out g (by rw [← hg]; rfl)).2))
          have Hk8 : k ≤ 8 := by omega
          have HMl := HMB5.out.below (bel_new wr (.cells #[.slice (some ⟨ga, 0, none⟩) j ca] 22))
          obtain ⟨us, q1, q2, q3, q4, q5, q6, q7⟩ := HMl.n
          have hl1 : ((Cir.machN d).next.take k).length = k := by rw [List.length_take]; unfold Cir.machN; rw [List.length_map]; omega
          have hl2 : ((Cir.machN d).out.take k).length = k := by rw [List.length_take]; unfold Cir.machN; rw [List.length_map]; omega
          rw [hl1] at q1 q2
          have Q2 := Lib.hid q2
          have HML := Lib.hid HMl
          have Q := Lib.hid (And.intro q1 (And.intro q3 (And.intro q4 (And.intro q5 (And.intro q6 q7)))))
          have Hl1 := Lib.hid hl1
          have Hl2 := Lib.hid hl2
          have Oal := Lib.hid (Oa5.out.alloc (.cells #[.slice (some ⟨ga, 0, none⟩) j ca] 22))
          have Obl := Lib.hid (Ob5.out.alloc (.cells #[.slice (some ⟨ga, 0, none⟩) j ca] 22))
          have Hlit := Lib.hid (Row.of_own (World.ownsRow_lit (base := wr.heap.size) (e := 22) (size := 1) wr #[.slice (some ⟨ga, 0, none⟩) j ca] 1 (Nat.le_refl _) (by unfold maxLen; omega) rfl))
          have hgm5 := mb_lt HMB5.out
          have hsl : (wr.alloc (.cells #[.slice (some ⟨ga, 0, none⟩) j ca] 22)).heap.size = wr.heap.size + 1 := by simp
          have Nb2 : Hid (∀ v7 : Value, (v7.ownBlock = vN.ownBlock ∨ v7.ownBlock = some (wr.alloc (.cells #[.slice (some ⟨ga, 0, none⟩) j ca] 22)).heap.size) → ∀ g, (Value.slice (some ⟨gb, 0, none⟩) j cb).ownBlock = some g → ¬ (E1 g ∨ (Value.slice (some ⟨ga, 0, none⟩) j ca).ownBlock = some g ∨ v7.ownBlock = some g)) := Lib.hid fun v7 hat g hg he => by
            have hgb : gb = g := by simpa [Value.ownBlock] using hg
            subst hgb
            rcases he with he | he | he
            · exact (Nb1.out gb rfl).1 he
            · exact Hab.out gb he rfl
            · rcases hat with h | h
              · exact (Nb1.out gb rfl).1 (q6 gb (by rw [← h]; exact he))
              · rw [h] at he
                have h2 := Option.some.inj he
                have h3 := (Ob5.out.lt gb rfl).2
                omega
          obtain ⟨k0, k1, k2, k3, k4⟩ := HMB5.out.cells
          clear hRl Ho HMl q1 q2 q3 q4 q5 q6 q7 hl1 hl2
          go_wp2_with (first
            | (at_builtin; refine append_intss rfl (.tmp 46) (.tmp 48) rfl (w2.heap.size + 1) vN k us rfl Q2.out _ 1 [.slice (some ⟨ga, 0, none⟩) j ca] rfl Hlit.out (by simp [Value.oneCell']) (by omega) (by first | omega | (simp <;> omega)) ?_; intro v7 w7 hown7 hg7 hat7; obtain ⟨A7, c7, hv7⟩ := slice_of_own hown7; subst hv7; have HMB7 := Lib.hid (MB.addN HML.out (Q.out.1.trans Hl1.out.symm) Q.out.2.1 Q.out.2.2.1 Q.out.2.2.2.1 Q.out.2.2.2.2.1 Q.out.2.2.2.2.2 Oal.out (fun g hg => (Na1.out g hg).1) (fun g hg => (Na1.out g hg).2) (by rw [Hl1.out]; exact hown7) hg7 hat7); have hbx := (hg7.block w2.heap.size (mb_lt HML.out) (fun e => by obtain ⟨_, _, p2, _⟩ := HML.out.n; have := (p2.lt _ e.symm).1; omega)).trans HML.out.box; have x1 := blk_cell hbx 1; have y1 := blk_free hbx 1; have x22 : w7.cell? ⟨w2.heap.size, 2, none⟩ = some vO := (blk_cell hbx 2); have y22 := blk_free hbx 2; obtain ⟨j0, j1, j2, j3, j4⟩ := HMB7.out.cells; have HMl8 := HMB7.out.below (bel_new _ (.cells #[.slice (some ⟨gb, 0, none⟩) j cb] 22)); obtain ⟨us2, t1, t2, t3, t4, t5, t6, t7⟩ := HMl8.o; rw [Hl2.out] at t1 t2; have T2 := Lib.hid t2; have HML8 := Lib.hid HMl8; have TQ := Lib.hid (And.intro t1 (And.intro t3 (And.intro t4 (And.intro t5 (And.intro t6 t7))))); have Ob8 := Lib.hid ((own_set (own_kept Obl.out hg7 (fun g h1 h2 => (Nb1.out g h1).1 (Q.out.2.2.2.2.1 g h2))) (show w2.heap.size < w2.heap.size + 1 by omega) (i := 1) (u := (Value.slice A7 (k + 1) c7))).alloc (.cells #[.slice (some ⟨gb, 0, none⟩) j cb] 22)); have Hlit2 := Lib.hid (Row.of_own (World.ownsRow_lit (base := (w7.setCell ⟨w2.heap.size, 1, none⟩ (Value.slice A7 (k + 1) c7)).heap.size) (e := 22) (size := 1) (w7.setCell ⟨w2.heap.size, 1, none⟩ (Value.slice A7 (k + 1) c7)) #[.slice (some ⟨gb, 0, none⟩) j cb] 1 (Nat.le_refl _) (by unfold maxLen; omega) rfl)); have Hg7 := Lib.hid hg7; have Hat7 := Lib.hid hat7; have hz7 := hg7.size; have hz8 : (w7.setCell ⟨w2.heap.size, 1, none⟩ (Value.slice A7 (k + 1) c7)).heap.size = w7.heap.size := (by simp [World.setCell]); have Hlit2 := Lib.hid (by have hh := Hlit2.out; rw [hz8] at hh; exact hh); clear hown7 hg7 hat7 hbx HMl8 t1 t2 t3 t4 t5 t6 t7 k0 k1 k2 k3 k4)
            | (at_builtin; refine append_intss rfl (.tmp 52) (.tmp 54) rfl (w2.heap.size + 1) vO k us2 rfl T2.out _ 1 [.slice (some ⟨gb, 0, none⟩) j cb] rfl Hlit2.out (by simp [Value.oneCell']) (by omega) (by first | omega | (simp <;> omega)) ?_; intro v9 w9 hown9 hg9 hat9; obtain ⟨A9, c9, hv9⟩ := slice_of_own hown9; subst hv9; have HMB9 := Lib.hid (MB.addO HML8.out (TQ.out.1.trans Hl2.out.symm) TQ.out.2.1 TQ.out.2.2.1 TQ.out.2.2.2.1 TQ.out.2.2.2.2.1 TQ.out.2.2.2.2.2 Ob8.out (Nb2.out _ Hat7.out) (fun g hg => (Nb1.out g hg).2) (by rw [Hl2.out]; exact hown9) hg9 hat9); have hbx := (hg9.block w2.heap.size (mb_lt HML8.out) (fun e => by obtain ⟨_, _, p2, _⟩ := HML8.out.o; have := (p2.lt _ e.symm).1; omega)).trans HML8.out.box; have x2 := blk_cell hbx 2; have y2 := blk_free hbx 2; have Hg9 := Lib.hid hg9; clear hown9 hg9 hat9 hbx j0 j1 j2 j3 j4 x1 y1))
          go_roundw
          case rel => exact ⟨k + 1, _, _, _, _, by omega, by go_num, Lib.hid (by rw [HX1.out, HX2.out]; exact HMB9.out), by
            have b1 := (Hbr.out.alloc Hbr.out.size (.cells #[.slice (some ⟨ga, 0, none⟩) j ca] 22)).grown Hg7.out (by simp; omega) (fun q hq => by have := (Q2.out.lt q hq).1; omega)
            have b2 := (b1.setCell (p := ⟨w2.heap.size, 1, none⟩) (Nat.le_refl _) (Value.slice A7 (k + 1) c7)).alloc (by omega) (.cells #[.slice (some ⟨gb, 0, none⟩) j cb] 22)
            exact (b2.grown Hg9.out (by simp; omega) (fun q hq => by have := (T2.out.lt q hq).1; omega)).setCell (p := ⟨w2.heap.size, 2, none⟩) (Nat.le_refl _) (Value.slice A9 (k + 1) c9)⟩
          case measure => simp [intOf] <;> omega
    · obtain rfl : k = (Cir.reach d).length := by omega
      have HMf : Hid (MB w2.heap.size d.ins E1 E2 vN vO (Cir.machN d).next (Cir.machN d).out wr) := Lib.hid (by
        have := HMB.out
        rwa [List.take_of_length_le (by unfold Cir.machN; simp), List.take_of_length_le (by unfold Cir.machN; simp)] at this)
      obtain ⟨k0, k1, k2, k3, k4⟩ := HMf.out.cells
      have hR := (Hb.out.block (w.heap.size + 1) (by omega)).trans HRes2.out
      have o0 := blk_cell hR 0
      have o1 := blk_cell hR 1
      have o2 := blk_cell hR 2
      have b0 := blk_free hR 0
      have b1 := blk_free hR 1
      have b2 := blk_free hR 2
      simp at o0 o1 o2
      have HB := Lib.hid (B2.out.trans (Hb.out.mono B2.out.size))
      have hlN := HMf.out.l1
      have hlO := HMf.out.l2
      obtain ⟨An, cn, hvN, -, -⟩ := SSAt.shape (OwnSE.at HMf.out.n)
      obtain ⟨Ao, co, hvO, -, -⟩ := SSAt.shape (OwnSE.at HMf.out.o)
      have HMF2 := Lib.hid (And.intro HMf.out.n (And.intro HMf.out.o HMf.out.d))
      have HlN := Lib.hid hlN
      have HlO := Lib.hid hlO
      clear hR HMf HMB hlN hlO
      subst hvN hvO
      go_wp2_with fail
      refine bodyPost_ret (v := .agg #[.int .i64 d.ins, .slice An (Cir.machN d).next.length cn, .slice Ao (Cir.machN d).out.length co]) (by simp [results, Try.results34, go_sem, o0, o1, o2]) rfl ⟨_, rfl, ⟨_, _, E1, E2, rfl, fun g he => ?_, fun g he => ?_, HMF2.out.2.2, ?_, ?_⟩, ?_⟩
      · have h1 := HlN.out g he; simp [World.setCell]; omega
      · have h1 := HlO.out g he; simp [World.setCell]; omega
      · exact OwnSE.mono (((OwnSE.set (OwnSE.set (OwnSE.set HMF2.out.1 (by omega)) (by omega)) (by omega)))) (by omega) (fun _ h => h)
      · exact OwnSE.mono (((OwnSE.set (OwnSE.set (OwnSE.set HMF2.out.2.1 (by omega)) (by omega)) (by omega)))) (by omega) (fun _ h => h)
      · exact ((HB.out.setCell (by simp only; omega) _).setCell (by simp only; omega) _).setCell (by simp only; omega) _
end Go.Proofs.Ytlbfejdbfhgifaa

namespace Go.Proofs.Ytlbfejdbfhgifaa
open Go.RowKit
set_option maxRecDepth 100000
/-! MachineOf, by the reference. -/
/-- A row of single cells in blocks of a set. -/
def TIn (F : Nat → Prop) (cs : List Value) : Ty := fun w v => RowIn F w 1 v cs.length cs
theorem stb_in {E F : Nat → Prop} (hE : ∀ g, F g → ¬ E g) (cs : List Value) : Stb E (TIn F cs) := fun _ _ _ h ho => h.only ho hE
theorem stb_in_none (F : Nat → Prop) (cs : List Value) : Stb (fun _ => False) (TIn F cs) := stb_in (fun _ _ h => h) cs
def TStepIn (B : Nat) (so st : List Bool) : Ty := fun w v => ∃ a b, v = .agg #[a, b] ∧ RowIn (From B) w 1 a so.length (bools so) ∧ BoolsAt w b st
theorem stb_stepIn (B : Nat) (so st : List Bool) : Stb (fun _ => False) (TStepIn B so st) := by
  rintro v w w' ⟨a, b, rfl, h1, h2⟩ ho
  exact ⟨a, b, rfl, h1.below (only_below ho), stb_bools _ _ _ _ h2 ho⟩
theorem Only.after {E F : Nat → Prop} {a b c : World} (h : Only E a b) (h' : Only F b c) (hF : ∀ g, F g → a.heap.size ≤ g ∨ E g) : Only E a c :=
  ⟨h'.os.trans h.os, h'.tape.trans h.tape, h'.output.trans h.output, Nat.le_trans h.size h'.size, fun k hk hn => (h'.block k (Nat.lt_of_lt_of_le hk h.size) fun hf => by
    rcases hF k hf with e | e
    · omega
    · exact hn e).trans (h.block k hk hn)⟩
/-- A machine, as a result to read. -/
def ReadMach (m : Mz) (w : World) (e : Ending) (w' : World) : Prop := (∃ v, e = .returned v ∧ MachAt w' v m) ∧ Below w.heap.size w w'
/-- A machine whose rows lie in new memory. -/
def MachIn (B : Nat) (w : World) (v : Value) (m : Mz) : Prop := ∃ vn vo, v = .agg #[.int .i64 m.ins, vn, vo] ∧ SSIn ints (From B) w vn m.next ∧ SSIn ints (From B) w vo m.out
theorem MachIn.at {B : Nat} {w : World} {v : Value} {m : Mz} (h : MachIn B w v m) : MachAt w v m := by
  obtain ⟨vn, vo, rfl, h1, h2⟩ := h
  exact ⟨vn, vo, rfl, h1.at, h2.at⟩
theorem MachIn.only {B : Nat} {w w' : World} {v : Value} {m : Mz} {E : Nat → Prop} (h : MachIn B w v m) (ho : Only E w w') (hE : ∀ g, B ≤ g → ¬ E g) : MachIn B w' v m := by
  obtain ⟨vn, vo, rfl, h1, h2⟩ := h
  exact ⟨vn, vo, rfl, h1.only ho hE, h2.only ho hE⟩
theorem MachIn.mono {B B' : Nat} {w : World} {v : Value} {m : Mz} (h : MachIn B w v m) (hB : B' ≤ B) : MachIn B' w v m := by
  obtain ⟨vn, vo, rfl, h1, h2⟩ := h
  exact ⟨vn, vo, rfl, h1.mono fun g hg => Nat.le_trans hB hg, h2.mono fun g hg => Nat.le_trans hB hg⟩
theorem OwnSE.innM {α : Type} {enc : List α → List Value} {tO ti : TypeId} {B : Nat} {E : Nat → Prop} {w : World} {v : Value} {xss : List (List α)} (h : OwnSE enc tO ti B E w v xss) : SSIn enc (From B) w v xss := by
  obtain ⟨vs, h1, h2, h3, -⟩ := h
  exact ⟨vs, h1, (RowIn.of_own h2).mono fun g hg => hg.1, fun i x u hx hu => (RowIn.of_own (h3 i x u hx hu)).mono fun g hg => hg.1⟩
def ReadMachF (m : Mz) (w : World) (e : Ending) (w' : World) : Prop := (∃ v, e = .returned v ∧ MachIn (w.heap.size + 1) w' v m) ∧ Below w.heap.size w w'
theorem ReadMachF.read {m : Mz} {w : World} {e : Ending} {w' : World} (h : ReadMachF m w e w') : ReadMach m w e w' := by
  obtain ⟨⟨v, h1, h2⟩, h3⟩ := h
  exact ⟨⟨v, h1, h2.at⟩, h3⟩
theorem rowI_snoc {d : Ci} {s j : Nat} (h : j < 2 ^ d.ins) : (Cir.rowI d s).take (j + 1) = (Cir.rowI d s).take j ++ [idxOf (Cir.reach d) (Cir.nextOf d s j)] := by
  refine take_snoc ?_
  unfold Cir.rowI Cir.rowN
  simp [h]
theorem rowO_snoc {d : Ci} {s j : Nat} (h : j < 2 ^ d.ins) : (nats (Cir.rowO d s)).take (j + 1) = (nats (Cir.rowO d s)).take j ++ [((Cir.num (Cir.outsOf d s j) : Nat) : Int)] := by
  refine take_snoc ?_
  unfold nats Cir.rowO
  simp [h]
end Go.Proofs.Ytlbfejdbfhgifaa

namespace Go.Proofs.Ytlbfejdbfhgifaa
open Go.RowKit
set_option maxRecDepth 100000
/-! Hazards, by the reference. -/
theorem tbits_snoc (x k : Nat) : nints (Cir.tbits x (k + 1)) = nints (Cir.tbits x k) ++ [.int .i64 ((x / 2 ^ k % 2 : Nat) : Int)] := by
  unfold Cir.tbits Cir.bits
  rw [List.range_succ, List.map_append, List.map_append]
  unfold nints nats ints
  rw [List.map_append, List.map_append]
  simp [Nat.toNat_testBit]
theorem tbits_length (x n : Nat) : (Cir.tbits x n).length = n := by unfold Cir.tbits; rw [List.length_map, Cir.bits_length]
set_option maxHeartbeats 4000000 in
theorem l33Terns_any (v : Value) (d : Ci) (x k : Nat) (w : World) (h : CircAt w v (Cir.toCz d)) (hd : Cir.Ok d) (hx : x ≤ 1000) (hk : k < d.ins) :
    Calls Try.prog 42 #[v, .int .i64 x, .int .i64 k] w fun e w' => (∃ a b, e = .returned (.tuple #[a, b]) ∧ NatsAt w' a ((Cir.tbits x d.ins).set k 2) ∧ NatsAt w' b (Cir.tbits (x / 2 ^ d.ins) d.next.length)) ∧ Below w.heap.size w w' := by
  have l1 := hd.ins
  have l2 := hd.nexts
  obtain ⟨vn, vg, vo, rfl, r1, r2, r3⟩ := h
  obtain ⟨An, cn, rfl, hcn, hcmn⟩ := NatsAt.shape (xs := d.next) r1
  unfold maxLen at hcmn
  have hins : (Cir.toCz d).ins = (d.ins : Int) := rfl
  rw [hins]
  have B0 := Lib.hid (bel_new w (.cells #[.int .i64 d.ins, .slice An d.next.length cn, vg, vo] 31))
  have hsz : (w.alloc (.cells #[.int .i64 d.ins, .slice An d.next.length cn, vg, vo] 31)).heap.size = w.heap.size + 1 := by simp
  have PC := Lib.hid (PCells.boxed w d.ins (.slice An d.next.length cn) vg vo 31)
  clear r1 r2 r3 hd hins
  go_enter Try.func42, Try.ntmps42
  go_wp2_with fail
  generalize w.alloc (.cells #[.int .i64 d.ins, .slice An d.next.length cn, vg, vo] 31) = W at *
  have hs1 : (W.alloc (.cells #[] 3)).heap.size = W.heap.size + 1 := by simp
  have HA0 : Hid (((W.alloc (.cells #[] 3)).alloc (.cells #[] 3)).ownsRow W.heap.size 3 1 (.slice (some ⟨w.heap.size + 1, 0, none⟩) 0 0) 0 (nints (Cir.tbits x 0))) := Lib.hid (by
    have := (World.ownsRow_lit (base := W.heap.size) (e := 3) (size := 1) W #[] 0 (Nat.le_refl _) (by unfold maxLen; omega) rfl).alloc (.cells #[] 3)
    rw [hsz] at this ⊢
    exact this)
  have HB0 : Hid (((W.alloc (.cells #[] 3)).alloc (.cells #[] 3)).ownsRow W.heap.size 3 1 (.slice (some ⟨w.heap.size + 1 + 1, 0, none⟩) 0 0) 0 (nints (Cir.tbits (x / 2 ^ d.ins) 0))) := Lib.hid (by
    have := (World.ownsRow_lit (base := W.heap.size) (e := 3) (size := 1) (W.alloc (.cells #[] 3)) #[] 0 (by omega) (by unfold maxLen; omega) rfl)
    rw [hs1, hsz] at this
    rw [hsz]
    exact this)
  have hb0 := bel_new W (.cells #[] 3)
  have HBW := Lib.hid (hb0.trans ((bel_new (W.alloc (.cells #[] 3)) (.cells #[] 3)).mono hb0.size))
  have HN0 : Hid ((Value.slice (some ⟨w.heap.size + 1, 0, none⟩) 0 0).ownBlock ≠ some (w.heap.size + 1 + 1)) := Lib.hid (by
    intro e
    have := Option.some.inj e
    simp only at this
    omega)
  have hs2 : ((W.alloc (.cells #[] 3)).alloc (.cells #[] 3)).heap.size = w.heap.size + 1 + 1 + 1 := by simp [hsz]
  generalize (W.alloc (.cells #[] 3)).alloc (.cells #[] 3) = W2 at *
  clear hb0 hs1
  go_loopw [8, 10] (fun v i wr => ∃ (vv : Value) (j : Nat), vv = v ∧ i = .int .i64 j ∧ j ≤ d.ins ∧ Hid (wr.ownsRow W.heap.size 3 1 v j (nints (Cir.tbits x j))) ∧ Hid (wr.ownsRow W.heap.size 3 1 (.slice (some ⟨w.heap.size + 1 + 1, 0, none⟩) 0 0) 0 (nints (Cir.tbits (x / 2 ^ d.ins) 0))) ∧ Hid (v.ownBlock ≠ some (w.heap.size + 1 + 1)) ∧ Below W.heap.size W wr ∧ w.heap.size + 1 + 1 < wr.heap.size) (fun _ i _ => d.ins - (intOf i).toNat)
  case atStart => exact ⟨_, 0, rfl, rfl, Nat.zero_le _, HA0, HB0, HN0, HBW.out, by omega⟩
  case round =>
    obtain ⟨vv, j, hvv, rfl, hj, Ha, Hb0, Hn, hb, zr⟩ := hrel
    subst hvv
    clear HA0 HB0 HN0 HBW hs2
    have Hb := Lib.hid hb
    have hzb := hb.size
    have PCr := Lib.hid (PC.out.below hb)
    clear hb
    obtain ⟨z, p0, p1, p2, p3⟩ := PCr.out
    by_cases hlt : j < d.ins
    · have hdj : decide (j < d.ins) = true := decide_eq_true hlt
      have HS := Lib.hid (tbits_snoc x j)
      have hq : (x : Int) / 2 ^ j = ((x / 2 ^ j : Nat) : Int) := by rw [Int.natCast_ediv, two_pow]
      have hm := tmod_two (x / 2 ^ j)
      generalize x / 2 ^ j = y at hq hm HS
      generalize y % 2 = r at hm HS
      have Hlit := Lib.hid (Row.of_own (World.ownsRow_lit (base := wr.heap.size) (e := 3) (size := 1) wr #[.int .i64 (r : Nat)] 1 (Nat.le_refl _) (by unfold maxLen; omega) rfl))
      go_wp2_with (at_builtin; refine append_ints rfl (.tmp 20) (.tmp 25) rfl W.heap.size _ j _ rfl (Ha.out.alloc _) _ 1 [.int .i64 (r : Nat)] rfl Hlit.out (by simp [Value.oneCell']) (by omega) (by simp; omega) ?_; intro v7 w7 hown7 hg7 hat7; have Ho7 := Lib.hid hown7; have Hg7 := Lib.hid hg7; have Hat7 := Lib.hid hat7; clear hown7 hg7 hat7)
      go_roundw
      case rel =>
        refine ⟨_, j + 1, rfl, by go_num, by omega, Lib.hid (by rw [HS.out]; exact Ho7.out), Lib.hid (own_kept (Hb0.out.alloc _) Hg7.out (fun g hg e => ?_)), Lib.hid (fun e => ?_), (Hb.out.alloc hzb _).grown Hg7.out (Hb.out.alloc hzb _).size (own_ge0 Ha.out), ?_⟩
        · have hg2 := Option.some.inj hg
          simp only at hg2
          exact Hn.out (by rw [hg2]; exact e)
        · rcases Hat7.out with h | h
          · exact Hn.out (h ▸ e)
          · rw [h] at e
            have := Option.some.inj e
            rw [World.size_alloc] at this
            omega
        · have := Hg7.out.size
          rw [World.size_alloc] at this
          omega
      case measure => simp [intOf] <;> omega
    · obtain rfl : j = d.ins := by omega
      have hdj : decide (d.ins < d.ins) = false := decide_eq_false (by omega)
      have Hap : Hid (∀ g, vv.ownBlock = some g → (Value.slice (some ⟨w.heap.size + 1 + 1, 0, none⟩) 0 0).ownBlock ≠ some g) := Lib.hid (fun g hg e => by
        have hg2 := Option.some.inj e
        simp only at hg2
        exact Hn.out (by rw [hg2]; exact hg))
      go_wp2_with fail
      clear z p0 p1 p2 p3 Hn
      go_loopw [9, 11] (fun v i wr => ∃ (ub : Value) (j : Nat), ub = v ∧ i = .int .i64 j ∧ j ≤ d.next.length ∧ Hid (wr.ownsRow W.heap.size 3 1 vv d.ins (nints (Cir.tbits x d.ins))) ∧ Hid (wr.ownsRow W.heap.size 3 1 v j (nints (Cir.tbits (x / 2 ^ d.ins) j))) ∧ Hid (Apart vv v) ∧ Below W.heap.size W wr) (fun _ i _ => d.next.length - (intOf i).toNat)
      case atStart => exact ⟨_, 0, rfl, rfl, Nat.zero_le _, Ha, Hb0, Hap, Hb.out⟩
      case round =>
        obtain ⟨ub, j, hub, rfl, hj, Ha, Hbb, Hap, hb⟩ := hrel
        subst hub
        clear Hb0 PCr Hb
        have Hb := Lib.hid hb
        have hzb := hb.size
        have PCr := Lib.hid (PC.out.below hb)
        clear hb
        obtain ⟨z, p0, p1, p2, p3⟩ := PCr.out
        by_cases hlt : j < d.next.length
        · have hdj2 : decide (j < d.next.length) = true := decide_eq_true hlt
          have HS := Lib.hid (tbits_snoc (x / 2 ^ d.ins) j)
          have hq : (x : Int) / 2 ^ (d.ins + j) = ((x / 2 ^ d.ins / 2 ^ j : Nat) : Int) := by rw [Nat.div_div_eq_div_mul, ← Nat.pow_add, Int.natCast_ediv, two_pow]
          have hwij : IntKind.i64.wrap ((d.ins : Int) + (j : Int)) = (d.ins : Int) + (j : Int) := IntWalk.i64_in _ (by omega)
          have htn : ((d.ins : Int) + (j : Int)).toNat = d.ins + j := by omega
          have h0ij : ¬ ((d.ins : Int) + (j : Int) < 0) := by omega
          have hm := tmod_two (x / 2 ^ d.ins / 2 ^ j)
          generalize x / 2 ^ d.ins / 2 ^ j = y at hq hm HS
          generalize y % 2 = r at hm HS
          have Hlit := Lib.hid (Row.of_own (World.ownsRow_lit (base := wr.heap.size) (e := 3) (size := 1) wr #[.int .i64 (r : Nat)] 1 (Nat.le_refl _) (by unfold maxLen; omega) rfl))
          go_wp2_with (at_builtin; refine append_ints rfl (.tmp 34) (.tmp 42) rfl W.heap.size _ j _ rfl (Hbb.out.alloc _) _ 1 [.int .i64 (r : Nat)] rfl Hlit.out (by simp [Value.oneCell']) (by omega) (by simp; omega) ?_; intro v7 w7 hown7 hg7 hat7; have Ho7 := Lib.hid hown7; have Hg7 := Lib.hid hg7; have Hat7 := Lib.hid hat7; clear hown7 hg7 hat7)
          go_roundw
          case rel =>
            refine ⟨_, j + 1, rfl, by go_num, by omega, Lib.hid (own_kept (Ha.out.alloc _) Hg7.out (fun g hg => Hap.out g hg)), Lib.hid (by rw [HS.out]; exact Ho7.out), Lib.hid (fun g hg e => ?_), (Hb.out.alloc hzb _).grown Hg7.out (Hb.out.alloc hzb _).size (own_ge0 Hbb.out)⟩
            rcases Hat7.out with h | h
            · exact Hap.out g hg (h ▸ e)
            · rw [h] at e
              have h1 := Option.some.inj e
              rw [World.size_alloc] at h1
              have h2 := (Ha.out.lt g hg).2
              omega
          case measure => simp [intOf] <;> omega
        · obtain rfl : j = d.next.length := by omega
          have hdj2 : decide (d.next.length < d.next.length) = false := decide_eq_false (by omega)
          obtain ⟨g3, c3, hv3, hg3b, hg3l, -⟩ := own_open Ha.out (by omega)
          subst hv3
          obtain ⟨u3, _, hs3, hf3⟩ := own_slot Ha.out (j := k) (by omega)
          have Hst := Lib.hid (Ha.out.stored k (.int .i64 2))
          have HT3 : Hid ((nints (Cir.tbits x d.ins)).set k (.int .i64 2) = nints ((Cir.tbits x d.ins).set k 2)) := Lib.hid (by
            unfold nints ints nats
            simp [List.map_set])
          go_wp2_with fail
          refine bodyPost_ret (v := .tuple #[.slice (some ⟨g3, 0, none⟩) d.ins c3, ub]) (by simp [results, Try.results42, go_sem]) rfl ⟨⟨_, _, rfl, ?_, ?_⟩, ?_⟩
          · have := Hst.out.1
            rw [HT3.out] at this
            exact nats_own this (by rw [List.length_set]; exact tbits_length _ _)
          · exact nats_own (own_kept Hbb.out Hst.out.2 (fun g hg e => Hap.out g e hg)) (tbits_length _ _)
          · exact B0.out.trans ((Hb.out.grown Hst.out.2 hzb (fun q hq => by have := Option.some.inj hq; omega)).mono B0.out.size)
theorem PCells.onlyH {E : Nat → Prop} {w w' : World} {g : Nat} {i : Int} {vn vg vo : Value} (h : PCells w g i vn vg vo) (ho : Only E w w') (hE : ¬ E g) : PCells w' g i vn vg vo := by
  obtain ⟨hg, c0, c1, c2, c3⟩ := h
  have hk := ho.block g hg hE
  exact ⟨Nat.lt_of_lt_of_le hg ho.size, (World.cell?_of_block (a := ⟨g, 0, none⟩) hk).trans c0, (World.cell?_of_block (a := ⟨g, 1, none⟩) hk).trans c1, (World.cell?_of_block (a := ⟨g, 2, none⟩) hk).trans c2, (World.cell?_of_block (a := ⟨g, 3, none⟩) hk).trans c3⟩
set_option maxHeartbeats 16000000 in
theorem specHaz_ok (v : Value) (d : Ci) (w : World) (h : CircAt w v (Cir.toCz d)) (hd : Cir.Ok d) (hv : Cir.valid (Cir.toCz d) = true) :
    Calls Try.prog 11 #[v] w (OwnHaz (Cir.hazards d) w) := by
  have l1 := hd.ins
  have l2 := hd.nexts
  have l3 := hd.gatess
  have l4 := hd.outss
  have HC := Lib.hid h
  obtain ⟨vn, vg, vo, rfl, r1, r2, r3⟩ := h
  obtain ⟨Ao, co, rfl, hco, hcom⟩ := NatsAt.shape (xs := d.outs) r3
  obtain ⟨An, cn, rfl, hcn, hcmn⟩ := NatsAt.shape (xs := d.next) r1
  have hins : (Cir.toCz d).ins = (d.ins : Int) := rfl
  rw [hins] at HC ⊢
  have B0 := Lib.hid (bel_new w (.cells #[.int .i64 d.ins, .slice An d.next.length cn, vg, .slice Ao d.outs.length co] 31))
  have PC := Lib.hid (PCells.boxed w d.ins (.slice An d.next.length cn) vg (.slice Ao d.outs.length co) 31)
  have hsz : (w.alloc (.cells #[.int .i64 d.ins, .slice An d.next.length cn, vg, .slice Ao d.outs.length co] 31)).heap.size = w.heap.size + 1 := by simp
  have HC0 := Lib.hid (HC.out.below B0.out)
  have HV := Lib.hid (fun w' hb => specValid_any _ _ w' (HC0.out.below hb))
  rw [hv] at HV
  have HO := Lib.hid (show NatsAt (w.alloc (.cells #[.int .i64 d.ins, .slice An d.next.length cn, vg, .slice Ao d.outs.length co] 31)) (.slice Ao d.outs.length co) d.outs from Row.below r3 B0.out)
  have Hd := Lib.hid hd
  have Hv := Lib.hid hv
  obtain ⟨M, hM⟩ : ∃ M : Nat, M = 2 ^ (d.ins + d.next.length) := ⟨_, rfl⟩
  have hM128 : M ≤ 128 := by rw [hM]; exact Nat.pow_le_pow_right (show 0 < 2 by decide) (show _ ≤ 7 by omega)
  have eM : (2 : Int) ^ (d.ins + d.next.length) = (M : Int) := by rw [hM]; exact two_pow _
  have hwM := IntWalk.i64_in (M : Int) (by omega)
  have hwS : IntKind.i64.wrap ((d.ins : Int) + (d.next.length : Int)) = (d.ins : Int) + (d.next.length : Int) := IntWalk.i64_in _ (by omega)
  have htS : ((d.ins : Int) + (d.next.length : Int)).toNat = d.ins + d.next.length := by omega
  have h0S : ¬ ((d.ins : Int) + (d.next.length : Int) < 0) := by omega
  have HH : Hid (Cir.hazards d = Cir.hzX d M) := Lib.hid (by rw [hM]; rfl)
  have HLX := Lib.hid (fun x => Cir.hzX_len d hd x)
  have HLK := Lib.hid (fun x k => Cir.hzK_len d hd x k)
  rw [HH.out]
  have HL0 : Hid (((w.alloc (.cells #[.int .i64 d.ins, .slice An d.next.length cn, vg, .slice Ao d.outs.length co] 31)).alloc (.cells #[] 57)).ownsRow (w.heap.size + 1) 57 3 (.slice (some ⟨w.heap.size + 1, 0, none⟩) 0 0) 0 (trips [])) := Lib.hid (by
    have := World.ownsRow_lit (base := w.heap.size + 1) (e := 57) (size := 3) (w.alloc (.cells #[.int .i64 d.ins, .slice An d.next.length cn, vg, .slice Ao d.outs.length co] 31)) #[] 0 (by simp) (by unfold maxLen; omega) rfl
    rwa [World.size_alloc] at this)
  have HB1 := Lib.hid (bel_new (w.alloc (.cells #[.int .i64 d.ins, .slice An d.next.length cn, vg, .slice Ao d.outs.length co] 31)) (.cells #[] 57))
  obtain ⟨z, p0, p1, p2, p3⟩ := PC.out.below HB1.out
  clear r1 r2 r3 hd hins hv HC hco hcom hcn hcmn hM HH
  go_enter Try.func11, Try.ntmps11
  go_wp2_with fail
  generalize w.alloc (.cells #[.int .i64 d.ins, .slice An d.next.length cn, vg, .slice Ao d.outs.length co] 31) = W at *
  refine (HV.out _ HB1.out).mono ?_
  rintro e w1 ⟨rfl, hb1⟩
  have Hb1 := Lib.hid (HB1.out.trans (hb1.mono HB1.out.size))
  have HL1 := Lib.hid (own_below HL0.out hb1)
  clear hb1 HB1 HL0 p0 p1 p2 p3 z HV
  obtain ⟨z, p0, p1, p2, p3⟩ := PC.out.below Hb1.out
  go_wp2_with fail
  clear z p0 p1 p2 p3
  go_loopw [3, 4] (fun v i wr => ∃ (vv : Value) (x : Nat), vv = v ∧ i = .int .i64 x ∧ x ≤ M ∧ Hid (wr.ownsRow W.heap.size 57 3 v (Cir.hzX d x).length (trips (Cir.hzX d x))) ∧ Below W.heap.size W wr) (fun _ i _ => M - (intOf i).toNat)
  case atStart => exact ⟨_, 0, rfl, rfl, Nat.zero_le _, Lib.hid (own_mono HL1.out (by omega)), Hb1.out⟩
  case round =>
    obtain ⟨vv, x, hvv, rfl, hx, Hl, hb⟩ := hrel
    subst hvv
    clear Hb1 HL1
    have Hb := Lib.hid hb
    have zb := hb.size
    have PCr := Lib.hid (PC.out.below hb)
    clear hb
    obtain ⟨z, p0, p1, p2, p3⟩ := PCr.out
    by_cases hlx : x < M
    · have hdx : decide (x < M) = true := decide_eq_true hlx
      have HX1 : Hid (Cir.hzX d (x + 1) = Cir.hzX d x ++ Cir.hzK d x d.ins) := Lib.hid rfl
      have hX := HLX.out x
      obtain ⟨X, hXe⟩ : ∃ X, Cir.hzX d x = X := ⟨_, rfl⟩
      have Hl0 : Hid (wr.ownsRow W.heap.size 57 3 vv (X ++ Cir.hzK d x 0).length (trips (X ++ Cir.hzK d x 0))) := Lib.hid (by rw [← hXe]; rw [show Cir.hzX d x ++ Cir.hzK d x 0 = Cir.hzX d x from List.append_nil _]; exact Hl.out)
      rw [hXe] at HX1 hX
      clear Hl hXe
      go_wp2_with fail
      clear z p0 p1 p2 p3
      go_loopw [3, 5] (fun v i wr => ∃ (vv : Value) (k : Nat), vv = v ∧ i = .int .i64 k ∧ k ≤ d.ins ∧ Hid (wr.ownsRow W.heap.size 57 3 v (X ++ Cir.hzK d x k).length (trips (X ++ Cir.hzK d x k))) ∧ Below W.heap.size W wr) (fun _ i _ => d.ins - (intOf i).toNat)
      case atStart => exact ⟨_, 0, rfl, rfl, Nat.zero_le _, Hl0, Hb.out⟩
      case round =>
        obtain ⟨vv, k, hvv, rfl, hk, Hl, hb⟩ := hrel
        subst hvv
        clear Hl0 PCr Hb zb
        have Hb := Lib.hid hb
        have zb := hb.size
        have PCr := Lib.hid (PC.out.below hb)
        clear hb
        obtain ⟨z, p0, p1, p2, p3⟩ := PCr.out
        by_cases hlk : k < d.ins
        · have hdk : decide (k < d.ins) = true := decide_eq_true hlk
          have g3 : (x : Int) / 2 ^ k = ((x / 2 ^ k : Nat) : Int) := by rw [Int.natCast_ediv, two_pow]
          have g1 := tmod_two (x / 2 ^ k)
          have g2 := (bit_and x k (by omega)).2.1
          have hK := HLK.out x k
          have HKs := Lib.hid (fun h => Cir.hzK_skip (d := d) (x := x) (k := k) h)
          have HKa := Lib.hid (fun h => Cir.hzK_all (d := d) (x := x) (k := k) h)
          generalize x / 2 ^ k = y at g1 g2 g3
          generalize y % 2 = r at g1 g2
          cases hbit : x.testBit k
          · have HKn := Lib.hid (HKa.out hbit)
            rw [hbit] at g2
            have hp8 := Cir.pow_small (k := k) (by omega)
            obtain ⟨p, hp⟩ : ∃ p, 2 ^ k = p := ⟨_, rfl⟩
            have hpI : (2 : Int) ^ k = (p : Int) := by rw [← hp]; exact two_pow k
            rw [hpI] at g3
            rw [hp] at hp8
            have hwp := IntWalk.i64_in (p : Int) (by omega)
            obtain ⟨xp, hxp⟩ : ∃ xp, x + p = xp := ⟨_, rfl⟩
            have hwxp : IntKind.i64.wrap ((x : Int) + (p : Int)) = (xp : Int) := (IntWalk.i64_in _ (by omega)).trans (by omega)
            have Hxp := Lib.hid hxp
            have hxpb : xp ≤ 1000 := by omega
            clear hxp
            clear HKs HKa hbit
            have HCk := Lib.hid (HC0.out.below Hb.out)
            obtain ⟨xq, hxq⟩ : ∃ q : Nat, x / 2 ^ d.ins = q := ⟨_, rfl⟩
            obtain ⟨yq, hyq⟩ : ∃ q : Nat, xp / 2 ^ d.ins = q := ⟨_, rfl⟩
            have hqx : (x : Int) / 2 ^ d.ins = (xq : Int) := by rw [← hxq, Int.natCast_ediv, two_pow]
            have hqy : (xp : Int) / 2 ^ d.ins = (yq : Int) := by rw [← hyq, Int.natCast_ediv, two_pow]
            have hxq2 : xq ≤ 1000 := by rw [← hxq]; exact Nat.le_trans (Nat.div_le_self _ _) (by omega)
            have hyq2 : yq ≤ 1000 := by rw [← hyq]; exact Nat.le_trans (Nat.div_le_self _ _) (by omega)
            have HoA : Hid (Cir.lits (Cir.vals d (Cir.bits xq d.next.length) (Cir.bits x d.ins)) d.outs = Cir.outsA d x) := Lib.hid (by rw [← hxq]; rfl)
            have HoB : Hid (Cir.lits (Cir.vals d (Cir.bits yq d.next.length) (Cir.bits xp d.ins)) d.outs = Cir.outsA d xp) := Lib.hid (by rw [← hyq]; rfl)
            have Hxq := Lib.hid hxq
            clear hxq hyq
            obtain ⟨Wk, hWk⟩ : ∃ Wk, Wk = wr := ⟨_, rfl⟩
            subst hWk
            go_wp2_with fail
            refine wp_region_rs (quietRS Try.prog _ Wk _) quietRS_ok (by kernel_rfl) (by kernel_rfl) (by kernel_rfl) (Nat.le_of_ble_eq_true rfl) trivial trivial ?_
            apply rs_eq quietRS_ok quiet_any
            · intro ρ w' ho hK
              have ho : Only _ Wk w' := ho
              obtain ⟨h0, -⟩ := hK
              have h0' : ρ (.tmp 1) = _ := h0
              have hb := only_below ho
              have q0 := (hb.cell (p := ⟨w.heap.size, 0, none⟩) z).trans p0
              have q1 := (hb.cell (p := ⟨w.heap.size, 1, none⟩) z).trans p1
              have q2 := (hb.cell (p := ⟨w.heap.size, 2, none⟩) z).trans p2
              have q3 := (hb.cell (p := ⟨w.heap.size, 3, none⟩) z).trans p3
              go_simp
              try exact rfl
            refine rs_old quietRS_ok quiet_any _ (.inl rfl) _ rfl rfl ?_
            apply rs_eq quietRS_ok quiet_any
            · intro ρ w' ho hK
              have ho : Only _ Wk w' := ho
              obtain ⟨h0, -⟩ := hK
              have h0' : ρ (.tmp 1) = _ := h0
              go_simp
              try exact rfl
            apply rs_eq quietRS_ok quiet_any
            · intro ρ w' ho hK
              have ho : Only _ Wk w' := ho
              obtain ⟨h0, -⟩ := hK
              have h0' : ρ (.tmp 46) = _ := h0
              have hb := only_below ho
              have q0 := (hb.cell (p := ⟨w.heap.size, 0, none⟩) z).trans p0
              have q1 := (hb.cell (p := ⟨w.heap.size, 1, none⟩) z).trans p1
              have q2 := (hb.cell (p := ⟨w.heap.size, 2, none⟩) z).trans p2
              have q3 := (hb.cell (p := ⟨w.heap.size, 3, none⟩) z).trans p3
              go_simp
              try exact rfl
            apply rs_eq quietRS_ok quiet_any
            · intro ρ w' ho hK
              have ho : Only _ Wk w' := ho
              obtain ⟨h0, h1, -⟩ := hK
              have h0' : ρ (.tmp 45) = _ := h0
              have h1' : ρ (.tmp 47) = _ := h1
              go_simp
              try exact rfl
            apply rs_eq quietRS_ok quiet_any
            · intro ρ w' ho hK
              have ho : Only _ Wk w' := ho
              obtain ⟨h0, -⟩ := hK
              have h0' : ρ (.tmp 1) = _ := h0
              go_simp
              try exact rfl
            apply rs_eq quietRS_ok quiet_any
            · intro ρ w' ho hK
              have ho : Only _ Wk w' := ho
              obtain ⟨h0, -⟩ := hK
              have h0' : ρ (.tmp 49) = _ := h0
              have hb := only_below ho
              have q0 := (hb.cell (p := ⟨w.heap.size, 0, none⟩) z).trans p0
              have q1 := (hb.cell (p := ⟨w.heap.size, 1, none⟩) z).trans p1
              have q2 := (hb.cell (p := ⟨w.heap.size, 2, none⟩) z).trans p2
              have q3 := (hb.cell (p := ⟨w.heap.size, 3, none⟩) z).trans p3
              go_simp
              try exact rfl
            apply rs_eq quietRS_ok quiet_any
            · intro ρ w' ho hK
              have ho : Only _ Wk w' := ho
              obtain ⟨h0, -⟩ := hK
              have h0' : ρ (.tmp 50) = _ := h0
              go_simp
              try exact rfl
            refine rs_call quietRS_ok quiet_any (TBools (Cir.bits xq d.next.length)) (stb_bools _) 41 _ _ rfl (fun ρ w' ho hK => by
              have ho : Only _ Wk w' := ho
              obtain ⟨h0, h1, h2, -⟩ := hK
              have h0' : ρ (.func 41) = .func (.func 41) #[] #[] := h0
              have h1' : ρ (.tmp 48) = _ := h1
              have h2' : ρ (.tmp 51) = _ := h2
              refine ⟨#[ρ (.tmp 48), ρ (.tmp 51)], ?_, ?_⟩
              · go_simp
              · rw [h1', h2']
                refine (l4Bits_any xq d.next.length w' (by omega) (by omega)).mono ?_
                rintro e w2 ⟨v2, rfl, hO, hb⟩
                exact ⟨v2, rfl, Row.of_own hO, hb⟩) ?_
            refine rs_old quietRS_ok quiet_any _ (.inl rfl) _ rfl rfl ?_
            apply rs_eq quietRS_ok quiet_any
            · intro ρ w' ho hK
              have ho : Only _ Wk w' := ho
              obtain ⟨h0, -⟩ := hK
              have h0' : ρ (.tmp 1) = _ := h0
              go_simp
              try exact rfl
            apply rs_eq quietRS_ok quiet_any
            · intro ρ w' ho hK
              have ho : Only _ Wk w' := ho
              obtain ⟨h0, -⟩ := hK
              have h0' : ρ (.tmp 54) = _ := h0
              have hb := only_below ho
              have q0 := (hb.cell (p := ⟨w.heap.size, 0, none⟩) z).trans p0
              have q1 := (hb.cell (p := ⟨w.heap.size, 1, none⟩) z).trans p1
              have q2 := (hb.cell (p := ⟨w.heap.size, 2, none⟩) z).trans p2
              have q3 := (hb.cell (p := ⟨w.heap.size, 3, none⟩) z).trans p3
              go_simp
              try exact rfl
            refine rs_call quietRS_ok quiet_any (TBools (Cir.bits x d.ins)) (stb_bools _) 41 _ _ rfl (fun ρ w' ho hK => by
              have ho : Only _ Wk w' := ho
              obtain ⟨h0, h1, h2, -⟩ := hK
              have h0' : ρ (.func 41) = .func (.func 41) #[] #[] := h0
              have h1' : ρ (.tmp 53) = _ := h1
              have h2' : ρ (.tmp 55) = _ := h2
              refine ⟨#[ρ (.tmp 53), ρ (.tmp 55)], ?_, ?_⟩
              · go_simp
              · rw [h1', h2']
                refine (l4Bits_any x d.ins w' (by omega) (by omega)).mono ?_
                rintro e w2 ⟨v2, rfl, hO, hb⟩
                exact ⟨v2, rfl, Row.of_own hO, hb⟩) ?_
            refine rs_call quietRS_ok quiet_any (TStepIn Wk.heap.size (Cir.outsA d x) (Cir.lits (Cir.vals d (Cir.bits xq d.next.length) (Cir.bits x d.ins)) d.next)) (stb_stepIn _ _ _) 40 _ _ rfl (fun ρ w' ho hK => by
              have ho : Only _ Wk w' := ho
              obtain ⟨h0, h1, h2, h3, -⟩ := hK
              have h0' : ρ (.func 40) = .func (.func 40) #[] #[] := h0
              have h1' : ρ (.tmp 44) = _ := h1
              have h2' : (TBools (Cir.bits xq d.next.length)) w' (ρ (.tmp 52)) := h2
              have h3' : (TBools (Cir.bits x d.ins)) w' (ρ (.tmp 56)) := h3
              refine ⟨#[ρ (.tmp 44), ρ (.tmp 52), ρ (.tmp 56)], ?_, ?_⟩
              · go_simp
              · rw [h1']
                refine (l2Step_any _ _ _ d _ _ w' (HCk.out.below (only_below ho)) Hd.out h2' h3' (Cir.bits_length _ _) (Cir.bits_length _ _)).mono ?_
                rintro e w2 ⟨a, b, rfl, oa, ob, hb⟩
                exact ⟨_, rfl, ⟨a, b, rfl, by rw [← HoA.out]; exact (RowIn.of_own oa).mono (fun g hg => Nat.le_trans (ho.size) hg.1), Row.of_own ob⟩, hb⟩) ?_
            refine rs_look quietRS_ok quiet_any (TInB (From Wk.heap.size) (Cir.outsA d x)) (stb_inB _ _) (fun ρ w' ho hK => by
              obtain ⟨h0, -⟩ := hK
              obtain ⟨a, b, e0, ha, hb⟩ : (TStepIn Wk.heap.size (Cir.outsA d x) (Cir.lits (Cir.vals d (Cir.bits xq d.next.length) (Cir.bits x d.ins)) d.next)) w' (ρ (.tmp 57)) := h0
              obtain ⟨Aa, ca, rfl, -⟩ := Row.shape ha.1
              obtain ⟨Ab, cb, rfl, -⟩ := Row.shape hb
              have hf := fun n m => step_field0 Aa Ab n m ca cb w'
              refine ⟨_, ?_, ha⟩
              go_simp) ?_
            refine rs_same quietRS_ok quiet_any 58 14 (.inr rfl) rfl _ rfl ?_
            intro f w9 k9 hk9 hI9 ht9 hcp9
            have E0 : f 0 = _ := ht9 0 (Nat.le_of_ble_eq_true rfl)
            have E1 : f 1 = _ := ht9 1 (Nat.le_of_ble_eq_true rfl)
            conv at E1 => rhs; whnf
            have E2 : f 2 = _ := ht9 2 (Nat.le_of_ble_eq_true rfl)
            have E3 : f 3 = _ := ht9 3 (Nat.le_of_ble_eq_true rfl)
            have E4 : f 4 = _ := ht9 4 (Nat.le_of_ble_eq_true rfl)
            have E5 : f 5 = _ := ht9 5 (Nat.le_of_ble_eq_true rfl)
            have E6 : f 6 = _ := ht9 6 (Nat.le_of_ble_eq_true rfl)
            have E7 : f 7 = _ := ht9 7 (Nat.le_of_ble_eq_true rfl)
            have E8 : (TBools (Cir.bits xq d.next.length)) w9 (f 8) := ht9 8 (Nat.le_of_ble_eq_true rfl)
            have E9 : f 9 = _ := ht9 9 (Nat.le_of_ble_eq_true rfl)
            conv at E9 => rhs; whnf
            have E10 : f 10 = _ := ht9 10 (Nat.le_of_ble_eq_true rfl)
            have E11 : f 11 = _ := ht9 11 (Nat.le_of_ble_eq_true rfl)
            have E12 : (TBools (Cir.bits x d.ins)) w9 (f 12) := ht9 12 (Nat.le_of_ble_eq_true rfl)
            have E13 : (TStepIn Wk.heap.size (Cir.outsA d x) (Cir.lits (Cir.vals d (Cir.bits xq d.next.length) (Cir.bits x d.ins)) d.next)) w9 (f 13) := ht9 13 (Nat.le_of_ble_eq_true rfl)
            have E14 : (TInB (From Wk.heap.size) (Cir.outsA d x)) w9 (f 14) := ht9 14 (Nat.le_of_ble_eq_true rfl)
            have E15 : (TInB (From Wk.heap.size) (Cir.outsA d x)) w9 (f 15) := ht9 15 (Nat.le_of_ble_eq_true rfl)
            have Ho9 : Only _ Wk w9 := hI9.2.1
            have C15 : f 15 = f 14 := (hcp9 15 _ 58 14 rfl rfl rfl rfl).2
            simp only [putAll, E0, E1, E2, E3, E4, E5, E6, E7, E9, E10, E11, C15, Nat.zero_add, Nat.reduceAdd, Act.put, List.setIfInBounds_toArray, List.set_cons_succ, List.set_cons_zero]
            clear E0 E1 E2 E3 E4 E5 E6 E7 E9 E10 E11
            clear hI9 ht9 hcp9 hk9
            generalize f 8 = r8 at *
            generalize f 12 = r12 at *
            generalize f 13 = r13 at *
            generalize f 14 = r14 at *
            have hb8 := only_below Ho9
            have HA := Lib.hid (show RowIn (From Wk.heap.size) w9 1 r14 (Cir.outsA d x).length (bools (Cir.outsA d x)) from E14)
            have Hb8 := Lib.hid hb8
            have z8 := hb8.size
            have PC8 := Lib.hid (PCr.out.below hb8)
            clear hb8 Ho9 E8 E12 E13 E14 E15 p0 p1 p2 p3 z
            obtain ⟨z, p0, p1, p2, p3⟩ := PC8.out
            obtain ⟨w8, hw8⟩ : ∃ w8, w8 = w9 := ⟨_, rfl⟩
            subst hw8
            obtain ⟨uA, huA⟩ : ∃ u, u = r14 := ⟨_, rfl⟩
            subst huA
            go_wp2_with fail
            refine wp_region_rs (quietRS Try.prog _ w8 _) quietRS_ok (by kernel_rfl) (by kernel_rfl) (by kernel_rfl) (Nat.le_of_ble_eq_true rfl) trivial trivial ?_
            apply rs_eq quietRS_ok quiet_any
            · intro ρ w' ho hK
              have ho : Only _ w8 w' := ho
              obtain ⟨h0, -⟩ := hK
              have h0' : ρ (.tmp 1) = _ := h0
              have hb := only_below ho
              have q0 := (hb.cell (p := ⟨w.heap.size, 0, none⟩) z).trans p0
              have q1 := (hb.cell (p := ⟨w.heap.size, 1, none⟩) z).trans p1
              have q2 := (hb.cell (p := ⟨w.heap.size, 2, none⟩) z).trans p2
              have q3 := (hb.cell (p := ⟨w.heap.size, 3, none⟩) z).trans p3
              go_simp
              try exact rfl
            refine rs_old quietRS_ok quiet_any _ (.inl rfl) _ rfl rfl ?_
            apply rs_eq quietRS_ok quiet_any
            · intro ρ w' ho hK
              have ho : Only _ w8 w' := ho
              obtain ⟨h0, -⟩ := hK
              have h0' : ρ (.tmp 1) = _ := h0
              go_simp
              try exact rfl
            apply rs_eq quietRS_ok quiet_any
            · intro ρ w' ho hK
              have ho : Only _ w8 w' := ho
              obtain ⟨h0, -⟩ := hK
              have h0' : ρ (.tmp 61) = _ := h0
              have hb := only_below ho
              have q0 := (hb.cell (p := ⟨w.heap.size, 0, none⟩) z).trans p0
              have q1 := (hb.cell (p := ⟨w.heap.size, 1, none⟩) z).trans p1
              have q2 := (hb.cell (p := ⟨w.heap.size, 2, none⟩) z).trans p2
              have q3 := (hb.cell (p := ⟨w.heap.size, 3, none⟩) z).trans p3
              go_simp
              try exact rfl
            apply rs_eq quietRS_ok quiet_any
            · intro ρ w' ho hK
              have ho : Only _ w8 w' := ho
              obtain ⟨h0, h1, -⟩ := hK
              have h0' : ρ (.tmp 60) = _ := h0
              have h1' : ρ (.tmp 62) = _ := h1
              go_simp
              try exact rfl
            apply rs_eq quietRS_ok quiet_any
            · intro ρ w' ho hK
              have ho : Only _ w8 w' := ho
              obtain ⟨h0, -⟩ := hK
              have h0' : ρ (.tmp 1) = _ := h0
              go_simp
              try exact rfl
            apply rs_eq quietRS_ok quiet_any
            · intro ρ w' ho hK
              have ho : Only _ w8 w' := ho
              obtain ⟨h0, -⟩ := hK
              have h0' : ρ (.tmp 64) = _ := h0
              have hb := only_below ho
              have q0 := (hb.cell (p := ⟨w.heap.size, 0, none⟩) z).trans p0
              have q1 := (hb.cell (p := ⟨w.heap.size, 1, none⟩) z).trans p1
              have q2 := (hb.cell (p := ⟨w.heap.size, 2, none⟩) z).trans p2
              have q3 := (hb.cell (p := ⟨w.heap.size, 3, none⟩) z).trans p3
              go_simp
              try exact rfl
            apply rs_eq quietRS_ok quiet_any
            · intro ρ w' ho hK
              have ho : Only _ w8 w' := ho
              obtain ⟨h0, -⟩ := hK
              have h0' : ρ (.tmp 65) = _ := h0
              go_simp
              try exact rfl
            refine rs_call quietRS_ok quiet_any (TBools (Cir.bits yq d.next.length)) (stb_bools _) 41 _ _ rfl (fun ρ w' ho hK => by
              have ho : Only _ w8 w' := ho
              obtain ⟨h0, h1, h2, -⟩ := hK
              have h0' : ρ (.func 41) = .func (.func 41) #[] #[] := h0
              have h1' : ρ (.tmp 63) = _ := h1
              have h2' : ρ (.tmp 66) = _ := h2
              refine ⟨#[ρ (.tmp 63), ρ (.tmp 66)], ?_, ?_⟩
              · go_simp
              · rw [h1', h2']
                refine (l4Bits_any yq d.next.length w' (by omega) (by omega)).mono ?_
                rintro e w2 ⟨v2, rfl, hO, hb⟩
                exact ⟨v2, rfl, Row.of_own hO, hb⟩) ?_
            refine rs_old quietRS_ok quiet_any _ (.inl rfl) _ rfl rfl ?_
            apply rs_eq quietRS_ok quiet_any
            · intro ρ w' ho hK
              have ho : Only _ w8 w' := ho
              obtain ⟨h0, -⟩ := hK
              have h0' : ρ (.tmp 1) = _ := h0
              go_simp
              try exact rfl
            apply rs_eq quietRS_ok quiet_any
            · intro ρ w' ho hK
              have ho : Only _ w8 w' := ho
              obtain ⟨h0, -⟩ := hK
              have h0' : ρ (.tmp 69) = _ := h0
              have hb := only_below ho
              have q0 := (hb.cell (p := ⟨w.heap.size, 0, none⟩) z).trans p0
              have q1 := (hb.cell (p := ⟨w.heap.size, 1, none⟩) z).trans p1
              have q2 := (hb.cell (p := ⟨w.heap.size, 2, none⟩) z).trans p2
              have q3 := (hb.cell (p := ⟨w.heap.size, 3, none⟩) z).trans p3
              go_simp
              try exact rfl
            refine rs_call quietRS_ok quiet_any (TBools (Cir.bits xp d.ins)) (stb_bools _) 41 _ _ rfl (fun ρ w' ho hK => by
              have ho : Only _ w8 w' := ho
              obtain ⟨h0, h1, h2, -⟩ := hK
              have h0' : ρ (.func 41) = .func (.func 41) #[] #[] := h0
              have h1' : ρ (.tmp 68) = _ := h1
              have h2' : ρ (.tmp 70) = _ := h2
              refine ⟨#[ρ (.tmp 68), ρ (.tmp 70)], ?_, ?_⟩
              · go_simp
              · rw [h1', h2']
                refine (l4Bits_any xp d.ins w' (by omega) (by omega)).mono ?_
                rintro e w2 ⟨v2, rfl, hO, hb⟩
                exact ⟨v2, rfl, Row.of_own hO, hb⟩) ?_
            refine rs_call quietRS_ok quiet_any (TStepIn Wk.heap.size (Cir.outsA d xp) (Cir.lits (Cir.vals d (Cir.bits yq d.next.length) (Cir.bits xp d.ins)) d.next)) (stb_stepIn _ _ _) 40 _ _ rfl (fun ρ w' ho hK => by
              have ho : Only _ w8 w' := ho
              obtain ⟨h0, h1, h2, h3, -⟩ := hK
              have h0' : ρ (.func 40) = .func (.func 40) #[] #[] := h0
              have h1' : ρ (.tmp 59) = _ := h1
              have h2' : (TBools (Cir.bits yq d.next.length)) w' (ρ (.tmp 67)) := h2
              have h3' : (TBools (Cir.bits xp d.ins)) w' (ρ (.tmp 71)) := h3
              refine ⟨#[ρ (.tmp 59), ρ (.tmp 67), ρ (.tmp 71)], ?_, ?_⟩
              · go_simp
              · rw [h1']
                refine (l2Step_any _ _ _ d _ _ w' (HCk.out.below (Hb8.out.trans ((only_below ho).mono z8))) Hd.out h2' h3' (Cir.bits_length _ _) (Cir.bits_length _ _)).mono ?_
                rintro e w2 ⟨a, b, rfl, oa, ob, hb⟩
                exact ⟨_, rfl, ⟨a, b, rfl, by rw [← HoB.out]; exact (RowIn.of_own oa).mono (fun g hg => Nat.le_trans (Nat.le_trans z8 ho.size) hg.1), Row.of_own ob⟩, hb⟩) ?_
            refine rs_look quietRS_ok quiet_any (TInB (From Wk.heap.size) (Cir.outsA d xp)) (stb_inB _ _) (fun ρ w' ho hK => by
              obtain ⟨h0, -⟩ := hK
              obtain ⟨a, b, e0, ha, hb⟩ : (TStepIn Wk.heap.size (Cir.outsA d xp) (Cir.lits (Cir.vals d (Cir.bits yq d.next.length) (Cir.bits xp d.ins)) d.next)) w' (ρ (.tmp 72)) := h0
              obtain ⟨Aa, ca, rfl, -⟩ := Row.shape ha.1
              obtain ⟨Ab, cb, rfl, -⟩ := Row.shape hb
              have hf := fun n m => step_field0 Aa Ab n m ca cb w'
              refine ⟨_, ?_, ha⟩
              go_simp) ?_
            refine rs_same quietRS_ok quiet_any 73 14 (.inr rfl) rfl _ rfl ?_
            intro f w9 k9 hk9 hI9 ht9 hcp9
            have E0 : f 0 = _ := ht9 0 (Nat.le_of_ble_eq_true rfl)
            have E1 : f 1 = _ := ht9 1 (Nat.le_of_ble_eq_true rfl)
            conv at E1 => rhs; whnf
            have E2 : f 2 = _ := ht9 2 (Nat.le_of_ble_eq_true rfl)
            have E3 : f 3 = _ := ht9 3 (Nat.le_of_ble_eq_true rfl)
            have E4 : f 4 = _ := ht9 4 (Nat.le_of_ble_eq_true rfl)
            have E5 : f 5 = _ := ht9 5 (Nat.le_of_ble_eq_true rfl)
            have E6 : f 6 = _ := ht9 6 (Nat.le_of_ble_eq_true rfl)
            have E7 : f 7 = _ := ht9 7 (Nat.le_of_ble_eq_true rfl)
            have E8 : (TBools (Cir.bits yq d.next.length)) w9 (f 8) := ht9 8 (Nat.le_of_ble_eq_true rfl)
            have E9 : f 9 = _ := ht9 9 (Nat.le_of_ble_eq_true rfl)
            conv at E9 => rhs; whnf
            have E10 : f 10 = _ := ht9 10 (Nat.le_of_ble_eq_true rfl)
            have E11 : f 11 = _ := ht9 11 (Nat.le_of_ble_eq_true rfl)
            have E12 : (TBools (Cir.bits xp d.ins)) w9 (f 12) := ht9 12 (Nat.le_of_ble_eq_true rfl)
            have E13 : (TStepIn Wk.heap.size (Cir.outsA d xp) (Cir.lits (Cir.vals d (Cir.bits yq d.next.length) (Cir.bits xp d.ins)) d.next)) w9 (f 13) := ht9 13 (Nat.le_of_ble_eq_true rfl)
            have E14 : (TInB (From Wk.heap.size) (Cir.outsA d xp)) w9 (f 14) := ht9 14 (Nat.le_of_ble_eq_true rfl)
            have E15 : (TInB (From Wk.heap.size) (Cir.outsA d xp)) w9 (f 15) := ht9 15 (Nat.le_of_ble_eq_true rfl)
            have Ho9 : Only _ w8 w9 := hI9.2.1
            have C15 : f 15 = f 14 := (hcp9 15 _ 73 14 rfl rfl rfl rfl).2
            simp only [putAll, E0, E1, E2, E3, E4, E5, E6, E7, E9, E10, E11, C15, Nat.zero_add, Nat.reduceAdd, Act.put, List.setIfInBounds_toArray, List.set_cons_succ, List.set_cons_zero]
            clear E0 E1 E2 E3 E4 E5 E6 E7 E9 E10 E11
            clear hI9 ht9 hcp9 hk9
            generalize f 8 = r8 at *
            generalize f 12 = r12 at *
            generalize f 13 = r13 at *
            generalize f 14 = r14 at *
            have hb9 := only_below Ho9
            have HA9 := Lib.hid (HA.out.below hb9)
            have HB9 := Lib.hid (show RowIn (From Wk.heap.size) w9 1 r14 (Cir.outsA d xp).length (bools (Cir.outsA d xp)) from E14)
            have Hb9 := Lib.hid (Hb8.out.trans (hb9.mono z8))
            have z9 := Nat.le_trans z8 hb9.size
            have PC9 := Lib.hid (PCr.out.below Hb9.out)
            clear hb9 Ho9 E8 E12 E13 E14 E15 p0 p1 p2 p3 z PC8 HA HoA HoB hqx hqy hxq2 hyq2 g1 g2 g3
            obtain ⟨z, p0, p1, p2, p3⟩ := PC9.out
            obtain ⟨wa, hwa⟩ : ∃ wa, wa = w9 := ⟨_, rfl⟩
            subst hwa
            obtain ⟨uB, huB⟩ : ∃ u, u = r14 := ⟨_, rfl⟩
            subst huB
            go_wp2_with fail
            refine (l33Terns_any _ d x k _ (HCk.out.below Hb9.out) Hd.out (by omega) hlk).mono ?_
            rintro e wb ⟨⟨ta, tb, rfl, hta, htb⟩, hbb⟩
            rw [Hxq.out] at htb
            have Hta := Lib.hid hta
            have Htb := Lib.hid htb
            have HAb := Lib.hid (HA9.out.below hbb)
            have HBb := Lib.hid (HB9.out.below hbb)
            have Hbb := Lib.hid (Hb9.out.trans (hbb.mono z9))
            have zb2 := Nat.le_trans z9 hbb.size
            have PCb := Lib.hid (PCr.out.below Hbb.out)
            clear hta htb hbb HA9 HB9 p0 p1 p2 p3 z PC9
            obtain ⟨z, p0, p1, p2, p3⟩ := PCb.out
            go_wp2_with fail
            refine (specEvalT_ok _ _ _ d _ _ _ (HCk.out.below Hbb.out) Hd.out Hv.out Htb.out Hta.out (by rw [List.length_set]; exact tbits_length _ _) (tbits_length _ _) (Cir.terns_le _) (fun t ht => by
              rcases List.mem_or_eq_of_mem_set ht with h | h
              · exact Cir.terns_le _ t h
              · omega)).mono ?_
            rintro e wc ⟨v7, rfl, hown7, hbc⟩
            have HV7 : Hid (Cir.tvals d (Cir.tbits xq d.next.length) ((Cir.tbits x d.ins).set k 2) = Cir.hzV d x k) := Lib.hid (by rw [← Hxq.out]; rfl)
            rw [HV7.out] at hown7
            have HT := Lib.hid (show RowIn (From Wk.heap.size) wc 1 v7 (nats (Cir.hzV d x k)).length (ints (nats (Cir.hzV d x k))) from (RowIn.of_own hown7).mono fun g hg => Nat.le_trans zb2 hg.1)
            have HA := Lib.hid (HAb.out.below hbc)
            have HB := Lib.hid (HBb.out.below hbc)
            have Hb9 := Lib.hid (Hbb.out.trans (hbc.mono zb2))
            have z9 := Nat.le_trans zb2 hbc.size
            clear hown7 hbc HAb HBb Hta Htb p0 p1 p2 p3 z PCb HV7 Hbb zb2 Hb8 z8
            have PC9 := Lib.hid (PCr.out.below Hb9.out)
            have HbW := Lib.hid (Hb.out.trans (Hb9.out.mono zb))
            have HO9 := Lib.hid ((RowIn.of_row (show Row W 1 (.slice Ao d.outs.length co) (nats d.outs).length (ints (nats d.outs)) from HO.out)).below HbW.out)
            have HP0 : Hid (∀ g, vv.ownBlock = some g → W.heap.size ≤ g ∧ (g < Wk.heap.size ∨ wc.heap.size ≤ g)) := Lib.hid fun g hg => ⟨(Hl.out.lt g hg).1, .inl (Hl.out.lt g hg).2⟩
            obtain ⟨z, p0, p1, p2, p3⟩ := PC9.out
            have hvl := Cir.hzV_length d x k
            have hvle := Lib.hid (Cir.hzV_le d x k)
            have hnv : Cir.nvars d ≤ 22 := by unfold Cir.nvars Cir.nfirst; omega
            obtain ⟨n0, hn0⟩ : ∃ n0, (X ++ Cir.hzK d x k).length = n0 := ⟨_, rfl⟩
            have hn0b : n0 ≤ 12 * x + 3 * k := by rw [← hn0, List.length_append]; omega
            have Hl0 : Hid (wc.ownsRow W.heap.size 57 3 vv ((X ++ Cir.hzK d x k) ++ Cir.hzO d x k 0).length (trips ((X ++ Cir.hzK d x k) ++ Cir.hzO d x k 0))) := Lib.hid (by
              rw [show (X ++ Cir.hzK d x k) ++ Cir.hzO d x k 0 = X ++ Cir.hzK d x k from List.append_nil _]
              exact own_below Hl.out Hb9.out)
            have HKn2 : Hid (X ++ Cir.hzK d x (k + 1) = (X ++ Cir.hzK d x k) ++ Cir.hzO d x k d.outs.length) := Lib.hid (by rw [HKn.out, List.append_assoc])
            have HZ : Hid (∀ o, Cir.hz d x k o = ((Cir.outsA d x).getD o false == (Cir.outsA d xp).getD o false && Cir.tlit (Cir.hzV d x k) (d.outs.getD o 0) == 2)) := Lib.hid (fun o => by rw [← Hxp.out, ← hp]; rfl)
            have HY : Hid (∀ o, Cir.hz d x k o = true → Cir.hzO d x k (o + 1) = Cir.hzO d x k o ++ [(x, xp, o)]) := Lib.hid (fun o h => by rw [← Hxp.out, ← hp]; exact Cir.hzO_yes h)
            have HNo : Hid (∀ o, Cir.hz d x k o = false → Cir.hzO d x k (o + 1) = Cir.hzO d x k o) := Lib.hid (fun o h => Cir.hzO_no h)
            have HLO := Lib.hid (fun o => Cir.hzO_len d x k o)
            generalize X ++ Cir.hzK d x k = Y at *
            generalize Cir.hzV d x k = V at *
            have HAl := Lib.hid (fun o (ho : o < d.outs.length) => Cir.outsA_get (d := d) (x := x) ho)
            have HBl := Lib.hid (fun o (ho : o < d.outs.length) => Cir.outsA_get (d := d) (x := xp) ho)
            have hLA := Cir.outsA_length d x
            have hLB := Cir.outsA_length d xp
            generalize Cir.outsA d x = OA at *
            generalize Cir.outsA d xp = OB at *
            obtain ⟨A7, c7, e7, -, -⟩ := NatsAt.shape (xs := V) HT.out.1
            subst e7
            clear hpI hwp hp hp8 HKn hK HCk hdk
            go_wp2_with fail
            clear z p0 p1 p2 p3
            go_loopw [3, 12] (fun v i wr => ∃ (vv : Value) (o : Nat), vv = v ∧ i = .int .i64 o ∧ o ≤ d.outs.length ∧ Hid (wr.ownsRow W.heap.size 57 3 v (Y ++ Cir.hzO d x k o).length (trips (Y ++ Cir.hzO d x k o))) ∧ Hid (∀ g, v.ownBlock = some g → W.heap.size ≤ g ∧ (g < Wk.heap.size ∨ wc.heap.size ≤ g)) ∧ Only (fun g => W.heap.size ≤ g ∧ g < Wk.heap.size) wc wr) (fun _ i _ => d.outs.length - (intOf i).toNat)
            case atStart => exact ⟨_, 0, rfl, rfl, Nat.zero_le _, Hl0, HP0, Only.refl _ _⟩
            case round =>
              obtain ⟨uu, o, huu, rfl, ho, Hu, HP, hb⟩ := hrel
              subst huu
              clear Hl0
              have Hbo := Lib.hid hb
              have zo := hb.size
              have PCo := Lib.hid (PCells.onlyH PC9.out hb (by omega))
              clear hb
              obtain ⟨z, p0, p1, p2, p3⟩ := PCo.out
              by_cases hlo : o < d.outs.length
              · have hdo : decide (o < d.outs.length) = true := decide_eq_true hlo
                obtain ⟨bA, oA, cA, eA, hbA, hcA⟩ := boolsAt_cell (HA.out.only Hbo.out (fun g h e => Nat.lt_irrefl _ (Nat.lt_of_lt_of_le e.2 h))).1 (HAl.out o hlo)
                obtain ⟨bB, oB, cB, eB, hbB, hcB⟩ := boolsAt_cell (HB.out.only Hbo.out (fun g h e => Nat.lt_irrefl _ (Nat.lt_of_lt_of_le e.2 h))).1 (HBl.out o hlo)
                rw [hLA] at eA
                rw [hLB] at eB
                subst eA eB
                obtain ⟨b', o', l, rfl, hbl', hx0, hs0⟩ := nats_cell (nats_row (show NatsAt _ (.slice Ao d.outs.length co) d.outs from (HO9.out.only Hbo.out (fun g h e => Nat.lt_irrefl _ (Nat.lt_of_lt_of_le h e.1))).1)) rfl hlo
                have hl2 := Hd.out.out l (List.mem_of_getElem? hx0.out)
                have hgl : d.outs.getD o 0 = l := by rw [List.getD_eq_getElem?_getD, hx0.out]; rfl
                have HZo := Lib.hid (HZ.out o)
                rw [hgl] at HZo
                have hlO := HLO.out o
                have hlen : (Y ++ Cir.hzO d x k o).length ≤ n0 + 3 := by rw [List.length_append]; omega
                have ht2 := Cir.tlit_le hvle.out l
                have HTr := Lib.hid (show NatsAt wr (.slice A7 V.length c7) V from (HT.out.only Hbo.out (fun g h e => Nat.lt_irrefl _ (Nat.lt_of_lt_of_le e.2 h))).1)
                have ga := gw_cell hcA hbA
                have gb := gw_cell hcB hbB
                have gs := gw_cell hs0 hbl'
                have g0 := gw_cell p0 z
                have g1 := gw_cell p1 z
                have g2 := gw_cell p2 z
                have g3 := gw_cell p3 z
                have HTC : Hid (∀ n : GW wr, Calls Try.prog 44 #[.slice A7 (Cir.nvars d) c7, .int .i64 (l : Nat)] (gw n) fun e w' => e = .returned (.int .i64 (Cir.tlit V l : Nat)) ∧ gw n = w') := Lib.hid fun n => (by rw [← hvl]; exact l27Lit_any _ V l (gw n) (Row.below HTr.out (gw_below n)) (by rw [hvl]; exact hl2) (by omega) hvle.out)
                obtain ⟨T, hTe⟩ : ∃ T, Cir.tlit V l = T := ⟨_, rfl⟩
                rw [hTe] at HTC HZo ht2
                clear hTe
                have HYo := Lib.hid (HY.out o)
                have HNoo := Lib.hid (HNo.out o)
                obtain ⟨ba, hba⟩ : ∃ ba, OA.getD o false = ba := ⟨_, rfl⟩
                rw [hba] at hcA ga HZo
                clear hba
                obtain ⟨bb, hbb⟩ : ∃ bb, OB.getD o false = bb := ⟨_, rfl⟩
                rw [hbb] at hcB gb HZo
                clear hbb
                clear hx0 hgl hl2 HZ HY HNo hlO
                rcases (Bool.eq_false_or_eq_true (ba == bb)).symm with hab | hab
                · have HR := Lib.hid (HNoo.out (hz_no1 HZo.out hab))
                  clear HYo HNoo HZo HTC
                  go_wp2_with fail
                  refine wp_region_grow (by kernel_rfl) (by kernel_rfl) ?_
                  repeat (go_big_quiet_step ((fail)))
                  refine wpQuiet_nil ?_
                  intro _ hw'
                  obtain ⟨nq, hw''⟩ := hw'
                  subst hw''
                  have hgq := gw_below nq
                  generalize gw nq = wq at *
                  clear nq
                  have Hb10 := Lib.hid (Hbo.out.trans (Only.of_below _ hgq))
                  have Hu10 := Lib.hid (own_below Hu.out hgq)
                  clear hgq ga gb gs g0 g1 g2 g3 hcA hcB hs0 z p0 p1 p2 p3
                  go_wp2_with fail
                  go_roundw
                  case rel => exact ⟨_, o + 1, rfl, by go_num, by omega, Lib.hid (by rw [HR.out]; exact Hu10.out), HP, Hb10.out⟩
                  case measure => simp [intOf] <;> omega
                · by_cases hT : T = 2
                  · have HR := Lib.hid (HYo.out (hz_yes HZo.out hab (by rw [hT]; rfl)))
                    subst hT
                    clear HYo HNoo HZo
                    go_wp2_with fail
                    refine wp_region_grow (by kernel_rfl) (by kernel_rfl) ?_
                    repeat (go_big_quiet_step ((go_at_call 44; exact grow_same (HTC.out _))))
                    refine wpQuiet_nil ?_
                    intro _ hw'
                    obtain ⟨nq, hw''⟩ := hw'
                    subst hw''
                    have hgq := gw_below nq
                    generalize gw nq = wq at *
                    clear nq
                    have Hb10 := Lib.hid (Hbo.out.trans (Only.of_below _ hgq))
                    have Hu10 := Lib.hid (own_below Hu.out hgq)
                    have z10 := Nat.le_trans zo hgq.size
                    clear hgq ga gb gs g0 g1 g2 g3 hcA hcB hs0 HTC z p0 p1 p2 p3
                    have Hlit := Lib.hid (Row.of_own (World.ownsRow_lit (base := wq.heap.size) (e := 57) (size := 3) wq #[.int .i64 x, .int .i64 (xp : Int), .int .i64 o] 1 (Nat.le_refl _) (by unfold maxLen; omega) rfl))
                    have HRt : Hid (trips (Y ++ Cir.hzO d x k (o + 1)) = trips (Y ++ Cir.hzO d x k o) ++ [.int .i64 x, .int .i64 (xp : Int), .int .i64 o]) := Lib.hid (by rw [HR.out]; exact trips_snoc' _ _ _)
                    have HRl : Hid ((Y ++ Cir.hzO d x k (o + 1)).length = (Y ++ Cir.hzO d x k o).length + 1) := Lib.hid (by rw [HR.out]; exact len_snoc' _ _ _)
                    clear HR
                    obtain ⟨TY, hTY⟩ : ∃ TY, trips (Y ++ Cir.hzO d x k o) = TY := ⟨_, rfl⟩
                    rw [hTY] at HRt Hu10
                    clear hTY
                    obtain ⟨nY, hnY⟩ : ∃ nY, (Y ++ Cir.hzO d x k o).length = nY := ⟨_, rfl⟩
                    rw [hnY] at HRl Hu10 hlen
                    clear hnY
                    have hWq : W.heap.size ≤ wq.heap.size := by omega
                    go_wp2_with (at_builtin; refine append_haz rfl (.tmp 111) (.tmp 116) rfl W.heap.size _ nY TY rfl (Hu10.out.alloc _) _ 1 _ rfl Hlit.out (by simp [Value.oneCell']) (by omega) (by simp; omega) ?_; intro v7 w7 hown7 hg7 hat7; have Ho7 := Lib.hid hown7; have Hg7 := Lib.hid hg7; have Hat7 := Lib.hid hat7; clear hown7 hg7 hat7)
                    go_roundw
                    case rel => exact ⟨_, o + 1, rfl, by go_num, by omega, Lib.hid (by rw [HRt.out, HRl.out]; exact Ho7.out), Lib.hid (fun g hg => by
                      rcases Hat7.out with h | h
                      · exact HP.out g (h ▸ hg)
                      · rw [h] at hg
                        have h1 := Option.some.inj hg
                        rw [World.size_alloc] at h1
                        exact ⟨by omega, .inr (by omega)⟩), (Hb10.out.trans (Only.of_below _ (bel_new _ _))).aftH (Only.grown Hg7.out fun g hg => hg) (fun g hg => (HP.out g hg).2.elim (fun h => .inr ⟨(HP.out g hg).1, h⟩) .inl)⟩
                    case measure => simp [intOf] <;> omega
                  · have hT2 : (T == 2) = false := by simpa using hT
                    have hT3 : ((T : Int) == 2) = false := by simp; omega
                    have HR := Lib.hid (HNoo.out (hz_no2 HZo.out hT2))
                    clear HYo HNoo HZo hT hT2
                    go_wp2_with fail
                    refine wp_region_grow (by kernel_rfl) (by kernel_rfl) ?_
                    repeat (go_big_quiet_step ((go_at_call 44; exact grow_same (HTC.out _))))
                    refine wpQuiet_nil ?_
                    intro _ hw'
                    obtain ⟨nq, hw''⟩ := hw'
                    subst hw''
                    have hgq := gw_below nq
                    generalize gw nq = wq at *
                    clear nq
                    have Hb10 := Lib.hid (Hbo.out.trans (Only.of_below _ hgq))
                    have Hu10 := Lib.hid (own_below Hu.out hgq)
                    clear hgq ga gb gs g0 g1 g2 g3 hcA hcB hs0 HTC z p0 p1 p2 p3
                    go_wp2_with fail
                    go_roundw
                    case rel => exact ⟨_, o + 1, rfl, by go_num, by omega, Lib.hid (by rw [HR.out]; exact Hu10.out), HP, Hb10.out⟩
                    case measure => simp [intOf] <;> omega
              · obtain rfl : o = d.outs.length := by omega
                have hdo : decide (d.outs.length < d.outs.length) = false := decide_eq_false (by omega)
                go_wp2_with fail
                go_roundw
                case rel => exact ⟨_, k + 1, rfl, by go_num, by omega, Lib.hid (by rw [HKn2.out]; exact Hu.out), Only.below HbW.out Hbo.out HbW.out.size (fun k hk => hk.1)⟩
                case measure => simp [intOf] <;> omega
          · have HKn := Lib.hid (HKs.out hbit)
            rw [hbit] at g2
            clear HKs HKa hbit
            go_wp2_with fail
            go_roundw
            case rel => exact ⟨_, k + 1, rfl, by go_num, by omega, Lib.hid (by rw [HKn.out]; exact Hl.out), Hb.out⟩
            case measure => simp [intOf] <;> omega
        · obtain rfl : k = d.ins := by omega
          have hdk : decide (d.ins < d.ins) = false := decide_eq_false (by omega)
          go_wp2_with fail
          go_roundw
          case rel => exact ⟨_, x + 1, rfl, by go_num, by omega, Lib.hid (by rw [HX1.out]; exact Hl.out), Hb.out⟩
          case measure => simp [intOf] <;> omega
    · obtain rfl : x = M := by omega
      have hdx : decide (x < x) = false := decide_eq_false (by omega)
      go_wp2_with fail
      go_ret
      exact ⟨_, rfl, own_mono Hl.out (by omega), B0.out.trans (Hb.out.mono B0.out.size)⟩
end Go.Proofs.Ytlbfejdbfhgifaa

namespace Go.Proofs.Ytlbfejdbfhgifaa
open Go.RowKit
/-! Things of a law in memory, and the blocks that they lie in. -/
/-- A thing that lies in the blocks from B up to T. -/
def Lives (B T : Nat) (K : World → Prop) : Prop := ∀ (E : Nat → Prop) (w w' : World), K w → T ≤ w.heap.size → Only E w w' → (∀ g, B ≤ g → g < T → ¬ E g) → K w'
structure Has (B T : Nat) (K : World → Prop) (w : World) : Prop where
  k : K w
  t : T ≤ w.heap.size
  l : Lives B T K
section
variable {B T : Nat} {K : World → Prop} {w w' : World}
theorem Has.only {E : Nat → Prop} (h : Has B T K w) (ho : Only E w w') (hE : ∀ g, B ≤ g → g < T → ¬ E g) : Has B T K w' := ⟨h.l E w w' h.k h.t ho hE, Nat.le_trans h.t ho.size, h.l⟩
theorem Has.below (h : Has B T K w) (hb : Below w.heap.size w w') : Has B T K w' := h.only (E := fun _ => False) ⟨hb.os, hb.tape, hb.output, hb.size, fun k hk _ => hb.block k hk⟩ (fun _ _ _ e => e)
theorem Has.apart {B' T' : Nat} (h : Has B T K w) (ho : Only (fun g => B' ≤ g ∧ g < T') w w') (hd : T ≤ B' ∨ T' ≤ B) : Has B T K w' := h.only ho (fun g h1 h2 h3 => by obtain ⟨h4, h5⟩ := h3; omega)
theorem Has.grown {r : Option Nat} {B' : Nat} (h : Has B T K w) (ho : w.grownBy w' r) (hr : ∀ g, r = some g → B' ≤ g) (hd : T ≤ B') : Has B T K w' := h.only (E := fun g => B' ≤ g) (Only.grown ho hr) (fun g h1 h2 h3 => by have h4 : B' ≤ g := h3; omega)
end
/-- What was so in a world of T blocks, and still is. -/
def Kept (A : World → Prop) (T : Nat) (w' : World) : Prop := ∃ w0, A w0 ∧ w0.heap.size = T ∧ Below w0.heap.size w0 w'
theorem lives_kept (A : World → Prop) (T : Nat) : Lives 0 T (Kept A T) := by
  rintro E w w' ⟨w0, hA, rfl, hb⟩ ht ho hE
  exact ⟨w0, hA, rfl, ho.os.trans hb.os, ho.tape.trans hb.tape, ho.output.trans hb.output, Nat.le_trans hb.size ho.size, fun k hk => (ho.block k (Nat.lt_of_lt_of_le hk ht) (hE k (Nat.zero_le _) hk)).trans (hb.block k hk)⟩
theorem has_kept {A : World → Prop} {w : World} (h : A w) : Has 0 w.heap.size (Kept A w.heap.size) w := ⟨⟨w, h, rfl, Below.refl _ _⟩, Nat.le_refl _, lives_kept _ _⟩
/-- A row of the call's own, below T. -/
def RowT (B T : Nat) (e : TypeId) (size : Nat) (v : Value) (n : Nat) (cs : List Value) (w : World) : Prop := w.ownsRow B e size v n cs ∧ ∀ g, v.ownBlock = some g → g < T
theorem lives_rowT (B T : Nat) (e : TypeId) (size : Nat) (v : Value) (n : Nat) (cs : List Value) : Lives B T (RowT B T e size v n cs) := by
  rintro E w w' ⟨h, hl⟩ ht ho hE
  exact ⟨own_only h ho fun g hg => hE g (h.lt g hg).1 (hl g hg), hl⟩
theorem has_row {B : Nat} {e : TypeId} {size n : Nat} {v : Value} {cs : List Value} {w : World} (h : w.ownsRow B e size v n cs) : Has B w.heap.size (RowT B w.heap.size e size v n cs) w :=
  ⟨⟨h, fun g hg => (h.lt g hg).2⟩, Nat.le_refl _, lives_rowT _ _ _ _ _ _ _⟩
theorem lives_ss {α : Type} (enc : List α → List Value) (tO ti : TypeId) (B T : Nat) (v : Value) (xss : List (List α)) : Lives B T (fun w => OwnSS enc tO ti B T w v xss) := fun _ _ _ h _ ho hE => OwnSS.only h ho hE
end Go.Proofs.Ytlbfejdbfhgifaa

namespace Go.Proofs.Ytlbfejdbfhgifaa
open Go.RowKit
set_option maxRecDepth 100000
/-! Hazards, by the reference: any circuit; HazardFree. -/
set_option maxHeartbeats 4000000 in
theorem specHaz_no (v : Value) (c : Cz) (w : World) (h : CircAt w v c) (hv : Cir.valid c = false) :
    Calls Try.prog 11 #[v] w (OwnHaz [] w) := by
  have HC := Lib.hid h
  obtain ⟨vn, vg, vo, rfl, r1, r2, r3⟩ := h
  have B0 := Lib.hid (bel_new w (.cells #[.int .i64 c.ins, vn, vg, vo] 31))
  have PC := Lib.hid (PCells.boxed w c.ins vn vg vo 31)
  have hsz : (w.alloc (.cells #[.int .i64 c.ins, vn, vg, vo] 31)).heap.size = w.heap.size + 1 := by simp
  have HC0 := Lib.hid (HC.out.below B0.out)
  have HV := Lib.hid (fun w' hb => specValid_any _ _ w' (HC0.out.below hb))
  rw [hv] at HV
  have HL0 : Hid (((w.alloc (.cells #[.int .i64 c.ins, vn, vg, vo] 31)).alloc (.cells #[] 57)).ownsRow (w.heap.size + 1) 57 3 (.slice (some ⟨w.heap.size + 1, 0, none⟩) 0 0) 0 (trips [])) := Lib.hid (by
    have := World.ownsRow_lit (base := w.heap.size + 1) (e := 57) (size := 3) (w.alloc (.cells #[.int .i64 c.ins, vn, vg, vo] 31)) #[] 0 (by simp) (by unfold maxLen; omega) rfl
    rwa [World.size_alloc] at this)
  have HB1 := Lib.hid (bel_new (w.alloc (.cells #[.int .i64 c.ins, vn, vg, vo] 31)) (.cells #[] 57))
  obtain ⟨z, p0, p1, p2, p3⟩ := PC.out.below HB1.out
  clear r1 r2 r3 hv HC
  go_enter Try.func11, Try.ntmps11
  go_wp2_with fail
  generalize w.alloc (.cells #[.int .i64 c.ins, vn, vg, vo] 31) = W at *
  refine (HV.out _ HB1.out).mono ?_
  rintro e w1 ⟨rfl, hb1⟩
  have Hb1 := Lib.hid (HB1.out.trans (hb1.mono HB1.out.size))
  have HL1 := Lib.hid (own_below HL0.out hb1)
  clear hb1 HB1 HL0 p0 p1 p2 p3 z HV
  go_wp2_with fail
  go_ret
  exact ⟨_, rfl, own_mono HL1.out (by omega), B0.out.trans (Hb1.out.mono B0.out.size)⟩
theorem specHaz_any (v : Value) (c : Cz) (w : World) (h : CircAt w v c) :
    Calls Try.prog 11 #[v] w (OwnHaz (Cir.hazI c) w) := by
  cases hv : Cir.valid c
  · rw [show Cir.hazI c = [] from by unfold Cir.hazI; rw [hv]; rfl]
    exact specHaz_no v c w h hv
  · rw [show Cir.hazI c = Cir.hazards (Cir.nat c) from by unfold Cir.hazI; rw [hv]; rfl]
    obtain ⟨d1, d2⟩ := Cir.nat_ok hv
    exact specHaz_ok v (Cir.nat c) w (by rw [← d1]; exact h) d2 (by rw [← d1]; exact hv)
theorem hazI_len (c : Cz) : (Cir.hazI c).length ≤ 1536 := by
  unfold Cir.hazI
  split
  · rename_i hv
    obtain ⟨-, hd⟩ := Cir.nat_ok hv
    have l1 := hd.ins
    have l2 := hd.nexts
    have := Cir.hzX_len (Cir.nat c) hd (2 ^ ((Cir.nat c).ins + (Cir.nat c).next.length))
    have h128 : 2 ^ ((Cir.nat c).ins + (Cir.nat c).next.length) ≤ 128 := Nat.pow_le_pow_right (show 0 < 2 by decide) (show _ ≤ 7 by omega)
    have : Cir.hazards (Cir.nat c) = Cir.hzX (Cir.nat c) (2 ^ ((Cir.nat c).ins + (Cir.nat c).next.length)) := rfl
    rw [this]
    omega
  · simp
def Cir.hazF (c : Cz) : Bool := Cir.valid c && ((Cir.hazI c).length == 0)
set_option maxHeartbeats 4000000 in
theorem implHazF_any (v : Value) (c : Cz) (w : World) (h : CircAt w v c) :
    Calls Try.prog 20 #[v] w fun e w' => e = .returned (.bool (Cir.hazF c)) ∧ Below w.heap.size w w' := by
  have HC := Lib.hid h
  obtain ⟨vn, vg, vo, rfl, r1, r2, r3⟩ := h
  have B0 := Lib.hid (bel_new w (.cells #[.int .i64 c.ins, vn, vg, vo] 31))
  have PC := Lib.hid (PCells.boxed w c.ins vn vg vo 31)
  have hsz : (w.alloc (.cells #[.int .i64 c.ins, vn, vg, vo] 31)).heap.size = w.heap.size + 1 := by simp
  have HC0 := Lib.hid (HC.out.below B0.out)
  have HV := Lib.hid (implValid_any _ _ _ HC0.out)
  obtain ⟨z, p0, p1, p2, p3⟩ := PC.out
  clear r1 r2 r3 HC
  cases hv : Cir.valid c
  · rw [hv] at HV
    have HR : Hid (Cir.hazF c = false) := Lib.hid (by unfold Cir.hazF; rw [hv]; rfl)
    rw [HR.out]
    clear HR hv
    go_enter Try.func20, Try.ntmps20
    go_wp2_with fail
    refine HV.out.mono ?_
    rintro e w1 ⟨rfl, hb1⟩
    have B1 := Lib.hid (B0.out.trans (hb1.mono B0.out.size))
    clear hb1
    go_wp2_with fail
    go_ret
    exact ⟨rfl, B1.out⟩
  · rw [hv] at HV
    have HR : Hid (Cir.hazF c = decide ((Cir.hazI c).length = 0)) := Lib.hid (by unfold Cir.hazF; rw [hv, Bool.true_and]; rfl)
    rw [HR.out]
    obtain ⟨n, hn⟩ : ∃ n, (Cir.hazI c).length = n := ⟨_, rfl⟩
    have HN := Lib.hid hn
    rw [hn]
    clear hn
    have hq : (((n : Nat) : Int) == 0) = decide (n = 0) := by rw [Bool.eq_iff_iff, beq_iff_eq, decide_eq_true_iff]; omega
    clear HR hv
    go_enter Try.func20, Try.ntmps20
    go_wp2_with fail
    refine HV.out.mono ?_
    rintro e w1 ⟨rfl, hb1⟩
    have Hb1 := Lib.hid hb1
    obtain ⟨z, p0, p1, p2, p3⟩ := PC.out.below hb1
    clear hb1
    go_wp2_with fail
    refine (implHaz_any _ c _ (HC0.out.below Hb1.out)).mono ?_
    rintro e w2 ⟨v2, rfl, hO, hb2⟩
    obtain ⟨A2, c2, e2, -, -⟩ := (Row.of_own hO).shape
    rw [HN.out] at e2
    subst e2
    have B2 := Lib.hid (B0.out.trans ((Hb1.out.trans (hb2.mono Hb1.out.size)).mono B0.out.size))
    clear hb2 hO Hb1 HC0
    go_wp2_with fail
    go_ret
    exact ⟨rfl, B2.out⟩
set_option maxHeartbeats 4000000 in
theorem specHazF_any (v : Value) (c : Cz) (w : World) (h : CircAt w v c) :
    Calls Try.prog 19 #[v] w fun e w' => e = .returned (.bool (Cir.hazF c)) ∧ Below w.heap.size w w' := by
  have HC := Lib.hid h
  obtain ⟨vn, vg, vo, rfl, r1, r2, r3⟩ := h
  have B0 := Lib.hid (bel_new w (.cells #[.int .i64 c.ins, vn, vg, vo] 31))
  have PC := Lib.hid (PCells.boxed w c.ins vn vg vo 31)
  have hsz : (w.alloc (.cells #[.int .i64 c.ins, vn, vg, vo] 31)).heap.size = w.heap.size + 1 := by simp
  have HC0 := Lib.hid (HC.out.below B0.out)
  have HV := Lib.hid (specValid_any _ _ _ HC0.out)
  obtain ⟨z, p0, p1, p2, p3⟩ := PC.out
  clear r1 r2 r3 HC
  cases hv : Cir.valid c
  · rw [hv] at HV
    have HR : Hid (Cir.hazF c = false) := Lib.hid (by unfold Cir.hazF; rw [hv]; rfl)
    rw [HR.out]
    clear HR hv
    go_enter Try.func19, Try.ntmps19
    go_wp2_with fail
    refine HV.out.mono ?_
    rintro e w1 ⟨rfl, hb1⟩
    have B1 := Lib.hid (B0.out.trans (hb1.mono B0.out.size))
    clear hb1
    go_wp2_with fail
    go_ret
    exact ⟨rfl, B1.out⟩
  · rw [hv] at HV
    have HR : Hid (Cir.hazF c = decide ((Cir.hazI c).length = 0)) := Lib.hid (by unfold Cir.hazF; rw [hv, Bool.true_and]; rfl)
    rw [HR.out]
    obtain ⟨n, hn⟩ : ∃ n, (Cir.hazI c).length = n := ⟨_, rfl⟩
    have HN := Lib.hid hn
    rw [hn]
    clear hn
    have hq : (((n : Nat) : Int) == 0) = decide (n = 0) := by rw [Bool.eq_iff_iff, beq_iff_eq, decide_eq_true_iff]; omega
    clear HR hv
    go_enter Try.func19, Try.ntmps19
    go_wp2_with fail
    refine HV.out.mono ?_
    rintro e w1 ⟨rfl, hb1⟩
    have Hb1 := Lib.hid hb1
    obtain ⟨z, p0, p1, p2, p3⟩ := PC.out.below hb1
    clear hb1
    go_wp2_with fail
    refine (specHaz_any _ c _ (HC0.out.below Hb1.out)).mono ?_
    rintro e w2 ⟨v2, rfl, hO, hb2⟩
    obtain ⟨A2, c2, e2, -, -⟩ := (Row.of_own hO).shape
    rw [HN.out] at e2
    subst e2
    have B2 := Lib.hid (B0.out.trans ((Hb1.out.trans (hb2.mono Hb1.out.size)).mono B0.out.size))
    clear hb2 hO Hb1 HC0
    go_wp2_with fail
    go_ret
    exact ⟨rfl, B2.out⟩
theorem trips_of_row {B T : Nat} {e : TypeId} {v : Value} {xs : List (Nat × Nat × Nat)} {w : World} (h : RowT B T e 3 v xs.length (trips xs) w) : TripsAt w v xs := Row.of_own h.1
theorem Kept.atH {v : Value} {xs : List (Nat × Nat × Nat)} {T : Nat} {w : World} (h : Kept (fun w' => TripsAt w' v xs) T w) : TripsAt w v xs := by
  obtain ⟨w0, h, _, hb⟩ := h
  exact Row.below h hb
theorem markHazardS_own (B T : Nat) (v : Value) (n k : Nat) (cs : List Value) (w : World) (h : RowT B T 57 3 v n cs w) (hn : n ≤ 1048576) (hk : k ≤ 100000000) :
    Calls Try.prog 17 #[v, .int .i64 k] w fun e w' => e = .returned (.int .i64 ((k + n * 3 : Nat) : Int)) ∧ Only (fun g => B ≤ g ∧ g < T) w w' ∧ Has B w'.heap.size (RowT B w'.heap.size 57 3 v n (runI k (n * 3))) w' :=
  (markHazardS_any B v n k cs w h.1 hn hk).mono fun _ _ ⟨h1, h2, h3⟩ => ⟨h1, Only.grown h3 fun g hg => ⟨(h.1.lt g hg).1, h.2 g hg⟩, has_row h2⟩
end Go.Proofs.Ytlbfejdbfhgifaa

namespace Go.Proofs.Ytlbfejdbfhgifaa
/-! Faults, plainly. -/
namespace Cir
def stepF (d : Ci) (s : Nat) (V : List Bool) (j : Nat) : List Bool := if nfirst d + j = s then V else match d.gates[j]? with
  | some g => V.set (nfirst d + j) (gval V g)
  | none => V
def evF (d : Ci) (s : Nat) (V : List Bool) : Nat → List Bool
  | 0 => V
  | k + 1 => stepF d s (evF d s V k) k
theorem evF_length (d : Ci) (s : Nat) (V : List Bool) : ∀ k, (evF d s V k).length = V.length
  | 0 => rfl
  | k + 1 => by
    have ih := evF_length d s V k
    show (stepF d s _ k).length = _
    unfold stepF
    split
    · exact ih
    · split
      · rw [List.length_set]; exact ih
      · exact ih
def valsF (d : Ci) (st inp : List Bool) (s : Nat) (b : Bool) : List Bool := evF d s ((false :: (inp ++ st) ++ List.replicate d.gates.length false).set s b) d.gates.length
theorem valsF_length (d : Ci) (st inp : List Bool) (s : Nat) (b : Bool) (h1 : inp.length = d.ins) (h2 : st.length = d.next.length) : (valsF d st inp s b).length = nvars d := by
  unfold valsF
  rw [evF_length, List.length_set]
  simp [h1, h2, nvars, nfirst]
  omega
def resF (d : Ci) (x s : Nat) (b : Bool) : List Bool := lits (valsF d (bits (x / 2 ^ d.ins) d.next.length) (bits x d.ins) s b) (d.next ++ d.outs)
def res0 (d : Ci) (x : Nat) : List Bool := lits (vals d (bits (x / 2 ^ d.ins) d.next.length) (bits x d.ins)) (d.next ++ d.outs)
def det (d : Ci) (s : Nat) (b : Bool) (x : Nat) : Bool := !(decide (res0 d x = resF d x s b))
/-- Some assignment tells the fault. -/
def testF (d : Ci) (s : Nat) (b : Bool) : Bool := (List.range (2 ^ (d.ins + d.next.length))).any (det d s b)
def irr (d : Ci) : Bool := (List.range d.gates.length).all fun k => testF d (nfirst d + k) false && testF d (nfirst d + k) true
end Cir
end Go.Proofs.Ytlbfejdbfhgifaa

namespace Go.Proofs.Ytlbfejdbfhgifaa
open Go.RowKit
set_option maxRecDepth 100000
/-! The values of all variables of a circuit with a fault. -/
set_option maxHeartbeats 8000000 in
theorem evaluateF_any (g : Nat) (d : Ci) (vs vi : Value) (st inp : List Bool) (sF : Nat) (bF : Bool) (w : World) (hsF : sF < Cir.nvars d) (h : PCirc w g (Cir.toCz d)) (hd : Cir.Ok d) (hs : BoolsAt w vs st) (hi : BoolsAt w vi inp) (h1 : inp.length = d.ins) (h2 : st.length = d.next.length) :
    Calls Try.prog 115 #[.pointer (some ⟨g, 0, none⟩), vs, vi, .int .i64 (sF : Nat), .bool bF] w (OwnBools (Cir.valsF d st inp sF bF) w) := by
  have s1 := hd.ins
  have s2 := hd.nexts
  have s3 := hd.gatess
  have HGt := Lib.hid hd.gate
  have hnl : (Cir.toCz d).next.length = d.next.length := List.length_map _
  have hgl : (Cir.toCz d).gates.length = d.gates.length := List.length_map _
  obtain ⟨n, hn⟩ : ∃ n, n = Cir.nvars d := ⟨_, rfl⟩
  rw [← hn] at hsF
  have hnd : n = 1 + d.ins + d.next.length + d.gates.length := hn
  have HV := vars_any g _ w h (by show (0 : Int) ≤ (d.ins : Int); omega) (by show (d.ins : Int) ≤ 100; omega) (by omega) (by omega)
  rw [Cir.vars_toCz, ← hn] at HV
  have Hv := Lib.hid HV
  have Hs := Lib.hid hs
  have Hi := Lib.hid hi
  have Hp := Lib.hid h
  obtain ⟨As, cs, hvs, hcs, hcms⟩ := Row.shape hs
  obtain ⟨Ai, ci, hvi, hci, hcmi⟩ := Row.shape hi
  subst hvs hvi
  have hmk := run_make_row' (P := Try.prog) 62 4 (.bool false) 1 Try.underlying62 info_bool rfl .i64 .i64 n (by omega) (by omega)
  obtain ⟨m, hm⟩ : ∃ m, m = n := ⟨_, rfl⟩
  have Hnd : Hid (m = 1 + d.ins + d.next.length + d.gates.length) := Lib.hid (hm.trans hnd)
  have b1 : 1 ≤ n := by omega
  have b2 : n ≤ 22 := by omega
  have b3 : 1 + d.ins ≤ n := by omega
  have b4 : 1 + d.ins + d.next.length ≤ n := by omega
  have Hm := Lib.hid hm
  have HB3 : Hid (1 + d.ins + d.next.length ≤ m) := Lib.hid (by omega)
  rw [h1] at hci Hi ⊢
  rw [h2] at hcs Hs ⊢
  have H1 := Lib.hid h1
  have H2 := Lib.hid h2
  have hww : IntKind.i64.wrap (1 + (d.ins : Int)) = 1 + d.ins := IntWalk.i64_in _ (by omega)
  obtain ⟨vn, vg, vo, hg, c0, c1, c2, c3, r1, r2, r3⟩ := Hp.out
  have C0 : Hid (w.cell? ⟨g, 0, none⟩ = some (.int .i64 d.ins)) := Lib.hid c0
  obtain ⟨Ag, cg, hvg, hcg, hcmg⟩ := Row.shape r2
  rw [hgl] at hvg
  subst hvg
  rw [hgl] at hcg
  have C2 := Lib.hid c2
  have R2 : Hid (Row w 2 (.slice Ag d.gates.length cg) d.gates.length (cubes (Cir.toCz d).gates)) := Lib.hid (by have := r2; unfold CubesAt at this; rwa [hgl] at this)
  have Hgl := Lib.hid hgl
  have SZ : (Try.prog.info? 4).map (·.size) = some 1 := by
    have := info_bool
    cases hi : Try.prog.info? 4 with
    | none => rw [hi] at this; cases this
    | some i => rw [hi] at this; simp at this; simp [this]
  clear r1 r2 r3 c0 c1 c2 c3
  clear HV h hs hi hnl hgl hn hnd h1 h2 hm hd
  go_enter Try.func115, Try.ntmps115
  go_wp2_with fail
  refine Hv.out.mono ?_
  rintro e w1 ⟨rfl, hb1⟩
  have hZ : Hid ((w1.alloc (.cells (madeCells #[Value.bool false] n) 4)).heap[w1.heap.size]? = some (.cells (bools (List.replicate m false)).toArray 4 (0, 0))) := Lib.hid (by
    rw [heap_alloc_new, made_one, Hm.out]
    simp [bools])
  have B1 : Hid (Below w.heap.size w (w1.alloc (.cells (madeCells #[Value.bool false] n) 4))) := Lib.hid (hb1.alloc hb1.size _)
  have hz1 := hb1.size
  have c0 : (w1.alloc (.cells (madeCells #[Value.bool false] n) 4)).cell? ⟨g, 0, none⟩ = some (.int .i64 d.ins) := (B1.out.cell (p := ⟨g, 0, none⟩) hg).trans C0.out
  generalize hW2 : w1.alloc (.cells (madeCells #[Value.bool false] n) 4) = W2 at *
  clear hb1 Hv
  go_wp2_with (refine stop_slice _ _ _ _ _ rfl ?_)
  refine ⟨?_⟩
  clear hmk
  have hcase : (n = 1 ∧ n = 1 + d.ins) ∨ (n ≠ 1 ∧ n = 1 + d.ins) ∨ (n ≠ 1 ∧ n ≠ 1 + d.ins) := by omega
  have hcase2 : ∃ p q : Prop, Hid ((p → n = 1) ∧ (¬ p → n ≠ 1) ∧ (q → n = 1 + d.ins) ∧ (¬ q → n ≠ 1 + d.ins)) ∧ (((n = 1) = True ∧ (n = 1 + d.ins) = True ∧ p ∧ q) ∨ ((n = 1) = False ∧ (n = 1 + d.ins) = True ∧ ¬ p ∧ q) ∨ ((n = 1) = False ∧ (n = 1 + d.ins) = False ∧ ¬ p ∧ ¬ q)) := by
    refine ⟨n = 1, n = 1 + d.ins, Lib.hid ⟨id, id, id, id⟩, ?_⟩
    rcases hcase with ⟨h, h'⟩ | ⟨h, h'⟩ | ⟨h, h'⟩
    · exact .inl ⟨eq_true h, eq_true h', h, h'⟩
    · exact .inr (.inl ⟨eq_false h, eq_true h', h, h'⟩)
    · exact .inr (.inr ⟨eq_false h, eq_false h', h, h'⟩)
  clear hcase
  obtain ⟨pp, qq, HQ, ⟨hq, hq', hp1, hp2⟩ | ⟨hq, hq', hp1, hp2⟩ | ⟨hq, hq', hp1, hp2⟩⟩ := hcase2
  all_goals have HP := Lib.hid (And.intro hp1 hp2)
  all_goals clear hp1 hp2
  all_goals go_wp2_with (first
    | (refine wpList_copy_splice rfl (.tmp 19) (.tmp 20) 62 62 rfl 4 Try.underlying62 SZ _ _ _ _ _ _ rfl rfl w1.heap.size 1 (bools (List.replicate m false)) 4 hZ.out (bools inp) ?_ ?_ ?_ (bools_one _) w.heap.size w B1.out hz1 ?_
       · have hb3 := HB3.out; have hmn := Hm.out; obtain ⟨q1, q2, q3, q4⟩ := HQ.out; obtain ⟨r1, r2⟩ := HP.out; simp only [r1, r2, not_true_eq_false, not_false_eq_true, true_implies, false_implies] at q1 q2 q3 q4; rw [bools_length, H1.out]; show d.ins = min _ _; omega
       · intro hp
         have hb3 := HB3.out
         have hmn := Hm.out
         obtain ⟨q1, q2, q3, q4⟩ := HQ.out
         obtain ⟨r1, r2⟩ := HP.out
         simp only [r1, r2, not_true_eq_false, not_false_eq_true, true_implies, false_implies] at q1 q2 q3 q4
         rw [bools_length, H1.out] at hp
         first
           | (exfalso; omega)
           | (refine ⟨by first | rfl | exact if_neg q2, ?_⟩
              obtain ⟨b, o, c', hv, _, _, _, hcell⟩ := Row.open (Row.below Hi.out B1.out) (by rw [H1.out]; exact hp)
              injection hv with hv1 hv2 hv3
              refine ⟨⟨b, o, none⟩, hv1, fun j u hu => ?_⟩
              rw [Go.WideShapes.add_plain]
              exact hcell j u hu)
       · rw [bools_length, bools_length, H1.out, List.length_replicate, Hnd.out]; omega
       intro w5 HG5 hB5; have HB5 := Lib.hid hB5; have c5 := (hB5.cell (p := ⟨g, 0, none⟩) hg).trans C0.out; clear hB5 c0)
    | (refine wpList_copy_splice rfl (.tmp 28) (.tmp 29) 62 62 rfl 4 Try.underlying62 SZ _ _ _ _ _ _ rfl rfl w1.heap.size (1 + d.ins) (splice (bools (List.replicate m false)) 1 (bools inp)) 4 HG5.out (bools st) ?_ ?_ ?_ (bools_one _) w.heap.size w HB5.out hz1 ?_
       · have hb3 := HB3.out; have hmn := Hm.out; obtain ⟨q1, q2, q3, q4⟩ := HQ.out; obtain ⟨r1, r2⟩ := HP.out; simp only [r1, r2, not_true_eq_false, not_false_eq_true, true_implies, false_implies] at q1 q2 q3 q4; rw [bools_length, H2.out]; show d.next.length = min _ _; omega
       · intro hp
         have hb3 := HB3.out
         have hmn := Hm.out
         obtain ⟨q1, q2, q3, q4⟩ := HQ.out
         obtain ⟨r1, r2⟩ := HP.out
         simp only [r1, r2, not_true_eq_false, not_false_eq_true, true_implies, false_implies] at q1 q2 q3 q4
         rw [bools_length, H2.out] at hp
         first
           | (exfalso; omega)
           | (refine ⟨by first | rfl | exact if_neg q4, ?_⟩
              obtain ⟨b, o, c', hv, _, _, _, hcell⟩ := Row.open (Row.below Hs.out HB5.out) (by rw [H2.out]; exact hp)
              injection hv with hv1 hv2 hv3
              refine ⟨⟨b, o, none⟩, hv1, fun j u hu => ?_⟩
              rw [Go.WideShapes.add_plain]
              exact hcell j u hu)
       · rw [length_splice _ _ _ (by rw [bools_length, bools_length, H1.out, List.length_replicate, Hnd.out]; omega), bools_length, bools_length, H2.out, List.length_replicate, Hnd.out]; omega
       intro w6 HG6 hB6; have HB6 := Lib.hid hB6; clear hB6 c5 HB5 HG5; refine Stop.out ?_))
  all_goals refine ⟨?_⟩
  all_goals
    have hmm := Hm.out
    subst hmm
    have hm22 := b2
    have hnf : Cir.nfirst d ≤ 8 := by unfold Cir.nfirst; omega
    have Hnf : Hid (m = Cir.nfirst d + d.gates.length) := Lib.hid (by rw [Hnd.out]; unfold Cir.nfirst; omega)
    have Ho0 : Hid (w6.ownsRow w.heap.size 4 1 (.slice (some ⟨w1.heap.size, 0, none⟩) m m) m (bools (false :: (inp ++ st) ++ List.replicate d.gates.length false))) := Lib.hid (by
      have hb3 := HB3.out
      have hnd := Hnd.out
      have h1 := H1.out
      have h2 := H2.out
      have e1 : bools (List.replicate m false) = List.replicate m (Value.bool false) := by simp [bools]
      have e2 : splice (splice (bools (List.replicate m false)) 1 (bools inp)) (1 + d.ins) (bools st) = bools (false :: (inp ++ st) ++ List.replicate d.gates.length false) := by
        rw [e1, splice_two (bools inp) (bools st) (.bool false) m (1 + d.ins) (by rw [bools_length, h1]) (by rw [bools_length, bools_length, h1, h2]; omega), bools_length, bools_length, h1, h2, show m - (1 + d.ins + d.next.length) = d.gates.length by omega]
        simp [bools]
      rw [← e2]
      refine own_of_block hz1 HG6.out ?_ (by unfold maxLen; omega)
      rw [e2, bools_length]
      simp [h1, h2]
      omega)
    have HV0 : Hid ((false :: (inp ++ st) ++ List.replicate d.gates.length false).length = m) := Lib.hid (by
      have hnd := Hnd.out
      have h1 := H1.out
      have h2 := H2.out
      simp [h1, h2]
      omega)
    have hZ0 : (bools (false :: (inp ++ st) ++ List.replicate d.gates.length false)).set sF (.bool bF) = bools ((false :: (inp ++ st) ++ List.replicate d.gates.length false).set sF bF) := by
      unfold bools
      rw [List.map_set]
    obtain ⟨V0, hV0⟩ : ∃ V0, V0 = (false :: (inp ++ st) ++ List.replicate d.gates.length false).set sF bF := ⟨_, rfl⟩
    rw [← hV0] at hZ0
    have HL0 : Hid (V0.length = m) := Lib.hid (by rw [hV0, List.length_set]; exact HV0.out)
    have HVal : Hid (Cir.evF d sF V0 d.gates.length = Cir.valsF d st inp sF bF) := Lib.hid (by rw [hV0]; rfl)
    obtain ⟨u0, _, hd0, hf0⟩ := own_slot Ho0.out (j := sF) (by omega)
    have hst := Ho0.out.stored sF (.bool bF)
    rw [hZ0] at hst
    have Ho7 := Lib.hid hst.1
    have HB7 := Lib.hid (HB6.out.grown hst.2 HB6.out.size (fun q hq => by have := Option.some.inj hq; omega))
    have c6 := (HB7.out.cell (p := ⟨g, 2, none⟩) hg).trans C2.out
    have hs0 : (0 : Int) ≤ (sF : Int) := by omega
    have hs1 : decide ((sF : Int) ≥ 0) = true := decide_eq_true hs0
    have HPf : Hid (∀ w', Below w.heap.size w w' → Calls Try.prog 104 #[.pointer (some ⟨g, 0, none⟩)] w' fun e w'' => e = .returned (.int .i64 (Cir.nfirst d : Nat)) ∧ Below w'.heap.size w' w'') := Lib.hid fun w' hb => by
      have := firstGate_any g _ w' (Hp.out.below hb) (by show (0 : Int) ≤ (d.ins : Int); omega) (by show (d.ins : Int) ≤ 100; omega) (by show (List.map _ _).length ≤ 100; rw [List.length_map]; omega)
      rwa [Cir.first_toCz] at this
    have HGF : Hid (∀ k gt, d.gates[k]? = some gt → Cir.evF d sF V0 (k + 1) = (if Cir.nfirst d + k = sF then Cir.evF d sF V0 k else (Cir.evF d sF V0 k).set (Cir.nfirst d + k) (Cir.gval (Cir.evF d sF V0 k) gt))) := Lib.hid fun k gt h => by
      show Cir.stepF d sF _ k = _
      unfold Cir.stepF
      rw [h]
    have HLk : Hid (∀ k, (Cir.evF d sF V0 k).length = m) := Lib.hid fun k => by rw [Cir.evF_length]; exact HL0.out
    have HE0 : Hid (Cir.evF d sF V0 0 = V0) := Lib.hid rfl
    generalize Cir.valsF d st inp sF bF = res at *
    generalize Cir.evF d sF V0 = EV at *
    generalize Cir.nfirst d = nf at *
    clear hq hq' HQ HP C0 C2 hww HB3 Hnd Hm hZ HG6 H1 H2 B1 Hs Hi Hp hZ0 hV0 HV0 HL0 Ho0 hst HB6
    go_wp2_with fail
    generalize w6.setCell ⟨w1.heap.size, sF, none⟩ (.bool bF) = W7 at *
    clear hd0 hf0 c6
    go_loopw [42] (fun i wr => ∃ k : Nat, k ≤ d.gates.length ∧ i = .int .i64 k ∧ Hid (wr.ownsRow w.heap.size 4 1 (.slice (some ⟨w1.heap.size, 0, none⟩) m m) m (bools (EV k))) ∧ Below w.heap.size w wr) (fun i _ => d.gates.length - (intOf i).toNat)
    case atStart => exact ⟨0, Nat.zero_le _, rfl, Lib.hid (by rw [HE0.out]; exact Ho7.out), HB7.out⟩
    case round =>
      obtain ⟨k, hk, rfl, Ho, hb⟩ := hrel
      clear Ho7 HB7 HE0
      by_cases hlt : k < d.gates.length
      · obtain ⟨b, o, x, rfl, hbl, hx, hs1, hs2⟩ := cubes_open R2.out hb Hgl.out.symm (i := k) (by rw [Hgl.out]; exact hlt)
        obtain ⟨gt, hgt⟩ := at_some hlt
        have hxe : x = ((gt.1 : Int), (gt.2 : Int)) := by
          have h1 := hx.out
          unfold Cir.toCz at h1
          simp only [List.getElem?_map, hgt] at h1
          exact (Option.some.inj h1).symm
        subst hxe
        obtain ⟨g1, g2⟩ := HGt.out k gt hgt
        have HF := HGF.out k gt hgt
        have hlen := HLk.out k
        have hgv : Cir.gval (EV k) gt = (Cir.lit (EV k) gt.1 && Cir.lit (EV k) gt.2) := rfl
        rw [hgv] at HF
        clear hgv hx hgt
        obtain ⟨E2, hE2⟩ : ∃ E2, EV (k + 1) = E2 := ⟨_, rfl⟩
        rw [hE2] at HF
        have HE2 := Lib.hid hE2
        clear hE2
        generalize EV k = E at *
        have HS := Lib.hid HF
        clear HF
        have Hb := Lib.hid hb
        have hz := hb.size
        have HL := Lib.hid hlen
        have hmnf := Hnf.out
        have hkm : nf + k < m := by omega
        have HSet : ∀ u : Bool, Hid ((bools E).set (nf + k) (.bool u) = bools (E.set (nf + k) u)) := fun u => Lib.hid (by
          unfold bools
          rw [← List.map_set])
        obtain ⟨G1, hG1⟩ : ∃ G1, G1 = gt.1 := ⟨_, rfl⟩
        obtain ⟨G2, hG2⟩ : ∃ G2, G2 = gt.2 := ⟨_, rfl⟩
        rw [← hG1] at g1 HS hs1
        rw [← hG2] at g2 HS hs2
        have hwk : IntKind.i64.wrap ((nf : Int) + (k : Int)) = (nf : Int) + (k : Int) := IntWalk.i64_in _ (by omega)
        have hix : ((nf : Int) + (k : Int)).toNat = nf + k := by omega
        have Hfit1 : Hid (G1 < 2 * m) := Lib.hid (by omega)
        have Hfit2 : Hid (G2 < 2 * m) := Lib.hid (by omega)
        clear hb hG1 hG2 hlen hmnf
        go_wp2_with fail
        refine (HPf.out _ (Hb.out.alloc hz _)).mono ?_
        rintro e w9 ⟨rfl, hb9⟩
        have Hb9 := Lib.hid ((Hb.out.alloc hz _).trans (hb9.mono (by simp; omega)))
        have Ho9 := Lib.hid (own_below (Ho.out.alloc _) hb9)
        have q0 := (hb9.cell (p := ⟨wr.heap.size, 0, none⟩) (by simp)).trans (World.cell?_alloc_new _ _ _ 0)
        have q1 := (hb9.cell (p := ⟨wr.heap.size, 1, none⟩) (by simp)).trans (World.cell?_alloc_new _ _ _ 1)
        simp at q0 q1
        clear hb9
        by_cases hks : nf + k = sF
        · have hn1 : ((nf : Int) + (k : Int) != (sF : Int)) = false := by simp; omega
          have HE3 : Hid (E2 = E) := Lib.hid (by rw [HS.out, if_pos hks])
          clear HS hks q0 q1
          go_wp2_with fail
          go_roundw
          case rel => exact ⟨k + 1, by omega, by go_num, Lib.hid (by rw [HE2.out, HE3.out]; exact Ho9.out), Hb9.out⟩
          case measure => simp [intOf] <;> omega
        · have hn1 : ((nf : Int) + (k : Int) != (sF : Int)) = true := by simp; omega
          have HS' := HS.out
          rw [if_neg hks] at HS'
          have HS := Lib.hid HS'
          clear HS' hks
          obtain ⟨u0, _, hd0, hf0⟩ := own_slot Ho9.out (j := nf + k) (by omega)
          have Hst := fun u => Lib.hid (Ho9.out.stored (nf + k) (.bool u))
          have HBA : Hid (BoolsAt w9 (.slice (some ⟨w1.heap.size, 0, none⟩) m m) E) := Lib.hid (ownBools_at (b := w.heap.size) (by rw [HL.out]; exact Ho9.out))
          go_wp2_with fail
          refine (litValue_any _ _ G1 _ HBA.out (by rw [HL.out]; exact Hfit1.out) (by omega)).mono ?_
          rintro e w' ⟨rfl, rfl⟩
          cases hv1 : Cir.lit E G1
          · have HEe : Hid (bools E2 = bools (E.set (nf + k) false)) := Lib.hid (by rw [HS.out, hv1]; rfl)
            clear hv1 HS
            go_wp2_with fail
            go_roundw
            case rel => exact ⟨k + 1, by omega, by go_num, Lib.hid (by rw [HE2.out, HEe.out, ← (HSet false).out]; exact (Hst false).out.1), Hb9.out.grown (Hst false).out.2 Hb9.out.size (fun q hq => by have := Option.some.inj hq; omega)⟩
            case measure => simp [intOf] <;> omega
          · have HEe : Hid (bools E2 = bools (E.set (nf + k) (Cir.lit E G2))) := Lib.hid (by rw [HS.out, hv1, Bool.true_and])
            clear hv1 HS
            go_wp2_with fail
            refine (litValue_any _ _ G2 _ HBA.out (by rw [HL.out]; exact Hfit2.out) (by omega)).mono ?_
            rintro e w' ⟨rfl, rfl⟩
            generalize Cir.lit E G2 = u at *
            go_wp2_with fail
            go_roundw
            case rel => exact ⟨k + 1, by omega, by go_num, Lib.hid (by rw [HE2.out, HEe.out, ← (HSet u).out]; exact (Hst u).out.1), Hb9.out.grown (Hst u).out.2 Hb9.out.size (fun q hq => by have := Option.some.inj hq; omega)⟩
            case measure => simp [intOf] <;> omega
      · obtain rfl : k = d.gates.length := by omega
        have HR : Hid (res.length = m ∧ EV d.gates.length = res) := Lib.hid ⟨by rw [← HVal.out]; exact HLk.out _, HVal.out⟩
        go_wp2_with fail
        go_ret
        exact ⟨_, rfl, by rw [HR.out.1, ← HR.out.2]; exact Ho.out, hb⟩
end Go.Proofs.Ytlbfejdbfhgifaa

namespace Go.Proofs.Ytlbfejdbfhgifaa
open Go.RowKit
set_option maxRecDepth 100000
/-! Results of a circuit with a fault. -/
set_option maxHeartbeats 4000000 in
theorem resultsF_any (g : Nat) (d : Ci) (x sF : Nat) (bF : Bool) (w : World) (hsF : sF < Cir.nvars d) (h : PCirc w g (Cir.toCz d)) (hd : Cir.Ok d) (hx : x ≤ 1000) :
    Calls Try.prog 105 #[.pointer (some ⟨g, 0, none⟩), .int .i64 x, .int .i64 (sF : Nat), .bool bF] w (OwnBools (Cir.resF d x sF bF) w) := by
  have s1 := hd.ins
  have s2 := hd.nexts
  have s3 := hd.gatess
  have s4 := hd.outss
  have HP := Lib.hid h
  have HD := Lib.hid hd
  clear h hd
  go_enter Try.func105, Try.ntmps105
  go_wp2_with fail
  refine (latchBits_any g _ d.ins d.next.length x _ HP.out rfl (toCz_next d) (by omega) (by omega) (by omega)).mono ?_
  rintro e w2 ⟨v2, rfl, hown2, hb2⟩
  have Ho2 := Lib.hid hown2
  have Hb2 := Lib.hid hb2
  have hz2 := hb2.size
  clear hown2 hb2
  go_wp2_with fail
  refine (inputBits_any g _ d.ins x _ (HP.out.below Hb2.out) rfl (by omega) (by omega)).mono ?_
  rintro e w3 ⟨v3, rfl, hown3, hb3⟩
  have Ho3 := Lib.hid hown3
  have Ho23 := Lib.hid (own_below Ho2.out hb3)
  have Hb3 := Lib.hid (Hb2.out.trans (hb3.mono hz2))
  have hz3 := Nat.le_trans hz2 hb3.size
  clear hown3 hb3
  go_wp2_with fail
  refine (evaluateF_any g d v2 v3 _ _ sF bF _ hsF (HP.out.below Hb3.out) HD.out (ownBools_at Ho23.out) (ownBools_at Ho3.out) (Cir.bits_length _ _) (Cir.bits_length _ _)).mono ?_
  rintro e w4 ⟨v4, rfl, hown4, hb4⟩
  have Ho4 := Lib.hid (show BoolsAt w4 v4 (Cir.valsF d (Cir.bits (x / 2 ^ d.ins) d.next.length) (Cir.bits x d.ins) sF bF) from ownBools_at hown4)
  have Hb4 := Lib.hid (Hb3.out.trans (hb4.mono hz3))
  have hz4 := Nat.le_trans hz3 hb4.size
  clear hown4 hb4
  go_wp2_with fail
  refine (roots_any g _ _ (HP.out.below Hb4.out) (by rw [toCz_next]; omega) (by rw [toCz_outs]; omega)).mono ?_
  rintro e w5 ⟨v5, rfl, hown5, hb5⟩
  have Ho5 := Lib.hid (show NatsAt w5 v5 (d.next ++ d.outs) by
    have := Row.of_own hown5
    unfold NatsAt nats
    rw [List.map_append]
    exact this)
  have Ho45 := Lib.hid (Row.below Ho4.out hb5)
  have Hb5 := Lib.hid (Hb4.out.trans (hb5.mono hz4))
  have hz5 := Nat.le_trans hz4 hb5.size
  clear hown5 hb5
  have hl := Cir.valsF_length d _ _ sF bF (Cir.bits_length x d.ins) (Cir.bits_length (x / 2 ^ d.ins) d.next.length)
  go_wp2_with fail
  refine (litValues_any v4 v5 (Cir.valsF d (Cir.bits (x / 2 ^ d.ins) d.next.length) (Cir.bits x d.ins) sF bF) (d.next ++ d.outs) _ Ho45.out Ho5.out (fun l hl2 => by
    rw [hl]
    rcases List.mem_append.1 hl2 with h | h
    · exact HD.out.next l h
    · exact HD.out.out l h) (by rw [List.length_append]; omega) (by rw [hl]; unfold Cir.nvars Cir.nfirst; omega)).mono ?_
  rintro e w6 ⟨v6, rfl, hown6, hb6⟩
  have Ho6 := Lib.hid hown6
  have Hb6 := Lib.hid (Hb5.out.trans (hb6.mono hz5))
  clear hown6 hb6
  go_wp2_with fail
  go_ret
  exact ⟨_, rfl, own_mono Ho6.out hz5, Hb6.out⟩
set_option maxHeartbeats 4000000
theorem sliceEqB_any (v v2 : Value) (xs ys : List Bool) (w : World) (h : BoolsAt w v xs) (h2 : BoolsAt w v2 ys) (hle : xs.length = ys.length) (hlx : xs.length ≤ 1000) :
    Calls Try.prog 118 #[v, v2] w fun e w' => e = .returned (.bool (decide (xs = ys))) ∧ Drew w w' := by
  obtain ⟨A, c, hv, hc, hcm⟩ := Row.shape h
  obtain ⟨A2, c2, hv2, hc2, hcm2⟩ := Row.shape h2
  subst hv hv2
  unfold maxLen at hcm hcm2
  have he1 : ((xs.length : Int) != (ys.length : Int)) = false := by rw [hle]; simp
  have H1 := Lib.hid h
  have H2 := Lib.hid h2
  have Hle := Lib.hid hle
  have hle2 : xs.length ≤ ys.length := by omega
  clear h h2 hle
  go_enter Try.func118, Try.ntmps118
  go_wp2_with fail
  go_loopw [13] (fun i wr => ∃ (k : Nat), k ≤ xs.length ∧ i = .int .i64 k ∧ xs.take k = ys.take k ∧ Drew w wr) (fun i _ => xs.length - (intOf i).toNat)
  case atStart => exact ⟨0, Nat.zero_le _, rfl, rfl, Drew.refl _⟩
  case round =>
    obtain ⟨k, hk, rfl, htk, hd⟩ := hrel
    have Ht := Lib.hid htk
    clear htk
    by_cases hlt : k < xs.length
    · obtain ⟨b, o, x, rfl, hbl, hx, hs⟩ := bools_open H1.out (hd.below _) rfl hlt
      obtain ⟨b2, o2, y, rfl, hbl2, hy, hs2⟩ := bools_open H2.out (hd.below _) rfl (show k < ys.length by omega)
      have hlt2 : k < ys.length := by omega
      have Hd := Lib.hid hd
      clear hd
      by_cases hxy : x = y
      · have hxx : (!(x == y)) = false := by rw [hxy]; simp
        have Hxy := Lib.hid hxy
        clear hxy
        go_wp2_with fail
        go_quiet (fail)
        go_wp2_with fail
        go_roundw
        case rel => exact ⟨k + 1, by omega, by go_num, by rw [take_snoc hx.out, take_snoc hy.out, Ht.out, Hxy.out], Hd.out.more _⟩
        case measure => simp [intOf]; omega
      · have hxx : (!(x == y)) = true := by simpa using hxy
        have Hxy := Lib.hid hxy
        clear hxy
        go_wp2_with fail
        go_quiet (fail)
        go_wp2_with fail
        go_ret
        exact ⟨ret_bool (decide_eq_false (take_ne hx.out hy.out Hxy.out)).symm, Hd.out.more _⟩
    · go_wp2_with fail
      go_ret
      have e : xs = ys := by
        have h1 := Ht.out
        rw [List.take_of_length_le (by omega), List.take_of_length_le (by have := Hle.out; omega)] at h1
        exact h1
      exact ⟨ret_bool (decide_eq_true e).symm, hd⟩

theorem detects_any (g : Nat) (d : Ci) (x sF : Nat) (bF : Bool) (w : World) (h : PCirc w g (Cir.toCz d)) (hd : Cir.Ok d) (hx : x ≤ 1000) (hsF : sF < Cir.nvars d) :
    Calls Try.prog 128 #[.pointer (some ⟨g, 0, none⟩), .agg #[.int .i64 (sF : Nat), .bool bF], .int .i64 x] w fun e w' => e = .returned (.bool (Cir.det d sF bF x)) ∧ Below w.heap.size w w' := by
  have hb1 := bel_new w (.cells #[.int .i64 (sF : Nat), .bool bF] 103)
  have hk := heap_alloc_new w (.cells #[.int .i64 (sF : Nat), .bool bF] 103)
  obtain ⟨W1, hW1⟩ : ∃ W1, w.alloc (.cells #[.int .i64 (sF : Nat), .bool bF] 103) = W1 := ⟨_, rfl⟩
  rw [hW1] at hb1 hk
  have HP := Lib.hid (h.below hb1)
  have HD := Lib.hid hd
  have HB := Lib.hid hb1
  have HK := Lib.hid hk
  have hl1 : (Cir.lits (Cir.valsA d x) (d.next ++ d.outs)).length = (Cir.resF d x sF bF).length := by unfold Cir.resF Cir.lits; simp
  have hl2 : (Cir.lits (Cir.valsA d x) (d.next ++ d.outs)).length ≤ 1000 := by
    have := hd.nexts
    have := hd.outss
    unfold Cir.lits
    simp
    omega
  have HL := Lib.hid (And.intro hl1 hl2)
  obtain ⟨gF, hgF⟩ : ∃ gF, w.heap.size = gF := ⟨_, rfl⟩
  rw [hgF] at HK
  have HR1 : Hid (∀ w', Below W1.heap.size W1 w' → Calls Try.prog 105 #[.pointer (some ⟨g, 0, none⟩), .int .i64 x, .int .i64 (-1), .bool false] w' (OwnBools (Cir.lits (Cir.valsA d x) (d.next ++ d.outs)) w')) := Lib.hid fun w' hb => results_any g d x w' (HP.out.below hb) HD.out hx
  have HR2 : Hid (∀ w', Below W1.heap.size W1 w' → Calls Try.prog 105 #[.pointer (some ⟨g, 0, none⟩), .int .i64 x, .int .i64 (sF : Nat), .bool bF] w' (OwnBools (Cir.resF d x sF bF) w')) := Lib.hid fun w' hb => resultsF_any g d x sF bF w' hsF (HP.out.below hb) HD.out hx
  have HDt : Hid (Cir.det d sF bF x = !(decide (Cir.lits (Cir.valsA d x) (d.next ++ d.outs) = Cir.resF d x sF bF))) := Lib.hid rfl
  generalize Cir.det d sF bF x = dt at *
  generalize Cir.resF d x sF bF = X2 at *
  generalize Cir.lits (Cir.valsA d x) (d.next ++ d.outs) = X1 at *
  clear h hd hb1 hk hl1 hl2
  go_enter Try.func128, Try.ntmps128
  go_wp2_with fail
  try rw [hgF]
  have zF := blk_ltB HK.out
  have c0 := blk_cell HK.out 0
  have c1 := blk_cell HK.out 1
  simp at c0 c1
  clear hW1
  refine wp_region_rs (quietRS Try.prog _ W1 _) quietRS_ok (by kernel_rfl) (by kernel_rfl) (by kernel_rfl) (Nat.le_of_ble_eq_true rfl) trivial trivial ?_
  refine rs_old quietRS_ok quiet_any _ (.inl rfl) _ rfl rfl ?_
  refine rs_old quietRS_ok quiet_any _ (.inl rfl) _ rfl rfl ?_
  refine rs_call quietRS_ok quiet_any (TBools X1) (stb_bools _) 105 _ _ rfl (fun ρ w' ho hK => by
    have ho : Only _ W1 w' := ho
    obtain ⟨h0, h1, h2, h3, h4, -⟩ := hK
    have h0' : ρ (.func 105) = .func (.func 105) #[] #[] := h0
    have h1' : ρ (.tmp 7) = _ := h1
    have h2' : ρ (.tmp 8) = _ := h2
    have h3' : ρ (.const (Value.int IntKind.i64 (-1))) = (Value.int IntKind.i64 (-1)) := h3
    have h4' : ρ (.const (Value.bool false)) = (Value.bool false) := h4
    refine ⟨#[ρ (.tmp 7), ρ (.tmp 8), ρ (.const (Value.int IntKind.i64 (-1))), ρ (.const (Value.bool false))], ?_, ?_⟩
    · go_simp
    · rw [h1', h2', h3', h4']
      refine (HR1.out w' (only_below ho)).mono ?_
      rintro e w2 ⟨v2, rfl, hO, hb⟩
      exact ⟨v2, rfl, Row.of_own hO, hb⟩) ?_
  refine rs_old quietRS_ok quiet_any _ (.inl rfl) _ rfl rfl ?_
  refine rs_old quietRS_ok quiet_any _ (.inl rfl) _ rfl rfl ?_
  apply rs_eq quietRS_ok quiet_any
  · intro ρ w' ho hK
    have ho : Only _ W1 w' := ho
    obtain ⟨h0, -⟩ := hK
    have h0' : ρ (.tmp 4) = _ := h0
    go_simp
    try exact rfl
  apply rs_eq quietRS_ok quiet_any
  · intro ρ w' ho hK
    have ho : Only _ W1 w' := ho
    obtain ⟨h0, -⟩ := hK
    have h0' : ρ (.tmp 12) = _ := h0
    have hb := only_below ho
    have q0 := (hb.cell (p := ⟨gF, 0, none⟩) zF).trans c0
    have q1 := (hb.cell (p := ⟨gF, 1, none⟩) zF).trans c1
    go_simp
    try exact rfl
  apply rs_eq quietRS_ok quiet_any
  · intro ρ w' ho hK
    have ho : Only _ W1 w' := ho
    obtain ⟨h0, -⟩ := hK
    have h0' : ρ (.tmp 4) = _ := h0
    go_simp
    try exact rfl
  apply rs_eq quietRS_ok quiet_any
  · intro ρ w' ho hK
    have ho : Only _ W1 w' := ho
    obtain ⟨h0, -⟩ := hK
    have h0' : ρ (.tmp 14) = _ := h0
    have hb := only_below ho
    have q0 := (hb.cell (p := ⟨gF, 0, none⟩) zF).trans c0
    have q1 := (hb.cell (p := ⟨gF, 1, none⟩) zF).trans c1
    go_simp
    try exact rfl
  refine rs_call quietRS_ok quiet_any (TBools X2) (stb_bools _) 105 _ _ rfl (fun ρ w' ho hK => by
    have ho : Only _ W1 w' := ho
    obtain ⟨h0, h1, h2, h3, h4, -⟩ := hK
    have h0' : ρ (.func 105) = .func (.func 105) #[] #[] := h0
    have h1' : ρ (.tmp 10) = _ := h1
    have h2' : ρ (.tmp 11) = _ := h2
    have h3' : ρ (.tmp 13) = _ := h3
    have h4' : ρ (.tmp 15) = _ := h4
    refine ⟨#[ρ (.tmp 10), ρ (.tmp 11), ρ (.tmp 13), ρ (.tmp 15)], ?_, ?_⟩
    · go_simp
    · rw [h1', h2', h3', h4']
      refine (HR2.out w' (only_below ho)).mono ?_
      rintro e w2 ⟨v2, rfl, hO, hb⟩
      exact ⟨v2, rfl, Row.of_own hO, hb⟩) ?_
  refine rs_call quietRS_ok quiet_any (TEq (.bool (decide (X1 = X2)))) (stb_eq _ _) 118 _ _ rfl (fun ρ w' ho hK => by
    have ho : Only _ W1 w' := ho
    obtain ⟨h0, h1, h2, -⟩ := hK
    have h0' : ρ (.func 118) = .func (.func 118) #[] #[] := h0
    have h1' : (TBools X1) w' (ρ (.tmp 9)) := h1
    have h2' : (TBools X2) w' (ρ (.tmp 16)) := h2
    refine ⟨#[ρ (.tmp 9), ρ (.tmp 16)], ?_, ?_⟩
    · go_simp
    · skip
      refine (sliceEqB_any _ _ X1 X2 w' h1' h2' HL.out.1 HL.out.2).mono ?_
      rintro e w2 ⟨rfl, hd⟩
      exact ⟨_, rfl, rfl, hd.below _⟩) ?_
  apply rs_eq quietRS_ok quiet_any
  · intro ρ w' ho hK
    have ho : Only _ W1 w' := ho
    obtain ⟨h0, -⟩ := hK
    have h0' : ρ (.tmp 17) = _ := h0
    go_simp
    try exact rfl
  refine rs_same quietRS_ok quiet_any 18 11 (.inr rfl) rfl _ rfl ?_
  intro f w9 k9 hk9 hI9 ht9 hcp9
  have E0 : f 0 = _ := ht9 0 (Nat.le_of_ble_eq_true rfl)
  conv at E0 => rhs; whnf
  have E1 : f 1 = _ := ht9 1 (Nat.le_of_ble_eq_true rfl)
  conv at E1 => rhs; whnf
  have E2 : (TBools X1) w9 (f 2) := ht9 2 (Nat.le_of_ble_eq_true rfl)
  have E3 : f 3 = _ := ht9 3 (Nat.le_of_ble_eq_true rfl)
  conv at E3 => rhs; whnf
  have E4 : f 4 = _ := ht9 4 (Nat.le_of_ble_eq_true rfl)
  conv at E4 => rhs; whnf
  have E5 : f 5 = _ := ht9 5 (Nat.le_of_ble_eq_true rfl)
  have E6 : f 6 = _ := ht9 6 (Nat.le_of_ble_eq_true rfl)
  have E7 : f 7 = _ := ht9 7 (Nat.le_of_ble_eq_true rfl)
  have E8 : f 8 = _ := ht9 8 (Nat.le_of_ble_eq_true rfl)
  have E9 : (TBools X2) w9 (f 9) := ht9 9 (Nat.le_of_ble_eq_true rfl)
  have E10 : f 10 = _ := ht9 10 (Nat.le_of_ble_eq_true rfl)
  have E11 : f 11 = _ := ht9 11 (Nat.le_of_ble_eq_true rfl)
  have E12 : f 12 = _ := ht9 12 (Nat.le_of_ble_eq_true rfl)
  have Ho9 : Only _ W1 w9 := hI9.2.1
  simp only [putAll, E0, E1, E3, E4, E5, E6, E7, E8, E10, E11, E12, Nat.zero_add, Nat.reduceAdd, Act.put, List.setIfInBounds_toArray, List.set_cons_succ, List.set_cons_zero]
  clear E0 E1 E3 E4 E5 E6 E7 E8 E10 E11 E12
  clear hI9 ht9 hcp9 hk9
  generalize f 2 = r2 at *
  generalize f 9 = r9 at *
  have hb9 := only_below Ho9
  have HB9 := Lib.hid (HB.out.trans (hb9.mono HB.out.size))
  have hdt := HDt.out
  rw [← hdt]
  clear hb9 Ho9 c0 c1 zF
  go_wp2_with fail
  go_ret
  exact ⟨rfl, HB9.out⟩
end Go.Proofs.Ytlbfejdbfhgifaa

namespace Go.Proofs.Ytlbfejdbfhgifaa
open Go.RowKit
set_option maxRecDepth 100000
set_option maxHeartbeats 8000000
/-! Faults without a test. -/
theorem any_range_stop {f : Nat → Bool} {n x : Nat} (hx : x < n) (h : f x = true) : (List.range n).any f = true := List.any_eq_true.2 ⟨x, List.mem_range.2 hx, h⟩
theorem any_range_none {f : Nat → Bool} {n : Nat} (h : ∀ y, y < n → f y = false) : (List.range n).any f = false := by
  rw [List.any_eq_false]
  intro y hy
  rw [h y (List.mem_range.1 hy)]
  simp
theorem findTest_any (g : Nat) (d : Ci) (sF : Nat) (bF : Bool) (w : World) (h : PCirc w g (Cir.toCz d)) (hd : Cir.Ok d) (hsF : sF < Cir.nvars d) :
    Calls Try.prog 119 #[.pointer (some ⟨g, 0, none⟩), .agg #[.int .i64 (sF : Nat), .bool bF]] w fun e w' => (∃ r : Int, e = .returned (.int .i64 r) ∧ decide (r < 0) = !(Cir.testF d sF bF)) ∧ Below w.heap.size w w' := by
  have hb1 := bel_new w (.cells #[.int .i64 (sF : Nat), .bool bF] 103)
  have hk := heap_alloc_new w (.cells #[.int .i64 (sF : Nat), .bool bF] 103)
  obtain ⟨W1, hW1⟩ : ∃ W1, w.alloc (.cells #[.int .i64 (sF : Nat), .bool bF] 103) = W1 := ⟨_, rfl⟩
  rw [hW1] at hb1 hk
  have HP := Lib.hid (h.below hb1)
  have HB := Lib.hid hb1
  have HK := Lib.hid hk
  obtain ⟨m, hm⟩ : ∃ m, m = d.ins + d.next.length := ⟨_, rfl⟩
  have hm7 : m ≤ 7 := by have := hd.ins; have := hd.nexts; omega
  have h20 : 2 ^ m ≤ 128 := Nat.pow_le_pow_right (show 0 < 2 by decide) hm7
  have HAs : Hid (∀ w', PCirc w' g (Cir.toCz d) → Calls Try.prog 48 #[.pointer (some ⟨g, 0, none⟩)] w' fun e w'' => e = .returned (.int .i64 ((2 ^ m : Nat) : Int)) ∧ Below w'.heap.size w' w'') := Lib.hid fun w' hp => assignments_any g _ m w' hp (by show ((d.ins : Nat) : Int) + ((d.next.map Int.ofNat).length : Int) = _; rw [List.length_map, hm]; omega) hm7
  have HDe : Hid (∀ x w', x ≤ 1000 → PCirc w' g (Cir.toCz d) → Calls Try.prog 128 #[.pointer (some ⟨g, 0, none⟩), .agg #[.int .i64 (sF : Nat), .bool bF], .int .i64 (x : Nat)] w' fun e w'' => e = .returned (.bool (Cir.det d sF bF x)) ∧ Below w'.heap.size w' w'') := Lib.hid fun x w' hx hp => detects_any g d x sF bF w' hp hd hx hsF
  have HT : Hid (Cir.testF d sF bF = (List.range (2 ^ m)).any (Cir.det d sF bF)) := Lib.hid (by rw [hm]; rfl)
  generalize Cir.testF d sF bF = tf at *
  generalize Cir.det d sF bF = dt at *
  generalize 2 ^ m = M at *
  obtain ⟨gF, hgF⟩ : ∃ gF, w.heap.size = gF := ⟨_, rfl⟩
  rw [hgF] at HK
  have zF := blk_ltB HK.out
  have c0 := blk_cell HK.out 0
  have c1 := blk_cell HK.out 1
  simp at c0 c1
  clear h hd hb1 hk hm
  go_enter Try.func119, Try.ntmps119
  go_wp2_with fail
  try rw [hgF]
  clear hgF hW1
  refine (HAs.out _ HP.out).mono ?_
  rintro e w2 ⟨rfl, hb⟩
  have HP2 := Lib.hid (HP.out.below hb)
  have HK2 := Lib.hid ((hb.block _ zF).trans HK.out)
  have HB2 := Lib.hid (HB.out.trans (hb.mono HB.out.size))
  clear hb HP HB HK zF c0 c1
  go_wp2_with fail
  go_loopw [8] (fun i wr => ∃ x : Nat, x ≤ M ∧ i = .int .i64 x ∧ Hid (∀ y, y < x → dt y = false) ∧ Hid (PCirc wr g (Cir.toCz d)) ∧ Hid (wr.heap[gF]? = some (.cells #[.int .i64 (sF : Nat), .bool bF] 103 (0, 0))) ∧ Hid (Below w.heap.size w wr)) (fun i _ => M - (intOf i).toNat)
  case atStart => exact ⟨0, Nat.zero_le _, rfl, Lib.hid (fun y hy => absurd hy (by omega)), HP2, HK2, HB2⟩
  case round =>
    obtain ⟨x, hx, rfl, Hn, HP, HK, HB⟩ := hrel
    clear HP2 HK2 HB2
    have zF := blk_ltB HK.out
    have c0 := blk_cell HK.out 0
    have c1 := blk_cell HK.out 1
    simp at c0 c1
    by_cases hlt : x < M
    · go_wp2_with fail
      refine (HDe.out x wr (by omega) HP.out).mono ?_
      rintro e w3 ⟨rfl, hb⟩
      have HP3 := Lib.hid (HP.out.below hb)
      have HK3 := Lib.hid ((hb.block _ zF).trans HK.out)
      have HB3 := Lib.hid (HB.out.trans (hb.mono HB.out.size))
      clear hb HP HB HK zF c0 c1
      cases hdx : dt x
      · have Hdx := Lib.hid hdx
        clear hdx
        go_wp2_with fail
        go_roundw
        case rel => exact ⟨x + 1, by omega, by go_num, Lib.hid (fun y hy => by
          rcases Nat.lt_or_ge y x with h | h
          · exact Hn.out y h
          · obtain rfl : y = x := by omega
            exact Hdx.out), HP3, HK3, HB3⟩
        case measure => simp [intOf]; omega
      · have Hdx := Lib.hid hdx
        clear hdx
        go_wp2_with fail
        go_ret
        refine ⟨⟨x, rfl, ?_⟩, HB3.out⟩
        rw [HT.out, any_range_stop hlt Hdx.out]
        simp
    · obtain rfl : x = M := by omega
      have HN : Hid (tf = false) := Lib.hid (by rw [HT.out]; exact any_range_none Hn.out)
      go_wp2_with fail
      go_ret
      refine ⟨⟨-1, rfl, ?_⟩, HB.out⟩
      rw [HN.out]
      rfl
/-- Some gate's fault has no test. -/
theorem irr_true {d : Ci} (h : ∀ j, Cir.nfirst d ≤ j → j < Cir.nvars d → Cir.testF d j false = true ∧ Cir.testF d j true = true) : Cir.irr d = true := by
  unfold Cir.irr
  rw [List.all_eq_true]
  intro k hk
  have hk := List.mem_range.1 hk
  obtain ⟨h1, h2⟩ := h (Cir.nfirst d + k) (by omega) (by unfold Cir.nvars Cir.nfirst; omega)
  rw [h1, h2]
  rfl
theorem irr_false {d : Ci} {s : Nat} {b : Bool} (h1 : Cir.nfirst d ≤ s) (h2 : s < Cir.nvars d) (h : Cir.testF d s b = false) : Cir.irr d = false := by
  unfold Cir.irr
  rw [List.all_eq_false]
  refine ⟨s - Cir.nfirst d, List.mem_range.2 (by unfold Cir.nvars Cir.nfirst at h2; unfold Cir.nfirst at h1 ⊢; omega), ?_⟩
  rw [show Cir.nfirst d + (s - Cir.nfirst d) = s by omega]
  cases b <;> rw [h] <;> simp
theorem redundant_any (g : Nat) (d : Ci) (w : World) (h : PCirc w g (Cir.toCz d)) (hd : Cir.Ok d) :
    Calls Try.prog 84 #[.pointer (some ⟨g, 0, none⟩)] w fun e w' => (∃ (u : Int) (v : Bool), e = .returned (.tuple #[.agg #[.int .i64 u, .bool v], .bool (!(Cir.irr d))])) ∧ Below w.heap.size w w' := by
  have hb1 := bel_new w (.cells #[.int .i64 0, .bool false] 103)
  have hk := heap_alloc_new w (.cells #[.int .i64 0, .bool false] 103)
  obtain ⟨W1, hW1⟩ : ∃ W1, w.alloc (.cells #[.int .i64 0, .bool false] 103) = W1 := ⟨_, rfl⟩
  rw [hW1] at hb1 hk
  have HP := Lib.hid (h.below hb1)
  have HB := Lib.hid hb1
  have HK := Lib.hid hk
  have s1 := hd.ins
  have s2 := hd.nexts
  have s3 := hd.gatess
  have HPf : Hid (∀ w', PCirc w' g (Cir.toCz d) → Calls Try.prog 104 #[.pointer (some ⟨g, 0, none⟩)] w' fun e w'' => e = .returned (.int .i64 (Cir.nfirst d : Nat)) ∧ Below w'.heap.size w' w'') := Lib.hid fun w' hp => by
    have := firstGate_any g _ w' hp (by show (0 : Int) ≤ (d.ins : Int); omega) (by show (d.ins : Int) ≤ 100; omega) (by show (List.map _ _).length ≤ 100; rw [List.length_map]; omega)
    rwa [Cir.first_toCz] at this
  have HVa : Hid (∀ w', PCirc w' g (Cir.toCz d) → Calls Try.prog 76 #[.pointer (some ⟨g, 0, none⟩)] w' fun e w'' => e = .returned (.int .i64 (Cir.nvars d : Nat)) ∧ Below w'.heap.size w' w'') := Lib.hid fun w' hp => by
    have := vars_any g _ w' hp (by show (0 : Int) ≤ (d.ins : Int); omega) (by show (d.ins : Int) ≤ 100; omega) (by show (List.map _ _).length ≤ 100; rw [List.length_map]; omega) (by show (List.map _ _).length ≤ 100; rw [List.length_map]; omega)
    rwa [Cir.vars_toCz] at this
  have HFt : Hid (∀ (s : Nat) (b : Bool) w', s < Cir.nvars d → PCirc w' g (Cir.toCz d) → Calls Try.prog 119 #[.pointer (some ⟨g, 0, none⟩), .agg #[.int .i64 (s : Nat), .bool b]] w' fun e w'' => (∃ r : Int, e = .returned (.int .i64 r) ∧ decide (r < 0) = !(Cir.testF d s b)) ∧ Below w'.heap.size w' w'') := Lib.hid fun s b w' hs hp => findTest_any g d s b w' hp hd hs
  have HT1 : Hid ((∀ j, Cir.nfirst d ≤ j → j < Cir.nvars d → Cir.testF d j false = true ∧ Cir.testF d j true = true) → Cir.irr d = true) := Lib.hid irr_true
  have HT2 : Hid (∀ s b, Cir.nfirst d ≤ s → s < Cir.nvars d → Cir.testF d s b = false → Cir.irr d = false) := Lib.hid fun s b => irr_false
  have hnv : Cir.nfirst d ≤ Cir.nvars d ∧ Cir.nvars d ≤ 22 := by unfold Cir.nvars Cir.nfirst; omega
  generalize Cir.testF d = tf at *
  generalize Cir.irr d = ir at *
  generalize Cir.nvars d = nv at *
  generalize Cir.nfirst d = nf at *
  obtain ⟨gR, hgR⟩ : ∃ gR, w.heap.size = gR := ⟨_, rfl⟩
  rw [hgR] at HK
  have hzR := HB.out.size
  clear h hd hb1 hk
  go_enter Try.func84, Try.ntmps84
  go_wp2_with fail
  try rw [hgR]
  clear hW1
  refine (HPf.out _ HP.out).mono ?_
  rintro e w2 ⟨rfl, hb⟩
  have HP2 := Lib.hid (HP.out.below hb)
  have HK2 := Lib.hid ((hb.block _ (blk_ltB HK.out)).trans HK.out)
  have HB2 := Lib.hid (HB.out.trans (hb.mono HB.out.size))
  clear hb HP HB HK hzR
  go_wp2_with fail
  go_loopw [4] (fun i wr => ∃ s : Nat, nf ≤ s ∧ s ≤ nv ∧ i = .int .i64 s ∧ Hid (∀ j, nf ≤ j → j < s → tf j false = true ∧ tf j true = true) ∧ Hid (PCirc wr g (Cir.toCz d)) ∧ Hid (wr.heap[gR]? = some (.cells #[.int .i64 0, .bool false] 103 (0, 0))) ∧ Hid (Below w.heap.size w wr)) (fun i _ => nv - (intOf i).toNat)
  case atStart => exact ⟨nf, Nat.le_refl _, hnv.1, rfl, Lib.hid (fun j h1 h2 => absurd h1 (by omega)), HP2, HK2, HB2⟩
  case round =>
    obtain ⟨s, hs1, hs2, rfl, Hn, HP, HK, HB⟩ := hrel
    clear HP2 HK2 HB2
    go_wp2_with fail
    refine (HVa.out _ HP.out).mono ?_
    rintro e w3 ⟨rfl, hb⟩
    have HP3 := Lib.hid (HP.out.below hb)
    have HK3 := Lib.hid ((hb.block _ (blk_ltB HK.out)).trans HK.out)
    have HB3 := Lib.hid (HB.out.trans (hb.mono HB.out.size))
    clear hb HP HB HK
    by_cases hlt : s < nv
    · have hb := bel_new w3 (.cells #[.int .i64 s, .bool false, .int .i64 s, .bool true] 103)
      have hA := heap_alloc_new w3 (.cells #[.int .i64 s, .bool false, .int .i64 s, .bool true] 103)
      obtain ⟨W4, hW4⟩ : ∃ W4, w3.alloc (.cells #[.int .i64 s, .bool false, .int .i64 s, .bool true] 103) = W4 := ⟨_, rfl⟩
      obtain ⟨gA, hgA⟩ : ∃ gA, w3.heap.size = gA := ⟨_, rfl⟩
      rw [hW4] at hb hA
      have HP4 := Lib.hid (HP3.out.below hb)
      have HK4 := Lib.hid ((hb.block _ (blk_ltB HK3.out)).trans HK3.out)
      have HB4 := Lib.hid (HB3.out.trans (hb.mono HB3.out.size))
      rw [hgA] at hA
      have HA4 := Lib.hid hA
      clear hb hA HP3 HK3 HB3
      go_wp2_with fail
      try rw [hgA]
      clear hW4 hgA
      go_loopw [21] (fun i wr => ∃ k : Nat, k ≤ 2 ∧ i = .int .i64 k ∧ Hid ((1 ≤ k → tf s false = true) ∧ (2 ≤ k → tf s true = true)) ∧ Hid (PCirc wr g (Cir.toCz d)) ∧ Hid (wr.heap[gR]? = some (.cells #[.int .i64 0, .bool false] 103 (0, 0))) ∧ Hid (wr.heap[gA]? = some (.cells #[.int .i64 s, .bool false, .int .i64 s, .bool true] 103 (0, 0))) ∧ Hid (Below w.heap.size w wr)) (fun i _ => 2 - (intOf i).toNat)
      case atStart => exact ⟨0, by omega, rfl, Lib.hid ⟨fun h => absurd h (by omega), fun h => absurd h (by omega)⟩, HP4, HK4, HA4, HB4⟩
      case round =>
        obtain ⟨k, hk2, rfl, Hk, HP, HK, HA, HB⟩ := hrel
        clear HP4 HK4 HA4 HB4
        have a0 := blk_cell HA.out 0
        have a1 := blk_cell HA.out 1
        have a2 := blk_cell HA.out 2
        have a3 := blk_cell HA.out 3
        simp at a0 a1 a2 a3
        rcases (show k = 0 ∨ k = 1 ∨ k = 2 by omega) with rfl | rfl | rfl
        · have hbF := bel_new wr (.cells #[.int .i64 s, .bool false] 103)
          have hF := heap_alloc_new wr (.cells #[.int .i64 s, .bool false] 103)
          obtain ⟨W5, hW5⟩ : ∃ W5, wr.alloc (.cells #[.int .i64 s, .bool false] 103) = W5 := ⟨_, rfl⟩
          obtain ⟨gF, hgF⟩ : ∃ gF, wr.heap.size = gF := ⟨_, rfl⟩
          rw [hW5] at hbF hF
          have HP5 := Lib.hid (HP.out.below hbF)
          have HK5 := Lib.hid ((hbF.block _ (blk_ltB HK.out)).trans HK.out)
          have HA5 := Lib.hid ((hbF.block _ (blk_ltB HA.out)).trans HA.out)
          have HB5 := Lib.hid (HB.out.trans (hbF.mono HB.out.size))
          rw [hgF] at hF
          have HF5 := Lib.hid hF
          have c0 := blk_cell HF5.out 0
          have c1 := blk_cell HF5.out 1
          simp at c0 c1
          have HW5 := Lib.hid hW5
          clear hbF hF HP HK HA HB hW5
          go_wp2_with fail
          try rw [hgF]
          rw [HW5.out]
          clear HW5 hgF a0 a1 a2 a3
          refine (HFt.out s false _ hlt HP5.out).mono ?_
          rintro e w6 ⟨⟨r, rfl, hr⟩, hb⟩
          have HP6 := Lib.hid (HP5.out.below hb)
          have HK6 := Lib.hid ((hb.block _ (blk_ltB HK5.out)).trans HK5.out)
          have HA6 := Lib.hid ((hb.block _ (blk_ltB HA5.out)).trans HA5.out)
          have HF6 := Lib.hid ((hb.block _ (blk_ltB HF5.out)).trans HF5.out)
          have HB6 := Lib.hid (HB5.out.trans (hb.mono HB5.out.size))
          clear hb HP5 HK5 HA5 HB5 HF5 c0 c1
          cases ht : tf s false
          · rw [ht] at hr
            have HN : Hid (ir = false) := Lib.hid (HT2.out s false hs1 hlt ht)
            have c0 := blk_cell HF6.out 0
            have c1 := blk_cell HF6.out 1
            simp at c0 c1
            have r0 := blk_cell HK6.out 0
            have r1 := blk_cell HK6.out 1
            have f0 := blk_free HK6.out 0
            have f1 := blk_free HK6.out 1
            simp at r0 r1
            clear ht
            rw [Bool.not_false] at hr
            go_wp2_with fail
            refine bodyPost_ret (v := .tuple #[.agg #[.int .i64 s, .bool false], .bool true]) (by simp [results, Try.results84, go_sem, r0, r1]) rfl ⟨⟨_, _, by rw [HN.out]; rfl⟩, ?_⟩
            exact (HB6.out.setCell (p := ⟨gR, 0, none⟩) (by rw [← hgR]; exact Nat.le_refl _) _).setCell (p := ⟨gR, 1, none⟩) (by rw [← hgR]; exact Nat.le_refl _) _
          · rw [ht, Bool.not_true] at hr
            have Ht := Lib.hid ht
            clear ht
            go_wp2_with fail
            go_roundw
            case rel => exact ⟨1, by omega, by go_num, Lib.hid ⟨fun _ => by first | exact Ht.out | exact Hk.out.1 (by omega), fun h => by first | exact Ht.out | exact absurd h (by omega)⟩, HP6, HK6, HA6, HB6⟩
            case measure => simp [intOf]
        · have hbF := bel_new wr (.cells #[.int .i64 s, .bool true] 103)
          have hF := heap_alloc_new wr (.cells #[.int .i64 s, .bool true] 103)
          obtain ⟨W5, hW5⟩ : ∃ W5, wr.alloc (.cells #[.int .i64 s, .bool true] 103) = W5 := ⟨_, rfl⟩
          obtain ⟨gF, hgF⟩ : ∃ gF, wr.heap.size = gF := ⟨_, rfl⟩
          rw [hW5] at hbF hF
          have HP5 := Lib.hid (HP.out.below hbF)
          have HK5 := Lib.hid ((hbF.block _ (blk_ltB HK.out)).trans HK.out)
          have HA5 := Lib.hid ((hbF.block _ (blk_ltB HA.out)).trans HA.out)
          have HB5 := Lib.hid (HB.out.trans (hbF.mono HB.out.size))
          rw [hgF] at hF
          have HF5 := Lib.hid hF
          have c0 := blk_cell HF5.out 0
          have c1 := blk_cell HF5.out 1
          simp at c0 c1
          have HW5 := Lib.hid hW5
          clear hbF hF HP HK HA HB hW5
          go_wp2_with fail
          try rw [hgF]
          rw [HW5.out]
          clear HW5 hgF a0 a1 a2 a3
          refine (HFt.out s true _ hlt HP5.out).mono ?_
          rintro e w6 ⟨⟨r, rfl, hr⟩, hb⟩
          have HP6 := Lib.hid (HP5.out.below hb)
          have HK6 := Lib.hid ((hb.block _ (blk_ltB HK5.out)).trans HK5.out)
          have HA6 := Lib.hid ((hb.block _ (blk_ltB HA5.out)).trans HA5.out)
          have HF6 := Lib.hid ((hb.block _ (blk_ltB HF5.out)).trans HF5.out)
          have HB6 := Lib.hid (HB5.out.trans (hb.mono HB5.out.size))
          clear hb HP5 HK5 HA5 HB5 HF5 c0 c1
          cases ht : tf s true
          · rw [ht] at hr
            have HN : Hid (ir = false) := Lib.hid (HT2.out s true hs1 hlt ht)
            have c0 := blk_cell HF6.out 0
            have c1 := blk_cell HF6.out 1
            simp at c0 c1
            have r0 := blk_cell HK6.out 0
            have r1 := blk_cell HK6.out 1
            have f0 := blk_free HK6.out 0
            have f1 := blk_free HK6.out 1
            simp at r0 r1
            clear ht
            rw [Bool.not_false] at hr
            go_wp2_with fail
            refine bodyPost_ret (v := .tuple #[.agg #[.int .i64 s, .bool true], .bool true]) (by simp [results, Try.results84, go_sem, r0, r1]) rfl ⟨⟨_, _, by rw [HN.out]; rfl⟩, ?_⟩
            exact (HB6.out.setCell (p := ⟨gR, 0, none⟩) (by rw [← hgR]; exact Nat.le_refl _) _).setCell (p := ⟨gR, 1, none⟩) (by rw [← hgR]; exact Nat.le_refl _) _
          · rw [ht, Bool.not_true] at hr
            have Ht := Lib.hid ht
            clear ht
            go_wp2_with fail
            go_roundw
            case rel => exact ⟨2, by omega, by go_num, Lib.hid ⟨fun _ => by first | exact Ht.out | exact Hk.out.1 (by omega), fun h => by first | exact Ht.out | exact absurd h (by omega)⟩, HP6, HK6, HA6, HB6⟩
            case measure => simp [intOf]
        · go_wp2_with fail
          go_roundw
          case rel => exact ⟨s + 1, by omega, by omega, by go_num, Lib.hid (fun j h1 h2 => by
            rcases Nat.lt_or_ge j s with h | h
            · exact Hn.out j h1 h
            · obtain rfl : j = s := by omega
              exact ⟨Hk.out.1 (by omega), Hk.out.2 (by omega)⟩), HP, HK, HB⟩
          case measure => simp [intOf]; omega
    · obtain rfl : s = nv := by omega
      have HN : Hid (ir = true) := Lib.hid (HT1.out Hn.out)
      have r0 := blk_cell HK3.out 0
      have r1 := blk_cell HK3.out 1
      have f0 := blk_free HK3.out 0
      have f1 := blk_free HK3.out 1
      simp at r0 r1
      go_wp2_with fail
      refine bodyPost_ret (v := .tuple #[.agg #[.int .i64 0, .bool false], .bool false]) (by simp [results, Try.results84, go_sem, r0, r1]) rfl ⟨⟨_, _, by rw [HN.out]; rfl⟩, ?_⟩
      exact (HB3.out.setCell (p := ⟨gR, 0, none⟩) (by rw [← hgR]; exact Nat.le_refl _) _).setCell (p := ⟨gR, 1, none⟩) (by rw [← hgR]; exact Nat.le_refl _) _
end Go.Proofs.Ytlbfejdbfhgifaa

namespace Go.Proofs.Ytlbfejdbfhgifaa
open Go.RowKit
set_option maxRecDepth 100000
set_option maxHeartbeats 8000000
/-! Irredundant circuits. -/
theorem irredundant_any (v : Value) (d : Ci) (w : World) (h : CircAt w v (Cir.toCz d)) (hd : Cir.Ok d) :
    Calls Try.prog 32 #[v] w fun e w' => e = .returned (.bool (Cir.irr d)) ∧ Below w.heap.size w w' := by
  have H1 := Lib.hid h
  have v1 := Cir.ok_valid hd
  obtain ⟨An, cn, Ag, cg, Ao, co, rfl⟩ := h.shape
  have hp1 := pcirc_aggE H1.out
  have hb1 := bel_new w (.cells #[.int .i64 (Cir.toCz d).ins, .slice An (Cir.toCz d).next.length cn, .slice Ag (Cir.toCz d).gates.length cg, .slice Ao (Cir.toCz d).outs.length co] 31)
  have P1 := PCells.boxed w (Cir.toCz d).ins (.slice An (Cir.toCz d).next.length cn) (.slice Ag (Cir.toCz d).gates.length cg) (.slice Ao (Cir.toCz d).outs.length co) 31
  obtain ⟨W1, hW1⟩ : ∃ W1, w.alloc (.cells #[.int .i64 (Cir.toCz d).ins, .slice An (Cir.toCz d).next.length cn, .slice Ag (Cir.toCz d).gates.length cg, .slice Ao (Cir.toCz d).outs.length co] 31) = W1 := ⟨_, rfl⟩
  rw [hW1] at hb1 P1 hp1
  have HP := Lib.hid hp1
  have HB := Lib.hid hb1
  have HD := Lib.hid hd
  have HV : Hid (∀ w', Below W1.heap.size W1 w' → Calls Try.prog 47 #[.agg #[.int .i64 (Cir.toCz d).ins, .slice An (Cir.toCz d).next.length cn, .slice Ag (Cir.toCz d).gates.length cg, .slice Ao (Cir.toCz d).outs.length co]] w' fun e w'' => e = .returned (.bool true) ∧ Below w'.heap.size w' w'') := Lib.hid fun w' hb => by
    have := implValid_any _ (Cir.toCz d) w' (H1.out.below (hb1.trans (hb.mono hb1.size)))
    rwa [v1] at this
  obtain ⟨z1, p0, p1, p2, p3⟩ := P1
  generalize (Cir.toCz d).ins = i0 at *
  generalize (Cir.toCz d).next.length = i1 at *
  generalize (Cir.toCz d).gates.length = i2 at *
  generalize (Cir.toCz d).outs.length = i3 at *
  have HR : Hid (∀ g' w', PCirc w' g' (Cir.toCz d) → Calls Try.prog 84 #[.pointer (some ⟨g', 0, none⟩)] w' fun e w'' => (∃ (u : Int) (v : Bool), e = .returned (.tuple #[.agg #[.int .i64 u, .bool v], .bool (!(Cir.irr d))])) ∧ Below w'.heap.size w' w'') := Lib.hid fun g' w' hp => redundant_any g' d w' hp hd
  generalize Cir.irr d = ir at *
  obtain ⟨gC, hgC⟩ : ∃ gC, w.heap.size = gC := ⟨_, rfl⟩
  rw [hgC] at z1 p0 p1 p2 p3 HP
  clear h hp1 hb1 hd v1 H1 HD
  go_enter Try.func32, Try.ntmps32
  go_wp2_with fail
  try rw [hgC]
  clear hgC hW1
  refine (HV.out W1 (Below.refl _ _)).mono ?_
  rintro e w2 ⟨rfl, hb⟩
  have HP2 := Lib.hid (HP.out.below hb)
  have HB2 := Lib.hid (HB.out.trans (hb.mono HB.out.size))
  clear hb HP HB HV z1 p0 p1 p2 p3
  go_wp2_with fail
  refine (HR.out _ _ HP2.out).mono ?_
  rintro e w3 ⟨⟨u, b, rfl⟩, hb⟩
  have HB3 := Lib.hid (HB2.out.trans (hb.mono HB2.out.size))
  have HB4 := Lib.hid (HB3.out.alloc HB3.out.size (.cells #[.int .i64 u, .bool b] 103))
  clear hb HP2 HB2 HR
  go_wp2_with fail
  go_ret
  exact ⟨by simp, HB4.out⟩
end Go.Proofs.Ytlbfejdbfhgifaa
