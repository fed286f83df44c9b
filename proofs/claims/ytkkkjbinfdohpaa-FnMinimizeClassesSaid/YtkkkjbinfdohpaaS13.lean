import Derived.Test.YtkkkjbinfdohpaaS07
import Derived.Test.YtkkkjbinfdohpaaS02
import Derived.Test.YtkkkjbinfdohpaaS12
import Derived.Test.YtkkkjbinfdohpaaS04
import Derived.Test.YtkkkjbinfdohpaaS11
import Derived.Test.YtkkkjbinfdohpaaS01
import Derived.Test.YtkkkjbinfdohpaaProg
import Derived.Test.YtkkkjbinfdohpaaS03
import Derived.Deep.RegionLaw
set_option linter.unusedVariables false
set_option linter.unusedSimpArgs false
set_option maxRecDepth 100000
set_option maxHeartbeats 16000000
namespace Go.Proofs.Ytkkkjbinfdohpaa
open Go.RowKit
def OwnMachR (m : Mz) (w : World) (e : Ending) (w' : World) : Prop := ∃ v, e = .returned v ∧ OwnMachE w.heap.size w'.heap.size v m w' ∧ Below w.heap.size w w'
theorem rowI_take {d : Ci} {s j n : Nat} (h : (Cir.rowN d s)[j]? = some n) : ints ((Cir.rowI d s).take (j + 1) ++ nats ((Cir.rowN d s).drop (j + 1))) = (ints ((Cir.rowI d s).take j ++ nats ((Cir.rowN d s).drop j))).set j (.int .i64 (idxOf (Cir.reach d) n)) := by
 obtain ⟨hj, hn⟩ := List.getElem?_eq_some_iff.1 h
 have e1 : (Cir.rowI d s)[j]? = some (idxOf (Cir.reach d) n) := by unfold Cir.rowI; rw [List.getElem?_map, h]; rfl
 have hl : ((Cir.rowI d s).take j).length = j := by
  have : (Cir.rowI d s).length = (Cir.rowN d s).length := by unfold Cir.rowI; simp
  rw [List.length_take]; omega
 have e2 : (Cir.rowN d s).drop j = n :: (Cir.rowN d s).drop (j + 1) := by rw [List.drop_eq_getElem_cons hj, hn]
 unfold ints
 rw [← List.map_set, take_snoc e1, e2]
 unfold nats
 rw [List.map_cons, List.set_append_right _ _ (by omega), hl, Nat.sub_self, List.set_cons_zero, List.append_assoc]
 rfl
theorem implMof_ok (v : Value) (d : Ci) (w : World) (h : CircAt w v (Cir.toCz d)) (hd : Cir.Ok d) (hv : Cir.valid (Cir.toCz d) = true) :
  Calls Try.prog 26 #[v] w (OwnMachR (Cir.machN d) w) := by
 have l1 := hd.ins
 have l2 := hd.nexts
 have HC := Lib.hid h
 obtain ⟨vn, vg, vo, rfl, r1, r2, r3⟩ := h
 have hins : (Cir.toCz d).ins = (d.ins : Int) := rfl
 have HP := Lib.hid (PCirc.boxed (c := Cir.toCz d) 26 r1 r2 r3)
 rw [hins] at HC HP ⊢
 have hb0 := bel_new w (.cells #[.int .i64 d.ins, vn, vg, vo] 26)
 have hb00 := bel_new (w.alloc (.cells #[.int .i64 d.ins, vn, vg, vo] 26)) (.cells #[.int .i64 0, .slice none 0 0, .slice none 0 0] 53)
 have B0 := Lib.hid (hb0.trans (hb00.mono hb0.size))
 have HP := Lib.hid (HP.out.below hb00)
 have PC := Lib.hid ((PCells.boxed w d.ins vn vg vo 26).below hb00)
 have hsz : ((w.alloc (.cells #[.int .i64 d.ins, vn, vg, vo] 26)).alloc (.cells #[.int .i64 0, .slice none 0 0, .slice none 0 0] 53)).heap.size = w.heap.size + 2 := by simp
 have hR : ((w.alloc (.cells #[.int .i64 d.ins, vn, vg, vo] 26)).alloc (.cells #[.int .i64 0, .slice none 0 0, .slice none 0 0] 53)).heap[w.heap.size + 1]? = some (.cells #[.int .i64 0, .slice none 0 0, .slice none 0 0] 53 (0, 0)) := by
  have := heap_alloc_new (w.alloc (.cells #[.int .i64 d.ins, vn, vg, vo] 26)) (.cells #[.int .i64 0, .slice none 0 0, .slice none 0 0] 53)
  rwa [World.size_alloc] at this
 have HRes := Lib.hid hR
 obtain ⟨z, p0, p1, p2, p3⟩ := PC.out
 have HC0 := Lib.hid (HC.out.below B0.out)
 have HV := Lib.hid (implValid_any _ _ _ HC0.out)
 rw [hv] at HV
 have Hv := Lib.hid hv
 have Hd := Lib.hid hd
 obtain ⟨M, e, hM⟩ : ∃ M : Nat, (2 : Int) ^ d.ins = (M : Int) ∧ M = 2 ^ d.ins := ⟨2 ^ d.ins, two_pow d.ins, rfl⟩
 have hM16 : M ≤ 16 := by rw [hM]; exact Nat.pow_le_pow_right (show 0 < 2 by decide) l1
 have hM1 : 1 ≤ M := by rw [hM]; exact Nat.pow_pos (by decide)
 have HM := Lib.hid hM
 have hL8 := (Cir.reach_sts d).len hd
 have HSt := Lib.hid (Cir.reach_sts d)
 clear r1 r2 r3 hd hins hM hv HC hb0 hb00 hR
 go_enter Try.func26, Try.ntmps26
 go_wp2_with fail
 generalize (w.alloc (.cells #[.int .i64 d.ins, vn, vg, vo] 26)).alloc (.cells #[.int .i64 0, .slice none 0 0, .slice none 0 0] 53) = W at *
 refine HV.out.mono ?_
 rintro e w1 ⟨rfl, hb1⟩
 have B1 := Lib.hid (B0.out.trans (hb1.mono B0.out.size))
 have HP1 := Lib.hid (HP.out.below hb1)
 have HC1 := Lib.hid (HC0.out.below hb1)
 have HRes1 := Lib.hid ((hb1.block _ (by omega)).trans HRes.out)
 have PC1 := Lib.hid (PC.out.below hb1)
 have z1 := hb1.size
 clear hb1 p0 p1 p2 p3 z HV HP HC0 HRes PC
 obtain ⟨z, p0, p1, p2, p3⟩ := PC1.out
 go_wp2_with fail
 refine (implReach_ok _ d _ HC1.out Hd.out Hv.out).mono ?_
 rintro e w2 ⟨vs, rfl, hO2, hb2⟩
 have B2 := Lib.hid (B1.out.trans (hb2.mono B1.out.size))
 have HP2 := Lib.hid (HP1.out.below hb2)
 have HRes2 := Lib.hid ((hb2.block _ (by omega)).trans HRes1.out)
 have PC2 := Lib.hid (PC1.out.below hb2)
 have z2 := hb2.size
 have HS2 := Lib.hid (own_nats (v := vs) (xs := Cir.reach d) (by rw [nats_length] at hO2; exact hO2))
 clear hb2 hO2 p0 p1 p2 p3 z HP1 HC1 HRes1 PC1
 obtain ⟨z, p0, p1, p2, p3⟩ := PC2.out
 obtain ⟨As, cs, rfl, hcs, hcsm⟩ := NatsAt.shape HS2.out
 unfold maxLen at hcsm
 have hb3 := bel_new w2 (.cells #[.int .i64 d.ins, .slice none 0 0, .slice none 0 0] 53)
 have HMB := Lib.hid (MB.start (ins := (d.ins : Int)) (w := w2) trivial)
 have HF0 : Hid (Below w2.heap.size w2 (w2.alloc (.cells #[.int .i64 d.ins, .slice none 0 0, .slice none 0 0] 53))) := Lib.hid hb3
 go_wp2_with fail
 clear hb3 p0 p1 p2 p3 z
 generalize w2.alloc (.cells #[.int .i64 d.ins, .slice none 0 0, .slice none 0 0] 53) = w3 at *
 go_loopw [22] (fun i wr => ∃ (k : Nat) (E1 E2 : Nat → Prop) (vN vO : Value), k ≤ (Cir.reach d).length ∧ i = .int .i64 k ∧ Hid (MB w2.heap.size d.ins E1 E2 vN vO ((Cir.machN d).next.take k) ((Cir.machN d).out.take k) wr) ∧ Below w2.heap.size w2 wr) (fun i _ => (Cir.reach d).length - (intOf i).toNat)
 case atStart => exact ⟨0, _, _, _, _, Nat.zero_le _, rfl, HMB, HF0.out⟩
 case round =>
  obtain ⟨k, E1, E2, vN, vO, hk, rfl, HMB, hb⟩ := hrel
  clear HF0
  have Hb := Lib.hid hb
  have hzb := hb.size
  have hgm := mb_lt HMB.out
  clear hb
  by_cases hlt : k < (Cir.reach d).length
  ·obtain ⟨b, o, s, rfl, hbl, hx, hs0⟩ := nats_cell (nats_row HS2.out) rfl hlt
   have hs1 := (Hb.out.cell (p := ⟨b, o + k, none⟩) hbl).trans hs0
   have hs8 : s < 8 := by
    have h1 := HSt.out.lt s (List.mem_of_getElem? hx.out)
    have h2 : 2 ^ d.next.length ≤ 2 ^ 3 := Nat.pow_le_pow_right (show 0 < 2 by decide) l2
    omega
   have HX1 : Hid ((Cir.machN d).next.take (k + 1) = (Cir.machN d).next.take k ++ [Cir.rowI d s]) := Lib.hid (take_snoc (by unfold Cir.machN; simp only [List.getElem?_map, hx.out]; rfl))
   have HX2 : Hid ((Cir.machN d).out.take (k + 1) = (Cir.machN d).out.take k ++ [nats (Cir.rowO d s)]) := Lib.hid (take_snoc (by unfold Cir.machN; simp only [List.getElem?_map, hx.out]; rfl))
   have hN1 : (nats (Cir.rowN d s)).length = M := by rw [nats_length, Cir.rowN, List.length_map, List.length_range, HM.out]
   have hO1 : (nats (Cir.rowO d s)).length = M := by rw [nats_length, Cir.rowO, List.length_map, List.length_range, HM.out]
   have HN1 := Lib.hid hN1
   have HO1 := Lib.hid hO1
   clear hN1 hO1
   go_wp2_with fail
   refine (stateRows_any w.heap.size d s _ (HP2.out.below Hb.out) Hd.out (by omega)).mono ?_
   rintro e w4 ⟨va, vb, rfl, oa, ob, hab, hb4⟩
   rw [HN1.out] at oa
   rw [HO1.out] at ob
   have Hb4 := Lib.hid (Hb.out.trans (hb4.mono hzb))
   have HMB4 := Lib.hid (HMB.out.below hb4)
   have hz4 := Nat.le_trans hzb hb4.size
   have hgm4 := mb_lt HMB4.out
   have Oa := Lib.hid (own_mono oa (show w2.heap.size + 1 ≤ wr.heap.size by omega))
   have Ob := Lib.hid (own_mono ob (show w2.heap.size + 1 ≤ wr.heap.size by omega))
   have Hab := Lib.hid hab
   have Na1 : Hid (∀ g, va.ownBlock = some g → ¬ E1 g ∧ ¬ E2 g) := Lib.hid fun g hg => ⟨fun he => by have h1 := HMB.out.l1 g he; have h2 := (oa.lt g hg).1; omega, fun he => by have h1 := HMB.out.l2 g he; have h2 := (oa.lt g hg).1; omega⟩
   have Nb1 : Hid (∀ g, vb.ownBlock = some g → ¬ E1 g ∧ ¬ E2 g) := Lib.hid fun g hg => ⟨fun he => by have h1 := HMB.out.l1 g he; have h2 := (ob.lt g hg).1; omega, fun he => by have h1 := HMB.out.l2 g he; have h2 := (ob.lt g hg).1; omega⟩
   obtain ⟨ga, ca, hva, hga, hga2, hca, hcam⟩ := own_open Oa.out (by omega)
   obtain ⟨gb, cb, hvb, hgb, hgb2, hcb, hcbm⟩ := own_open Ob.out (by omega)
   subst hva hvb
   unfold maxLen at hcam hcbm
   have hcell4 := HMB4.out.cells
   clear hb4 oa ob hab hs1 hs0 hcell4
   go_wp2_with fail
   go_loopw [33] (fun i wr => ∃ j : Nat, j ≤ M ∧ i = .int .i64 j ∧ Hid (wr.ownsRow (w2.heap.size + 1) 3 1 (.slice (some ⟨ga, 0, none⟩) M ca) M (ints ((Cir.rowI d s).take j ++ nats ((Cir.rowN d s).drop j)))) ∧ Hid (w4.grownBy wr (some ga))) (fun i _ => M - (intOf i).toNat)
   case atStart => exact ⟨0, Nat.zero_le _, rfl, Lib.hid (by simpa using Oa.out), Lib.hid (World.grownBy.refl _ _)⟩
   case round =>
    obtain ⟨j, hj, rfl, Ho, Hg⟩ := hrel
    have Hbr := Lib.hid (Hb4.out.grown Hg.out hz4 (fun q hq => by have := Option.some.inj hq; omega))
    by_cases hlj : j < M
    ·obtain ⟨n, hn⟩ := at_some (show j < (Cir.rowN d s).length by have := HN1.out; rw [nats_length] at this; omega)
     have hn8 : n ≤ 1000 := by
      unfold Cir.rowN at hn
      rw [List.getElem?_map] at hn
      obtain ⟨x, _, rfl⟩ := Option.map_eq_some_iff.1 hn
      have h1 := Cir.nextOf_lt d s x
      have h2 : 2 ^ d.next.length ≤ 2 ^ 3 := Nat.pow_le_pow_right (show 0 < 2 by decide) l2
      omega
     have hIl : (Cir.rowI d s).length = (Cir.rowN d s).length := by unfold Cir.rowI; simp
     have hjl := (List.getElem?_eq_some_iff.1 hn).1
     have hcj : (ints ((Cir.rowI d s).take j ++ nats ((Cir.rowN d s).drop j)))[j]? = some (.int .i64 (n : Int)) := by
      unfold ints
      rw [List.getElem?_map, List.getElem?_append_right (by rw [List.length_take]; omega), List.length_take, show j - min j (Cir.rowI d s).length = 0 from by omega]
      unfold nats
      rw [List.getElem?_map, List.getElem?_drop, Nat.add_zero, hn]
      rfl
     obtain ⟨u0, hu0, hd0, hf0⟩ := own_slot Ho.out (j := j) (by omega)
     rw [hcj] at hu0
     obtain rfl := Option.some.inj hu0
     have HS := Lib.hid (rowI_take (d := d) hn)
     have Hst := Lib.hid (Ho.out.stored j (.int .i64 (idxOf (Cir.reach d) n)))
     have HSr := Lib.hid (HS2.out.below Hbr.out)
     have hix := idxOf_lo (Cir.reach d) n
     clear hcj hu0 hIl hjl hn
     go_wp2_with fail
     refine (index_any _ (Cir.reach d) n _ HSr.out (by omega)).mono ?_
     rintro e w' ⟨rfl, rfl⟩
     go_wp2_with fail
     go_roundw
     case rel => exact ⟨j + 1, by omega, by go_num, Lib.hid (by rw [HS.out]; exact Hst.out.1), Lib.hid (grownBy_comp Hg.out Hst.out.2)⟩
     case measure => simp [intOf] <;> omega
    ·obtain rfl : j = M := by omega
     have hRl : (Cir.rowI d s).length = j := by have := HN1.out; rw [nats_length] at this; unfold Cir.rowI; rw [List.length_map]; exact this
     have Oa5 : Hid (wr.ownsRow (w2.heap.size + 1) 3 1 (.slice (some ⟨ga, 0, none⟩) j ca) (Cir.rowI d s).length (ints (Cir.rowI d s))) := Lib.hid (by
      have := Ho.out
      rw [List.take_of_length_le (by omega), List.drop_eq_nil_of_le (by have := HN1.out; rw [nats_length] at this; omega)] at this
      rw [hRl]
      simpa [nats] using this)
     have Ob5 : Hid (wr.ownsRow (w2.heap.size + 1) 3 1 (.slice (some ⟨gb, 0, none⟩) j cb) (nats (Cir.rowO d s)).length (ints (nats (Cir.rowO d s)))) := Lib.hid (by rw [HO1.out]; exact own_kept Ob.out Hg.out (fun g h1 h2 => Hab.out g h2 h1))
     have HMB5 := Lib.hid (HMB4.out.grown Hg.out (fun e => by have := Option.some.inj e; omega) (fun g hg => (Na1.out g (by rw [← hg]; rfl)).1) (fun g hg => (Na1.out g (by rw [← hg]; rfl)).2))
     have Hk8 : k ≤ 8 := by omega
     have HMl := HMB5.out.below (bel_new wr (.cells #[.slice (some ⟨ga, 0, none⟩) j ca] 23))
     obtain ⟨us, q1, q2, q3, q4, q5, q6, q7⟩ := HMl.n
     have hl1 : ((Cir.machN d).next.take k).length = k := by rw [List.length_take]; unfold Cir.machN; rw [List.length_map]; omega
     have hl2 : ((Cir.machN d).out.take k).length = k := by rw [List.length_take]; unfold Cir.machN; rw [List.length_map]; omega
     rw [hl1] at q1 q2
     have Q2 := Lib.hid q2
     have HML := Lib.hid HMl
     have Q := Lib.hid (And.intro q1 (And.intro q3 (And.intro q4 (And.intro q5 (And.intro q6 q7)))))
     have Hl1 := Lib.hid hl1
     have Hl2 := Lib.hid hl2
     have Oal := Lib.hid (Oa5.out.alloc (.cells #[.slice (some ⟨ga, 0, none⟩) j ca] 23))
     have Obl := Lib.hid (Ob5.out.alloc (.cells #[.slice (some ⟨ga, 0, none⟩) j ca] 23))
     have Hlit := Lib.hid (Row.of_own (World.ownsRow_lit (base := wr.heap.size) (e := 23) (size := 1) wr #[.slice (some ⟨ga, 0, none⟩) j ca] 1 (Nat.le_refl _) (by unfold maxLen; omega) rfl))
     have hgm5 := mb_lt HMB5.out
     have hsl : (wr.alloc (.cells #[.slice (some ⟨ga, 0, none⟩) j ca] 23)).heap.size = wr.heap.size + 1 := by simp
     have Nb2 : Hid (∀ v7 : Value, (v7.ownBlock = vN.ownBlock ∨ v7.ownBlock = some (wr.alloc (.cells #[.slice (some ⟨ga, 0, none⟩) j ca] 23)).heap.size) → ∀ g, (Value.slice (some ⟨gb, 0, none⟩) j cb).ownBlock = some g → ¬ (E1 g ∨ (Value.slice (some ⟨ga, 0, none⟩) j ca).ownBlock = some g ∨ v7.ownBlock = some g)) := Lib.hid fun v7 hat g hg he => by
      have hgb : gb = g := by simpa [Value.ownBlock] using hg
      subst hgb
      rcases he with he | he | he
      ·exact (Nb1.out gb rfl).1 he
      ·exact Hab.out gb he rfl
      ·rcases hat with h | h
       ·exact (Nb1.out gb rfl).1 (q6 gb (by rw [← h]; exact he))
       ·rw [h] at he
        have h2 := Option.some.inj he
        have h3 := (Ob5.out.lt gb rfl).2
        omega
     obtain ⟨k0, k1, k2, k3, k4⟩ := HMB5.out.cells
     clear hRl Ho HMl q1 q2 q3 q4 q5 q6 q7 hl1 hl2
     go_wp2_with (first
      | (at_builtin; refine append_intss rfl (.tmp 46) (.tmp 48) rfl (w2.heap.size + 1) vN k us rfl Q2.out _ 1 [.slice (some ⟨ga, 0, none⟩) j ca] rfl Hlit.out (by simp [Value.oneCell']) (by omega) (by first | omega | (simp <;> omega)) ?_; intro v7 w7 hown7 hg7 hat7; obtain ⟨A7, c7, hv7⟩ := slice_of_own hown7; subst hv7; have HMB7 := Lib.hid (MB.addN HML.out (Q.out.1.trans Hl1.out.symm) Q.out.2.1 Q.out.2.2.1 Q.out.2.2.2.1 Q.out.2.2.2.2.1 Q.out.2.2.2.2.2 Oal.out (fun g hg => (Na1.out g hg).1) (fun g hg => (Na1.out g hg).2) (by rw [Hl1.out]; exact hown7) hg7 hat7); have hbx := (hg7.block w2.heap.size (mb_lt HML.out) (fun e => by obtain ⟨_, _, p2, _⟩ := HML.out.n; have := (p2.lt _ e.symm).1; omega)).trans HML.out.box; have x1 := blk_cell hbx 1; have y1 := blk_free hbx 1; have x22 : w7.cell? ⟨w2.heap.size, 2, none⟩ = some vO := (blk_cell hbx 2); have y22 := blk_free hbx 2; obtain ⟨j0, j1, j2, j3, j4⟩ := HMB7.out.cells; have HMl8 := HMB7.out.below (bel_new _ (.cells #[.slice (some ⟨gb, 0, none⟩) j cb] 23)); obtain ⟨us2, t1, t2, t3, t4, t5, t6, t7⟩ := HMl8.o; rw [Hl2.out] at t1 t2; have T2 := Lib.hid t2; have HML8 := Lib.hid HMl8; have TQ := Lib.hid (And.intro t1 (And.intro t3 (And.intro t4 (And.intro t5 (And.intro t6 t7))))); have Ob8 := Lib.hid ((own_set (own_kept Obl.out hg7 (fun g h1 h2 => (Nb1.out g h1).1 (Q.out.2.2.2.2.1 g h2))) (show w2.heap.size < w2.heap.size + 1 by omega) (i := 1) (u := (Value.slice A7 (k + 1) c7))).alloc (.cells #[.slice (some ⟨gb, 0, none⟩) j cb] 23)); have Hlit2 := Lib.hid (Row.of_own (World.ownsRow_lit (base := (w7.setCell ⟨w2.heap.size, 1, none⟩ (Value.slice A7 (k + 1) c7)).heap.size) (e := 23) (size := 1) (w7.setCell ⟨w2.heap.size, 1, none⟩ (Value.slice A7 (k + 1) c7)) #[.slice (some ⟨gb, 0, none⟩) j cb] 1 (Nat.le_refl _) (by unfold maxLen; omega) rfl)); have Hg7 := Lib.hid hg7; have Hat7 := Lib.hid hat7; have hz7 := hg7.size; have hz8 : (w7.setCell ⟨w2.heap.size, 1, none⟩ (Value.slice A7 (k + 1) c7)).heap.size = w7.heap.size := (by simp [World.setCell]); have Hlit2 := Lib.hid (by have hh := Hlit2.out; rw [hz8] at hh; exact hh); clear hown7 hg7 hat7 hbx HMl8 t1 t2 t3 t4 t5 t6 t7 k0 k1 k2 k3 k4)
      | (at_builtin; refine append_intss rfl (.tmp 52) (.tmp 54) rfl (w2.heap.size + 1) vO k us2 rfl T2.out _ 1 [.slice (some ⟨gb, 0, none⟩) j cb] rfl Hlit2.out (by simp [Value.oneCell']) (by omega) (by first | omega | (simp <;> omega)) ?_; intro v9 w9 hown9 hg9 hat9; obtain ⟨A9, c9, hv9⟩ := slice_of_own hown9; subst hv9; have HMB9 := Lib.hid (MB.addO HML8.out (TQ.out.1.trans Hl2.out.symm) TQ.out.2.1 TQ.out.2.2.1 TQ.out.2.2.2.1 TQ.out.2.2.2.2.1 TQ.out.2.2.2.2.2 Ob8.out (Nb2.out _ Hat7.out) (fun g hg => (Nb1.out g hg).2) (by rw [Hl2.out]; exact hown9) hg9 hat9); have hbx := (hg9.block w2.heap.size (mb_lt HML8.out) (fun e => by obtain ⟨_, _, p2, _⟩ := HML8.out.o; have := (p2.lt _ e.symm).1; omega)).trans HML8.out.box; have x2 := blk_cell hbx 2; have y2 := blk_free hbx 2; have Hg9 := Lib.hid hg9; clear hown9 hg9 hat9 hbx j0 j1 j2 j3 j4 x1 y1))
     go_roundw
     case rel => exact ⟨k + 1, _, _, _, _, by omega, by go_num, Lib.hid (by rw [HX1.out, HX2.out]; exact HMB9.out), by
      have b1 := (Hbr.out.alloc Hbr.out.size (.cells #[.slice (some ⟨ga, 0, none⟩) j ca] 23)).grown Hg7.out (by simp; omega) (fun q hq => by have := (Q2.out.lt q hq).1; omega)
      have b2 := (b1.setCell (p := ⟨w2.heap.size, 1, none⟩) (Nat.le_refl _) (Value.slice A7 (k + 1) c7)).alloc (by omega) (.cells #[.slice (some ⟨gb, 0, none⟩) j cb] 23)
      exact (b2.grown Hg9.out (by simp; omega) (fun q hq => by have := (T2.out.lt q hq).1; omega)).setCell (p := ⟨w2.heap.size, 2, none⟩) (Nat.le_refl _) (Value.slice A9 (k + 1) c9)⟩
     case measure => simp [intOf] <;> omega
  ·obtain rfl : k = (Cir.reach d).length := by omega
   have HMf : Hid (MB w2.heap.size d.ins E1 E2 vN vO (Cir.machN d).next (Cir.machN d).out wr) := Lib.hid (by
    have := HMB.out
    rwa [List.take_of_length_le (by unfold Cir.machN; simp), List.take_of_length_le (by unfold Cir.machN; simp)] at this)
   obtain ⟨k0, k1, k2, k3, k4⟩ := HMf.out.cells
   have hR := (Hb.out.block (w.heap.size + 1) (by omega)).trans HRes2.out
   have o0 := blk_cell hR 0
   have o1 := blk_cell hR 1
   have o2 := blk_cell hR 2
   have b0 := blk_free hR 0
   have b1 := blk_free hR 1
   have b2 := blk_free hR 2
   simp at o0 o1 o2
   have HB := Lib.hid (B2.out.trans (Hb.out.mono B2.out.size))
   have hlN := HMf.out.l1
   have hlO := HMf.out.l2
   obtain ⟨An, cn, hvN, -, -⟩ := SSAt.shape (OwnSE.at HMf.out.n)
   obtain ⟨Ao, co, hvO, -, -⟩ := SSAt.shape (OwnSE.at HMf.out.o)
   have HMF2 := Lib.hid (And.intro HMf.out.n (And.intro HMf.out.o HMf.out.d))
   have HlN := Lib.hid hlN
   have HlO := Lib.hid hlO
   clear hR HMf HMB hlN hlO
   subst hvN hvO
   go_wp2_with fail
   refine bodyPost_ret (v := .agg #[.int .i64 d.ins, .slice An (Cir.machN d).next.length cn, .slice Ao (Cir.machN d).out.length co]) (by simp [results, Try.results26, go_sem, o0, o1, o2]) rfl ⟨_, rfl, ⟨_, _, E1, E2, rfl, fun g he => ?_, fun g he => ?_, HMF2.out.2.2, ?_, ?_⟩, ?_⟩
   ·have h1 := HlN.out g he; simp [World.setCell]; omega
   ·have h1 := HlO.out g he; simp [World.setCell]; omega
   ·exact OwnSE.mono (((OwnSE.set (OwnSE.set (OwnSE.set HMF2.out.1 (by omega)) (by omega)) (by omega)))) (by omega) (fun _ h => h)
   ·exact OwnSE.mono (((OwnSE.set (OwnSE.set (OwnSE.set HMF2.out.2.1 (by omega)) (by omega)) (by omega)))) (by omega) (fun _ h => h)
   ·exact ((HB.out.setCell (by simp only; omega) _).setCell (by simp only; omega) _).setCell (by simp only; omega) _
end Go.Proofs.Ytkkkjbinfdohpaa
namespace Go.Proofs.Ytkkkjbinfdohpaa
open Go.RowKit
def TIn (F : Nat → Prop) (cs : List Value) : Ty := fun w v => RowIn F w 1 v cs.length cs
theorem stb_in {E F : Nat → Prop} (hE : ∀ g, F g → ¬ E g) (cs : List Value) : Stb E (TIn F cs) := fun _ _ _ h ho => h.only ho hE
theorem stb_in_none (F : Nat → Prop) (cs : List Value) : Stb (fun _ => False) (TIn F cs) := stb_in (fun _ _ h => h) cs
def TStepIn (B : Nat) (so st : List Bool) : Ty := fun w v => ∃ a b, v = .agg #[a, b] ∧ RowIn (From B) w 1 a so.length (bools so) ∧ BoolsAt w b st
theorem stb_stepIn (B : Nat) (so st : List Bool) : Stb (fun _ => False) (TStepIn B so st) := by
 rintro v w w' ⟨a, b, rfl, h1, h2⟩ ho
 exact ⟨a, b, rfl, h1.below (only_below ho), stb_bools _ _ _ _ h2 ho⟩
theorem l16OutsIn_any (v : Value) (d : Ci) (s x : Nat) (w : World) (h : CircAt w v (Cir.toCz d)) (hd : Cir.Ok d) (hs : s ≤ 1000) (hx : x ≤ 1000) :
  Calls Try.prog 77 #[v, .int .i64 s, .int .i64 x] w fun e w' => (∃ u, e = .returned u ∧ RowIn (From w.heap.size) w' 1 u (Cir.outsOf d s x).length (bools (Cir.outsOf d s x))) ∧ Below w.heap.size w w' := by
 have l1 := hd.ins
 have l2 := hd.nexts
 have HC := Lib.hid h
 obtain ⟨vn, vg, vo, rfl, r1, r2, r3⟩ := h
 obtain ⟨An, cn, rfl, hcn, hcmn⟩ := NatsAt.shape (xs := d.next) r1
 have hins : (Cir.toCz d).ins = (d.ins : Int) := rfl
 rw [hins] at HC ⊢
 have B0 := Lib.hid (bel_new w (.cells #[.int .i64 d.ins, .slice An d.next.length cn, vg, vo] 26))
 obtain ⟨z, p0, p1, p2, p3⟩ := PCells.boxed w d.ins (.slice An d.next.length cn) vg vo 26
 have HC := Lib.hid (HC.out.below B0.out)
 have Hd := Lib.hid hd
 clear r1 r2 r3 hd hins
 go_enter Try.func77, Try.ntmps77
 go_wp2_with fail
 generalize w.alloc (.cells #[.int .i64 d.ins, .slice An d.next.length cn, vg, vo] 26) = W at *
 refine wp_region_rs (quietRS Try.prog _ W _) quietRS_ok (by kernel_rfl) (by kernel_rfl) (by kernel_rfl) (nlb rfl) trivial trivial ?_
 apply rs_eq quietRS_ok quiet_any
 ·intro ρ w' ho hK
  have ho : Only _ W w' := ho
  obtain ⟨h0, -⟩ := hK
  have h0' : ρ (.tmp 3) = _ := h0
  have hb := only_below ho
  have q0 := (hb.cell (p := ⟨w.heap.size, 0, none⟩) z).trans p0
  have q1 := (hb.cell (p := ⟨w.heap.size, 1, none⟩) z).trans p1
  have q2 := (hb.cell (p := ⟨w.heap.size, 2, none⟩) z).trans p2
  have q3 := (hb.cell (p := ⟨w.heap.size, 3, none⟩) z).trans p3
  go_simp
  try exact rfl
 refine rs_old quietRS_ok quiet_any _ (.inl rfl) _ rfl rfl ?_
 apply rs_eq quietRS_ok quiet_any
 ·intro ρ w' ho hK
  have ho : Only _ W w' := ho
  obtain ⟨h0, -⟩ := hK
  have h0' : ρ (.tmp 3) = _ := h0
  go_simp
  try exact rfl
 apply rs_eq quietRS_ok quiet_any
 ·intro ρ w' ho hK
  have ho : Only _ W w' := ho
  obtain ⟨h0, -⟩ := hK
  have h0' : ρ (.tmp 9) = _ := h0
  have hb := only_below ho
  have q0 := (hb.cell (p := ⟨w.heap.size, 0, none⟩) z).trans p0
  have q1 := (hb.cell (p := ⟨w.heap.size, 1, none⟩) z).trans p1
  have q2 := (hb.cell (p := ⟨w.heap.size, 2, none⟩) z).trans p2
  have q3 := (hb.cell (p := ⟨w.heap.size, 3, none⟩) z).trans p3
  go_simp
  try exact rfl
 apply rs_eq quietRS_ok quiet_any
 ·intro ρ w' ho hK
  have ho : Only _ W w' := ho
  obtain ⟨h0, -⟩ := hK
  have h0' : ρ (.tmp 10) = _ := h0
  go_simp
  try exact rfl
 refine rs_call quietRS_ok quiet_any (TBools (Cir.bits s d.next.length)) (stb_bools _) 46 _ _ rfl (fun ρ w' ho hK => by
  have ho : Only _ W w' := ho
  obtain ⟨h0, h1, h2, -⟩ := hK
  have h0' : ρ (.func 46) = .func (.func 46) #[] #[] := h0
  have h1' : ρ (.tmp 8) = _ := h1
  have h2' : ρ (.tmp 11) = _ := h2
  refine ⟨#[ρ (.tmp 8), ρ (.tmp 11)], ?_, ?_⟩
  ·go_simp
  ·rw [h1', h2']
   refine (l4Bits_any s d.next.length w' (by omega) (by omega)).mono ?_
   rintro e w2 ⟨v2, rfl, hO, hb⟩
   exact ⟨v2, rfl, Row.of_own hO, hb⟩) ?_
 refine rs_old quietRS_ok quiet_any _ (.inl rfl) _ rfl rfl ?_
 apply rs_eq quietRS_ok quiet_any
 ·intro ρ w' ho hK
  have ho : Only _ W w' := ho
  obtain ⟨h0, -⟩ := hK
  have h0' : ρ (.tmp 3) = _ := h0
  go_simp
  try exact rfl
 apply rs_eq quietRS_ok quiet_any
 ·intro ρ w' ho hK
  have ho : Only _ W w' := ho
  obtain ⟨h0, -⟩ := hK
  have h0' : ρ (.tmp 14) = _ := h0
  have hb := only_below ho
  have q0 := (hb.cell (p := ⟨w.heap.size, 0, none⟩) z).trans p0
  have q1 := (hb.cell (p := ⟨w.heap.size, 1, none⟩) z).trans p1
  have q2 := (hb.cell (p := ⟨w.heap.size, 2, none⟩) z).trans p2
  have q3 := (hb.cell (p := ⟨w.heap.size, 3, none⟩) z).trans p3
  go_simp
  try exact rfl
 refine rs_call quietRS_ok quiet_any (TBools (Cir.bits x d.ins)) (stb_bools _) 46 _ _ rfl (fun ρ w' ho hK => by
  have ho : Only _ W w' := ho
  obtain ⟨h0, h1, h2, -⟩ := hK
  have h0' : ρ (.func 46) = .func (.func 46) #[] #[] := h0
  have h1' : ρ (.tmp 13) = _ := h1
  have h2' : ρ (.tmp 15) = _ := h2
  refine ⟨#[ρ (.tmp 13), ρ (.tmp 15)], ?_, ?_⟩
  ·go_simp
  ·rw [h1', h2']
   refine (l4Bits_any x d.ins w' (by omega) (by omega)).mono ?_
   rintro e w2 ⟨v2, rfl, hO, hb⟩
   exact ⟨v2, rfl, Row.of_own hO, hb⟩) ?_
 refine rs_call quietRS_ok quiet_any (TStepIn w.heap.size (Cir.outsOf d s x) (Cir.lits (Cir.vals d (Cir.bits s d.next.length) (Cir.bits x d.ins)) d.next)) (stb_stepIn _ _ _) 111 _ _ rfl (fun ρ w' ho hK => by
  have ho : Only _ W w' := ho
  obtain ⟨h0, h1, h2, h3, -⟩ := hK
  have h0' : ρ (.func 111) = .func (.func 111) #[] #[] := h0
  have h1' : ρ (.tmp 7) = _ := h1
  have h2' : (TBools (Cir.bits s d.next.length)) w' (ρ (.tmp 12)) := h2
  have h3' : (TBools (Cir.bits x d.ins)) w' (ρ (.tmp 16)) := h3
  refine ⟨#[ρ (.tmp 7), ρ (.tmp 12), ρ (.tmp 16)], ?_, ?_⟩
  ·go_simp
  ·rw [h1']
   refine (l2Step_any _ _ _ d _ _ w' (HC.out.below (only_below ho)) Hd.out h2' h3' (Cir.bits_length _ _) (Cir.bits_length _ _)).mono ?_
   rintro e w2 ⟨a, b, rfl, oa, ob, hb⟩
   exact ⟨_, rfl, ⟨a, b, rfl, (RowIn.of_own oa).mono (fun g hg => by have := hg.1; have := B0.out.size; have := ho.size; unfold From; omega), Row.of_own ob⟩, hb⟩) ?_
 refine rs_look quietRS_ok quiet_any (TIn (From w.heap.size) (bools (Cir.outsOf d s x))) (stb_in_none _ _) (fun ρ w' ho hK => by
  obtain ⟨h0, -⟩ := hK
  obtain ⟨a, b, e0, ha, hb⟩ : (TStepIn w.heap.size (Cir.outsOf d s x) (Cir.lits (Cir.vals d (Cir.bits s d.next.length) (Cir.bits x d.ins)) d.next)) w' (ρ (.tmp 17)) := h0
  obtain ⟨Aa, ca, rfl, -⟩ := Row.shape ha.1
  obtain ⟨Ab, cb, rfl, -⟩ := Row.shape hb
  have hf := fun n m => step_field0 Aa Ab n m ca cb w'
  refine ⟨_, ?_, by unfold TIn; rw [bools_length]; exact ha⟩
  go_simp) ?_
 refine rs_same quietRS_ok quiet_any 18 11 (.inr rfl) rfl _ rfl ?_
 intro f w9 k9 hk9 hI9 ht9 hcp9
 have E0 : f 0 = _ := ht9 0 (nlb rfl)
 have E1 : f 1 = _ := ht9 1 (nlb rfl)
 conv at E1 => rhs; whnf
 have E2 : f 2 = _ := ht9 2 (nlb rfl)
 have E3 : f 3 = _ := ht9 3 (nlb rfl)
 have E4 : f 4 = _ := ht9 4 (nlb rfl)
 have E5 : (TBools (Cir.bits s d.next.length)) w9 (f 5) := ht9 5 (nlb rfl)
 have E6 : f 6 = _ := ht9 6 (nlb rfl)
 conv at E6 => rhs; whnf
 have E7 : f 7 = _ := ht9 7 (nlb rfl)
 have E8 : f 8 = _ := ht9 8 (nlb rfl)
 have E9 : (TBools (Cir.bits x d.ins)) w9 (f 9) := ht9 9 (nlb rfl)
 have E10 : (TStepIn w.heap.size (Cir.outsOf d s x) (Cir.lits (Cir.vals d (Cir.bits s d.next.length) (Cir.bits x d.ins)) d.next)) w9 (f 10) := ht9 10 (nlb rfl)
 have E11 : (TIn (From w.heap.size) (bools (Cir.outsOf d s x))) w9 (f 11) := ht9 11 (nlb rfl)
 have E12 : (TIn (From w.heap.size) (bools (Cir.outsOf d s x))) w9 (f 12) := ht9 12 (nlb rfl)
 have Ho9 : Only _ W w9 := hI9.2.1
 have C12 : f 12 = f 11 := (hcp9 12 _ 18 11 rfl rfl rfl rfl).2
 simp only [putAll, E0, E1, E2, E3, E4, E6, E7, E8, C12, Nat.zero_add, Nat.reduceAdd, Act.put, List.setIfInBounds_toArray, List.set_cons_succ, List.set_cons_zero]
 clear E0 E1 E2 E3 E4 E6 E7 E8
 clear hI9 ht9 hcp9 hk9
 generalize f 5 = r5 at *
 generalize f 9 = r9 at *
 generalize f 10 = r10 at *
 generalize f 11 = r11 at *
 have B := Lib.hid (B0.out.trans ((only_below Ho9).mono B0.out.size))
 have HU := Lib.hid E11
 clear Ho9 E5 E9 E10 E11 p0 p1 p2 p3
 go_wp2_with fail
 go_ret
 exact ⟨⟨_, rfl, by have := HU.out; unfold TIn at this; rwa [bools_length] at this⟩, B.out⟩
theorem Only.after {E F : Nat → Prop} {a b c : World} (h : Only E a b) (h' : Only F b c) (hF : ∀ g, F g → a.heap.size ≤ g ∨ E g) : Only E a c :=
 ⟨h'.os.trans h.os, h'.tape.trans h.tape, h'.output.trans h.output, Nat.le_trans h.size h'.size, fun k hk hn => (h'.block k (Nat.lt_of_lt_of_le hk h.size) fun hf => by
  rcases hF k hf with e | e
  ·omega
  ·exact hn e).trans (h.block k hk hn)⟩
def ReadMach (m : Mz) (w : World) (e : Ending) (w' : World) : Prop := (∃ v, e = .returned v ∧ MachAt w' v m) ∧ Below w.heap.size w w'
def MachIn (B : Nat) (w : World) (v : Value) (m : Mz) : Prop := ∃ vn vo, v = .agg #[.int .i64 m.ins, vn, vo] ∧ SSIn ints (From B) w vn m.next ∧ SSIn ints (From B) w vo m.out
theorem MachIn.at {B : Nat} {w : World} {v : Value} {m : Mz} (h : MachIn B w v m) : MachAt w v m := by
 obtain ⟨vn, vo, rfl, h1, h2⟩ := h
 exact ⟨vn, vo, rfl, h1.at, h2.at⟩
theorem OwnSE.innM {α : Type} {enc : List α → List Value} {tO ti : TypeId} {B : Nat} {E : Nat → Prop} {w : World} {v : Value} {xss : List (List α)} (h : OwnSE enc tO ti B E w v xss) : SSIn enc (From B) w v xss := by
 obtain ⟨vs, h1, h2, h3, -⟩ := h
 exact ⟨vs, h1, (RowIn.of_own h2).mono fun g hg => hg.1, fun i x u hx hu => (RowIn.of_own (h3 i x u hx hu)).mono fun g hg => hg.1⟩
def ReadMachF (m : Mz) (w : World) (e : Ending) (w' : World) : Prop := (∃ v, e = .returned v ∧ MachIn (w.heap.size + 1) w' v m) ∧ Below w.heap.size w w'
theorem ReadMachF.read {m : Mz} {w : World} {e : Ending} {w' : World} (h : ReadMachF m w e w') : ReadMach m w e w' := by
 obtain ⟨⟨v, h1, h2⟩, h3⟩ := h
 exact ⟨⟨v, h1, h2.at⟩, h3⟩
theorem rowI_snoc {d : Ci} {s j : Nat} (h : j < 2 ^ d.ins) : (Cir.rowI d s).take (j + 1) = (Cir.rowI d s).take j ++ [idxOf (Cir.reach d) (Cir.nextOf d s j)] := by
 refine take_snoc ?_
 unfold Cir.rowI Cir.rowN
 simp [h]
theorem rowO_snoc {d : Ci} {s j : Nat} (h : j < 2 ^ d.ins) : (nats (Cir.rowO d s)).take (j + 1) = (nats (Cir.rowO d s)).take j ++ [((Cir.num (Cir.outsOf d s j) : Nat) : Int)] := by
 refine take_snoc ?_
 unfold nats Cir.rowO
 simp [h]
theorem specMof_okF (v : Value) (d : Ci) (w : World) (h : CircAt w v (Cir.toCz d)) (hd : Cir.Ok d) (hv : Cir.valid (Cir.toCz d) = true) :
  Calls Try.prog 29 #[v] w (ReadMachF (Cir.machN d) w) := by
 have l1 := hd.ins
 have l2 := hd.nexts
 have l4 := hd.outss
 have HC := Lib.hid h
 obtain ⟨vn, vg, vo, rfl, r1, r2, r3⟩ := h
 have hins : (Cir.toCz d).ins = (d.ins : Int) := rfl
 rw [hins] at HC ⊢
 have hb0 := bel_new w (.cells #[.int .i64 d.ins, vn, vg, vo] 26)
 have hb00 := bel_new (w.alloc (.cells #[.int .i64 d.ins, vn, vg, vo] 26)) (.cells #[.int .i64 0, .slice none 0 0, .slice none 0 0] 53)
 have B0 := Lib.hid (hb0.trans (hb00.mono hb0.size))
 have PC := Lib.hid ((PCells.boxed w d.ins vn vg vo 26).below hb00)
 have hsz : ((w.alloc (.cells #[.int .i64 d.ins, vn, vg, vo] 26)).alloc (.cells #[.int .i64 0, .slice none 0 0, .slice none 0 0] 53)).heap.size = w.heap.size + 2 := by simp
 have hR : ((w.alloc (.cells #[.int .i64 d.ins, vn, vg, vo] 26)).alloc (.cells #[.int .i64 0, .slice none 0 0, .slice none 0 0] 53)).heap[w.heap.size + 1]? = some (.cells #[.int .i64 0, .slice none 0 0, .slice none 0 0] 53 (0, 0)) := by
  have := heap_alloc_new (w.alloc (.cells #[.int .i64 d.ins, vn, vg, vo] 26)) (.cells #[.int .i64 0, .slice none 0 0, .slice none 0 0] 53)
  rwa [World.size_alloc] at this
 have HRes := Lib.hid hR
 obtain ⟨z, p0, p1, p2, p3⟩ := PC.out
 have HC0 := Lib.hid (HC.out.below B0.out)
 have HV := Lib.hid (specValid_any _ _ _ HC0.out)
 rw [hv] at HV
 have Hv := Lib.hid hv
 have Hd := Lib.hid hd
 obtain ⟨M, e, hM⟩ : ∃ M : Nat, (2 : Int) ^ d.ins = (M : Int) ∧ M = 2 ^ d.ins := ⟨2 ^ d.ins, two_pow d.ins, rfl⟩
 have hM16 : M ≤ 16 := by rw [hM]; exact Nat.pow_le_pow_right (show 0 < 2 by decide) l1
 have hM1 : 1 ≤ M := by rw [hM]; exact Nat.pow_pos (by decide)
 have hwM := IntWalk.i64_in (M : Int) (by omega)
 have HM := Lib.hid hM
 have hL8 := (Cir.reach_sts d).len hd
 have HSt := Lib.hid (Cir.reach_sts d)
 clear r1 r2 r3 hd hins hM hv HC hb0 hb00 hR
 go_enter Try.func29, Try.ntmps29
 go_wp2_with fail
 generalize (w.alloc (.cells #[.int .i64 d.ins, vn, vg, vo] 26)).alloc (.cells #[.int .i64 0, .slice none 0 0, .slice none 0 0] 53) = W at *
 refine HV.out.mono ?_
 rintro e w1 ⟨rfl, hb1⟩
 have hbm := bel_new w1 (.cells #[.int .i64 d.ins, .slice none 0 0, .slice none 0 0] 53)
 have B1 := Lib.hid (B0.out.trans (hb1.mono B0.out.size))
 have z1 := hb1.size
 have PC1 := Lib.hid ((PC.out.below hb1))
 have HC1 := Lib.hid (HC0.out.below hb1)
 have HRes1 := Lib.hid ((hb1.block _ (by omega)).trans HRes.out)
 have HMB := Lib.hid (MB.start (ins := (d.ins : Int)) (w := w1) trivial)
 clear hb1 p0 p1 p2 p3 z HV HC0 HRes PC
 have PCm := Lib.hid (PC1.out.below hbm)
 obtain ⟨z, p0, p1, p2, p3⟩ := PC1.out
 obtain ⟨_, s0, s1, s2, s3⟩ := PCm.out
 have HBm := Lib.hid hbm
 clear hbm
 go_wp2_with fail
 refine (specReach_ok _ d _ (HC1.out.below HBm.out) Hd.out Hv.out).mono ?_
 rintro e w2 ⟨vs, rfl, hO2, hb2⟩
 have hb12 := HBm.out.trans (hb2.mono HBm.out.size)
 have B2 := Lib.hid (B1.out.trans (hb12.mono B1.out.size))
 have HRes2 := Lib.hid ((hb12.block _ (by omega)).trans HRes1.out)
 have PC2 := Lib.hid (PCm.out.below hb2)
 have HMB2 := Lib.hid (HMB.out.below hb2)
 have z2 := hb12.size
 have HS2 := Lib.hid (own_nats (v := vs) (xs := Cir.reach d) (by rw [nats_length] at hO2; exact hO2))
 have zs2 : w1.heap.size < w2.heap.size := mb_lt HMB2.out
 have HO2 : Hid (w2.ownsRow (w1.heap.size + 1) 3 1 vs (Cir.reach d).length (nints (Cir.reach d))) := Lib.hid (by rw [nats_length] at hO2; exact own_mono hO2 (by simp))
 have Hb12 := Lib.hid hb12
 clear hb2 hO2 p0 p1 p2 p3 z hb12 HBm s0 s1 s2 s3 PCm HMB
 obtain ⟨As, cs, rfl, hcs, hcsm⟩ := NatsAt.shape HS2.out
 unfold maxLen at hcsm
 go_wp2_with fail
 clear hcs hcsm
 obtain ⟨Ws, hWs⟩ : ∃ Ws, Ws = w2 := ⟨_, rfl⟩
 subst hWs
 go_loopw [5] (fun i wr => ∃ (k : Nat) (E1 E2 : Nat → Prop) (vN vO : Value), k ≤ (Cir.reach d).length ∧ i = .int .i64 k ∧ Hid (MB w1.heap.size d.ins E1 E2 vN vO ((Cir.machN d).next.take k) ((Cir.machN d).out.take k) wr) ∧ Hid (∀ g, E1 g → Ws.heap.size ≤ g) ∧ Hid (∀ g, E2 g → Ws.heap.size ≤ g) ∧ Only (fun g => g = w1.heap.size) Ws wr) (fun i _ => (Cir.reach d).length - (intOf i).toNat)
 case atStart => exact ⟨0, _, _, _, _, Nat.zero_le _, rfl, HMB2, Lib.hid (fun g h => h.elim), Lib.hid (fun g h => h.elim), Only.refl _ _⟩
 case round =>
  obtain ⟨k, E1, E2, vN, vO, hk, rfl, HMB, HE1, HE2, ho⟩ := hrel
  clear HMB2
  have hbW := Only.below (B := w1.heap.size) Hb12.out ho (by omega) (fun g hg => by omega)
  have Ho := Lib.hid ho
  have Hb := Lib.hid hbW
  have hzb := ho.size
  have hgm := mb_lt HMB.out
  have PCk := Lib.hid (PC1.out.below (w := w1) hbW)
  have HCk := Lib.hid (HC1.out.below hbW)
  have HSk : Hid (NatsAt wr (.slice As (Cir.reach d).length cs) (Cir.reach d)) := Lib.hid (own_nats (own_only HO2.out ho (fun g hg e => by have := (HO2.out.lt g hg).1; omega)))
  clear hbW ho
  by_cases hlt : k < (Cir.reach d).length
  ·obtain ⟨b, o, s, rfl, hbl, hx, hs0⟩ := nats_cell (nats_row HSk.out) rfl hlt
   have hs8 : s < 8 := by
    have h1 := HSt.out.lt s (List.mem_of_getElem? hx.out)
    have h2 : 2 ^ d.next.length ≤ 2 ^ 3 := Nat.pow_le_pow_right (show 0 < 2 by decide) l2
    omega
   have HX1 : Hid ((Cir.machN d).next.take (k + 1) = (Cir.machN d).next.take k ++ [Cir.rowI d s]) := Lib.hid (take_snoc (by unfold Cir.machN; simp only [List.getElem?_map, hx.out]; rfl))
   have HX2 : Hid ((Cir.machN d).out.take (k + 1) = (Cir.machN d).out.take k ++ [nats (Cir.rowO d s)]) := Lib.hid (take_snoc (by unfold Cir.machN; simp only [List.getElem?_map, hx.out]; rfl))
   have hN1 : (Cir.rowI d s).length = M := by unfold Cir.rowI Cir.rowN; rw [List.length_map, List.length_map, List.length_range, HM.out]
   have hO1 : (nats (Cir.rowO d s)).length = M := by rw [nats_length, Cir.rowO, List.length_map, List.length_range, HM.out]
   have HN1 := Lib.hid hN1
   have HO1 := Lib.hid hO1
   have hdl : decide (k < (Cir.reach d).length) = true := decide_eq_true hlt
   clear hN1 hO1
   obtain ⟨z, p0, p1, p2, p3⟩ := PCk.out
   have hA1 : Hid (((wr.alloc (.cells #[] 3)).alloc (.cells #[] 3)).ownsRow wr.heap.size 3 1 (.slice (some ⟨wr.heap.size, 0, none⟩) 0 0) 0 (ints ((Cir.rowI d s).take 0))) := Lib.hid ((World.ownsRow_lit (base := wr.heap.size) (e := 3) (size := 1) wr #[] 0 (Nat.le_refl _) (by unfold maxLen; omega) rfl).alloc _)
   have hA2 : Hid (((wr.alloc (.cells #[] 3)).alloc (.cells #[] 3)).ownsRow wr.heap.size 3 1 (.slice (some ⟨wr.heap.size + 1, 0, none⟩) 0 0) 0 (ints ((nats (Cir.rowO d s)).take 0))) := Lib.hid (by
    have := World.ownsRow_lit (base := wr.heap.size) (e := 3) (size := 1) (wr.alloc (.cells #[] 3)) #[] 0 (by simp) (by unfold maxLen; omega) rfl
    rwa [World.size_alloc] at this)
   have hAp : Hid (Apart (.slice (some ⟨wr.heap.size, 0, none⟩) 0 0) (.slice (some ⟨wr.heap.size + 1, 0, none⟩) 0 0)) := Lib.hid (fun g h1 h2 => by have h3 := Option.some.inj h1; have h4 := Option.some.inj h2; simp only at h3 h4; omega)
   have HBa : Hid (Below wr.heap.size wr ((wr.alloc (.cells #[] 3)).alloc (.cells #[] 3))) := Lib.hid (((Below.refl _ _).alloc (Nat.le_refl _) _).alloc (by simp) _)
   go_wp2_with fail
   obtain ⟨Wk, hWk⟩ : ∃ Wk, Wk = wr := ⟨_, rfl⟩
   subst hWk
   go_loopw [6, 7, 8] (fun v u i wr => ∃ (vv uu : Value) (j : Nat), vv = v ∧ uu = u ∧ i = .int .i64 j ∧ j ≤ M ∧ Hid (wr.ownsRow Wk.heap.size 3 1 v j (ints ((Cir.rowI d s).take j))) ∧ Hid (wr.ownsRow Wk.heap.size 3 1 u j (ints ((nats (Cir.rowO d s)).take j))) ∧ Hid (Apart v u) ∧ Below Wk.heap.size Wk wr) (fun _ _ i _ => M - (intOf i).toNat)
   case atStart => exact ⟨_, _, 0, rfl, rfl, rfl, Nat.zero_le _, hA1, hA2, hAp, HBa.out⟩
   case round =>
    obtain ⟨vv, uu, j, hvv, huu, rfl, hj, Hv6, Hu6, Hap, hb⟩ := hrel
    subst hvv huu
    clear hA1 hA2 hAp HBa p0 p1 p2 p3
    have Hbk := Lib.hid hb
    have hzk := hb.size
    have PCr := Lib.hid (PCk.out.below hb)
    have hs1 := (hb.cell (p := ⟨b, o + k, none⟩) hbl).trans hs0
    obtain ⟨zz, p0, p1, p2, p3⟩ := PCr.out
    clear hb
    by_cases hlj : j < M
    ·have HSn1 := Lib.hid (rowI_snoc (d := d) (s := s) (j := j) (by rw [← HM.out]; exact hlj))
     have HSn2 := Lib.hid (rowO_snoc (d := d) (s := s) (j := j) (by rw [← HM.out]; exact hlj))
     have hN8 : Cir.nextOf d s j < 8 := by
      have h1 := Cir.nextOf_lt d s j
      have h2 : 2 ^ d.next.length ≤ 2 ^ 3 := Nat.pow_le_pow_right (show 0 < 2 by decide) l2
      omega
     have hdj : decide (j < M) = true := decide_eq_true hlj
     go_wp2_with fail
     obtain ⟨w4, hw4⟩ : ∃ w4, w4 = wr := ⟨_, rfl⟩
     subst hw4
     obtain ⟨cs1, hcs1⟩ : ∃ cs1, ints ((Cir.rowI d s).take j) = cs1 := ⟨_, rfl⟩
     rw [hcs1] at Hv6
     have HC1s := Lib.hid hcs1
     clear hcs1
     have HBx : ∀ w', Only (fun g => vv.ownBlock = some g) w4 w' → Below Wk.heap.size Wk w' := fun w' ho => Only.below Hbk.out ho hzk (fun g hg => (Hv6.out.lt g hg).1)
     obtain ⟨i0, hi0, hz0, hz1, hz2⟩ := info_parts info_int
     have hO := fun ops a => appRS2_ok (Pg := Try.prog) (ops := ops) (a := a) (news := [.int .i64 (idxOf (Cir.reach d) (Cir.nextOf d s j))]) (d := 11) (Hv6.out)
     refine wp_region_rs (appRS2 Try.prog _ w4 _ (Wk.heap.size) 3 1 (vv) (j) (cs1) [.int .i64 (idxOf (Cir.reach d) (Cir.nextOf d s j))] 11) (hO _ _) (by kernel_rfl) (by kernel_rfl) (by kernel_rfl) (nlb rfl) trivial Hv6.out ?_
     refine rs_old (hO _ _) (.inl (nnb rfl)) _ (.inl rfl) _ rfl rfl ?_
     refine rs_old (hO _ _) (.inl (nnb rfl)) _ (.inl rfl) _ rfl rfl ?_
     apply rs_eq (hO _ _) (.inl (nnb rfl))
     ·intro ρ w' ho hK
      have ho : Only _ w4 w' := ho
      obtain ⟨h0, -⟩ := hK
      have h0' : ρ (.tmp 1) = _ := h0
      have hb := HBx w' ho
      obtain ⟨_, q0, q1, q2, q3⟩ := PCk.out.below hb
      have q4 := (hb.cell (p := ⟨b, o + k, none⟩) hbl).trans hs0
      go_simp
      try exact rfl
     refine rs_old (hO _ _) (.inl (nnb rfl)) _ (.inl rfl) _ rfl rfl ?_
     refine rs_old (hO _ _) (.inl (nnb rfl)) _ (.inl rfl) _ rfl rfl ?_
     apply rs_eq (hO _ _) (.inl (nnb rfl))
     ·intro ρ w' ho hK
      have ho : Only _ w4 w' := ho
      obtain ⟨h0, h1, -⟩ := hK
      have h0' : ρ (.tmp 36) = _ := h0
      have h1' : ρ (.tmp 37) = _ := h1
      go_simp
      try exact rfl
     apply rs_eq (hO _ _) (.inl (nnb rfl))
     ·intro ρ w' ho hK
      have ho : Only _ w4 w' := ho
      obtain ⟨h0, -⟩ := hK
      have h0' : ρ (.tmp 38) = _ := h0
      have hb := HBx w' ho
      obtain ⟨_, q0, q1, q2, q3⟩ := PCk.out.below hb
      have q4 := (hb.cell (p := ⟨b, o + k, none⟩) hbl).trans hs0
      go_simp
      try exact rfl
     refine rs_old (hO _ _) (.inl (nnb rfl)) _ (.inl rfl) _ rfl rfl ?_
     refine rs_call (hO _ _) (.inl (nnb rfl)) (TEq (.int .i64 (Cir.nextOf d s j : Nat))) (stb_eq _ _) 75 _ _ rfl (fun ρ w' ho hK => by
      have ho : Only _ w4 w' := ho
      obtain ⟨h0, h1, h2, h3, -⟩ := hK
      have h0' : ρ (.func 75) = .func (.func 75) #[] #[] := h0
      have h1' : ρ (.tmp 35) = _ := h1
      have h2' : ρ (.tmp 39) = _ := h2
      have h3' : ρ (.tmp 40) = _ := h3
      refine ⟨#[ρ (.tmp 35), ρ (.tmp 39), ρ (.tmp 40)], ?_, ?_⟩
      ·go_simp
      ·rw [h1', h2', h3']
       refine (l16Next_any _ d s j w' (HCk.out.below (HBx w' ho)) Hd.out (by omega) (by omega)).mono ?_
       rintro e w2 ⟨rfl, hb⟩
       exact ⟨_, rfl, rfl, hb⟩) ?_
     refine rs_call (hO _ _) (.inl (nnb rfl)) (TEq (.int .i64 (idxOf (Cir.reach d) (Cir.nextOf d s j)))) (stb_eq _ _) 73 _ _ rfl (fun ρ w' ho hK => by
      have ho : Only _ w4 w' := ho
      obtain ⟨h0, h1, h2, -⟩ := hK
      have h0' : ρ (.func 73) = .func (.func 73) #[] #[] := h0
      have h1' : ρ (.tmp 34) = _ := h1
      have h2' : ρ (.tmp 41) = _ := h2
      refine ⟨#[ρ (.tmp 34), ρ (.tmp 41)], ?_, ?_⟩
      ·go_simp
      ·rw [h1', h2']
       refine (l29At_any _ (Cir.reach d) (Cir.nextOf d s j) w' (HSk.out.below (HBx w' ho)) (by omega)).mono ?_
       rintro e w2 ⟨rfl, rfl⟩
       exact ⟨_, rfl, rfl, Below.refl _ _⟩) ?_
     refine rs_build1 (hO _ _) (.inl (nnb rfl)) 1 [.int .i64 (idxOf (Cir.reach d) (Cir.nextOf d s j))] 3 rfl (fun ρ w' ho hK => by
      have ho : Only _ w4 w' := ho
      obtain ⟨h0, -⟩ := hK
      have h0' : ρ (.tmp 42) = _ := h0
      go_simp) ?_
     refine rs_append2 rfl (Wk.heap.size) 3 23 1 (vv) (j) (cs1) _ rfl rfl (fun g hg => hg) (show Wk.heap.size ≤ w4.heap.size by omega) _ _ rfl _ _ rfl rfl rfl rfl i0 _ 8 Try.underlying23 hi0 hz0 hz1 hz2 rfl (by decide) (by omega) (by decide) (by simp [Value.oneCell']) ?_
     refine rs_same (hO _ _) (.inl (nnb rfl)) 44 11 (.inr rfl) rfl _ rfl ?_
     intro f w9 k9 hk9 hI9 ht9 hcp9
     have E0 : f 0 = _ := ht9 0 (nlb rfl)
     conv at E0 => rhs; whnf
     have E1 : f 1 = _ := ht9 1 (nlb rfl)
     conv at E1 => rhs; whnf
     have E2 : f 2 = _ := ht9 2 (nlb rfl)
     have E3 : f 3 = _ := ht9 3 (nlb rfl)
     conv at E3 => rhs; whnf
     have E4 : f 4 = _ := ht9 4 (nlb rfl)
     conv at E4 => rhs; whnf
     have E5 : f 5 = _ := ht9 5 (nlb rfl)
     have E6 : f 6 = _ := ht9 6 (nlb rfl)
     have E7 : f 7 = _ := ht9 7 (nlb rfl)
     conv at E7 => rhs; whnf
     have E8 : f 8 = _ := ht9 8 (nlb rfl)
     have E9 : f 9 = _ := ht9 9 (nlb rfl)
     have E10 : (TNew _ 1 1 [.int .i64 (idxOf (Cir.reach d) (Cir.nextOf d s j))]) w9 (f 10) := ht9 10 (nlb rfl)
     have E11 : (TAny) w9 (f 11) := ht9 11 (nlb rfl)
     have E12 : (TAny) w9 (f 12) := ht9 12 (nlb rfl)
     have Ho9 : Only _ w4 w9 := hI9.2.1
     have hown9 : w9.ownsRow (Wk.heap.size) 3 1 (f 11) (j + 1) (cs1 ++ [.int .i64 (idxOf (Cir.reach d) (Cir.nextOf d s j))]) := hI9.2.2.1
     have hat9 : ∀ g, (f 11).ownBlock = some g → (vv).ownBlock = some g ∨ w4.heap.size ≤ g := hI9.2.2.2
     have C12 : f 12 = f 11 := (hcp9 12 _ 44 11 rfl rfl rfl rfl).2
     simp only [putAll, E0, E1, E2, E3, E4, E5, E6, E7, E8, E9, C12, Nat.zero_add, Nat.reduceAdd, Act.put, List.setIfInBounds_toArray, List.set_cons_succ, List.set_cons_zero]
     clear E0 E1 E2 E3 E4 E5 E6 E7 E8 E9
     clear hI9 ht9 hcp9 hk9
     generalize f 10 = r10 at *
     generalize f 11 = r11 at *
     have hA13 := apart_loc Hap.out hat9 (fun g hg => (Hu6.out.lt g hg).2)
     have Hu13 := Lib.hid (own_only Hu6.out Ho9 (fun g h1 h2 => Hap.out g h2 h1))
     have Hv13 := Lib.hid hown9
     have Hap13 := Lib.hid hA13
     have Hb13 := Lib.hid (HBx w9 Ho9)
     have hz13 := Nat.le_trans hzk Ho9.size
     clear Ho9 hown9 hat9 hA13 HBx hO Hv6 Hu6 Hap p0 p1 p2 p3 zz hs1
     obtain ⟨w5, hw5⟩ : ∃ w5, w5 = w9 := ⟨_, rfl⟩
     subst hw5
     obtain ⟨cs2, hcs2⟩ : ∃ cs2, ints ((nats (Cir.rowO d s)).take j) = cs2 := ⟨_, rfl⟩
     rw [hcs2] at Hu13
     have HC2s := Lib.hid hcs2
     clear hcs2
     go_wp2_with fail
     have HBy : ∀ w', Only (fun g => uu.ownBlock = some g) w5 w' → Below Wk.heap.size Wk w' := fun w' ho => Only.below Hb13.out ho hz13 (fun g hg => (Hu13.out.lt g hg).1)
     have hol : (Cir.outsOf d s j).length ≤ 16 := by unfold Cir.outsOf; rw [lits_length]; omega
     obtain ⟨i0, hi0, hz0, hz1, hz2⟩ := info_parts info_int
     have hO := fun ops a => appRS2_ok (Pg := Try.prog) (ops := ops) (a := a) (news := [.int .i64 (Cir.num (Cir.outsOf d s j) : Nat)]) (d := 10) (Hu13.out)
     refine wp_region_rs (appRS2 Try.prog _ w5 _ (Wk.heap.size) 3 1 (uu) (j) (cs2) [.int .i64 (Cir.num (Cir.outsOf d s j) : Nat)] 10) (hO _ _) (by kernel_rfl) (by kernel_rfl) (by kernel_rfl) (nlb rfl) trivial Hu13.out ?_
     refine rs_old (hO _ _) (.inl (nnb rfl)) _ (.inl rfl) _ rfl rfl ?_
     apply rs_eq (hO _ _) (.inl (nnb rfl))
     ·intro ρ w' ho hK
      have ho : Only _ w5 w' := ho
      obtain ⟨h0, -⟩ := hK
      have h0' : ρ (.tmp 1) = _ := h0
      have hb := HBy w' ho
      obtain ⟨_, q0, q1, q2, q3⟩ := PCk.out.below hb
      have q4 := (hb.cell (p := ⟨b, o + k, none⟩) hbl).trans hs0
      go_simp
      try exact rfl
     refine rs_old (hO _ _) (.inl (nnb rfl)) _ (.inl rfl) _ rfl rfl ?_
     refine rs_old (hO _ _) (.inl (nnb rfl)) _ (.inl rfl) _ rfl rfl ?_
     apply rs_eq (hO _ _) (.inl (nnb rfl))
     ·intro ρ w' ho hK
      have ho : Only _ w5 w' := ho
      obtain ⟨h0, h1, -⟩ := hK
      have h0' : ρ (.tmp 47) = _ := h0
      have h1' : ρ (.tmp 48) = _ := h1
      go_simp
      try exact rfl
     apply rs_eq (hO _ _) (.inl (nnb rfl))
     ·intro ρ w' ho hK
      have ho : Only _ w5 w' := ho
      obtain ⟨h0, -⟩ := hK
      have h0' : ρ (.tmp 49) = _ := h0
      have hb := HBy w' ho
      obtain ⟨_, q0, q1, q2, q3⟩ := PCk.out.below hb
      have q4 := (hb.cell (p := ⟨b, o + k, none⟩) hbl).trans hs0
      go_simp
      try exact rfl
     refine rs_old (hO _ _) (.inl (nnb rfl)) _ (.inl rfl) _ rfl rfl ?_
     refine rs_call (hO _ _) (.inl (nnb rfl)) (TIn (From w5.heap.size) (bools (Cir.outsOf d s j))) (stb_in (fun g h e => by have := (Hu13.out.lt g e).2; unfold From at h; omega) _) 77 _ _ rfl (fun ρ w' ho hK => by
      have ho : Only _ w5 w' := ho
      obtain ⟨h0, h1, h2, h3, -⟩ := hK
      have h0' : ρ (.func 77) = .func (.func 77) #[] #[] := h0
      have h1' : ρ (.tmp 46) = _ := h1
      have h2' : ρ (.tmp 50) = _ := h2
      have h3' : ρ (.tmp 51) = _ := h3
      refine ⟨#[ρ (.tmp 46), ρ (.tmp 50), ρ (.tmp 51)], ?_, ?_⟩
      ·go_simp
      ·rw [h1', h2', h3']
       refine (l16OutsIn_any _ d s j w' (HCk.out.below (HBy w' ho)) Hd.out (by omega) (by omega)).mono ?_
       rintro e w2 ⟨⟨u, rfl, hO⟩, hb⟩
       exact ⟨u, rfl, by unfold TIn; rw [bools_length]; exact hO.mono (fun g hg => Nat.le_trans ho.size hg), hb⟩) ?_
     refine rs_call (hO _ _) (.inl (nnb rfl)) (TEq (.int .i64 (Cir.num (Cir.outsOf d s j) : Nat))) (stb_eq _ _) 76 _ _ rfl (fun ρ w' ho hK => by
      have ho : Only _ w5 w' := ho
      obtain ⟨h0, h1, -⟩ := hK
      have h0' : ρ (.func 76) = .func (.func 76) #[] #[] := h0
      have h1' : (TIn (From w5.heap.size) (bools (Cir.outsOf d s j))) w' (ρ (.tmp 52)) := h1
      refine ⟨#[ρ (.tmp 52)], ?_, ?_⟩
      ·go_simp
      ·skip
       refine (l16Number_any _ (Cir.outsOf d s j) w' (by have := h1'; unfold TIn at this; rw [bools_length] at this; exact this.1) hol).mono ?_
       rintro e w2 ⟨rfl, rfl⟩
       exact ⟨_, rfl, rfl, Below.refl _ _⟩) ?_
     refine rs_build1 (hO _ _) (.inl (nnb rfl)) 1 [.int .i64 (Cir.num (Cir.outsOf d s j) : Nat)] 3 rfl (fun ρ w' ho hK => by
      have ho : Only _ w5 w' := ho
      obtain ⟨h0, -⟩ := hK
      have h0' : ρ (.tmp 53) = _ := h0
      go_simp) ?_
     refine rs_append2 rfl (Wk.heap.size) 3 23 1 (uu) (j) (cs2) _ rfl rfl (fun g hg => hg) (show Wk.heap.size ≤ w5.heap.size by omega) _ _ rfl _ _ rfl rfl rfl rfl i0 _ 8 Try.underlying23 hi0 hz0 hz1 hz2 rfl (by decide) (by omega) (by decide) (by simp [Value.oneCell']) ?_
     refine rs_same (hO _ _) (.inl (nnb rfl)) 55 10 (.inr rfl) rfl _ rfl ?_
     intro f w9 k9 hk9 hI9 ht9 hcp9
     have E0 : f 0 = _ := ht9 0 (nlb rfl)
     conv at E0 => rhs; whnf
     have E1 : f 1 = _ := ht9 1 (nlb rfl)
     have E2 : f 2 = _ := ht9 2 (nlb rfl)
     conv at E2 => rhs; whnf
     have E3 : f 3 = _ := ht9 3 (nlb rfl)
     conv at E3 => rhs; whnf
     have E4 : f 4 = _ := ht9 4 (nlb rfl)
     have E5 : f 5 = _ := ht9 5 (nlb rfl)
     have E6 : f 6 = _ := ht9 6 (nlb rfl)
     conv at E6 => rhs; whnf
     have E7 : (TIn (From w5.heap.size) (bools (Cir.outsOf d s j))) w9 (f 7) := ht9 7 (nlb rfl)
     have E8 : f 8 = _ := ht9 8 (nlb rfl)
     have E9 : (TNew _ 1 1 [.int .i64 (Cir.num (Cir.outsOf d s j) : Nat)]) w9 (f 9) := ht9 9 (nlb rfl)
     have E10 : (TAny) w9 (f 10) := ht9 10 (nlb rfl)
     have E11 : (TAny) w9 (f 11) := ht9 11 (nlb rfl)
     have Ho9 : Only _ w5 w9 := hI9.2.1
     have hown9 : w9.ownsRow (Wk.heap.size) 3 1 (f 10) (j + 1) (cs2 ++ [.int .i64 (Cir.num (Cir.outsOf d s j) : Nat)]) := hI9.2.2.1
     have hat9 : ∀ g, (f 10).ownBlock = some g → (uu).ownBlock = some g ∨ w5.heap.size ≤ g := hI9.2.2.2
     have C11 : f 11 = f 10 := (hcp9 11 _ 55 10 rfl rfl rfl rfl).2
     simp only [putAll, E0, E1, E2, E3, E4, E5, E6, E8, C11, Nat.zero_add, Nat.reduceAdd, Act.put, List.setIfInBounds_toArray, List.set_cons_succ, List.set_cons_zero]
     clear E0 E1 E2 E3 E4 E5 E6 E8
     clear hI9 ht9 hcp9 hk9
     generalize f 7 = r7 at *
     generalize f 9 = r9 at *
     generalize f 10 = r10 at *
     have hA14 := (apart_loc Hap13.out.symm hat9 (fun g hg => (Hv13.out.lt g hg).2)).symm
     have Hv14 := Lib.hid (own_only Hv13.out Ho9 (fun g h1 h2 => Hap13.out g h1 h2))
     have Hu14 := Lib.hid hown9
     have Hap14 := Lib.hid hA14
     have Hb14 := Lib.hid (HBy w9 Ho9)
     clear Ho9 hown9 hat9 hA14 HBy hO Hv13 Hu13 Hap13 hol
     obtain ⟨w6, hw6⟩ : ∃ w6, w6 = w9 := ⟨_, rfl⟩
     subst hw6
     obtain ⟨zz, p0, p1, p2, p3⟩ := PCk.out.below Hb14.out
     go_wp2_with fail
     go_roundw
     case rel => exact ⟨_, _, j + 1, rfl, rfl, by go_num, by omega, Lib.hid (by rw [HSn1.out, ints_snoc, HC1s.out]; exact Hv14.out), Lib.hid (by rw [HSn2.out, ints_snoc, HC2s.out]; exact Hu14.out), Hap14, Hb14.out⟩
     case measure => simp [intOf] <;> omega
    ·obtain rfl : j = M := by omega
     obtain ⟨ga, ca, hva, hga, hga2, hca, hcam⟩ := own_open Hv6.out (by omega)
     obtain ⟨gb, cb, hvb, hgb, hgb2, hcb, hcbm⟩ := own_open Hu6.out (by omega)
     subst hva hvb
     unfold maxLen at hcam hcbm
     have Hab := Hap
     have Na1 : Hid (∀ g, (Value.slice (some ⟨ga, 0, none⟩) j ca).ownBlock = some g → ¬ E1 g ∧ ¬ E2 g) := Lib.hid fun g hg => ⟨fun he => by have h1 := HMB.out.l1 g he; have h2 := (Hv6.out.lt g hg).1; omega, fun he => by have h1 := HMB.out.l2 g he; have h2 := (Hv6.out.lt g hg).1; omega⟩
     have Nb1 : Hid (∀ g, (Value.slice (some ⟨gb, 0, none⟩) j cb).ownBlock = some g → ¬ E1 g ∧ ¬ E2 g) := Lib.hid fun g hg => ⟨fun he => by have h1 := HMB.out.l1 g he; have h2 := (Hu6.out.lt g hg).1; omega, fun he => by have h1 := HMB.out.l2 g he; have h2 := (Hu6.out.lt g hg).1; omega⟩
     have hRl : (Cir.rowI d s).length = j := HN1.out
     have Oa5 : Hid (wr.ownsRow (w1.heap.size + 1) 3 1 (.slice (some ⟨ga, 0, none⟩) j ca) (Cir.rowI d s).length (ints (Cir.rowI d s))) := Lib.hid (by
      have := Hv6.out
      rw [List.take_of_length_le (by omega)] at this
      rw [hRl]
      exact own_mono this (by omega))
     have Ob5 : Hid (wr.ownsRow (w1.heap.size + 1) 3 1 (.slice (some ⟨gb, 0, none⟩) j cb) (nats (Cir.rowO d s)).length (ints (nats (Cir.rowO d s)))) := Lib.hid (by
      have := Hu6.out
      rw [List.take_of_length_le (by have := HO1.out; omega)] at this
      rw [HO1.out]
      exact own_mono this (by omega))
     have HMB5 := Lib.hid (HMB.out.below Hbk.out)
     have hgw : Wk.heap.size ≤ ga := hga
     have hgw2 : Wk.heap.size ≤ gb := hgb
     clear Hap Hv6 Hu6
     have Hk8 : k ≤ 8 := by omega
     have HMl := HMB5.out.below (bel_new wr (.cells #[.slice (some ⟨ga, 0, none⟩) j ca] 23))
     obtain ⟨us, q1, q2, q3, q4, q5, q6, q7⟩ := HMl.n
     have hl1 : ((Cir.machN d).next.take k).length = k := by rw [List.length_take]; unfold Cir.machN; rw [List.length_map]; omega
     have hl2 : ((Cir.machN d).out.take k).length = k := by rw [List.length_take]; unfold Cir.machN; rw [List.length_map]; omega
     rw [hl1] at q1 q2
     have Q2 := Lib.hid q2
     have HML := Lib.hid HMl
     have Q := Lib.hid (And.intro q1 (And.intro q3 (And.intro q4 (And.intro q5 (And.intro q6 q7)))))
     have Hl1 := Lib.hid hl1
     have Hl2 := Lib.hid hl2
     have Oal := Lib.hid (Oa5.out.alloc (.cells #[.slice (some ⟨ga, 0, none⟩) j ca] 23))
     have Obl := Lib.hid (Ob5.out.alloc (.cells #[.slice (some ⟨ga, 0, none⟩) j ca] 23))
     have Hlit := Lib.hid (Row.of_own (World.ownsRow_lit (base := wr.heap.size) (e := 23) (size := 1) wr #[.slice (some ⟨ga, 0, none⟩) j ca] 1 (Nat.le_refl _) (by unfold maxLen; omega) rfl))
     have hgm5 := mb_lt HMB5.out
     have hsl : (wr.alloc (.cells #[.slice (some ⟨ga, 0, none⟩) j ca] 23)).heap.size = wr.heap.size + 1 := by simp
     have Nb2 : Hid (∀ v7 : Value, (v7.ownBlock = vN.ownBlock ∨ v7.ownBlock = some (wr.alloc (.cells #[.slice (some ⟨ga, 0, none⟩) j ca] 23)).heap.size) → ∀ g, (Value.slice (some ⟨gb, 0, none⟩) j cb).ownBlock = some g → ¬ (E1 g ∨ (Value.slice (some ⟨ga, 0, none⟩) j ca).ownBlock = some g ∨ v7.ownBlock = some g)) := Lib.hid fun v7 hat g hg he => by
      have hgb : gb = g := by simpa [Value.ownBlock] using hg
      subst hgb
      rcases he with he | he | he
      ·exact (Nb1.out gb rfl).1 he
      ·exact Hab.out gb he rfl
      ·rcases hat with h | h
       ·exact (Nb1.out gb rfl).1 (q6 gb (by rw [← h]; exact he))
       ·rw [h] at he
        have h2 := Option.some.inj he
        have h3 := (Ob5.out.lt gb rfl).2
        omega
     obtain ⟨k0, k1, k2, k3, k4⟩ := HMB5.out.cells
     clear hRl HMl q1 q2 q3 q4 q5 q6 q7 hl1 hl2
     go_wp2_with (first
      | (at_builtin; refine append_intss rfl (.tmp 57) (.tmp 59) rfl (w1.heap.size + 1) vN k us rfl Q2.out _ 1 [.slice (some ⟨ga, 0, none⟩) j ca] rfl Hlit.out (by simp [Value.oneCell']) (by omega) (by first | omega | (simp <;> omega)) ?_; intro v7 w7 hown7 hg7 hat7; obtain ⟨A7, c7, hv7⟩ := slice_of_own hown7; subst hv7; have HMB7 := Lib.hid (MB.addN HML.out (Q.out.1.trans Hl1.out.symm) Q.out.2.1 Q.out.2.2.1 Q.out.2.2.2.1 Q.out.2.2.2.2.1 Q.out.2.2.2.2.2 Oal.out (fun g hg => (Na1.out g hg).1) (fun g hg => (Na1.out g hg).2) (by rw [Hl1.out]; exact hown7) hg7 hat7); have hbx := (hg7.block w1.heap.size (mb_lt HML.out) (fun e => by obtain ⟨_, _, p2, _⟩ := HML.out.n; have := (p2.lt _ e.symm).1; omega)).trans HML.out.box; have x1 := blk_cell hbx 1; have y1 := blk_free hbx 1; have x22 : w7.cell? ⟨w1.heap.size, 2, none⟩ = some vO := (blk_cell hbx 2); have y22 := blk_free hbx 2; obtain ⟨j0, j1, j2, j3, j4⟩ := HMB7.out.cells; have HMl8 := HMB7.out.below (bel_new _ (.cells #[.slice (some ⟨gb, 0, none⟩) j cb] 23)); obtain ⟨us2, t1, t2, t3, t4, t5, t6, t7⟩ := HMl8.o; rw [Hl2.out] at t1 t2; have T2 := Lib.hid t2; have HML8 := Lib.hid HMl8; have TQ := Lib.hid (And.intro t1 (And.intro t3 (And.intro t4 (And.intro t5 (And.intro t6 t7))))); have Ob8 := Lib.hid ((own_set (own_kept Obl.out hg7 (fun g h1 h2 => (Nb1.out g h1).1 (Q.out.2.2.2.2.1 g h2))) (show w1.heap.size < w1.heap.size + 1 by omega) (i := 1) (u := (Value.slice A7 (k + 1) c7))).alloc (.cells #[.slice (some ⟨gb, 0, none⟩) j cb] 23)); have Hlit2 := Lib.hid (Row.of_own (World.ownsRow_lit (base := (w7.setCell ⟨w1.heap.size, 1, none⟩ (Value.slice A7 (k + 1) c7)).heap.size) (e := 23) (size := 1) (w7.setCell ⟨w1.heap.size, 1, none⟩ (Value.slice A7 (k + 1) c7)) #[.slice (some ⟨gb, 0, none⟩) j cb] 1 (Nat.le_refl _) (by unfold maxLen; omega) rfl)); have Hg7 := Lib.hid hg7; have Hat7 := Lib.hid hat7; have hz7 := hg7.size; have hz8 : (w7.setCell ⟨w1.heap.size, 1, none⟩ (Value.slice A7 (k + 1) c7)).heap.size = w7.heap.size := (by simp [World.setCell]); have Hlit2 := Lib.hid (by have hh := Hlit2.out; rw [hz8] at hh; exact hh); clear hown7 hg7 hat7 hbx HMl8 t1 t2 t3 t4 t5 t6 t7 k0 k1 k2 k3 k4)
      | (at_builtin; refine append_intss rfl (.tmp 63) (.tmp 65) rfl (w1.heap.size + 1) vO k us2 rfl T2.out _ 1 [.slice (some ⟨gb, 0, none⟩) j cb] rfl Hlit2.out (by simp [Value.oneCell']) (by omega) (by first | omega | (simp <;> omega)) ?_; intro v9 w9 hown9 hg9 hat9; obtain ⟨A9, c9, hv9⟩ := slice_of_own hown9; subst hv9; have HMB9 := Lib.hid (MB.addO HML8.out (TQ.out.1.trans Hl2.out.symm) TQ.out.2.1 TQ.out.2.2.1 TQ.out.2.2.2.1 TQ.out.2.2.2.2.1 TQ.out.2.2.2.2.2 Ob8.out (Nb2.out _ Hat7.out) (fun g hg => (Nb1.out g hg).2) (by rw [Hl2.out]; exact hown9) hg9 hat9); have hbx := (hg9.block w1.heap.size (mb_lt HML8.out) (fun e => by obtain ⟨_, _, p2, _⟩ := HML8.out.o; have := (p2.lt _ e.symm).1; omega)).trans HML8.out.box; have x2 := blk_cell hbx 2; have y2 := blk_free hbx 2; have Hg9 := Lib.hid hg9; have Hat9 := Lib.hid hat9; clear hown9 hg9 hat9 hbx j0 j1 j2 j3 j4 x1 y1))
     go_roundw
     case rel => exact ⟨k + 1, _, _, _, _, by omega, by go_num, Lib.hid (by rw [HX1.out, HX2.out]; exact HMB9.out), Lib.hid (fun g hg => by
       rcases hg with hg | hg | hg
       ·exact HE1.out g hg
       ·have := Option.some.inj hg; simp only at this; omega
       ·rcases Hat7.out with h | h
        ·exact HE1.out g (Q.out.2.2.2.2.1 g (by rw [← h]; exact hg))
        ·have := Option.some.inj (hg.symm.trans h); rw [World.size_alloc] at this; omega), Lib.hid (fun g hg => by
       rcases hg with hg | hg | hg
       ·exact HE2.out g hg
       ·have := Option.some.inj hg; simp only at this; omega
       ·rcases Hat9.out with h | h
        ·exact HE2.out g (TQ.out.2.2.2.2.1 g (by rw [← h]; exact hg))
        ·have := Option.some.inj (hg.symm.trans h); rw [World.size_alloc, hz8] at this; omega), by
      have a0 : Only (fun g => g = w1.heap.size) Wk wr := Only.of_below _ Hbk.out
      have a1 := Ho.out.trans (a0.trans (Only.of_below _ (bel_new wr (.cells #[.slice (some ⟨ga, 0, none⟩) j ca] 23))))
      have a2 := a1.after (Only.grown (E := fun g => vN.ownBlock = some g) Hg7.out (fun q hq => hq)) (fun g hg => .inl (HE1.out g (Q.out.2.2.2.2.1 g hg)))
      have a3 := a2.trans (Only.grown (E := fun g => g = w1.heap.size) (set_grown _ _ 1 (Value.slice A7 (k + 1) c7)) (fun q hq => (Option.some.inj hq).symm))
      have a4 := a3.trans (Only.of_below _ (bel_new _ (.cells #[.slice (some ⟨gb, 0, none⟩) j cb] 23)))
      have a5 := a4.after (Only.grown (E := fun g => vO.ownBlock = some g) Hg9.out (fun q hq => hq)) (fun g hg => .inl (HE2.out g (TQ.out.2.2.2.2.1 g hg)))
      exact a5.trans (Only.grown (E := fun g => g = w1.heap.size) (set_grown _ _ 2 (Value.slice A9 (k + 1) c9)) (fun q hq => (Option.some.inj hq).symm))⟩
     case measure => simp [intOf] <;> omega
  ·obtain rfl : k = (Cir.reach d).length := by omega
   have HMf : Hid (MB w1.heap.size d.ins E1 E2 vN vO (Cir.machN d).next (Cir.machN d).out wr) := Lib.hid (by
    have := HMB.out
    rwa [List.take_of_length_le (by unfold Cir.machN; simp), List.take_of_length_le (by unfold Cir.machN; simp)] at this)
   obtain ⟨k0, k1, k2, k3, k4⟩ := HMf.out.cells
   have hR := (Hb.out.block (w.heap.size + 1) (by omega)).trans HRes1.out
   have o0 := blk_cell hR 0
   have o1 := blk_cell hR 1
   have o2 := blk_cell hR 2
   have b0 := blk_free hR 0
   have b1 := blk_free hR 1
   have b2 := blk_free hR 2
   simp at o0 o1 o2
   have HB := Lib.hid (B1.out.trans (Hb.out.mono B1.out.size))
   have hlN := HMf.out.l1
   have hlO := HMf.out.l2
   obtain ⟨An, cn, hvN, -, -⟩ := SSAt.shape (OwnSE.at HMf.out.n)
   obtain ⟨Ao, co, hvO, -, -⟩ := SSAt.shape (OwnSE.at HMf.out.o)
   have HMF2 := Lib.hid (And.intro HMf.out.n (And.intro HMf.out.o HMf.out.d))
   have HlN := Lib.hid hlN
   have HlO := Lib.hid hlO
   clear hR HMf HMB hlN hlO
   subst hvN hvO
   go_wp2_with fail
   refine bodyPost_ret (v := .agg #[.int .i64 d.ins, .slice An (Cir.machN d).next.length cn, .slice Ao (Cir.machN d).out.length co]) (by simp [results, Try.results29, go_sem, o0, o1, o2]) rfl ⟨⟨_, rfl, ⟨_, _, rfl, (OwnSE.innM (OwnSE.set (OwnSE.set (OwnSE.set HMF2.out.1 (by omega)) (by omega)) (by omega))).mono (fun g hg => Nat.le_trans (by omega) hg), (OwnSE.innM (OwnSE.set (OwnSE.set (OwnSE.set HMF2.out.2.1 (by omega)) (by omega)) (by omega))).mono (fun g hg => Nat.le_trans (by omega) hg)⟩⟩, ?_⟩
   exact ((HB.out.setCell (by simp only; omega) _).setCell (by simp only; omega) _).setCell (by simp only; omega) _
end Go.Proofs.Ytkkkjbinfdohpaa
namespace Go.Proofs.Ytkkkjbinfdohpaa
open Go.RowKit
def Cir.mach0 : Mz := { ins := 0, next := [], out := [] }
theorem implMof_no (v : Value) (c : Cz) (w : World) (h : CircAt w v c) (hv : Cir.valid c = false) :
  Calls Try.prog 26 #[v] w (OwnMachR Cir.mach0 w) := by
 have HC := Lib.hid h
 obtain ⟨vn, vg, vo, rfl, -⟩ := h
 have hb0 := bel_new w (.cells #[.int .i64 c.ins, vn, vg, vo] 26)
 have hb00 := bel_new (w.alloc (.cells #[.int .i64 c.ins, vn, vg, vo] 26)) (.cells #[.int .i64 0, .slice none 0 0, .slice none 0 0] 53)
 have B0 := Lib.hid (hb0.trans (hb00.mono hb0.size))
 have PC := Lib.hid ((PCells.boxed w c.ins vn vg vo 26).below hb00)
 have hsz : ((w.alloc (.cells #[.int .i64 c.ins, vn, vg, vo] 26)).alloc (.cells #[.int .i64 0, .slice none 0 0, .slice none 0 0] 53)).heap.size = w.heap.size + 2 := by simp
 have hR : ((w.alloc (.cells #[.int .i64 c.ins, vn, vg, vo] 26)).alloc (.cells #[.int .i64 0, .slice none 0 0, .slice none 0 0] 53)).heap[w.heap.size + 1]? = some (.cells #[.int .i64 0, .slice none 0 0, .slice none 0 0] 53 (0, 0)) := by
  have := heap_alloc_new (w.alloc (.cells #[.int .i64 c.ins, vn, vg, vo] 26)) (.cells #[.int .i64 0, .slice none 0 0, .slice none 0 0] 53)
  rwa [World.size_alloc] at this
 have HRes := Lib.hid hR
 obtain ⟨z, p0, p1, p2, p3⟩ := PC.out
 have HV := Lib.hid (implValid_any _ _ _ (HC.out.below B0.out))
 rw [hv] at HV
 clear hv HC hb0 hb00 hR
 go_enter Try.func26, Try.ntmps26
 go_wp2_with fail
 generalize (w.alloc (.cells #[.int .i64 c.ins, vn, vg, vo] 26)).alloc (.cells #[.int .i64 0, .slice none 0 0, .slice none 0 0] 53) = W at *
 refine HV.out.mono ?_
 rintro e w1 ⟨rfl, hb1⟩
 have B1 := Lib.hid (B0.out.trans (hb1.mono B0.out.size))
 have hR1 := (hb1.block _ (by omega)).trans HRes.out
 have o0 := blk_cell hR1 0
 have o1 := blk_cell hR1 1
 have o2 := blk_cell hR1 2
 have b0 := blk_free hR1 0
 have b1 := blk_free hR1 1
 have b2 := blk_free hR1 2
 simp at o0 o1 o2
 have z1 := hb1.size
 clear hb1 hR1 p0 p1 p2 p3 z HV HRes PC
 go_wp2_with fail
 refine bodyPost_ret (v := .agg #[.int .i64 0, .slice none 0 0, .slice none 0 0]) (by simp [results, Try.results26, go_sem, o0, o1, o2]) rfl ⟨_, rfl, ⟨_, _, fun _ => False, fun _ => False, rfl, fun g h => h.elim, fun g h => h.elim, fun g h => h.elim, OwnSE.nil _ _ _ _ _ _, OwnSE.nil _ _ _ _ _ _⟩, ((B1.out.setCell (by simp only; omega) _).setCell (by simp only; omega) _).setCell (by simp only; omega) _⟩
theorem specMof_noF (v : Value) (c : Cz) (w : World) (h : CircAt w v c) (hv : Cir.valid c = false) :
  Calls Try.prog 29 #[v] w (ReadMachF Cir.mach0 w) := by
 have HC := Lib.hid h
 obtain ⟨vn, vg, vo, rfl, -⟩ := h
 have hb0 := bel_new w (.cells #[.int .i64 c.ins, vn, vg, vo] 26)
 have hb00 := bel_new (w.alloc (.cells #[.int .i64 c.ins, vn, vg, vo] 26)) (.cells #[.int .i64 0, .slice none 0 0, .slice none 0 0] 53)
 have B0 := Lib.hid (hb0.trans (hb00.mono hb0.size))
 have PC := Lib.hid ((PCells.boxed w c.ins vn vg vo 26).below hb00)
 have hsz : ((w.alloc (.cells #[.int .i64 c.ins, vn, vg, vo] 26)).alloc (.cells #[.int .i64 0, .slice none 0 0, .slice none 0 0] 53)).heap.size = w.heap.size + 2 := by simp
 have hR : ((w.alloc (.cells #[.int .i64 c.ins, vn, vg, vo] 26)).alloc (.cells #[.int .i64 0, .slice none 0 0, .slice none 0 0] 53)).heap[w.heap.size + 1]? = some (.cells #[.int .i64 0, .slice none 0 0, .slice none 0 0] 53 (0, 0)) := by
  have := heap_alloc_new (w.alloc (.cells #[.int .i64 c.ins, vn, vg, vo] 26)) (.cells #[.int .i64 0, .slice none 0 0, .slice none 0 0] 53)
  rwa [World.size_alloc] at this
 have HRes := Lib.hid hR
 obtain ⟨z, p0, p1, p2, p3⟩ := PC.out
 have HV := Lib.hid (specValid_any _ _ _ (HC.out.below B0.out))
 rw [hv] at HV
 clear hv HC hb0 hb00 hR
 go_enter Try.func29, Try.ntmps29
 go_wp2_with fail
 generalize (w.alloc (.cells #[.int .i64 c.ins, vn, vg, vo] 26)).alloc (.cells #[.int .i64 0, .slice none 0 0, .slice none 0 0] 53) = W at *
 refine HV.out.mono ?_
 rintro e w1 ⟨rfl, hb1⟩
 have B1 := Lib.hid (B0.out.trans (hb1.mono B0.out.size))
 have hR1 := (hb1.block _ (by omega)).trans HRes.out
 have o0 := blk_cell hR1 0
 have o1 := blk_cell hR1 1
 have o2 := blk_cell hR1 2
 have b0 := blk_free hR1 0
 have b1 := blk_free hR1 1
 have b2 := blk_free hR1 2
 simp at o0 o1 o2
 have z1 := hb1.size
 clear hb1 hR1 p0 p1 p2 p3 z HV HRes PC
 go_wp2_with fail
 refine bodyPost_ret (v := .agg #[.int .i64 0, .slice none 0 0, .slice none 0 0]) (by simp [results, Try.results29, go_sem, o0, o1, o2]) rfl ⟨⟨_, rfl, ⟨_, _, rfl, SSIn.nil _ _ _, SSIn.nil _ _ _⟩⟩, ((B1.out.setCell (by simp only; omega) _).setCell (by simp only; omega) _).setCell (by simp only; omega) _⟩
theorem implMof_any (v : Value) (c : Cz) (w : World) (h : CircAt w v c) : Calls Try.prog 26 #[v] w (OwnMachR (Cir.machI c) w) := by
 cases hv : Cir.valid c
 ·have hr : Cir.machI c = Cir.mach0 := by unfold Cir.machI; rw [hv]; rfl
  rw [hr]
  exact implMof_no v c w h hv
 ·obtain ⟨d1, d2⟩ := Cir.nat_ok hv
  have hr : Cir.machI c = Cir.machN (Cir.nat c) := by unfold Cir.machI; rw [hv]; rfl
  rw [hr]
  exact implMof_ok v (Cir.nat c) w (by rw [← d1]; exact h) d2 (by rw [← d1]; exact hv)
theorem specMof_anyF (v : Value) (c : Cz) (w : World) (h : CircAt w v c) : Calls Try.prog 29 #[v] w (ReadMachF (Cir.machI c) w) := by
 cases hv : Cir.valid c
 ·have hr : Cir.machI c = Cir.mach0 := by unfold Cir.machI; rw [hv]; rfl
  rw [hr]
  exact specMof_noF v c w h hv
 ·obtain ⟨d1, d2⟩ := Cir.nat_ok hv
  have hr : Cir.machI c = Cir.machN (Cir.nat c) := by unfold Cir.machI; rw [hv]; rfl
  rw [hr]
  exact specMof_okF v (Cir.nat c) w (by rw [← d1]; exact h) d2 (by rw [← d1]; exact hv)
theorem specMof_any (v : Value) (c : Cz) (w : World) (h : CircAt w v c) : Calls Try.prog 29 #[v] w (ReadMach (Cir.machI c) w) :=
 (specMof_anyF v c w h).mono fun _ _ h => h.read
end Go.Proofs.Ytkkkjbinfdohpaa
namespace Go.Proofs.Ytkkkjbinfdohpaa
open Go.RowKit
theorem sameIntRows_same (v v2 : Value) (xss : List (List Int)) (w : World) (h : SSAt ints w v xss) (h2 : SSAt ints w v2 xss) :
  Calls Try.prog 70 #[v, v2] w fun e w' => e = .returned (.bool true) ∧ Below w.heap.size w w' := by
 obtain ⟨A, c, hv, hc, hcm⟩ := h.shape
 obtain ⟨A2, c2, hv2, hc2, hcm2⟩ := h2.shape
 subst hv hv2
 unfold maxLen at hcm hcm2
 have he1 : ((xss.length : Int) != (xss.length : Int)) = false := by simp
 go_enter Try.func70, Try.ntmps70
 go_wp2
 go_loopw [5] (fun i wr => ∃ (k : Nat), k ≤ xss.length ∧ i = .int .i64 k ∧ Below w.heap.size w wr)
  (fun i _ => xss.length - (intOf i).toNat)
 case atStart => exact ⟨0, Nat.zero_le _, rfl, Below.refl _ _⟩
 case round =>
  obtain ⟨k, hk, rfl, hd⟩ := hrel
  by_cases hlt : k < xss.length
  ·obtain ⟨x, hx⟩ := at_some hlt
   obtain ⟨b, o, B, m, rfl, hbl, hs1, -, -, hr1⟩ := ss_open h hd hx
   obtain ⟨b2, o2, B2, m2, rfl, hbl2, ht1, -, -, hr2⟩ := ss_open h2 hd hx
   have HR1 := Lib.hid (show IntsAt wr (.slice B x.length m) x from hr1)
   have HR2 := Lib.hid (show IntsAt wr (.slice B2 x.length m2) x from hr2)
   have HC : Hid (∀ n : GW wr, Calls Try.prog 109 #[.slice B x.length m, .slice B2 x.length m2] (gw n) fun e w' => e = .returned (.bool true) ∧ Below (gw n).heap.size (gw n) w') := Lib.hid fun n => sameInts_same _ _ x (gw n) (Row.below HR1.out (gw_below n)) (Row.below HR2.out (gw_below n))
   have Hd := Lib.hid hd
   have hz := hd.size
   have g1 := gw_cell hs1 (by simp only; omega)
   have g3 := gw_cell ht1 (by simp only; omega)
   clear h h2 hd hs1 ht1 hx hr1 hr2
   go_wp2
   refine wp_region_grow (by kernel_rfl) (by kernel_rfl) ?_
   repeat (go_big_quiet_step ((go_at_call 109; exact grow_call (HC.out _))))
   refine wpQuiet_nil ?_
   intro _ hw'
   obtain ⟨nq, hw''⟩ := hw'
   subst hw''
   have hgq := gw_below nq
   generalize gw nq = wq at *
   clear nq
   clear g1 g3
   go_wp2_with fail
   go_roundw
   case rel => exact ⟨k + 1, by omega, by go_num, Hd.out.trans (hgq.mono hz)⟩
   case measure => simp [intOf] <;> omega
  ·go_wp2
   go_ret
   exact ⟨rfl, hd⟩
theorem sameMachine_same (v v2 : Value) (m : Mz) (w : World) (h : MachAt w v m) (h2 : MachAt w v2 m) :
  Calls Try.prog 27 #[v, v2] w fun e w' => e = .returned (.bool true) ∧ Below w.heap.size w w' := by
 obtain ⟨vn, vo, rfl, n1, o1⟩ := h
 obtain ⟨vn2, vo2, rfl, n2, o2⟩ := h2
 have hb1 := bel_alloc w (.cells #[.int .i64 m.ins, vn, vo] 53)
 have hb2 := bel_alloc (w.alloc (.cells #[.int .i64 m.ins, vn, vo] 53)) (.cells #[.int .i64 m.ins, vn2, vo2] 53)
 have B0 := Lib.hid (hb1.trans (hb2.mono hb1.size))
 have PA := Lib.hid ((MCells.boxed w m.ins vn vo 53).below hb2)
 have PB := Lib.hid (MCells.boxed (w.alloc (.cells #[.int .i64 m.ins, vn, vo] 53)) m.ins vn2 vo2 53)
 have hs : (w.alloc (.cells #[.int .i64 m.ins, vn, vo] 53)).heap.size = w.heap.size + 1 := by simp
 rw [hs] at PB
 have N1 := Lib.hid (n1.below B0.out)
 have N2 := Lib.hid (n2.below B0.out)
 have O1 := Lib.hid (o1.below B0.out)
 have O2 := Lib.hid (o2.below B0.out)
 obtain ⟨za, a0, a1, a2⟩ := PA.out
 obtain ⟨zb, b0, b1, b2⟩ := PB.out
 have he : (m.ins == m.ins) = true := by simp
 clear n1 n2 o1 o2 hb1 hb2 hs
 go_enter Try.func27, Try.ntmps27
 go_wp2_with fail
 generalize (w.alloc (.cells #[.int .i64 m.ins, vn, vo] 53)).alloc (.cells #[.int .i64 m.ins, vn2, vo2] 53) = W at *
 refine (sameIntRows_same _ _ _ _ N1.out N2.out).mono ?_
 rintro e w1 ⟨rfl, hb1⟩
 have B1 := Lib.hid (B0.out.trans (hb1.mono B0.out.size))
 have O1 := Lib.hid (O1.out.below hb1)
 have O2 := Lib.hid (O2.out.below hb1)
 have PA := Lib.hid (PA.out.below hb1)
 have PB := Lib.hid (PB.out.below hb1)
 clear hb1 za a0 a1 a2 zb b0 b1 b2
 obtain ⟨za, a0, a1, a2⟩ := PA.out
 obtain ⟨zb, b0, b1, b2⟩ := PB.out
 go_wp2_with fail
 refine (sameIntRows_same _ _ _ _ O1.out O2.out).mono ?_
 rintro e w2 ⟨rfl, hb2⟩
 have B2 := Lib.hid (B1.out.trans (hb2.mono B1.out.size))
 clear hb2 za a0 a1 a2 zb b0 b1 b2
 go_wp2_with fail
 go_ret
 exact ⟨rfl, B2.out⟩
def TMachL (m : Mz) : Ty := fun w v => MachAt w v m
theorem stb_machL (m : Mz) : Stb (fun _ => False) (TMachL m) := fun _ _ _ h ho => h.below (only_below ho)
namespace Cir
theorem machI_ok {c : Cz} (h : valid c = true) : machI c = machN (nat c) := by unfold machI; rw [h]; rfl
end Cir
end Go.Proofs.Ytkkkjbinfdohpaa
namespace Go.Proofs.Ytkkkjbinfdohpaa
open Go.RowKit
theorem take_ne' {α : Type} {xs ys : List α} {k : Nat} {x y : α} (hx : xs[k]? = some x) (hy : ys[k]? = some y) (h : x ≠ y) : xs ≠ ys := fun e => by
 subst e
 rw [hx] at hy
 exact h (Option.some.inj hy)
theorem sameInts_two (v v2 : Value) (xs ys : List Int) (w : World) (h : IntsAt w v xs) (h2 : IntsAt w v2 ys) :
  Calls Try.prog 109 #[v, v2] w fun e w' => e = .returned (.bool (decide (xs = ys))) ∧ Below w.heap.size w w' := by
 obtain ⟨A, c, hv, hc, hcm⟩ := h.shape
 obtain ⟨A2, c2, hv2, hc2, hcm2⟩ := h2.shape
 subst hv hv2
 unfold maxLen at hcm hcm2
 by_cases he : xs.length = ys.length
 ·have Hb := Lib.hid he
  have he1 : ((xs.length : Int) != (ys.length : Int)) = false := by rw [he]; simp
  have he2 : xs.length ≤ ys.length := by omega
  clear he
  go_enter Try.func109, Try.ntmps109
  go_wp2
  go_loopw [5] (fun i wr => ∃ (k : Nat), k ≤ xs.length ∧ i = .int .i64 k ∧ Hid (xs.take k = ys.take k) ∧ Below w.heap.size w wr)
   (fun i _ => xs.length - (intOf i).toNat)
  case atStart => exact ⟨0, Nat.zero_le _, rfl, Lib.hid rfl, Below.refl _ _⟩
  case round =>
   obtain ⟨k, hk, rfl, Ht, hd⟩ := hrel
   by_cases hlt : k < xs.length
   ·obtain ⟨b, o, x, rfl, hbl, hx, hs1⟩ := ints_open h hd rfl hlt
    obtain ⟨b2, o2, y, rfl, hbl2, hy, ht1⟩ := ints_open h2 hd rfl (show k < ys.length by omega)
    have hlt2 : k < ys.length := by omega
    have Hd := Lib.hid hd
    have hz := hd.size
    have g1 := gw_cell hs1 (by simp only; omega)
    have g3 := gw_cell ht1 (by simp only; omega)
    clear h h2 hd hs1 ht1
    by_cases hxy : x = y
    ·subst hxy
     have hne : (x != x) = false := by simp
     go_wp2
     refine wp_region_grow (by kernel_rfl) (by kernel_rfl) ?_
     repeat (go_big_quiet_step ((fail)))
     refine wpQuiet_nil ?_
     intro _ hw'
     obtain ⟨nq, hw''⟩ := hw'
     subst hw''
     have hgq := gw_below nq
     generalize gw nq = wq at *
     clear nq
     clear hne g1 g3
     go_wp2_with fail
     go_roundw
     case rel => exact ⟨k + 1, by omega, by go_num, Lib.hid (by rw [take_snoc hx.out, take_snoc hy.out, Ht.out]), Hd.out.trans (hgq.mono hz)⟩
     case measure => simp [intOf] <;> omega
    ·have hne : (x != y) = true := by simpa using hxy
     have HE : Hid (decide (xs = ys) = false) := Lib.hid (decide_eq_false (take_ne' hx.out hy.out hxy))
     clear hxy
     go_wp2
     refine wp_region_grow (by kernel_rfl) (by kernel_rfl) ?_
     repeat (go_big_quiet_step ((fail)))
     refine wpQuiet_nil ?_
     intro _ hw'
     obtain ⟨nq, hw''⟩ := hw'
     subst hw''
     have hgq := gw_below nq
     generalize gw nq = wq at *
     clear nq
     clear hne g1 g3
     go_wp2_with fail
     go_ret
     exact ⟨by rw [HE.out]; rfl, Hd.out.trans (hgq.mono hz)⟩
   ·go_wp2
    go_ret
    have e : xs = ys := by
     have := Ht.out
     rw [List.take_of_length_le (by omega), List.take_of_length_le (by have := Hb.out; omega)] at this
     exact this
    exact ⟨ret_bool (decide_eq_true e).symm, hd⟩
 ·have HE : Hid (decide (xs = ys) = false) := Lib.hid (decide_eq_false fun e => he (by rw [e]))
  have he1 : ((xs.length : Int) != (ys.length : Int)) = true := by rw [bne_iff_ne]; omega
  clear he
  go_enter Try.func109, Try.ntmps109
  go_wp2
  go_ret
  exact ⟨by rw [HE.out]; rfl, Below.refl _ _⟩
theorem sameIntRows_two (v v2 : Value) (xss yss : List (List Int)) (w : World) (h : SSAt ints w v xss) (h2 : SSAt ints w v2 yss) :
  Calls Try.prog 70 #[v, v2] w fun e w' => e = .returned (.bool (decide (xss = yss))) ∧ Below w.heap.size w w' := by
 obtain ⟨A, c, hv, hc, hcm⟩ := h.shape
 obtain ⟨A2, c2, hv2, hc2, hcm2⟩ := h2.shape
 subst hv hv2
 unfold maxLen at hcm hcm2
 by_cases he : xss.length = yss.length
 ·have Hb := Lib.hid he
  have he1 : ((xss.length : Int) != (yss.length : Int)) = false := by rw [he]; simp
  have he2 : xss.length ≤ yss.length := by omega
  clear he
  go_enter Try.func70, Try.ntmps70
  go_wp2
  go_loopw [5] (fun i wr => ∃ (k : Nat), k ≤ xss.length ∧ i = .int .i64 k ∧ Hid (xss.take k = yss.take k) ∧ Below w.heap.size w wr)
   (fun i _ => xss.length - (intOf i).toNat)
  case atStart => exact ⟨0, Nat.zero_le _, rfl, Lib.hid rfl, Below.refl _ _⟩
  case round =>
   obtain ⟨k, hk, rfl, Ht, hd⟩ := hrel
   by_cases hlt : k < xss.length
   ·obtain ⟨x, hx⟩ := at_some hlt
    have hlt2 : k < yss.length := by omega
    obtain ⟨y, hy⟩ := at_some hlt2
    obtain ⟨b, o, B, m, rfl, hbl, hs1, -, -, hr1⟩ := ss_open h hd hx
    obtain ⟨b2, o2, B2, m2, rfl, hbl2, ht1, -, -, hr2⟩ := ss_open h2 hd hy
    have HR1 := Lib.hid (show IntsAt wr (.slice B x.length m) x from hr1)
    have HR2 := Lib.hid (show IntsAt wr (.slice B2 y.length m2) y from hr2)
    have Hx := Lib.hid hx
    have Hy := Lib.hid hy
    have HC : Hid (∀ n : GW wr, Calls Try.prog 109 #[.slice B x.length m, .slice B2 y.length m2] (gw n) fun e w' => e = .returned (.bool (decide (x = y))) ∧ Below (gw n).heap.size (gw n) w') := Lib.hid fun n => sameInts_two _ _ x y (gw n) (Row.below HR1.out (gw_below n)) (Row.below HR2.out (gw_below n))
    have Hd := Lib.hid hd
    have hz := hd.size
    have g1 := gw_cell hs1 (by simp only; omega)
    have g3 := gw_cell ht1 (by simp only; omega)
    clear h h2 hd hs1 ht1 hx hy hr1 hr2
    by_cases hxy : x = y
    ·rw [decide_eq_true hxy] at HC
     have Hxy := Lib.hid hxy
     clear hxy
     go_wp2
     refine wp_region_grow (by kernel_rfl) (by kernel_rfl) ?_
     repeat (go_big_quiet_step ((go_at_call 109; exact grow_call (HC.out _))))
     refine wpQuiet_nil ?_
     intro _ hw'
     obtain ⟨nq, hw''⟩ := hw'
     subst hw''
     have hgq := gw_below nq
     generalize gw nq = wq at *
     clear nq
     clear g1 g3
     go_wp2_with fail
     go_roundw
     case rel => exact ⟨k + 1, by omega, by go_num, Lib.hid (by rw [take_snoc Hx.out, take_snoc Hy.out, Ht.out, Hxy.out]), Hd.out.trans (hgq.mono hz)⟩
     case measure => simp [intOf] <;> omega
    ·rw [decide_eq_false hxy] at HC
     have HE : Hid (decide (xss = yss) = false) := Lib.hid (decide_eq_false (take_ne' Hx.out Hy.out hxy))
     clear hxy
     go_wp2
     refine wp_region_grow (by kernel_rfl) (by kernel_rfl) ?_
     repeat (go_big_quiet_step ((go_at_call 109; exact grow_call (HC.out _))))
     refine wpQuiet_nil ?_
     intro _ hw'
     obtain ⟨nq, hw''⟩ := hw'
     subst hw''
     have hgq := gw_below nq
     generalize gw nq = wq at *
     clear nq
     clear g1 g3
     go_wp2_with fail
     go_ret
     exact ⟨by rw [HE.out]; rfl, Hd.out.trans (hgq.mono hz)⟩
   ·go_wp2
    go_ret
    have e : xss = yss := by
     have := Ht.out
     rw [List.take_of_length_le (by omega), List.take_of_length_le (by have := Hb.out; omega)] at this
     exact this
    exact ⟨ret_bool (decide_eq_true e).symm, hd⟩
 ·have HE : Hid (decide (xss = yss) = false) := Lib.hid (decide_eq_false fun e => he (by rw [e]))
  have he1 : ((xss.length : Int) != (yss.length : Int)) = true := by rw [bne_iff_ne]; omega
  clear he
  go_enter Try.func70, Try.ntmps70
  go_wp2
  go_ret
  exact ⟨by rw [HE.out]; rfl, Below.refl _ _⟩
def eqM (m m2 : Mz) : Bool := decide (m.ins = m2.ins) && decide (m.next = m2.next) && decide (m.out = m2.out)
theorem eqM_iff {m m2 : Mz} : eqM m m2 = true ↔ m = m2 := by
 unfold eqM
 simp only [Bool.and_eq_true, decide_eq_true_iff]
 cases m
 cases m2
 simp [and_assoc]
theorem sameMachine_two (v v2 : Value) (m m2 : Mz) (w : World) (h : MachAt w v m) (h2 : MachAt w v2 m2) :
  Calls Try.prog 27 #[v, v2] w fun e w' => e = .returned (.bool (eqM m m2)) ∧ Below w.heap.size w w' := by
 obtain ⟨vn, vo, rfl, n1, o1⟩ := h
 obtain ⟨vn2, vo2, rfl, n2, o2⟩ := h2
 have HD : Hid (eqM m m2 = (decide (m.ins = m2.ins) && decide (m.next = m2.next) && decide (m.out = m2.out))) := Lib.hid rfl
 have hb1 := bel_alloc w (.cells #[.int .i64 m.ins, vn, vo] 53)
 have hb2 := bel_alloc (w.alloc (.cells #[.int .i64 m.ins, vn, vo] 53)) (.cells #[.int .i64 m2.ins, vn2, vo2] 53)
 have B0 := Lib.hid (hb1.trans (hb2.mono hb1.size))
 have PA := Lib.hid ((MCells.boxed w m.ins vn vo 53).below hb2)
 have PB := Lib.hid (MCells.boxed (w.alloc (.cells #[.int .i64 m.ins, vn, vo] 53)) m2.ins vn2 vo2 53)
 have hs : (w.alloc (.cells #[.int .i64 m.ins, vn, vo] 53)).heap.size = w.heap.size + 1 := by simp
 rw [hs] at PB
 have N1 := Lib.hid (n1.below B0.out)
 have N2 := Lib.hid (n2.below B0.out)
 have O1 := Lib.hid (o1.below B0.out)
 have O2 := Lib.hid (o2.below B0.out)
 obtain ⟨za, a0, a1, a2⟩ := PA.out
 obtain ⟨zb, b0, b1, b2⟩ := PB.out
 clear n1 n2 o1 o2 hb1 hb2 hs
 by_cases hi : m.ins = m2.ins
 ·have he : (m.ins == m2.ins) = true := by simpa using hi
  rw [decide_eq_true hi, Bool.true_and] at HD
  clear hi
  by_cases hn : m.next = m2.next
  ·rw [decide_eq_true hn, Bool.true_and] at HD
   have HN := Lib.hid (sameIntRows_two _ _ _ _ _ N1.out N2.out)
   rw [decide_eq_true hn] at HN
   clear hn
   go_enter Try.func27, Try.ntmps27
   go_wp2_with fail
   generalize (w.alloc (.cells #[.int .i64 m.ins, vn, vo] 53)).alloc (.cells #[.int .i64 m2.ins, vn2, vo2] 53) = W at *
   refine HN.out.mono ?_
   rintro e w1 ⟨rfl, hb1⟩
   have B1 := Lib.hid (B0.out.trans (hb1.mono B0.out.size))
   have O1 := Lib.hid (O1.out.below hb1)
   have O2 := Lib.hid (O2.out.below hb1)
   have PA := Lib.hid (PA.out.below hb1)
   have PB := Lib.hid (PB.out.below hb1)
   clear hb1 za a0 a1 a2 zb b0 b1 b2
   obtain ⟨za, a0, a1, a2⟩ := PA.out
   obtain ⟨zb, b0, b1, b2⟩ := PB.out
   go_wp2_with fail
   refine (sameIntRows_two _ _ _ _ _ O1.out O2.out).mono ?_
   rintro e w2 ⟨rfl, hb2⟩
   have B2 := Lib.hid (B1.out.trans (hb2.mono B1.out.size))
   clear hb2 za a0 a1 a2 zb b0 b1 b2
   go_wp2_with fail
   go_ret
   exact ⟨by rw [HD.out]; rfl, B2.out⟩
  ·rw [decide_eq_false hn, Bool.false_and] at HD
   have HN := Lib.hid (sameIntRows_two _ _ _ _ _ N1.out N2.out)
   rw [decide_eq_false hn] at HN
   clear hn
   go_enter Try.func27, Try.ntmps27
   go_wp2_with fail
   generalize (w.alloc (.cells #[.int .i64 m.ins, vn, vo] 53)).alloc (.cells #[.int .i64 m2.ins, vn2, vo2] 53) = W at *
   refine HN.out.mono ?_
   rintro e w1 ⟨rfl, hb1⟩
   have B1 := Lib.hid (B0.out.trans (hb1.mono B0.out.size))
   clear hb1 za a0 a1 a2 zb b0 b1 b2
   go_wp2_with fail
   go_ret
   exact ⟨by rw [HD.out]; rfl, B1.out⟩
 ·have he : (m.ins == m2.ins) = false := by simpa using hi
  rw [decide_eq_false hi, Bool.false_and, Bool.false_and] at HD
  clear hi
  go_enter Try.func27, Try.ntmps27
  go_wp2_with fail
  go_ret
  exact ⟨by rw [HD.out]; rfl, B0.out⟩
end Go.Proofs.Ytkkkjbinfdohpaa
namespace Go.Proofs.Ytkkkjbinfdohpaa
open Go.RowKit
def Lives (B T : Nat) (K : World → Prop) : Prop := ∀ (E : Nat → Prop) (w w' : World), K w → T ≤ w.heap.size → Only E w w' → (∀ g, B ≤ g → g < T → ¬ E g) → K w'
structure Has (B T : Nat) (K : World → Prop) (w : World) : Prop where
  k : K w
  t : T ≤ w.heap.size
  l : Lives B T K
section
variable {B T : Nat} {K : World → Prop} {w w' : World}
end
def Kept (A : World → Prop) (T : Nat) (w' : World) : Prop := ∃ w0, A w0 ∧ w0.heap.size = T ∧ Below w0.heap.size w0 w'
def RowT (B T : Nat) (e : TypeId) (size : Nat) (v : Value) (n : Nat) (cs : List Value) (w : World) : Prop := w.ownsRow B e size v n cs ∧ ∀ g, v.ownBlock = some g → g < T
end Go.Proofs.Ytkkkjbinfdohpaa
namespace Go.Proofs.Ytkkkjbinfdohpaa
open Go.RowKit
end Go.Proofs.Ytkkkjbinfdohpaa
namespace Go.Proofs.Ytkkkjbinfdohpaa
open Go.RowKit
def MarkedGates (B : Nat) (v : Value) (n k : Nat) (w : World) (e : Ending) (w' : World) : Prop :=
  e = .returned (.int .i64 ((k + n * 2 : Nat) : Int)) ∧ w'.ownsRow B 64 2 v n (runI k (n * 2)) ∧ w.grownBy w' v.ownBlock
end Go.Proofs.Ytkkkjbinfdohpaa
namespace Go.Proofs.Ytkkkjbinfdohpaa
open Go.RowKit
def OwnCT (B T : Nat) (v : Value) (c : Cz) (w : World) : Prop :=
  ∃ vn vg vo b2 b3, v = .agg #[.int .i64 c.ins, vn, vg, vo] ∧ B ≤ b2 ∧ b2 ≤ b3 ∧ b3 ≤ T ∧ (∀ g, vn.ownBlock = some g → g < b2) ∧ (∀ g, vg.ownBlock = some g → g < b3) ∧ (∀ g, vo.ownBlock = some g → g < T) ∧
    w.ownsRow B 3 1 vn c.next.length (ints c.next) ∧ w.ownsRow b2 64 2 vg c.gates.length (cubes c.gates) ∧ w.ownsRow b3 3 1 vo c.outs.length (ints c.outs)
end Go.Proofs.Ytkkkjbinfdohpaa
namespace Go.Proofs.Ytkkkjbinfdohpaa
open Go.RowKit
end Go.Proofs.Ytkkkjbinfdohpaa
namespace Go.Proofs.Ytkkkjbinfdohpaa
open Go.RowKit
end Go.Proofs.Ytkkkjbinfdohpaa
namespace Go.Proofs.Ytkkkjbinfdohpaa
open Go.RowKit
namespace Mac
theorem pushesG_snoc {α : Type} [DecidableEq α] (l xs : List α) (c : α) : pushesG l (xs ++ [c]) = pushG (pushesG l xs) c := by
 unfold pushesG
 rw [List.foldl_append]
 rfl
theorem idxOf_G {l : List Nat} {c : Nat} : idxOf l c = if c ∈ l then ((idxG l c : Nat) : Int) else -1 := by
 by_cases h : c ∈ l
 ·rw [if_pos h]
  obtain ⟨i, h1, h2, h3⟩ := idxOf_mem h
  rw [h1]
  congr 1
  obtain ⟨g1, g2⟩ := idxG_get h
  rcases Nat.lt_trichotomy i (idxG l c) with hl | hl | hl
  ·have := List.not_of_lt_findIdx (p := fun b => decide (b = c)) (xs := l) hl
   obtain ⟨hi, e⟩ := List.getElem?_eq_some_iff.1 h2
   rw [e] at this
   simp at this
  ·exact hl
  ·exact absurd g1 (h3 _ hl)
 ·rw [if_neg h, idxOf_not h]
def partRow (L S : List Nat) (j : Nat) : List Nat := (S.take j).map (idxG (pushesG L (S.take j)))
theorem partRow_snoc {L S : List Nat} {j c : Nat} (h : S[j]? = some c) : partRow L S (j + 1) = partRow L S j ++ [if c ∈ pushesG L (S.take j) then idxG (pushesG L (S.take j)) c else (pushesG L (S.take j)).length] := by
 unfold partRow
 rw [take_snoc h, pushesG_snoc, List.map_append, List.map_singleton]
 congr 1
 ·apply List.map_congr_left
  intro x hx
  obtain ⟨m, hm⟩ := pushG_prefix (pushesG L (S.take j)) c
  rw [hm, idxG_append ((mem_pushesG _ _).2 (.inr hx))]
 ·unfold pushG
  split
  ·rfl
  ·rename_i hn
   rw [idxG_new hn]
theorem partRow_len (L S : List Nat) (j : Nat) : (partRow L S j).length = min j S.length := by unfold partRow; simp
theorem partRow_full {L S m : List Nat} : partRow L S S.length = S.map (idxG (pushesG L S ++ m)) := by
 unfold partRow
 rw [List.take_length]
 apply List.map_congr_left
 intro x hx
 rw [idxG_append ((mem_pushesG _ _).2 (.inr hx))]
structure Bfs (next : List (List Int)) (C : List Nat) (k : Nat) (L : List Nat) : Prop where
  ord : ordL next C = bfsG (succL next C) (9 - k) k L
  kl : k ≤ L.length
  nd : L.Nodup
  lt : ∀ s ∈ L, s < next.length
theorem Bfs.start {next : List (List Int)} {C : List Nat} (h : 0 < next.length) : Bfs next C 0 [0] := ⟨rfl, Nat.zero_le _, by simp, fun s hs => by rw [List.mem_singleton.1 hs]; exact h⟩
theorem Bfs.len {next : List (List Int)} {C L : List Nat} {k : Nat} (h : Bfs next C k L) : L.length ≤ next.length := nodup_lt _ _ h.nd h.lt
theorem Bfs.get {next : List (List Int)} {C L : List Nat} {k s : Nat} (h : Bfs next C k L) (hs : L[k]? = some s) : (ordL next C)[k]? = some s := by
 obtain ⟨m, hm⟩ := bfsG_prefix (succL next C) (9 - k) k L
 rw [h.ord, hm, List.getElem?_append_left (List.getElem?_eq_some_iff.1 hs).1]
 exact hs
theorem Bfs.step {next : List (List Int)} {C L : List Nat} {k s : Nat} (h : Bfs next C k L) (hn : next.length ≤ 8) (hs : L[k]? = some s) (hc : ∀ c ∈ succL next C s, c < next.length) : Bfs next C (k + 1) (pushesG L (succL next C s)) := by
 have hk := (List.getElem?_eq_some_iff.1 hs).1
 have hl := h.len
 obtain ⟨m, hm⟩ := pushesG_prefix (succL next C s) L
 refine ⟨?_, by rw [hm, List.length_append]; omega, pushesG_nodup _ h.nd, fun x hx => ((mem_pushesG _ _).1 hx).elim (h.lt x) (hc x)⟩
 rw [h.ord, show 9 - k = (8 - k) + 1 by omega, bfsG_step hs, show 9 - (k + 1) = 8 - k by omega]
theorem Bfs.row {next : List (List Int)} {C L : List Nat} {k s : Nat} (h : Bfs next C k L) (hn : next.length ≤ 8) (hs : L[k]? = some s) : nats (partRow L (succL next C s) (succL next C s).length) = (succL next C s).map fun c => ((idxG (ordL next C) c : Nat) : Int) := by
 have hk := (List.getElem?_eq_some_iff.1 hs).1
 have hl := h.len
 obtain ⟨m, hm⟩ := bfsG_prefix (succL next C) (8 - k) (k + 1) (pushesG L (succL next C s))
 have e : ordL next C = pushesG L (succL next C s) ++ m := by rw [h.ord, show 9 - k = (8 - k) + 1 by omega, bfsG_step hs, hm]
 rw [e, partRow_full (m := m)]
 unfold nats
 rw [List.map_map]
 rfl
theorem Bfs.done {next : List (List Int)} {C L : List Nat} (h : Bfs next C L.length L) : ordL next C = L := by rw [h.ord, bfsG_end]
end Mac
theorem cloneI_any (v : Value) (n : Nat) (cs : List Value) (w : World) (h : Row w 1 v n cs) (h1 : ∀ u ∈ cs, u.oneCell' = true) (hn : n ≤ 1000) :
  Calls Try.prog 68 #[v] w fun r w' => ∃ v', r = .returned v' ∧ w'.ownsRow w.heap.size 3 1 v' n cs ∧ Below w.heap.size w w' := by
 have he := fun (w : World) (a : Option Addr) (n c : Nat) => Lib.run_eql_slice_nil (P := Try.prog) w 23 3 a n c 0 0 Try.underlying23
 have hr := Lib.hid h
 obtain ⟨hl, A, c, rfl, hc, hcm, hcell⟩ := h
 cases A with
 | none =>
  have hn0 : n = 0 := by
   rcases Nat.eq_zero_or_pos n with h0 | h0
   ·exact h0
   ·obtain ⟨b, o, hx, -⟩ := hcell h0; cases hx
  subst hn0
  obtain rfl : cs = [] := List.eq_nil_of_length_eq_zero (by simpa using hl)
  clear hl hcell h1 hr
  go_enter Try.func68, Try.ntmps68
  go_wp2_with fail
  go_ret
  exact ⟨_, rfl, World.ownsRow_nil _ _ _ _, Below.refl _ _⟩
 | some p =>
  have Hown0 := Lib.hid (World.ownsRow_lit (base := w.heap.size) (e := 3) (size := 1) w #[] 0 (Nat.le_refl _) (by unfold maxLen; omega) rfl)
  have H1 := Lib.hid h1
  clear hl hcell h1
  go_enter Try.func68, Try.ntmps68
  go_wp2_with (at_builtin; refine append_ints rfl (.tmp 5) (.tmp 6) rfl w.heap.size _ 0 _ rfl Hown0.out _ n cs rfl (hr.out.alloc _) H1.out (by omega) (by simp) ?_; intro v5 w5 hown5 hg5 hat5; have Ho5 := Lib.hid hown5; have Hg5 := Lib.hid hg5; clear hown5 hg5 hat5)
  go_ret
  refine ⟨_, rfl, ?_, ((Below.refl _ _).alloc (Nat.le_refl _) _).grown Hg5.out (by simp) (own_ge0 Hown0.out)⟩
  have := Ho5.out
  simpa using this
section
variable {P : Program} {w : World} {ops : Array Oper} {o : Oper} {a : Act} {K : Act → World → Prop} {Q : Exit → Act → World → Prop} {E : Prop}
theorem step_appZ (hw : Region.wanted o (yielded ops a.tmps) = true) (s x : Operand) (t : TypeId)
  (ho : o.op = .call { callee := .builtin .append, args := #[s, x], argTypes := #[t, t] })
  (base : Nat) (e : TypeId) (i : TypeInfo) (z : Value) (size bytes : Nat) (ht : P.underlying t = some (.slice e)) (hi : P.info? e = some i) (hz : i.zero = some z)
  (hsize : i.size = size) (hby : i.bytes = bytes) (hzs : z.cells.size = size) (hsz : 0 < size)
  (v : Value) (n : Nat) (xs : List Value) (hs : a.eval s = v) (hown : w.ownsRow base e size v n xs) (sv : Value) (m : Nat) (news : List Value) (hx : a.eval x = sv) (hr : Row w size sv m news) (h1 : ∀ u ∈ news, u.oneCell' = true)
  (h63 : n + m ≤ maxLen) (hbytes : (n + m) * bytes ≤ 140737488355328) (hbase : base ≤ w.heap.size)
  (h : ∀ v' w', w'.ownsRow base e size v' (n + m) (xs ++ news) → w.grownBy w' v.ownBlock → (v'.ownBlock = v.ownBlock ∨ v'.ownBlock = some w.heap.size) → K (a.put o.dst v') w') : if Region.wanted o (yielded ops a.tmps) = true then Oper.wp P o a w K Q else E := by
 rw [if_pos hw]
 obtain ⟨v', w', hrun, h2, h3, h4⟩ := run_append_row_at (P := P) w base t o.type e i z size bytes ht hi hz hsize hby hzs hsz v n xs hown sv m news hr h1 h63 hbytes hbase
 unfold Oper.wp execOp
 simp only [ho, resolve, invoke, builtin, Sem.run_bind, Sem.run_pure, Result.andThen_ok, List.map_toArray, List.map_cons, List.map_nil, hs, hx, hrun]
 exact h v' w' h2 h3 h4
theorem step_callZ (hw : Region.wanted o (yielded ops a.tmps) = true) {f : FuncId} {vs : Array Value} {R : Value → World → Prop} (hrun : (execOp a.eval o).run P w = .ok (.enter f vs) w)
  (hc : Calls P f vs w fun e w' => ∃ v, e = .returned v ∧ R v w') (h : ∀ v w', R v w' → K (a.put o.dst v) w') : if Region.wanted o (yielded ops a.tmps) = true then Oper.wp P o a w K Q else E := by
 rw [if_pos hw]
 unfold Oper.wp
 rw [hrun]
 simp only [Oper.upon]
 exact hc.mono fun e w' ⟨v, he, hr⟩ => by subst he; exact h v w' hr
end
theorem Only.aftZ {E F : Nat → Prop} {a b c : World} (h : Only E a b) (h' : Only F b c) (hF : ∀ g, F g → a.heap.size ≤ g ∨ E g) : Only E a c :=
 ⟨h'.os.trans h.os, h'.tape.trans h.tape, h'.output.trans h.output, Nat.le_trans h.size h'.size, fun k hk hn => (h'.block k (Nat.lt_of_lt_of_le hk h.size) fun hf => by
  rcases hF k hf with e | e
  ·omega
  ·exact hn e).trans (h.block k hk hn)⟩
def OwnMachZ (m : Mz) (w : World) (e : Ending) (w' : World) : Prop := ∃ v, e = .returned v ∧ OwnMachE w.heap.size w'.heap.size v m w' ∧ Below w.heap.size w w'
namespace Mac
theorem succ_get {m : Mz} (hv : valid m = true) {s j : Nat} (hs : s < m.next.length) (hj : j < 2 ^ m.ins.toNat) : ∃ r y c, m.next[s]? = some r ∧ r.length = 2 ^ m.ins.toNat ∧ r[j]? = some ((y : Nat) : Int) ∧ y < m.next.length ∧ (classI m.next m.out)[y]? = some c ∧ (succL m.next (classI m.next m.out) s)[j]? = some c ∧ c < m.next.length := by
 obtain ⟨r, q, y, o, h1, -, h3, -, h5, h6, -⟩ := valid_row hv hs hj
 have hl := (seqI_cl m.next m.out (m.next.length + 1)).len
 have hc : (classI m.next m.out)[y]? = some (cg (classI m.next m.out) y) := by
  unfold cg
  rw [List.getD_eq_getElem?_getD, List.getElem?_eq_getElem (by unfold classI; omega), Option.getD_some]
 refine ⟨r, y, _, h1, h3, h5, h6, hc, ?_, ?_⟩
 ·unfold succL
  rw [nrow_get h1, List.getElem?_map, h5]
  rfl
 ·have := (seqI_cl m.next m.out (m.next.length + 1)).le y h6
  unfold classI
  omega
theorem succ_lt {m : Mz} (hv : valid m = true) {s : Nat} (hs : s < m.next.length) : (succL m.next (classI m.next m.out) s).length = 2 ^ m.ins.toNat ∧ ∀ c ∈ succL m.next (classI m.next m.out) s, c < m.next.length := by
 have h1 := succ_len hv hs
 refine ⟨h1, fun c hc => ?_⟩
 obtain ⟨j, hj, rfl⟩ := List.mem_iff_getElem.1 hc
 obtain ⟨r, y, c', -, -, -, -, -, h7, h8⟩ := succ_get hv hs (j := j) (by omega)
 rw [List.getElem?_eq_getElem hj] at h7
 rw [Option.some.inj h7]
 exact h8
theorem minI_next {m : Mz} (hv : valid m = true) : (minI m).next = (ordL m.next (classI m.next m.out)).map fun s => (succL m.next (classI m.next m.out) s).map fun c => ((idxG (ordL m.next (classI m.next m.out)) c : Nat) : Int) := by
 unfold minI; rw [if_pos hv]; rfl
theorem minI_out {m : Mz} (hv : valid m = true) : (minI m).out = (ordL m.next (classI m.next m.out)).map (key0 m.out) := by
 unfold minI; rw [if_pos hv]; rfl
theorem min_row {m : Mz} (hv : valid m = true) {L : List Nat} {k s : Nat} (h : Bfs m.next (classI m.next m.out) k L) (hs : L[k]? = some s) :
  (minI m).next.take (k + 1) = (minI m).next.take k ++ [nats (partRow L (succL m.next (classI m.next m.out) s) (2 ^ m.ins.toNat))] ∧ ∃ q, m.out[s]? = some q ∧ q.length = 2 ^ m.ins.toNat ∧ (minI m).out.take (k + 1) = (minI m).out.take k ++ [q] := by
 have hsl := h.lt s (List.mem_of_getElem? hs)
 have hsz := valid_sizes hv
 obtain ⟨r, q, y, o, -, h2, -, h4, -⟩ := valid_row hv hsl (show 0 < 2 ^ m.ins.toNat from Nat.pow_pos (by decide))
 refine ⟨take_snoc ?_, q, h2, h4, take_snoc ?_⟩
 ·rw [minI_next hv, List.getElem?_map, h.get hs, Option.map_some, ← h.row (by omega) hs, (succ_lt hv hsl).1]
 ·rw [minI_out hv, List.getElem?_map, h.get hs, Option.map_some, key0_get h2]
theorem min_done {m : Mz} (hv : valid m = true) {L : List Nat} (h : Bfs m.next (classI m.next m.out) L.length L) : (minI m).next.take L.length = (minI m).next ∧ (minI m).out.take L.length = (minI m).out := by
 refine ⟨List.take_of_length_le ?_, List.take_of_length_le ?_⟩
 ·rw [minI_next hv, List.length_map, h.done]; omega
 ·rw [minI_out hv, List.length_map, h.done]; omega
end Mac
theorem NRows.of {m : Mz} (hv : Mac.valid m = true) : NRows m.next m.next.length (2 ^ m.ins.toNat) := by
 refine ⟨rfl, fun s hs => ?_⟩
 obtain ⟨r, y, c, h1, h2, -⟩ := Mac.succ_get hv hs (show 0 < 2 ^ m.ins.toNat from Nat.pow_pos (by decide))
 refine ⟨r, h1, h2, fun x hx => ?_⟩
 obtain ⟨r', y', c', g1, g2, g3, g4, -⟩ := Mac.succ_get hv hs hx
 rw [h1] at g1
 obtain rfl := Option.some.inj g1
 exact ⟨y', g3, g4⟩
theorem implMinz_ok (v : Value) (m : Mz) (w : World) (h : MachAt w v m) (hv : Mac.valid m = true) :
  Calls Try.prog 25 #[v] w (OwnMachZ (Mac.minI m) w) := by
 have HC := Lib.hid h
 obtain ⟨An, cn, Ao, co, rfl, hcnm, hcom, hcn1, hco1⟩ := h.shape
 unfold maxLen at hcnm hcom
 have hb0 := bel_new w (.cells #[.int .i64 m.ins, .slice An m.next.length cn, .slice Ao m.out.length co] 53)
 have hb00 := bel_new (w.alloc (.cells #[.int .i64 m.ins, .slice An m.next.length cn, .slice Ao m.out.length co] 53)) (.cells #[.int .i64 0, .slice none 0 0, .slice none 0 0] 53)
 have B0 := Lib.hid (hb0.trans (hb00.mono hb0.size))
 have PC := Lib.hid ((MCells.boxed w m.ins (.slice An m.next.length cn) (.slice Ao m.out.length co) 53).below hb00)
 have hsz : ((w.alloc (.cells #[.int .i64 m.ins, .slice An m.next.length cn, .slice Ao m.out.length co] 53)).alloc (.cells #[.int .i64 0, .slice none 0 0, .slice none 0 0] 53)).heap.size = w.heap.size + 2 := by simp
 have hR : ((w.alloc (.cells #[.int .i64 m.ins, .slice An m.next.length cn, .slice Ao m.out.length co] 53)).alloc (.cells #[.int .i64 0, .slice none 0 0, .slice none 0 0] 53)).heap[w.heap.size + 1]? = some (.cells #[.int .i64 0, .slice none 0 0, .slice none 0 0] 53 (0, 0)) := by
  have := heap_alloc_new (w.alloc (.cells #[.int .i64 m.ins, .slice An m.next.length cn, .slice Ao m.out.length co] 53)) (.cells #[.int .i64 0, .slice none 0 0, .slice none 0 0] 53)
  rwa [World.size_alloc] at this
 have HRes := Lib.hid hR
 obtain ⟨z, p0, p1, p2⟩ := PC.out
 have HC0 := Lib.hid (HC.out.below B0.out)
 have HV := Lib.hid (implMValid_any _ m _ HC0.out)
 rw [hv] at HV
 have Hv := Lib.hid hv
 obtain ⟨s1, s2, s3, s4, s5⟩ := Mac.valid_sizes hv
 have HNR := Lib.hid (NRows.of hv)
 have HSG := Lib.hid (fun s j hs hj => Mac.succ_get hv (s := s) (j := j) hs hj)
 have HSL := Lib.hid (fun s hs => Mac.succ_lt hv (s := s) hs)
 have HMR := Lib.hid (fun L k s h hs => Mac.min_row hv (L := L) (k := k) (s := s) h hs)
 have HMD := Lib.hid (fun L h => Mac.min_done hv (L := L) h)
 have hp4 : 2 ^ m.ins.toNat ≤ 2 ^ 4 := Nat.pow_le_pow_right (show 0 < 2 by decide) (by omega)
 have hp1 : 0 < 2 ^ m.ins.toNat := Nat.pow_pos (by decide)
 have hC0 : (Mac.classI m.next m.out)[0]? = some 0 := by
  have hl := (Mac.seqI_cl m.next m.out (m.next.length + 1)).len
  have h0 := Mac.class_zero (Mac.rows_of m hv) (show 0 < m.next.length by omega)
  unfold Mac.cg at h0
  rw [List.getD_eq_getElem?_getD, List.getElem?_eq_getElem (by unfold Mac.classI; omega), Option.getD_some] at h0
  rw [List.getElem?_eq_getElem (by unfold Mac.classI; omega), h0]
 have HC0v := Lib.hid hC0
 have HClen := Lib.hid (show (Mac.classI m.next m.out).length = m.next.length from (Mac.seqI_cl m.next m.out (m.next.length + 1)).len)
 obtain ⟨M, hM⟩ : ∃ M, 2 ^ m.ins.toNat = M := ⟨_, rfl⟩
 obtain ⟨C, hC⟩ : ∃ C, Mac.classI m.next m.out = C := ⟨_, rfl⟩
 have hcl := fun w' hN hO => classes_any (.slice An m.next.length cn) (.slice Ao m.out.length co) m.next m.out M w' hN hO (by rw [← hM]; exact HNR.out) s5 s3 s4 (by omega)
 rw [hM] at HSG HSL HMR HNR hp4 hp1
 rw [hC] at HSG HSL HMR HMD HC0v HClen hcl
 have Hcl := Lib.hid hcl
 have S5 := Lib.hid s5
 have HCi := Lib.hid hC
 clear hM hC hC0 hcl hv hb0 hb00 hR s1 s2 s5 h
 go_enter Try.func25, Try.ntmps25
 go_wp2_with fail
 generalize (w.alloc (.cells #[.int .i64 m.ins, .slice An m.next.length cn, .slice Ao m.out.length co] 53)).alloc (.cells #[.int .i64 0, .slice none 0 0, .slice none 0 0] 53) = W at *
 refine HV.out.mono ?_
 rintro e w1 ⟨rfl, hb1⟩
 have B1 := Lib.hid (B0.out.trans (hb1.mono B0.out.size))
 have HC1 := Lib.hid (HC0.out.below hb1)
 have HRes1 := Lib.hid ((hb1.block _ (by omega)).trans HRes.out)
 have PC1 := Lib.hid (PC.out.below hb1)
 have z1 := hb1.size
 clear hb1 p0 p1 p2 z HV HC0 HRes PC
 obtain ⟨z, p0, p1, p2⟩ := PC1.out
 obtain ⟨un, uo, huv, rn1, ro1⟩ := HC1.out
 simp only [Value.agg.injEq, Array.mk.injEq, List.cons.injEq, and_true, true_and] at huv
 obtain ⟨rfl, rfl⟩ := huv
 have HK := Lib.hid (Hcl.out w1 rn1 ro1)
 clear rn1 ro1 Hcl
 go_wp2_with fail
 refine HK.out.mono ?_
 rintro e w2 ⟨vC, rfl, hO2, hb2⟩
 have B2 := Lib.hid (B1.out.trans (hb2.mono B1.out.size))
 have HC2 := Lib.hid (HC1.out.below hb2)
 have HRes2 := Lib.hid ((hb2.block _ (by omega)).trans HRes1.out)
 have PC2 := Lib.hid (PC1.out.below hb2)
 have z2 := hb2.size
 rw [nats_length, HClen.out] at hO2
 obtain ⟨gC, cC, hvC, hgC, hgC2, hcC, hcCm⟩ := own_open hO2 (by omega)
 subst hvC
 unfold maxLen at hcCm
 have HCC : Hid (∀ y c, C[y]? = some c → w2.cell? ⟨gC, y, none⟩ = some (.int .i64 (c : Nat))) := Lib.hid fun y c hy => by
  have hyl := (List.getElem?_eq_some_iff.1 hy).1
  obtain ⟨u, hu, hcell, -⟩ := own_slot hO2 (j := y) (by have := HClen.out; omega)
  unfold ints nats at hu
  rw [List.getElem?_map, List.getElem?_map, hy] at hu
  rw [hcell, ← hu]
  rfl
 have c00 := HCC.out 0 0 HC0v.out
 clear hb2 p0 p1 p2 z HC1 HRes1 PC1 HK hO2
 obtain ⟨z, p0, p1, p2⟩ := PC2.out
 have hbl := bel_new w2 (.cells #[.int .i64 0] 3)
 have hbm := bel_new (w2.alloc (.cells #[.int .i64 0] 3)) (.cells #[.int .i64 m.ins, .slice none 0 0, .slice none 0 0] 53)
 have hsl : (w2.alloc (.cells #[.int .i64 0] 3)).heap.size = w2.heap.size + 1 := by simp
 have HMB0 := Lib.hid (MB.start (ins := m.ins) (w := w2.alloc (.cells #[.int .i64 0] 3)) trivial)
 rw [hsl] at HMB0
 have HOr := Lib.hid (own_below (World.ownsRow_lit (base := w2.heap.size) (e := 3) (size := 1) w2 #[.int .i64 0] 1 (Nat.le_refl _) (by unfold maxLen; omega) rfl) hbm)
 have HBf := Lib.hid (hbl.trans (hbm.mono hbl.size))
 have PCl := Lib.hid (PC2.out.below hbl)
 obtain ⟨y, y0, y1, y2⟩ := PCl.out
 have HBs := Lib.hid (Mac.Bfs.start (next := m.next) (C := C) (by omega))
 clear hbl hbm
 go_wp2_with fail
 clear c00 y y0 y1 y2 z p0 p1 p2 hsl PCl
 generalize (w2.alloc (.cells #[.int .i64 0] 3)).alloc (.cells #[.int .i64 m.ins, .slice none 0 0, .slice none 0 0] 53) = w3 at *
 have HOr := Lib.hid (show w3.ownsRow w2.heap.size 3 1 (.slice (some ⟨w2.heap.size, 0, none⟩) 1 1) [0].length (nints [0]) from HOr.out)
 obtain ⟨gm, hgm⟩ : ∃ gm, w2.heap.size + 1 = gm := ⟨_, rfl⟩
 rw [hgm] at HMB0 ⊢
 go_loopw [4, 6] (fun vo i wr => ∃ (vv : Value) (k : Nat) (L : List Nat) (E1 E2 : Nat → Prop) (vN vO : Value), vv = vo ∧ i = .int .i64 k ∧ Hid (Mac.Bfs m.next C k L) ∧ Hid (wr.ownsRow w2.heap.size 3 1 vo L.length (nints L)) ∧ Hid (∀ g, vo.ownBlock = some g → ¬ E1 g ∧ ¬ E2 g ∧ g ≠ gm) ∧ Hid (MB gm m.ins E1 E2 vN vO ((Mac.minI m).next.take k) ((Mac.minI m).out.take k) wr) ∧ Hid (Below w2.heap.size w2 wr)) (fun _ i _ => 9 - (intOf i).toNat)
 case atStart => exact ⟨_, 0, [0], _, _, _, _, rfl, rfl, HBs, HOr, Lib.hid (fun g hg => ⟨id, id, by have := Option.some.inj hg; simp only at this; omega⟩), HMB0, HBf⟩
 case round =>
  obtain ⟨vv, k, L, E1, E2, vN, vO, hvv, rfl, HB, Ho, HNo, HMB, Hb⟩ := hrel
  subst hvv
  clear HOr HMB0 HBf HBs
  have hzb := Hb.out.size
  have hL8 := HB.out.len
  have hkL := HB.out.kl
  by_cases hlt : k < L.length
  ·have hdk : decide (k < L.length) = true := decide_eq_true hlt
   obtain ⟨s, hs⟩ := at_some hlt
   have hsN := HB.out.lt s (List.mem_of_getElem? hs)
   obtain ⟨gO, cO, hvO, hgO, hgO2, hcO, hcOm⟩ := own_open Ho.out (by omega)
   subst hvO
   unfold maxLen at hcOm
   obtain ⟨u0, hu0, hcellO, -⟩ := own_slot Ho.out (j := k) (by omega)
   have hu : u0 = .int .i64 (s : Nat) := by
    unfold nints ints nats at hu0
    rw [List.getElem?_map, List.getElem?_map, hs] at hu0
    exact (Option.some.inj hu0).symm
   subst hu
   obtain ⟨rr, -, -, er, lr, -⟩ := HSG.out s 0 hsN hp1
   obtain ⟨un, uo, huv, rn, ro⟩ := HC2.out
   simp only [Value.agg.injEq, Array.mk.injEq, List.cons.injEq, and_true, true_and] at huv
   obtain ⟨rfl, rfl⟩ := huv
   obtain ⟨bn, on, Bn, mn, hAn, hbn, hcn0, hn1, hn2, hrn⟩ := ss_open rn (Below.refl _ _) er
   obtain ⟨hxN, qq, eq, lq, hxO⟩ := HMR.out L k s HB.out hs
   obtain ⟨bo, oo, Bo, mo, hAo, hbo, hco0, ho1, ho2, hro⟩ := ss_open ro (Below.refl _ _) eq
   rw [lr] at hcn0 hn1
   rw [lq] at hco0 ho1
   unfold maxLen at hn2 ho2
   subst hAn hAo
   obtain ⟨hSl, hSc⟩ := HSL.out s hsN
   have HSG2 : Hid (∀ j, j < M → ∃ y c : Nat, rr[j]? = some ((y : Nat) : Int) ∧ y < m.next.length ∧ C[y]? = some c ∧ (Mac.succL m.next C s)[j]? = some c ∧ c < m.next.length) := Lib.hid fun j hj => by
    obtain ⟨r', y, c, g1, g2, g3, g4, g5, g6, g7⟩ := HSG.out s j hsN hj
    rw [er] at g1
    obtain rfl := Option.some.inj g1
    exact ⟨y, c, g3, g4, g5, g6, g7⟩
   have HLe : Hid (∀ j, (Mac.pushesG L ((Mac.succL m.next C s).take j)).length ≤ m.next.length) := Lib.hid fun j => Mac.nodup_lt _ _ (Mac.pushesG_nodup _ HB.out.nd) (fun x hx => ((Mac.mem_pushesG _ _).1 hx).elim (HB.out.lt x) (fun h => hSc x (List.mem_of_mem_take h)))
   have HStep := Lib.hid (HB.out.step s4 hs hSc)
   have HXN := Lib.hid hxN
   have HXO := Lib.hid hxO
   have HRn := Lib.hid hrn
   have HRo := Lib.hid hro
   have Hlr := Lib.hid lr
   have Hlq := Lib.hid lq
   have Hs := Lib.hid hs
   have HCn := Lib.hid hcn0
   have HCo := Lib.hid hco0
   obtain ⟨S, hS⟩ : ∃ S, Mac.succL m.next C s = S := ⟨_, rfl⟩
   rw [hS] at HSG2 HLe HStep HXN hSl
   have HSl := Lib.hid hSl
   obtain ⟨z, p0, p1, p2⟩ := PC2.out.below Hb.out
   have hcn := (Hb.out.cell (p := ⟨bn, on + s, none⟩) hbn).trans hcn0
   have hmn : decide (s < m.next.length) = true := decide_eq_true hsN
   clear rn ro er eq lr lq hxN hxO hrn hro hSl hSc hu0 hs hS hcn0 hco0
   go_wp2_with fail
   go_quiet (fail)
   go_wp2_with fail
   have HD := Lib.hid (Drew.by wr nq)
   generalize wr.drewN nq = Wk at *
   have hbk := HD.out.below wr.heap.size
   have zk := HD.out.size
   have HoK := Lib.hid (own_below Ho.out hbk)
   have HMBk := Lib.hid (HMB.out.below hbk)
   have Hbk := Lib.hid (Hb.out.trans (HD.out.below w2.heap.size))
   have hgmk := mb_lt HMBk.out
   have hNO := HNo.out gO rfl
   have HNO := Lib.hid hNO
   clear hbk HD Ho HMB Hb HNo hNO hcellO hcn p0 p1 p2 z
   obtain ⟨Wr, hWr⟩ : ∃ Wr, Wr = wr := ⟨_, rfl⟩
   subst hWr
   go_loopw [4, 7, 42] (fun vo vx i wi => ∃ (v1 v2 : Value) (j : Nat), v1 = vo ∧ v2 = vx ∧ i = .int .i64 j ∧ j ≤ M ∧ Hid (wi.ownsRow w2.heap.size 3 1 vo (Mac.pushesG L (S.take j)).length (nints (Mac.pushesG L (S.take j)))) ∧ Hid (wi.ownsRow Wk.heap.size 3 1 vx j (nints (Mac.partRow L S j))) ∧ Hid (Apart vx vo) ∧ Hid (∀ g, vo.ownBlock = some g → g = gO ∨ Wk.heap.size ≤ g) ∧ Hid (Only (· = gO) Wk wi)) (fun _ _ i _ => M - (intOf i).toNat)
   case atStart => exact ⟨_, _, 0, rfl, rfl, rfl, Nat.zero_le _, HoK, Lib.hid (World.ownsRow_nil _ _ _ _), Lib.hid (fun g h => by simp [Value.ownBlock] at h), Lib.hid (fun g hg => .inl (by have := Option.some.inj hg; simp only at this; omega)), Lib.hid (Only.refl _ _)⟩
   case round =>
    obtain ⟨v1, v2, j, h1, h2, rfl, hj, Hov, Hxv, Hap, Hloc, HO⟩ := hrel
    subst h1 h2
    clear HoK
    have hzi := HO.out.size
    have HbI := Lib.hid (Only.below Hbk.out HO.out (by omega) (fun g hg => by omega))
    by_cases hlj : j < M
    ·have hdj : decide (j < M) = true := decide_eq_true hlj
     obtain ⟨y, c, hy, hyN, hCy, hSj, hcN⟩ := HSG2.out j hlj
     obtain ⟨b1, o1, rfl, hb1, hcy0⟩ := ints_row HRn.out rfl hy
     have hcy := (HbI.out.cell (p := ⟨b1, o1 + j, none⟩) hb1).trans hcy0
     have hcC := (HbI.out.cell (p := ⟨gC, y, none⟩) hgC2).trans (HCC.out y c hCy)
     have hyd : decide (y < m.next.length) = true := decide_eq_true hyN
     have hI := index_any v1 (Mac.pushesG L (S.take j)) c wr (own_nats Hov.out) (by omega)
     rw [Mac.idxOf_G] at hI
     have hPR := Mac.partRow_snoc (L := L) hSj
     have hLS : Mac.pushesG L (S.take (j + 1)) = Mac.pushG (Mac.pushesG L (S.take j)) c := by rw [take_snoc hSj, Mac.pushesG_snoc]
     have hLl := HLe.out j
     have hLl1 := HLe.out (j + 1)
     clear hy hCy hSj hcy0
     by_cases hmem : c ∈ Mac.pushesG L (S.take j)
     ·rw [if_pos hmem] at hI hPR
      rw [show Mac.pushG (Mac.pushesG L (S.take j)) c = Mac.pushesG L (S.take j) from by unfold Mac.pushG; rw [if_pos hmem]] at hLS
      have hql := (Mac.idxG_get hmem).2
      obtain ⟨q, hq⟩ : ∃ q, Mac.idxG (Mac.pushesG L (S.take j)) c = q := ⟨_, rfl⟩
      rw [hq] at hI hPR hql
      have HI := Lib.hid hI
      have HPR : Hid (nints (Mac.partRow L S (j + 1)) = nints (Mac.partRow L S j) ++ [.int .i64 (q : Int)]) := Lib.hid (by rw [hPR, nints_snoc])
      have HLS := Lib.hid hLS
      have hq0 : decide ((q : Int) < 0) = false := decide_eq_false (by omega)
      have Hlit := Lib.hid (Row.of_own (World.ownsRow_lit (base := wr.heap.size) (e := 3) (size := 1) wr #[.int .i64 q] 1 (Nat.le_refl _) (by unfold maxLen; omega) rfl))
      obtain ⟨LJ, hLJ⟩ : ∃ LJ, Mac.pushesG L (S.take j) = LJ := ⟨_, rfl⟩
      rw [hLJ] at Hov hLl hql HLS
      have HLJ := Lib.hid hLJ
      obtain ⟨A1, c1, hv1⟩ := slice_of_own Hov.out
      subst hv1
      clear hI hPR hLS hmem hq hLJ
      go_wp2_with fail
      refine HI.out.mono ?_
      rintro e w' ⟨rfl, rfl⟩
      go_wp2_with (at_builtin; refine append_ints rfl (.tmp 63) (.tmp 65) rfl Wk.heap.size _ j _ rfl (Hxv.out.alloc _) _ 1 [.int .i64 q] rfl Hlit.out (by simp [Value.oneCell']) (by omega) (by simp <;> omega) ?_; intro v7 w7 hown7 hg7 hat7; have Hx7 := Lib.hid hown7; have Hat7 := Lib.hid hat7; have Ho7 := Lib.hid (own_kept (Hov.out.alloc (.cells #[.int .i64 q] 3)) hg7 (fun g h1 h2 => Hap.out g h2 h1)); have Ha7 := Lib.hid (apart_new Hap.out hat7 (fun g hg => by have := ((Hov.out.alloc (.cells #[.int .i64 q] 3)).lt g hg).2; exact this)); have HO7 := Lib.hid (Only.aftZ (HO.out.trans (Only.of_below _ (bel_new wr (.cells #[.int .i64 q] 3)))) (Only.grown hg7 (fun g hg => hg)) (fun g hg => .inl (Hxv.out.lt g hg).1)); clear hown7 hg7 hat7)
      go_roundw
      case rel => exact ⟨_, _, j + 1, rfl, rfl, by go_num, by omega, Lib.hid (by rw [HLS.out]; exact Ho7.out), Lib.hid (by rw [HPR.out]; exact Hx7.out), Ha7, Hloc, HO7⟩
      case measure => simp [intOf] <;> omega
     ·rw [if_neg hmem] at hI hPR
      rw [show Mac.pushG (Mac.pushesG L (S.take j)) c = Mac.pushesG L (S.take j) ++ [c] from by unfold Mac.pushG; rw [if_neg hmem]] at hLS
      have HI := Lib.hid hI
      obtain ⟨LJ, hLJ⟩ : ∃ LJ, Mac.pushesG L (S.take j) = LJ := ⟨_, rfl⟩
      rw [hLJ] at Hov hLl hLS hPR
      obtain ⟨q, hq⟩ : ∃ q, LJ.length = q := ⟨_, rfl⟩
      have HPR : Hid (nints (Mac.partRow L S (j + 1)) = nints (Mac.partRow L S j) ++ [.int .i64 (LJ.length : Int)]) := Lib.hid (by rw [hPR, nints_snoc])
      have HLS := Lib.hid hLS
      have HLl : Hid ((Mac.pushesG L (S.take (j + 1))).length = LJ.length + 1) := Lib.hid (by rw [hLS, List.length_append]; rfl)
      have HLn : Hid (nints (Mac.pushesG L (S.take (j + 1))) = nints LJ ++ [.int .i64 (c : Int)]) := Lib.hid (by rw [hLS, nints_snoc])
      have HLJ := Lib.hid hLJ
      have Hlit := Lib.hid (Row.of_own (World.ownsRow_lit (base := wr.heap.size) (e := 3) (size := 1) wr #[.int .i64 c] 1 (Nat.le_refl _) (by unfold maxLen; omega) rfl))
      obtain ⟨A1, c1, hv1⟩ := slice_of_own Hov.out
      subst hv1
      clear hI hPR hLS hmem hLJ hq
      go_wp2_with fail
      refine HI.out.mono ?_
      rintro e w' ⟨rfl, rfl⟩
      go_wp2_with (first
       | (at_builtin; refine append_ints rfl (.tmp 56) (.tmp 61) rfl w2.heap.size _ LJ.length _ rfl (Hov.out.alloc _) _ 1 [.int .i64 c] rfl Hlit.out (by simp [Value.oneCell']) (by omega) (by simp <;> omega) ?_; intro v7 w7 hown7 hg7 hat7; have Ho7 := Lib.hid hown7; have Hat7 := Lib.hid hat7; have Hx7 := Lib.hid (own_kept (Hxv.out.alloc (.cells #[.int .i64 c] 3)) hg7 (fun g h1 h2 => Hap.out g h1 h2)); have Ha7 := Lib.hid (Apart.symm (apart_new (Apart.symm Hap.out) hat7 (fun g hg => by have := ((Hxv.out.alloc (.cells #[.int .i64 c] 3)).lt g hg).2; exact this))); have HO7 := Lib.hid (Only.aftZ (HO.out.trans (Only.of_below _ (bel_new wr (.cells #[.int .i64 c] 3)))) (Only.grown hg7 (fun g hg => hg)) (fun g hg => (Hloc.out g hg).elim .inr .inl)); have Hlit2 := Lib.hid (Row.of_own (World.ownsRow_lit (base := w7.heap.size) (e := 3) (size := 1) w7 #[.int .i64 LJ.length] 1 (Nat.le_refl _) (by unfold maxLen; omega) rfl)); have hz7 := hg7.size; rw [World.size_alloc] at hz7; clear hown7 hg7 hat7)
       | (at_builtin; refine append_ints rfl (.tmp 63) (.tmp 65) rfl Wk.heap.size _ j _ rfl (Hx7.out.alloc _) _ 1 [.int .i64 LJ.length] rfl Hlit2.out (by simp [Value.oneCell']) (by omega) (by simp <;> omega) ?_; intro v9 w9 hown9 hg9 hat9; have Hx9 := Lib.hid hown9; have Ho9 := Lib.hid (own_kept (Ho7.out.alloc (.cells #[.int .i64 LJ.length] 3)) hg9 (fun g h1 h2 => Ha7.out g h2 h1)); have Ha9 := Lib.hid (apart_new Ha7.out hat9 (fun g hg => by have := ((Ho7.out.alloc (.cells #[.int .i64 LJ.length] 3)).lt g hg).2; exact this)); have HO9 := Lib.hid (Only.aftZ (HO7.out.trans (Only.of_below _ (bel_new w7 (.cells #[.int .i64 LJ.length] 3)))) (Only.grown hg9 (fun g hg => hg)) (fun g hg => .inl (Hx7.out.lt g hg).1)); clear hown9 hg9 hat9))
      go_roundw
      case rel => exact ⟨_, _, j + 1, rfl, rfl, by go_num, by omega, Lib.hid (by rw [HLl.out, HLn.out]; exact Ho9.out), Lib.hid (by rw [HPR.out]; exact Hx9.out), Ha9, Lib.hid (fun g hg => by
        rcases Hat7.out with h | h
        ·exact Hloc.out g (h.symm.trans hg)
        ·have := Option.some.inj (hg.symm.trans h)
         rw [World.size_alloc] at this
         omega), HO9⟩
      case measure => simp [intOf] <;> omega
    ·obtain rfl : j = M := by omega
     have hdj : decide (j < j) = false := decide_eq_false (by omega)
     have hfull : Mac.pushesG L (S.take j) = Mac.pushesG L S := by rw [List.take_of_length_le (by have := HSl.out; omega)]
     have hLn := HLe.out j
     have hov := Hov.out
     rw [hfull] at hov hLn
     have hpl : (nats (Mac.partRow L S j)).length = j := by rw [nats_length, Mac.partRow_len, HSl.out]; omega
     have HPL := Lib.hid hpl
     have Lpos : 0 < (Mac.pushesG L S).length := by
      have h0 := List.mem_of_getElem? Hs.out
      have := (Mac.mem_pushesG S L).2 (.inl h0)
      exact List.length_pos_of_mem this
     obtain ⟨gP, cP, hvP, hgP, hgP2, hcP, hcPm⟩ := own_open hov Lpos
     obtain ⟨ga, ca, hva, hga, hga2, hca, hcam⟩ := own_open Hxv.out (by omega)
     subst hvP hva
     unfold maxLen at hcPm hcam
     have HMB5 := Lib.hid (HMBk.out.grown HO.out.grownBy (fun e => by have := Option.some.inj e; have := HNO.out.2.2; omega) (fun g hg he => HNO.out.1 (by have := Option.some.inj hg; rw [this]; exact he)) (fun g hg he => HNO.out.2.1 (by have := Option.some.inj hg; rw [this]; exact he)))
     have hPn : Hid (gP ≠ gm ∧ ¬ E1 gP ∧ ¬ E2 gP) := Lib.hid (by
      rcases Hloc.out gP rfl with h | h
      ·rw [h]; exact ⟨HNO.out.2.2, HNO.out.1, HNO.out.2.1⟩
      ·exact ⟨by omega, fun he => by have := HMBk.out.l1 gP he; omega, fun he => by have := HMBk.out.l2 gP he; omega⟩)
     have Na1 : Hid (∀ g, (Value.slice (some ⟨ga, 0, none⟩) j ca).ownBlock = some g → ¬ E1 g ∧ ¬ E2 g) := Lib.hid fun g hg => ⟨fun he => by have h1 := HMBk.out.l1 g he; have h2 := (Hxv.out.lt g hg).1; omega, fun he => by have h1 := HMBk.out.l2 g he; have h2 := (Hxv.out.lt g hg).1; omega⟩
     have hgaP : ga ≠ gP := fun e => Hap.out ga rfl (by rw [e]; rfl)
     have Oa5 : Hid (wr.ownsRow (gm + 1) 3 1 (.slice (some ⟨ga, 0, none⟩) j ca) (nats (Mac.partRow L S j)).length (ints (nats (Mac.partRow L S j)))) := Lib.hid (by rw [HPL.out]; exact own_mono Hxv.out (by omega))
     have HOv := Lib.hid hov
     have hcs : Hid (∀ w', Below w2.heap.size w2 w' → w'.cell? ⟨w.heap.size, 2, none⟩ = some (.slice (some ⟨bo, oo, none⟩) m.out.length co) ∧ w'.cell? ⟨bo, oo + s, none⟩ = some (.slice Bo j mo)) := Lib.hid fun w' hb => by
      obtain ⟨-, -, -, x2⟩ := PC2.out.below hb
      exact ⟨x2, (hb.cell (p := ⟨bo, oo + s, none⟩) hbo).trans HCo.out⟩
     have hkP : k < (Mac.pushesG L S).length := by
      obtain ⟨mm, hmm⟩ := Mac.pushesG_prefix S L
      rw [hmm, List.length_append]; omega
     have hget : (nints (Mac.pushesG L S))[k]? = some (.int .i64 (s : Nat)) := by
      obtain ⟨mm, hmm⟩ := Mac.pushesG_prefix S L
      unfold nints ints nats
      rw [List.getElem?_map, List.getElem?_map, hmm, List.getElem?_append_left (by omega), Hs.out]
      rfl
     have HGet := Lib.hid hget
     have hso : s < m.out.length := by have := S5.out; omega
     have hx1 : ((Mac.minI m).next.take k).length = k ∧ ((Mac.minI m).out.take k).length = k := by
      have h1 := congrArg List.length HXN.out
      have h2 := congrArg List.length HXO.out
      simp only [List.length_take, List.length_append, List.length_singleton] at h1 h2 ⊢
      omega
     have Hl1 := Lib.hid hx1.1
     have Hl2 := Lib.hid hx1.2
     have HMl := HMB5.out.below (bel_new wr (.cells #[.slice (some ⟨ga, 0, none⟩) j ca] 23))
     obtain ⟨us, q1, q2, q3, q4, q5, q6, q7⟩ := HMl.n
     rw [hx1.1] at q1 q2
     have Q2 := Lib.hid q2
     have HML := Lib.hid HMl
     have Q := Lib.hid (And.intro q1 (And.intro q3 (And.intro q4 (And.intro q5 (And.intro q6 q7)))))
     have Oal := Lib.hid (Oa5.out.alloc (.cells #[.slice (some ⟨ga, 0, none⟩) j ca] 23))
     have Hlit := Lib.hid (Row.of_own (World.ownsRow_lit (base := wr.heap.size) (e := 23) (size := 1) wr #[.slice (some ⟨ga, 0, none⟩) j ca] 1 (Nat.le_refl _) (by unfold maxLen; omega) rfl))
     have hgm5 := mb_lt HMB5.out
     obtain ⟨k0, k1, k2, k3, k4⟩ := HMB5.out.cells
     obtain ⟨LP, hLP⟩ : ∃ LP, Mac.pushesG L S = LP := ⟨_, rfl⟩
     rw [hLP] at HOv HStep HGet hcP hkP hLn Lpos ⊢
     have hlP : decide (k < LP.length) = true := decide_eq_true hkP
     have hgmw : w.heap.size ≠ gm := by omega
     clear hfull hpl hget hx1 HMl q1 q2 q3 q4 q5 q6 q7 hov Hov Hxv HMBk hLP HMD HMR HSG HSL HSG2
     go_wp2_with (at_builtin; refine append_intss rfl (.tmp 69) (.tmp 71) rfl (gm + 1) vN k us rfl Q2.out _ 1 [.slice (some ⟨ga, 0, none⟩) j ca] rfl Hlit.out (by simp [Value.oneCell']) (by omega) (by first | omega | (simp <;> omega)) ?_; intro v7 w7 hown7 hg7 hat7; obtain ⟨A7, c7, hv7⟩ := slice_of_own hown7; subst hv7; have HMB7 := Lib.hid (MB.addN HML.out (Q.out.1.trans Hl1.out.symm) Q.out.2.1 Q.out.2.2.1 Q.out.2.2.2.1 Q.out.2.2.2.2.1 Q.out.2.2.2.2.2 Oal.out (fun g hg => (Na1.out g hg).1) (fun g hg => (Na1.out g hg).2) (by rw [Hl1.out]; exact hown7) hg7 hat7); have hbx := (hg7.block gm (mb_lt HML.out) (fun e => by obtain ⟨_, _, p2, _⟩ := HML.out.n; have := (p2.lt _ e.symm).1; omega)).trans HML.out.box; have x1 := blk_cell hbx 1; have y1 := blk_free hbx 1; have Hg7 := Lib.hid hg7; have Hat7 := Lib.hid hat7; clear hown7 hg7 hat7 hbx)
     have hV7 : Hid (∀ g, vN.ownBlock = some g → E1 g) := Lib.hid (Q.out.2.2.2.2.1)
     have hz7 := Hg7.out.size
     rw [World.size_alloc] at hz7
     have hox : Only (· = gm) w7 (w7.setCell ⟨gm, 1, none⟩ (.slice A7 (k + 1) c7)) := Only.grown (set_grown w7 gm 1 _) (fun g hg => (Option.some.inj hg).symm)
     have HOv8 := Lib.hid (own_only (own_kept (HOv.out.alloc (.cells #[.slice (some ⟨ga, 0, none⟩) j ca] 23)) Hg7.out (fun g hg e => hPn.out.2.1 (by have h1 := Option.some.inj hg; simp only at h1; rw [h1]; exact hV7.out g e))) hox (fun g hg e => hPn.out.1 (by have h1 := Option.some.inj hg; simp only at h1; rw [h1]; exact e)))
     have Hb8 := Lib.hid (Only.below ((HbI.out.alloc HbI.out.size (.cells #[.slice (some ⟨ga, 0, none⟩) j ca] 23)).grown Hg7.out (by simp <;> omega) (fun q hq => by have := (Q2.out.lt q hq).1; omega)) hox (by omega) (fun g hg => by omega))
     have hz8 : wr.heap.size + 1 ≤ (w7.setCell ⟨gm, 1, none⟩ (.slice A7 (k + 1) c7)).heap.size := Nat.le_trans hz7 hox.size
     have hPE : Hid (¬ (E1 gP ∨ (Value.slice (some ⟨ga, 0, none⟩) j ca).ownBlock = some gP ∨ (Value.slice A7 (k + 1) c7).ownBlock = some gP)) := Lib.hid (by
      rintro (h | h | h)
      ·exact hPn.out.2.1 h
      ·have := Option.some.inj h; simp only at this; exact hgaP this
      ·rcases Hat7.out with h2 | h2
       ·exact hPn.out.2.1 (hV7.out gP (h2.symm.trans h))
       ·have h3 := Option.some.inj (h.symm.trans h2)
        rw [World.size_alloc] at h3
        omega)
     have hA7 : Hid (∀ g, (E1 g ∨ (Value.slice (some ⟨ga, 0, none⟩) j ca).ownBlock = some g ∨ (Value.slice A7 (k + 1) c7).ownBlock = some g) → g < (w7.setCell ⟨gm, 1, none⟩ (.slice A7 (k + 1) c7)).heap.size) := Lib.hid HMB7.out.l1
     clear hox x1 y1 k0 k1 k2 k3 k4 Hat7 Q Q2 Oal HML Hlit hz7 Oa5
     generalize w7.setCell ⟨gm, 1, none⟩ (.slice A7 (k + 1) c7) = W8 at *
     obtain ⟨E3, hE3⟩ : ∃ E3 : Nat → Prop, (fun g => E1 g ∨ (Value.slice (some ⟨ga, 0, none⟩) j ca).ownBlock = some g ∨ (Value.slice A7 (k + 1) c7).ownBlock = some g) = E3 := ⟨_, rfl⟩
     have HMB8 : Hid (MB gm m.ins E3 E2 (.slice A7 (k + 1) c7) vO ((Mac.minI m).next.take (k + 1)) ((Mac.minI m).out.take k) W8) := Lib.hid (by rw [← hE3, HXN.out]; exact HMB7.out)
     have hPE3 : Hid (¬ E3 gP) := Lib.hid (by rw [← hE3]; exact hPE.out)
     clear HMB7 hE3 hPE hA7
     obtain ⟨us2, t1, t2, t3, t4, t5, t6, t7⟩ := HMB8.out.o
     rw [Hl2.out] at t1 t2
     have T2 := Lib.hid t2
     have TQ := Lib.hid (And.intro t1 (And.intro t3 (And.intro t4 (And.intro t5 (And.intro t6 t7)))))
     obtain ⟨u0, hu0, hcellP, -⟩ := own_slot HOv8.out (j := k) (by omega)
     rw [HGet.out] at hu0
     obtain rfl := Option.some.inj hu0
     have hgm8 := mb_lt HMB8.out
     obtain ⟨-, -, kk2, -, kf2⟩ := HMB8.out.cells
     have hgP8 := (HOv8.out.lt gP rfl).2
     have HKP : Hid (∀ w', Below W8.heap.size W8 w' → w'.cell? ⟨gm, 2, none⟩ = some vO ∧ w'.cell? ⟨w.heap.size, 2, none⟩ = some (.slice (some ⟨bo, oo, none⟩) m.out.length co) ∧ w'.cell? ⟨gP, k, none⟩ = some (.int .i64 s) ∧ w'.cell? ⟨bo, oo + s, none⟩ = some (.slice Bo j mo)) := Lib.hid fun w' hb => by
      obtain ⟨x1, x2⟩ := hcs.out w' (Hb8.out.trans (hb.mono Hb8.out.size))
      exact ⟨(hb.cell (p := ⟨gm, 2, none⟩) hgm8).trans kk2, x1, (hb.cell (p := ⟨gP, k, none⟩) hgP8).trans hcellP, x2⟩
     have HRo8 : Hid (∀ w', Below W8.heap.size W8 w' → Row w' 1 (.slice Bo j mo) j (ints qq)) := Lib.hid fun w' hb => by
      have := HRo.out.below (Hb8.out.trans (hb.mono Hb8.out.size))
      rwa [Hlq.out] at this
     obtain ⟨i0, hi0, hz0, hz1, hz2⟩ := info_parts info_ints
     have hd0 : Below W8.heap.size W8 W8.drew := (Below.refl W8.heap.size W8).drew
     obtain ⟨d1, d2, d3, d4⟩ := HKP.out _ hd0
     have Hd0 := Lib.hid hd0
     have hsod : decide (s < m.out.length) = true := decide_eq_true hso
     clear t1 t2 t3 t4 t5 t6 t7 hu0 hcellP kk2 kf2 hd0
     go_region_law (first
      | (refine step_callZ (by simp [Region.wanted, yielded, Act.put]) (f := 68) (vs := #[.slice Bo j mo]) (R := fun v w' => w'.ownsRow W8.heap.size 3 1 v j (ints qq) ∧ Below W8.heap.size W8 w') (by go_simp) ((cloneI_any (.slice Bo j mo) j (ints qq) _ (HRo8.out _ Hd0.out) (ints_one _) (by omega)).mono (fun e w' ⟨v', he, h1, h2⟩ => ⟨v', he, h1, Hd0.out.trans h2⟩)) ?_; rintro v3 w3 ⟨hown3, hb3⟩; obtain ⟨A3, c3, hv3⟩ := slice_of_own hown3; subst hv3; obtain ⟨e1, e2, e3, e4⟩ := HKP.out _ hb3; obtain ⟨f1, f2, f3, f4⟩ := HKP.out _ (hb3.alloc hb3.size (.cells #[.slice A3 j c3] 23)))
      | (refine step_appZ (by simp [Region.wanted, yielded, Act.put]) (.tmp 75) (.tmp 85) 51 rfl (gm + 1) 23 i0 _ 1 24 Try.underlying51 hi0 hz0 hz1 hz2 rfl (by decide) vO k us2 (by simp [Act.eval, Act.put]) (own_below T2.out (hb3.alloc hb3.size (.cells #[.slice A3 j c3] 23))) (.slice (some ⟨w3.heap.size, 0, none⟩) 1 1) 1 [.slice A3 j c3] (by simp [Act.eval, Act.put]) (Row.of_own (World.ownsRow_lit (base := w3.heap.size) (e := 23) (size := 1) w3 #[.slice A3 j c3] 1 (Nat.le_refl _) (by unfold maxLen; omega) rfl)) (by simp [Value.oneCell']) (by unfold maxLen; omega) (by omega) (by have := hb3.size; simp <;> omega) ?_; intro v9 w9 hown9 hg9 hat9; obtain ⟨A9, c9, hv9⟩ := slice_of_own hown9; subst hv9; have HMB9 := Lib.hid (MB.addO (u := .slice A3 j c3) (x := qq) (HMB8.out.below (hb3.alloc hb3.size (.cells #[.slice A3 j c3] 23))) (TQ.out.1.trans Hl2.out.symm) (fun i x u hx hu => own_below (TQ.out.2.1 i x u hx hu) (hb3.alloc hb3.size (.cells #[.slice A3 j c3] 23))) TQ.out.2.2.1 TQ.out.2.2.2.1 TQ.out.2.2.2.2.1 TQ.out.2.2.2.2.2 (by rw [Hlq.out]; exact own_mono (hown3.alloc (.cells #[.slice A3 j c3] 23)) (by omega)) (fun g hg he => by have h1 := (hown3.lt g hg).1; have h2 := HMB8.out.l1 g he; omega) (fun g hg he => by have h1 := (hown3.lt g hg).1; have h2 := HMB8.out.l2 g he; omega) (by rw [Hl2.out]; exact hown9) hg9 hat9); have hbx := (hg9.block gm (by have := hb3.size; simp <;> omega) (fun e => by have := (T2.out.lt _ e.symm).1; omega)).trans ((hb3.alloc hb3.size (.cells #[.slice A3 j c3] 23)).block gm hgm8 |>.trans HMB8.out.box); have x2 := blk_cell hbx 2; have y2 := blk_free hbx 2))
     all_goals
      have HOv9 := Lib.hid (own_only (own_kept (own_below HOv8.out (hb3.alloc hb3.size (.cells #[.slice A3 j c3] 23))) hg9 (fun g hg e => hPn.out.2.2 (by have h1 := Option.some.inj hg; simp only at h1; rw [h1]; exact TQ.out.2.2.2.2.1 g e))) (Only.grown (E := (· = gm)) (set_grown w9 gm 2 (.slice A9 (k + 1) c9)) (fun g hg => (Option.some.inj hg).symm)) (fun g hg e => hPn.out.1 (by have h1 := Option.some.inj hg; simp only at h1; rw [h1]; exact e)))
      have HNo9 : Hid (∀ g, (Value.slice (some ⟨gP, 0, none⟩) LP.length cP).ownBlock = some g → ¬ E3 g ∧ ¬ (E2 g ∨ (Value.slice A3 j c3).ownBlock = some g ∨ (Value.slice A9 (k + 1) c9).ownBlock = some g) ∧ g ≠ gm) := Lib.hid (fun g hg => by
       have h1 := Option.some.inj hg
       simp only at h1
       subst h1
       refine ⟨hPE3.out, ?_, hPn.out.1⟩
       rintro (h | h | h)
       ·exact hPn.out.2.2 h
       ·have h2 := (hown3.lt gP h).1; omega
       ·rcases hat9 with h2 | h2
        ·exact hPn.out.2.2 (TQ.out.2.2.2.2.1 gP (h2.symm.trans h))
        ·have h3 := Option.some.inj (h.symm.trans h2)
         have h4 := hb3.size
         rw [World.size_alloc] at h3
         omega)
      have HB9 := Lib.hid (Only.below (((Hb8.out.trans (hb3.mono Hb8.out.size)).alloc (Nat.le_trans Hb8.out.size hb3.size) (.cells #[.slice A3 j c3] 23)).grown hg9 (by have h4 := hb3.size; have h5 := Hb8.out.size; simp <;> omega) (fun q hq => by have := (T2.out.lt q hq).1; omega)) (Only.grown (E := (· = gm)) (set_grown w9 gm 2 (.slice A9 (k + 1) c9)) (fun g hg => (Option.some.inj hg).symm)) (by have h4 := hb3.size; have h5 := hg9.size; have h6 := Hb8.out.size; rw [World.size_alloc] at h5; omega) (fun g hg => by omega))
      clear hown3 hown9 hg9 hat9 hb3 hbx x2 y2
      go_wp2_with fail
      go_roundw
      case rel => exact ⟨_, k + 1, LP, _, _, _, _, rfl, by go_num, HStep, HOv9, HNo9, Lib.hid (by rw [HXO.out]; exact HMB9.out), HB9⟩
      case measure => simp [intOf] <;> omega
  ·obtain rfl : k = L.length := by omega
   have hdk : decide (L.length < L.length) = false := decide_eq_false (by omega)
   obtain ⟨hd1, hd2⟩ := HMD.out L HB.out
   have HMf : Hid (MB gm m.ins E1 E2 vN vO (Mac.minI m).next (Mac.minI m).out wr) := Lib.hid (by have := HMB.out; rwa [hd1, hd2] at this)
   obtain ⟨A1, c1, hv1⟩ := slice_of_own Ho.out
   subst hv1
   obtain ⟨k0, k1, k2, k3, k4⟩ := HMf.out.cells
   have hR := (Hb.out.block (w.heap.size + 1) (by omega)).trans HRes2.out
   have o0 := blk_cell hR 0
   have o1 := blk_cell hR 1
   have o2 := blk_cell hR 2
   have b0 := blk_free hR 0
   have b1 := blk_free hR 1
   have b2 := blk_free hR 2
   simp at o0 o1 o2
   have HB9 := Lib.hid (B2.out.trans (Hb.out.mono B2.out.size))
   obtain ⟨An', cn', hvN, -, -⟩ := SSAt.shape (OwnSE.at HMf.out.n)
   obtain ⟨Ao', co', hvO, -, -⟩ := SSAt.shape (OwnSE.at HMf.out.o)
   have HMF2 := Lib.hid (And.intro HMf.out.n (And.intro HMf.out.o HMf.out.d))
   have HlN := Lib.hid HMf.out.l1
   have HlO := Lib.hid HMf.out.l2
   have HinsE := Lib.hid (Mac.min_ins Hv.out)
   have Hsz : Hid (w.heap.size + 1 < gm) := Lib.hid (by omega)
   clear hR HMf HMB hd1 hd2 HMD HMR HSG HSL
   subst hvN hvO
   go_wp2_with fail
   refine bodyPost_ret (v := .agg #[.int .i64 m.ins, .slice An' (Mac.minI m).next.length cn', .slice Ao' (Mac.minI m).out.length co']) (by simp [results, Try.results25, go_sem, o0, o1, o2]) rfl ⟨_, rfl, ⟨_, _, E1, E2, by rw [HinsE.out], fun g he => ?_, fun g he => ?_, HMF2.out.2.2, ?_, ?_⟩, ?_⟩
   ·have h1 := HlN.out g he; simp [World.setCell]; omega
   ·have h1 := HlO.out g he; simp [World.setCell]; omega
   ·exact OwnSE.mono (((OwnSE.set (OwnSE.set (OwnSE.set HMF2.out.1 (by have := Hsz.out; omega)) (by have := Hsz.out; omega)) (by have := Hsz.out; omega)))) (by have := Hsz.out; omega) (fun _ h => h)
   ·exact OwnSE.mono (((OwnSE.set (OwnSE.set (OwnSE.set HMF2.out.2.1 (by have := Hsz.out; omega)) (by have := Hsz.out; omega)) (by have := Hsz.out; omega)))) (by have := Hsz.out; omega) (fun _ h => h)
   ·exact ((HB9.out.setCell (by simp only; omega) _).setCell (by simp only; omega) _).setCell (by simp only; omega) _
theorem implMinz_any (v : Value) (m : Mz) (w : World) (h : MachAt w v m) :
  Calls Try.prog 25 #[v] w (OwnMachZ (Mac.minI m) w) := by
 cases hv : Mac.valid m
 ·have HC := Lib.hid h
  obtain ⟨An, cn, Ao, co, rfl, hcnm, hcom, hcn1, hco1⟩ := h.shape
  have hb0 := bel_new w (.cells #[.int .i64 m.ins, .slice An m.next.length cn, .slice Ao m.out.length co] 53)
  have hb00 := bel_new (w.alloc (.cells #[.int .i64 m.ins, .slice An m.next.length cn, .slice Ao m.out.length co] 53)) (.cells #[.int .i64 0, .slice none 0 0, .slice none 0 0] 53)
  have B0 := Lib.hid (hb0.trans (hb00.mono hb0.size))
  have PC := Lib.hid ((MCells.boxed w m.ins (.slice An m.next.length cn) (.slice Ao m.out.length co) 53).below hb00)
  have hR : ((w.alloc (.cells #[.int .i64 m.ins, .slice An m.next.length cn, .slice Ao m.out.length co] 53)).alloc (.cells #[.int .i64 0, .slice none 0 0, .slice none 0 0] 53)).heap[w.heap.size + 1]? = some (.cells #[.int .i64 0, .slice none 0 0, .slice none 0 0] 53 (0, 0)) := by
   have := heap_alloc_new (w.alloc (.cells #[.int .i64 m.ins, .slice An m.next.length cn, .slice Ao m.out.length co] 53)) (.cells #[.int .i64 0, .slice none 0 0, .slice none 0 0] 53)
   rwa [World.size_alloc] at this
  have HRes := Lib.hid hR
  have hsz : ((w.alloc (.cells #[.int .i64 m.ins, .slice An m.next.length cn, .slice Ao m.out.length co] 53)).alloc (.cells #[.int .i64 0, .slice none 0 0, .slice none 0 0] 53)).heap.size = w.heap.size + 2 := by simp
  obtain ⟨z, p0, p1, p2⟩ := PC.out
  have HC0 := Lib.hid (HC.out.below B0.out)
  have HV := Lib.hid (implMValid_any _ m _ HC0.out)
  rw [hv] at HV
  have HE : Hid (Mac.minI m = ⟨0, [], []⟩) := Lib.hid (by unfold Mac.minI; rw [hv]; rfl)
  rw [HE.out]
  clear hv hb0 hb00 hR h HE
  go_enter Try.func25, Try.ntmps25
  go_wp2_with fail
  generalize (w.alloc (.cells #[.int .i64 m.ins, .slice An m.next.length cn, .slice Ao m.out.length co] 53)).alloc (.cells #[.int .i64 0, .slice none 0 0, .slice none 0 0] 53) = W at *
  refine HV.out.mono ?_
  rintro e w1 ⟨rfl, hb1⟩
  have B1 := Lib.hid (B0.out.trans (hb1.mono B0.out.size))
  have hR := (hb1.block _ (by omega)).trans HRes.out
  have z1 := hb1.size
  have o0 := blk_cell hR 0
  have o1 := blk_cell hR 1
  have o2 := blk_cell hR 2
  have b0 := blk_free hR 0
  have b1 := blk_free hR 1
  have b2 := blk_free hR 2
  simp at o0 o1 o2
  clear hb1 hR p0 p1 p2 z HV
  go_wp2_with fail
  refine bodyPost_ret (v := .agg #[.int .i64 0, .slice none 0 0, .slice none 0 0]) (by simp [results, Try.results25, go_sem, o0, o1, o2]) rfl ⟨_, rfl, ⟨_, _, (fun _ => False), (fun _ => False), rfl, fun g he => he.elim, fun g he => he.elim, fun g he => he.elim, OwnSE.nil _ _ _ _ _ _, OwnSE.nil _ _ _ _ _ _⟩, ?_⟩
  exact ((B1.out.setCell (by simp only; omega) _).setCell (by simp only; omega) _).setCell (by simp only; omega) _
 ·exact implMinz_ok v m w h hv
end Go.Proofs.Ytkkkjbinfdohpaa
namespace Go.Proofs.Ytkkkjbinfdohpaa
open Go.RowKit
theorem l29Alike_any (vm vc : Value) (m : Mz) (C : List Nat) (a b : Nat) (w : World) (h : MachAt w vm m) (hv : Mac.valid m = true) (hC : NatsAt w vc C) (hl : C.length = m.next.length) (ha : a < m.next.length) (hb : b < m.next.length) :
  Calls Try.prog 110 #[vm, vc, .int .i64 a, .int .i64 b] w fun e w' => e = .returned (.bool (decide (Mac.keyS m.next m.out C a = Mac.keyS m.next m.out C b))) ∧ Below w.heap.size w w' := by
 obtain ⟨s1, s2, s3, s4, s5⟩ := Mac.valid_sizes hv
 obtain ⟨N, hN⟩ := Int.eq_ofNat_of_zero_le s1
 have hN4 : N ≤ 4 := by omega
 obtain ⟨M, eM, hM⟩ : ∃ M : Nat, (2 : Int) ^ N = (M : Int) ∧ M = 2 ^ N := ⟨2 ^ N, two_pow N, rfl⟩
 have hM16 : M ≤ 16 := by rw [hM]; exact Nat.pow_le_pow_right (show 0 < 2 by decide) hN4
 have hM1 : 0 < M := by rw [hM]; exact Nat.pow_pos (by decide)
 have hwM := IntWalk.i64_in (M : Int) (by omega)
 have hMt : 2 ^ m.ins.toNat = M := by rw [hN, hM]; rfl
 have hrow : ∀ s x : Nat, s < m.next.length → x < M → ∃ r q y o, m.next[s]? = some r ∧ m.out[s]? = some q ∧ r.length = M ∧ q.length = M ∧ r[x]? = some ((y : Nat) : Int) ∧ y < m.next.length ∧ q[x]? = some o ∧ 0 ≤ o ∧ o < 8 ∧ Mac.stepN m s x = y ∧ Mac.stepO m s x = o := fun s x hs hx => by
  have := Mac.valid_row hv hs (by rw [hMt]; exact hx)
  rwa [hMt] at this
 obtain ⟨ra, qa, -, -, ea, fa, la, ma, -⟩ := hrow a 0 ha hM1
 obtain ⟨rb, qb, -, -, eb, fb, lb, mb, -⟩ := hrow b 0 hb hM1
 have Hra : Hid (∀ x, x < M → ∃ (y : Nat) (o : Int), ra[x]? = some ((y : Nat) : Int) ∧ y < m.next.length ∧ qa[x]? = some o) := Lib.hid fun x hx => by
  obtain ⟨r, q, y, o, g1, g2, -, -, g5, g6, g7, -⟩ := hrow a x ha hx
  rw [ea] at g1; rw [fa] at g2
  obtain rfl := Option.some.inj g1
  obtain rfl := Option.some.inj g2
  exact ⟨y, o, g5, g6, g7⟩
 have Hrb : Hid (∀ x, x < M → ∃ (y : Nat) (o : Int), rb[x]? = some ((y : Nat) : Int) ∧ y < m.next.length ∧ qb[x]? = some o) := Lib.hid fun x hx => by
  obtain ⟨r, q, y, o, g1, g2, -, -, g5, g6, g7, -⟩ := hrow b x hb hx
  rw [eb] at g1; rw [fb] at g2
  obtain rfl := Option.some.inj g1
  obtain rfl := Option.some.inj g2
  exact ⟨y, o, g5, g6, g7⟩
 obtain ⟨An, cn, Ao, co, rfl, hcnm, hcom, hcn1, hco1⟩ := h.shape
 obtain ⟨Ac, cc, rfl, hcc, hccm⟩ := hC.shape
 unfold maxLen at hcnm hcom hccm
 obtain ⟨un, uo, huv, rn, ro⟩ := h
 simp only [Value.agg.injEq, Array.mk.injEq, List.cons.injEq, and_true, true_and] at huv
 obtain ⟨rfl, rfl⟩ := huv
 obtain ⟨bn, on, Ba, na, hAn, hbn, da, na1, na2, hra⟩ := ss_open rn (Below.refl _ _) ea
 subst hAn
 obtain ⟨bn', on', Bb, nb, hAn, -, db, nb1, nb2, hrb⟩ := ss_open rn (Below.refl _ _) eb
 obtain ⟨rfl, rfl⟩ : bn = bn' ∧ on = on' := by have := Option.some.inj hAn; injection this with h1 h2; exact ⟨h1, h2⟩
 obtain ⟨bo, oo, Bqa, oa, hAo, hbo, dqa, oa1, oa2, hqa⟩ := ss_open ro (Below.refl _ _) fa
 subst hAo
 obtain ⟨bo', oo', Bqb, ob, hAo, -, dqb, ob1, ob2, hqb⟩ := ss_open ro (Below.refl _ _) fb
 obtain ⟨rfl, rfl⟩ : bo = bo' ∧ oo = oo' := by have := Option.some.inj hAo; injection this with h1 h2; exact ⟨h1, h2⟩
 obtain ⟨bc, oc, xa, hAc, hbc, hxa, da2⟩ := nats_cell (nats_row hC) rfl (show a < C.length by omega)
 subst hAc
 obtain ⟨bc', oc', xb, hAc, -, hxb, db2⟩ := nats_cell (nats_row hC) rfl (show b < C.length by omega)
 obtain ⟨rfl, rfl⟩ : bc = bc' ∧ oc = oc' := by have := Option.some.inj hAc; injection this with h1 h2; exact ⟨h1, h2⟩
 have HK : Hid (Mac.keyS m.next m.out C a = Mac.keyS m.next m.out C b ↔ xa = xb ∧ qa = qb ∧ (ra.map fun y => Mac.cg C y.toNat) = rb.map fun y => Mac.cg C y.toNat) := Lib.hid (by
  unfold Mac.keyS
  rw [Prod.mk.injEq, Prod.mk.injEq, cg_get hxa.out, cg_get hxb.out, nrow_get ea, nrow_get eb, key0_get fa, key0_get fb])
 have HCell : Hid (∀ x, x < C.length → ∃ y, Mac.cg C x = y ∧ w.cell? ⟨bc, oc + x, none⟩ = some (.int .i64 (y : Nat))) := Lib.hid fun x hx => by
  obtain ⟨b', o', y, hA, -, hy, hcell⟩ := nats_cell (nats_row hC) rfl hx
  obtain ⟨rfl, rfl⟩ : bc = b' ∧ oc = o' := by have := Option.some.inj hA; injection this with h1 h2; exact ⟨h1, h2⟩
  exact ⟨y, cg_get hy.out, hcell⟩
 have HrowA := Lib.hid hra
 have HrowB := Lib.hid hrb
 have HoutA := Lib.hid hqa
 have HoutB := Lib.hid hqb
 have Hla := Lib.hid la
 have Hlb := Lib.hid lb
 have Hma := Lib.hid ma
 have Hmb := Lib.hid mb
 rw [la] at da na1
 rw [lb] at db nb1
 rw [ma] at dqa oa1
 rw [mb] at dqb ob1
 unfold maxLen at na2 nb2 oa2 ob2
 have hb0 := bel_alloc w (.cells #[.int .i64 m.ins, .slice (some ⟨bn, on, none⟩) m.next.length cn, .slice (some ⟨bo, oo, none⟩) m.out.length co] 53)
 have hmc := MCells.boxed w m.ins (.slice (some ⟨bn, on, none⟩) m.next.length cn) (.slice (some ⟨bo, oo, none⟩) m.out.length co) 53
 rw [hN] at hb0 hmc ⊢
 have B0 := Lib.hid hb0
 have PC := Lib.hid hmc
 have ha2 : a < C.length := by omega
 have hb2 : b < C.length := by omega
 have ha3 : a < m.out.length := by omega
 have hb3 : b < m.out.length := by omega
 have K : ∀ w', Below w.heap.size w w' → w'.cell? ⟨bn, on + a, none⟩ = some (.slice Ba M na) ∧ w'.cell? ⟨bn, on + b, none⟩ = some (.slice Bb M nb) ∧ w'.cell? ⟨bo, oo + a, none⟩ = some (.slice Bqa M oa) ∧ w'.cell? ⟨bo, oo + b, none⟩ = some (.slice Bqb M ob) ∧ w'.cell? ⟨bc, oc + a, none⟩ = some (.int .i64 xa) ∧ w'.cell? ⟨bc, oc + b, none⟩ = some (.int .i64 xb) := fun w' hd =>
  ⟨(hd.cell (p := ⟨bn, on + a, none⟩) hbn).trans da, (hd.cell (p := ⟨bn, on + b, none⟩) hbn).trans db, (hd.cell (p := ⟨bo, oo + a, none⟩) hbo).trans dqa, (hd.cell (p := ⟨bo, oo + b, none⟩) hbo).trans dqb, (hd.cell (p := ⟨bc, oc + a, none⟩) hbc).trans da2, (hd.cell (p := ⟨bc, oc + b, none⟩) hbc).trans db2⟩
 have HKK := Lib.hid K
 obtain ⟨-, -, -, -, k5, k6⟩ := K _ B0.out
 have Hbc := Lib.hid hbc
 clear K hrow hv hC ea eb fa fb hra hrb hqa hqb da db dqa dqb da2 db2 hAn hAo hAc hxa hxb rn ro hb0 hmc hM hMt s1 s2 hN la lb ma mb hbc
 have Hl := Lib.hid hl
 clear hl s5
 by_cases hx : xa = xb
 ·have hxx : ((xa : Int) != (xb : Int)) = false := by rw [hx]; simp
  have HK2 : Hid (Mac.keyS m.next m.out C a = Mac.keyS m.next m.out C b ↔ qa = qb ∧ (ra.map fun y => Mac.cg C y.toNat) = rb.map fun y => Mac.cg C y.toNat) := Lib.hid (by rw [HK.out]; exact ⟨fun h => h.2, fun h => ⟨hx, h⟩⟩)
  clear hx HK
  go_enter Try.func110, Try.ntmps110
  go_wp2_with fail
  generalize w.alloc (.cells #[.int .i64 N, .slice (some ⟨bn, on, none⟩) m.next.length cn, .slice (some ⟨bo, oo, none⟩) m.out.length co] 53) = W at *
  go_quiet (fail)
  go_wp2_with fail
  have Hd0 := Lib.hid (Drew.by W nq)
  go_loopw [9] (fun i wr => ∃ (k : Nat), k ≤ M ∧ i = .int .i64 k ∧ Hid (qa.take k = qb.take k) ∧ Hid ((ra.take k).map (fun y => Mac.cg C y.toNat) = (rb.take k).map fun y => Mac.cg C y.toNat) ∧ Drew W wr) (fun i _ => M - (intOf i).toNat)
  case atStart => exact ⟨0, Nat.zero_le _, rfl, Lib.hid rfl, Lib.hid rfl, Hd0.out⟩
  case round =>
   obtain ⟨k, hk, rfl, hqk, htk, hd⟩ := hrel
   have hbw := B0.out.trans (hd.below w.heap.size)
   obtain ⟨k1, k2, k3, k4, -, -⟩ := HKK.out wr hbw
   obtain ⟨z, p0, p1, p2⟩ := PC.out
   replace p0 := (hd.cell _).trans p0
   replace p1 := (hd.cell _).trans p1
   replace p2 := (hd.cell _).trans p2
   have Hd := Lib.hid hd
   have Hbw := Lib.hid hbw
   clear Hd0 k5 k6
   by_cases hlt : k < M
   ·obtain ⟨ya, va, hya, hyan, hva⟩ := Hra.out k hlt
    obtain ⟨yb, vb, hyb, hybn, hvb⟩ := Hrb.out k hlt
    obtain ⟨b1, o1, rfl, hb1, hs1⟩ := ints_row HrowA.out rfl hya
    obtain ⟨b2, o2, rfl, hb2', hs2⟩ := ints_row HrowB.out rfl hyb
    obtain ⟨b3, o3, rfl, hb3', hs3⟩ := ints_row HoutA.out rfl hva
    obtain ⟨b4, o4, rfl, hb4, hs4⟩ := ints_row HoutB.out rfl hvb
    obtain ⟨ca, hca, hcella⟩ := HCell.out ya (by have := Hl.out; omega)
    obtain ⟨cb, hcb, hcellb⟩ := HCell.out yb (by have := Hl.out; omega)
    have j1 := (hbw.cell (p := ⟨b1, o1 + k, none⟩) hb1).trans hs1
    have j2 := (hbw.cell (p := ⟨b2, o2 + k, none⟩) hb2').trans hs2
    have j5 := (hbw.cell (p := ⟨b3, o3 + k, none⟩) hb3').trans hs3
    have j6 := (hbw.cell (p := ⟨b4, o4 + k, none⟩) hb4).trans hs4
    have j3 := (hbw.cell (p := ⟨bc, oc + ya, none⟩) Hbc.out).trans hcella
    have j4 := (hbw.cell (p := ⟨bc, oc + yb, none⟩) Hbc.out).trans hcellb
    have Hya := Lib.hid hya
    have Hyb := Lib.hid hyb
    have Hva := Lib.hid hva
    have Hvb := Lib.hid hvb
    have Hca := Lib.hid hca
    have Hcb := Lib.hid hcb
    have hdk : decide (k < M) = true := decide_eq_true hlt
    have hla : ya < C.length := by have := Hl.out; omega
    have hlb : yb < C.length := by have := Hl.out; omega
    clear hya hyb hva hvb hca hcb hs1 hs2 hs3 hs4 hcella hcellb hd hbw
    by_cases hvv : va = vb
    ·have hvx : (va != vb) = false := by rw [hvv]; simp
     have Hq2 : Hid (qa.take (k + 1) = qb.take (k + 1)) := Lib.hid (by rw [take_snoc Hva.out, take_snoc Hvb.out, hqk.out, hvv])
     clear hvv
     by_cases hcc2 : ca = cb
     ·have hcx : ((ca : Int) != (cb : Int)) = false := by rw [hcc2]; simp
      have Hn : Hid ((ra.take (k + 1)).map (fun y => Mac.cg C y.toNat) = (rb.take (k + 1)).map fun y => Mac.cg C y.toNat) := Lib.hid (by
       rw [take_snoc Hya.out, take_snoc Hyb.out, List.map_append, List.map_append, htk.out, List.map_singleton, List.map_singleton, Int.toNat_natCast, Int.toNat_natCast, Hca.out, Hcb.out, hcc2])
      clear hcc2
      go_wp2_with fail
      go_quiet (fail)
      go_wp2_with fail
      go_roundw
      case rel => exact ⟨k + 1, by omega, by go_num, Hq2, Hn, Hd.out.more _⟩
      case measure => simp [intOf] <;> omega
     ·have hcx : ((ca : Int) != (cb : Int)) = true := by simp; omega
      have Hn : Hid (decide (Mac.keyS m.next m.out C a = Mac.keyS m.next m.out C b) = false) := Lib.hid (decide_eq_false (by
       rw [HK2.out]
       rintro ⟨-, e⟩
       have := congrArg (fun l => l[k]?) e
       rw [map_get Hya.out, map_get Hyb.out, Hca.out, Hcb.out] at this
       exact hcc2 (Option.some.inj this)))
      clear hcc2
      go_wp2_with fail
      go_quiet (fail)
      go_wp2_with fail
      go_ret
      exact ⟨by rw [Hn.out]; rfl, Hbw.out.trans ((Drew.by _ _).below _)⟩
    ·have hvx : (va != vb) = true := by simpa using hvv
     have Hn : Hid (decide (Mac.keyS m.next m.out C a = Mac.keyS m.next m.out C b) = false) := Lib.hid (decide_eq_false (by
      rw [HK2.out]
      rintro ⟨e, -⟩
      have := congrArg (fun l => l[k]?) e
      rw [Hva.out, Hvb.out] at this
      exact hvv (Option.some.inj this)))
     clear hvv
     go_wp2_with fail
     go_quiet (fail)
     go_wp2_with fail
     go_ret
     exact ⟨by rw [Hn.out]; rfl, Hbw.out.trans ((Drew.by _ _).below _)⟩
   ·obtain rfl : k = M := by omega
    have hdk : decide (k < k) = false := decide_eq_false (by omega)
    have Hn : Hid (decide (Mac.keyS m.next m.out C a = Mac.keyS m.next m.out C b) = true) := Lib.hid (decide_eq_true (by
     rw [HK2.out]
     have h1 := htk.out
     have h2 := hqk.out
     rw [List.take_of_length_le (by have := Hla.out; omega), List.take_of_length_le (by have := Hlb.out; omega)] at h1
     rw [List.take_of_length_le (by have := Hma.out; omega), List.take_of_length_le (by have := Hmb.out; omega)] at h2
     exact ⟨h2, h1⟩))
    go_wp2_with fail
    go_ret
    exact ⟨by rw [Hn.out]; rfl, Hbw.out⟩
 ·have hxx : ((xa : Int) != (xb : Int)) = true := by simp; omega
  have Hn : Hid (decide (Mac.keyS m.next m.out C a = Mac.keyS m.next m.out C b) = false) := Lib.hid (decide_eq_false (by rw [HK.out]; exact fun h => hx h.1))
  clear hx HK
  go_enter Try.func110, Try.ntmps110
  go_wp2_with fail
  generalize w.alloc (.cells #[.int .i64 N, .slice (some ⟨bn, on, none⟩) m.next.length cn, .slice (some ⟨bo, oo, none⟩) m.out.length co] 53) = W at *
  go_quiet (fail)
  go_wp2_with fail
  go_ret
  exact ⟨by rw [Hn.out]; rfl, B0.out.trans ((Drew.by _ _).below _)⟩
end Go.Proofs.Ytkkkjbinfdohpaa