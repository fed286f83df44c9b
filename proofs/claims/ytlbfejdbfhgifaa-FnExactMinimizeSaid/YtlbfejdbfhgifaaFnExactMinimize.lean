/-
  FnExactMinimize: The program's Minimize returns what the reference's Minimize returns, for every machine, in memory of its own, and leaves its argument as it was.
  Conditions: none. For every input that the row reads, the Go function laws.FnExactMinimize returns true and leaves its arguments as they were.
-/
import Derived.Test.YtlbfejdbfhgifaaS08
import Derived.Test.YtlbfejdbfhgifaaRows
import Derived.WalkKit
import Derived.ProofKit
import Derived.OpenShut
import Derived.ShutString
import Derived.ChangeOld
import Derived.Below
namespace Go.Proofs.Ytlbfejdbfhgifaa.fnExactMinimize
open Go.ChangeShapes Go.WideShapes Go.ChangeAt Go.RowKit
set_option linter.unusedVariables false
set_option linter.unusedSimpArgs false
theorem own : ownKnob Try.prog.godebug = none := by kernel_rfl
theorem laidOut : laidOutB Try.prog = true := by kernel_rfl

set_option maxHeartbeats 16000000 in
set_option maxRecDepth 100000 in
/-- The walk: the Go text returns true. -/
theorem walk (v0 : Value) (w : World) (o0 : AMach w v0) :
    Calls Try.prog 5 #[v0] w fun e w' => e = .returned (.bool true) ∧ Below w.heap.size w w' := by
  obtain ⟨m, hA0, -⟩ := o0
  obtain ⟨vn, vo, rfl, -⟩ := id hA0
  have B := Lib.hid (bel_new w (.cells #[.int .i64 m.ins, vn, vo] 41))
  have HX := Lib.hid (has_kept (A := fun w' => BoxM w' w.heap.size m vn vo) (BoxM.made 41 hA0))
  clear hA0
  have hlen := Lib.hid (minz_len m)
  go_enter Try.func5, Try.ntmps5
  go_wp2_with fail
  have zw0 := B.out.size
  generalize w.alloc (.cells #[.int .i64 m.ins, vn, vo] 41) = w0 at *
  refine (szMachine_any _ m _ (Kept.boxM HX.out.k).at_).mono ?_
  rintro e w1 ⟨r, rfl, hr, hb⟩
  have z1 := hb.size
  have HX := Lib.hid (HX.out.below hb)
  have B := Lib.hid (B.out.trans (hb.mono B.out.size))
  clear hb
  obtain ⟨z, p0, p1, p2⟩ := (Kept.boxM HX.out.k).pc
  rcases hr with rfl | ⟨hr0, hr1, l1⟩
  · go_wp2_with fail
    go_ret
    exact ⟨rfl, B.out⟩
  have hr2 : ¬ r < 0 := by omega
  go_wp2_with fail
  refine (toMachine_any _ m _ (Kept.boxM HX.out.k).at_ l1).mono ?_
  rintro e w2 ⟨v2, rfl, hO, hb⟩
  have z2 := hb.size
  have HX := Lib.hid (HX.out.below hb)
  have B := Lib.hid (B.out.trans (hb.mono B.out.size))
  have C2 := Lib.hid (has_kept (A := fun w' => MachAt w' v2 m) (hO.at))
  clear hO hb
  go_wp2_with fail
  refine (specMinz_read _ m _ (Kept.atM C2.out.k)).mono ?_
  rintro e w3 ⟨⟨u0, rfl, hO⟩, hb⟩
  have z3 := hb.size
  have HX := Lib.hid (HX.out.below hb)
  have C2 := Lib.hid (C2.out.below hb)
  have B := Lib.hid (B.out.trans (hb.mono B.out.size))
  obtain ⟨AW0, cW0, DW0, dW0, hvu, -⟩ := (MachAt.shape hO)
  subst hvu
  have W0 := Lib.hid (has_kept (A := fun w' => MachAt w' (.agg #[.int .i64 (Mac.minI m).ins, .slice AW0 (Mac.minI m).next.length cW0, .slice DW0 (Mac.minI m).out.length dW0]) (Mac.minI m)) hO)
  clear z p0 p1 p2
  clear hO hb
  have hb := bel_new w3 (.cells #[.int .i64 (Mac.minI m).ins, .slice AW0 (Mac.minI m).next.length cW0, .slice DW0 (Mac.minI m).out.length dW0] 43)
  have W0b := Lib.hid (has_blockM (heap_alloc_new w3 (.cells #[.int .i64 (Mac.minI m).ins, .slice AW0 (Mac.minI m).next.length cW0, .slice DW0 (Mac.minI m).out.length dW0] 43)))
  have z4 := hb.size
  have y4 : w3.heap.size < (w3.alloc (.cells #[.int .i64 (Mac.minI m).ins, .slice AW0 (Mac.minI m).next.length cW0, .slice DW0 (Mac.minI m).out.length dW0] 43)).heap.size := by simp
  have HX := Lib.hid (HX.out.below hb)
  have C2 := Lib.hid (C2.out.below hb)
  have W0 := Lib.hid (W0.out.below hb)
  have B := Lib.hid (B.out.trans (hb.mono B.out.size))
  obtain ⟨z, p0, p1, p2⟩ := (Kept.boxM HX.out.k).pc
  go_wp2_with fail
  obtain ⟨gW0, hgW0⟩ : ∃ gW0, w3.heap.size = gW0 := ⟨_, rfl⟩
  rw [hgW0] at W0b ⊢
  have yW0 : w3.heap.size ≤ gW0 := Nat.le_of_eq hgW0
  have yW02 : gW0 < (w3.alloc (.cells #[.int .i64 (Mac.minI m).ins, .slice AW0 (Mac.minI m).next.length cW0, .slice DW0 (Mac.minI m).out.length dW0] 43)).heap.size := by rw [← hgW0]; exact y4
  have HgW0 := Lib.hid hgW0
  clear hgW0 y4
  generalize w3.alloc (.cells #[.int .i64 (Mac.minI m).ins, .slice AW0 (Mac.minI m).next.length cW0, .slice DW0 (Mac.minI m).out.length dW0] 43) = w4 at *
  have hO := trivial
  clear hO hb
  clear C2
  clear z p0 p1 p2
  obtain ⟨z, p0, p1, p2⟩ := (Kept.boxM HX.out.k).pc
  go_wp2_with fail
  refine (toMachine_any _ m _ (Kept.boxM HX.out.k).at_ l1).mono ?_
  rintro e w5 ⟨v5, rfl, hO, hb⟩
  have z5 := hb.size
  have HX := Lib.hid (HX.out.below hb)
  have W0b := Lib.hid (W0b.out.below hb)
  have W0 := Lib.hid (W0.out.below hb)
  have B := Lib.hid (B.out.trans (hb.mono B.out.size))
  have C5 := Lib.hid (hasMT hO)
  clear hO hb
  obtain ⟨An, cn, Ao, co, hvx, -⟩ := (OwnMachE.at C5.out.k).shape
  subst hvx
  have hb := bel_new w5 (.cells #[.int .i64 m.ins, .slice An m.next.length cn, .slice Ao m.out.length co] 43)
  have HY := Lib.hid (has_kept (A := fun w' => BoxM w' w5.heap.size m (.slice An m.next.length cn) (.slice Ao m.out.length co)) (BoxM.made 43 (OwnMachE.at C5.out.k)))
  have z6 := hb.size
  have y6 : (w5.alloc (.cells #[.int .i64 m.ins, .slice An m.next.length cn, .slice Ao m.out.length co] 43)).heap.size = w5.heap.size + 1 := by simp
  have HX := Lib.hid (HX.out.below hb)
  have W0b := Lib.hid (W0b.out.below hb)
  have W0 := Lib.hid (W0.out.below hb)
  have C5 := Lib.hid (C5.out.below hb)
  have B := Lib.hid (B.out.trans (hb.mono B.out.size))
  clear hb
  go_wp2_with fail
  obtain ⟨gY, hgY⟩ : ∃ gY, w5.heap.size = gY := ⟨_, rfl⟩
  rw [hgY] at HY ⊢
  have HgY := Lib.hid hgY
  clear hgY
  generalize w5.alloc (.cells #[.int .i64 m.ins, .slice An m.next.length cn, .slice Ao m.out.length co] 43) = w6 at *
  clear z p0 p1 p2
  obtain ⟨z, p0, p1, p2⟩ := (Kept.boxM HY.out.k).pc
  go_wp2_with fail
  refine (implMinz_any _ m _ (Kept.boxM HY.out.k).at_).mono ?_
  rintro e w7 ⟨u1, rfl, hO, hb⟩
  have z7 := hb.size
  have HX := Lib.hid (HX.out.below hb)
  have W0b := Lib.hid (W0b.out.below hb)
  have W0 := Lib.hid (W0.out.below hb)
  have C5 := Lib.hid (C5.out.below hb)
  have HY := Lib.hid (HY.out.below hb)
  have B := Lib.hid (B.out.trans (hb.mono B.out.size))
  obtain ⟨AG0, cG0, DG0, dG0, hvu, -⟩ := (OwnMachE.at hO).shape
  subst hvu
  have G0 := Lib.hid (has_mE hO)
  clear z p0 p1 p2
  clear hO hb
  have hb := bel_new w7 (.cells #[.int .i64 (Mac.minI m).ins, .slice AG0 (Mac.minI m).next.length cG0, .slice DG0 (Mac.minI m).out.length dG0] 43)
  have G0b := Lib.hid (has_blockM (heap_alloc_new w7 (.cells #[.int .i64 (Mac.minI m).ins, .slice AG0 (Mac.minI m).next.length cG0, .slice DG0 (Mac.minI m).out.length dG0] 43)))
  have z8 := hb.size
  have y8 : w7.heap.size < (w7.alloc (.cells #[.int .i64 (Mac.minI m).ins, .slice AG0 (Mac.minI m).next.length cG0, .slice DG0 (Mac.minI m).out.length dG0] 43)).heap.size := by simp
  have HX := Lib.hid (HX.out.below hb)
  have W0b := Lib.hid (W0b.out.below hb)
  have W0 := Lib.hid (W0.out.below hb)
  have C5 := Lib.hid (C5.out.below hb)
  have HY := Lib.hid (HY.out.below hb)
  have G0 := Lib.hid (G0.out.below hb)
  have B := Lib.hid (B.out.trans (hb.mono B.out.size))
  obtain ⟨z, p0, p1, p2⟩ := (Kept.boxM HX.out.k).pc
  have qW00 := blk_cell W0b.out.k 0
  have qW01 := blk_cell W0b.out.k 1
  have qW02 := blk_cell W0b.out.k 2
  simp only [List.getElem?_toArray, List.getElem?_cons_zero, List.getElem?_cons_succ] at qW00 qW01 qW02
  go_wp2_with fail
  obtain ⟨gG0, hgG0⟩ : ∃ gG0, w7.heap.size = gG0 := ⟨_, rfl⟩
  rw [hgG0] at G0b ⊢
  have yG0 : w7.heap.size ≤ gG0 := Nat.le_of_eq hgG0
  have yG02 : gG0 < (w7.alloc (.cells #[.int .i64 (Mac.minI m).ins, .slice AG0 (Mac.minI m).next.length cG0, .slice DG0 (Mac.minI m).out.length dG0] 43)).heap.size := by rw [← hgG0]; exact y8
  have HgG0 := Lib.hid hgG0
  clear hgG0 y8
  generalize w7.alloc (.cells #[.int .i64 (Mac.minI m).ins, .slice AG0 (Mac.minI m).next.length cG0, .slice DG0 (Mac.minI m).out.length dG0] 43) = w8 at *
  have hO := trivial
  clear hO hb
  clear z p0 p1 p2
  have qG00 := blk_cell G0b.out.k 0
  have qG01 := blk_cell G0b.out.k 1
  have qG02 := blk_cell G0b.out.k 2
  simp only [List.getElem?_toArray, List.getElem?_cons_zero, List.getElem?_cons_succ] at qG00 qG01 qG02
  have qW00 := blk_cell W0b.out.k 0
  have qW01 := blk_cell W0b.out.k 1
  have qW02 := blk_cell W0b.out.k 2
  simp only [List.getElem?_toArray, List.getElem?_cons_zero, List.getElem?_cons_succ] at qW00 qW01 qW02
  go_wp2_with fail
  refine (eqMachine_same _ _ (Mac.minI m) _ (OwnMachE.at G0.out.k) (Kept.atMr W0.out.k) hlen.out).mono ?_
  rintro e w9 ⟨rfl, hb⟩
  have z9 := hb.size
  have HX := Lib.hid (HX.out.below hb)
  have W0b := Lib.hid (W0b.out.below hb)
  have W0 := Lib.hid (W0.out.below hb)
  have C5 := Lib.hid (C5.out.below hb)
  have HY := Lib.hid (HY.out.below hb)
  have G0b := Lib.hid (G0b.out.below hb)
  have G0 := Lib.hid (G0.out.below hb)
  have B := Lib.hid (B.out.trans (hb.mono B.out.size))
  clear hb
  have qG00 := blk_cell G0b.out.k 0
  have qG01 := blk_cell G0b.out.k 1
  have qG02 := blk_cell G0b.out.k 2
  simp only [List.getElem?_toArray, List.getElem?_cons_zero, List.getElem?_cons_succ] at qG00 qG01 qG02
  have qW00 := blk_cell W0b.out.k 0
  have qW01 := blk_cell W0b.out.k 1
  have qW02 := blk_cell W0b.out.k 2
  simp only [List.getElem?_toArray, List.getElem?_cons_zero, List.getElem?_cons_succ] at qW00 qW01 qW02
  go_wp2_with fail
  have HX9 := Lib.hid (Kept.boxM HX.out.k)
  have HY9 := Lib.hid (Kept.boxM HY.out.k)
  refine wp_region_rs (quietRS Try.prog _ w9 _) quietRS_ok (by kernel_rfl) (by kernel_rfl) (by kernel_rfl) (Nat.le_of_ble_eq_true rfl) trivial trivial ?_
  refine rs_look quietRS_ok quiet_any (TEq (.agg #[.int .i64 m.ins, .slice An m.next.length cn, .slice Ao m.out.length co])) (stb_eq _ _) (fun ρ w' ho hK => by
    obtain ⟨h1, -⟩ := hK
    have h1' : ρ (.tmp 5) = .pointer (some ⟨gY, 0, none⟩) := h1
    obtain ⟨-, q0, q1, q2⟩ := HY9.out.pc.below (only_below ho)
    refine ⟨_, ?_, rfl⟩
    go_simp) ?_
  refine rs_look quietRS_ok quiet_any (TEq (.agg #[.int .i64 m.ins, vn, vo])) (stb_eq _ _) (fun ρ w' ho hK => by
    obtain ⟨h1, -⟩ := hK
    have h1' : ρ (.tmp 1) = .pointer (some ⟨w.heap.size, 0, none⟩) := h1
    obtain ⟨-, q0, q1, q2⟩ := HX9.out.pc.below (only_below ho)
    refine ⟨_, ?_, rfl⟩
    go_simp) ?_
  refine rs_call quietRS_ok quiet_any (TMach m) (stb_mach _) 23 _ _ rfl (fun ρ w' ho hK => by
    obtain ⟨h0, h1, -⟩ := hK
    have h0' : ρ (.func 23) = .func (.func 23) #[] #[] := h0
    have h1' : ρ (.tmp 28) = .agg #[.int .i64 m.ins, vn, vo] := h1
    refine ⟨#[.agg #[.int .i64 m.ins, vn, vo]], ?_, ?_⟩
    · go_simp
    · refine (toMachine_any _ m w' (HX9.out.at_.below (only_below ho)) l1).mono ?_
      rintro e w2 ⟨v2, rfl, hO, hb⟩
      exact ⟨v2, rfl, hO.at, hb⟩) ?_
  refine rs_call quietRS_ok quiet_any (TEq (.bool true)) (stb_eq _ _) 25 _ _ rfl (fun ρ w' ho hK => by
    obtain ⟨h0, h1, h2, -⟩ := hK
    have h0' : ρ (.func 25) = .func (.func 25) #[] #[] := h0
    have h1' : ρ (.tmp 27) = .agg #[.int .i64 m.ins, .slice An m.next.length cn, .slice Ao m.out.length co] := h1
    have h2' : MachAt w' (ρ (.tmp 29)) m := h2
    refine ⟨#[.agg #[.int .i64 m.ins, .slice An m.next.length cn, .slice Ao m.out.length co], ρ (.tmp 29)], ?_, ?_⟩
    · go_simp
    · refine (eqMachine_same _ _ m w' (HY9.out.at_.below (only_below ho)) h2' l1).mono ?_
      rintro e w2 ⟨rfl, hb⟩
      exact ⟨_, rfl, rfl, hb⟩) ?_
  refine rs_look quietRS_ok quiet_any (TEq (.bool false)) (stb_eq _ _) (fun ρ w' ho hK => by
    obtain ⟨h1, -⟩ := hK
    have h1' : ρ (.tmp 30) = .bool true := h1
    refine ⟨_, ?_, rfl⟩
    go_simp) ?_
  intro f w9 k9 hk9 hI9 ht9 hcp9
  have h9 : f 4 = .bool false := ht9 4 (Nat.le_of_ble_eq_true rfl)
  have Hb9 := Lib.hid (only_below hI9.2.1)
  simp only [putAll, h9, Nat.zero_add, Nat.reduceAdd, Act.put, List.setIfInBounds_toArray, List.set_cons_succ, List.set_cons_zero]
  generalize f 0 = z0, f 1 = z1, f 2 = z2, f 3 = z3
  clear hI9 ht9 hcp9 hk9 h9
  clear HX9 HY9
  have hb := Hb9.out
  have z10 := hb.size
  have HX := Lib.hid (HX.out.below hb)
  have W0b := Lib.hid (W0b.out.below hb)
  have W0 := Lib.hid (W0.out.below hb)
  have C5 := Lib.hid (C5.out.below hb)
  have HY := Lib.hid (HY.out.below hb)
  have G0b := Lib.hid (G0b.out.below hb)
  have G0 := Lib.hid (G0.out.below hb)
  have B := Lib.hid (B.out.trans (hb.mono B.out.size))
  clear hb Hb9
  obtain ⟨z, p0, p1, p2⟩ := (Kept.boxM HY.out.k).pc
  go_wp2_with fail
  have hmk := markMachine_only _ _ _ m 1 _ C5.out.k C5.out.t l1 (by omega)
  rw [show (((1 : Nat) : Int)) = 1 from rfl] at hmk
  refine hmk.mono ?_
  rintro e w11 ⟨⟨k11, rfl, hk11⟩, ho⟩
  clear hmk
  have z11 := ho.size
  clear HY
  have HX := Lib.hid (HX.out.apart ho (by omega))
  have W0b := Lib.hid (W0b.out.apart ho (by omega))
  have W0 := Lib.hid (W0.out.apart ho (by omega))
  have G0b := Lib.hid (G0b.out.apart ho (by omega))
  have G0 := Lib.hid (G0.out.apart ho (by omega))
  have B := Lib.hid (Only.below B.out ho B.out.size (fun g hg => by obtain ⟨h1, h2⟩ := hg; omega))
  clear ho C5
  clear z p0 p1 p2
  have hkk : ¬ ((k11 : Int) < 0) := by omega
  have qG00 := blk_cell G0b.out.k 0
  have qG01 := blk_cell G0b.out.k 1
  have qG02 := blk_cell G0b.out.k 2
  simp only [List.getElem?_toArray, List.getElem?_cons_zero, List.getElem?_cons_succ] at qG00 qG01 qG02
  have qW00 := blk_cell W0b.out.k 0
  have qW01 := blk_cell W0b.out.k 1
  have qW02 := blk_cell W0b.out.k 2
  simp only [List.getElem?_toArray, List.getElem?_cons_zero, List.getElem?_cons_succ] at qW00 qW01 qW02
  obtain ⟨z, p0, p1, p2⟩ := (Kept.boxM HX.out.k).pc
  go_wp2_with fail
  have qG00 := blk_cell G0b.out.k 0
  have qG01 := blk_cell G0b.out.k 1
  have qG02 := blk_cell G0b.out.k 2
  simp only [List.getElem?_toArray, List.getElem?_cons_zero, List.getElem?_cons_succ] at qG00 qG01 qG02
  have qW00 := blk_cell W0b.out.k 0
  have qW01 := blk_cell W0b.out.k 1
  have qW02 := blk_cell W0b.out.k 2
  simp only [List.getElem?_toArray, List.getElem?_cons_zero, List.getElem?_cons_succ] at qW00 qW01 qW02
  go_wp2_with fail
  refine (eqMachine_same _ _ (Mac.minI m) _ (OwnMachE.at G0.out.k) (Kept.atMr W0.out.k) hlen.out).mono ?_
  rintro e w12 ⟨rfl, hb⟩
  have z12 := hb.size
  have HX := Lib.hid (HX.out.below hb)
  have W0b := Lib.hid (W0b.out.below hb)
  have W0 := Lib.hid (W0.out.below hb)
  have G0b := Lib.hid (G0b.out.below hb)
  have G0 := Lib.hid (G0.out.below hb)
  have B := Lib.hid (B.out.trans (hb.mono B.out.size))
  clear hb
  have qG00 := blk_cell G0b.out.k 0
  have qG01 := blk_cell G0b.out.k 1
  have qG02 := blk_cell G0b.out.k 2
  simp only [List.getElem?_toArray, List.getElem?_cons_zero, List.getElem?_cons_succ] at qG00 qG01 qG02
  have qW00 := blk_cell W0b.out.k 0
  have qW01 := blk_cell W0b.out.k 1
  have qW02 := blk_cell W0b.out.k 2
  simp only [List.getElem?_toArray, List.getElem?_cons_zero, List.getElem?_cons_succ] at qW00 qW01 qW02
  go_wp2_with fail
  have hmk := markMachine_any _ _ _ (Mac.minI m) 1 _ G0.out.k hlen.out (by omega) G0.out.t
  rw [show (((1 : Nat) : Int)) = 1 from rfl] at hmk
  refine hmk.mono ?_
  rintro e w13 ⟨rfl, hM, ho⟩
  clear hmk
  have z13 := ho.size
  have HX := Lib.hid (HX.out.apart ho (by omega))
  have W0b := Lib.hid (W0b.out.apart ho (by omega))
  have W0 := Lib.hid (W0.out.apart ho (by omega))
  have G0b := Lib.hid (G0b.out.apart ho (by omega))
  have B := Lib.hid (Only.below B.out ho B.out.size (fun g hg => by obtain ⟨h1, h2⟩ := hg; omega))
  have G0 := Lib.hid (has_run hM (Nat.le_trans G0.out.t ho.size))
  have hlen2 := Lib.hid (show ((Mac.minI m).next.map List.length).length + ((Mac.minI m).next.map List.length).sum + ((Mac.minI m).out.map List.length).length + ((Mac.minI m).out.map List.length).sum ≤ 1048576 from by rw [List.length_map, List.length_map]; exact hlen.out)
  rw [total_map, total_map]
  clear ho hM
  have qG00 := blk_cell G0b.out.k 0
  have qG01 := blk_cell G0b.out.k 1
  have qG02 := blk_cell G0b.out.k 2
  simp only [List.getElem?_toArray, List.getElem?_cons_zero, List.getElem?_cons_succ] at qG00 qG01 qG02
  go_wp2_with fail
  have hh := heldMachine_any _ _ _ _ _ _ 1 _ G0.out.k hlen2.out (by omega)
  rw [show (((1 : Nat) : Int)) = 1 from rfl] at hh
  refine hh.mono ?_
  rintro e w14 ⟨rfl, hb⟩
  clear hh
  have z14 := hb.size
  have HX := Lib.hid (HX.out.below hb)
  have W0b := Lib.hid (W0b.out.below hb)
  have W0 := Lib.hid (W0.out.below hb)
  have G0b := Lib.hid (G0b.out.below hb)
  have G0 := Lib.hid (G0.out.below hb)
  have B := Lib.hid (B.out.trans (hb.mono B.out.size))
  clear hb
  have qG00 := blk_cell G0b.out.k 0
  have qG01 := blk_cell G0b.out.k 1
  have qG02 := blk_cell G0b.out.k 2
  simp only [List.getElem?_toArray, List.getElem?_cons_zero, List.getElem?_cons_succ] at qG00 qG01 qG02
  clear z p0 p1 p2
  obtain ⟨z, p0, p1, p2⟩ := (Kept.boxM HX.out.k).pc
  go_wp2_with fail
  refine (toMachine_any _ m _ (Kept.boxM HX.out.k).at_ l1).mono ?_
  rintro e w15 ⟨v15, rfl, hO, hb⟩
  have z15 := hb.size
  have HX := Lib.hid (HX.out.below hb)
  have W0b := Lib.hid (W0b.out.below hb)
  have W0 := Lib.hid (W0.out.below hb)
  have G0b := Lib.hid (G0b.out.below hb)
  have G0 := Lib.hid (G0.out.below hb)
  have B := Lib.hid (B.out.trans (hb.mono B.out.size))
  have C15 := Lib.hid (has_kept (A := fun w' => MachAt w' v15 m) (hO.at))
  clear hO hb
  go_wp2_with fail
  refine (implMinz_any _ m _ (Kept.atM C15.out.k)).mono ?_
  rintro e w16 ⟨u2, rfl, hO, hb⟩
  have z16 := hb.size
  have HX := Lib.hid (HX.out.below hb)
  have W0b := Lib.hid (W0b.out.below hb)
  have W0 := Lib.hid (W0.out.below hb)
  have G0b := Lib.hid (G0b.out.below hb)
  have G0 := Lib.hid (G0.out.below hb)
  have C15 := Lib.hid (C15.out.below hb)
  have B := Lib.hid (B.out.trans (hb.mono B.out.size))
  obtain ⟨AH0, cH0, DH0, dH0, hvu, -⟩ := (MachAt.shape (OwnMachE.at hO))
  subst hvu
  have H0 := Lib.hid (has_kept (A := fun w' => MachAt w' (.agg #[.int .i64 (Mac.minI m).ins, .slice AH0 (Mac.minI m).next.length cH0, .slice DH0 (Mac.minI m).out.length dH0]) (Mac.minI m)) (OwnMachE.at hO))
  clear z p0 p1 p2
  clear hO hb
  have hb := bel_new w16 (.cells #[.int .i64 (Mac.minI m).ins, .slice AH0 (Mac.minI m).next.length cH0, .slice DH0 (Mac.minI m).out.length dH0] 43)
  have H0b := Lib.hid (has_blockM (heap_alloc_new w16 (.cells #[.int .i64 (Mac.minI m).ins, .slice AH0 (Mac.minI m).next.length cH0, .slice DH0 (Mac.minI m).out.length dH0] 43)))
  have z17 := hb.size
  have y17 : w16.heap.size < (w16.alloc (.cells #[.int .i64 (Mac.minI m).ins, .slice AH0 (Mac.minI m).next.length cH0, .slice DH0 (Mac.minI m).out.length dH0] 43)).heap.size := by simp
  have HX := Lib.hid (HX.out.below hb)
  have W0b := Lib.hid (W0b.out.below hb)
  have W0 := Lib.hid (W0.out.below hb)
  have G0b := Lib.hid (G0b.out.below hb)
  have G0 := Lib.hid (G0.out.below hb)
  have C15 := Lib.hid (C15.out.below hb)
  have H0 := Lib.hid (H0.out.below hb)
  have B := Lib.hid (B.out.trans (hb.mono B.out.size))
  obtain ⟨z, p0, p1, p2⟩ := (Kept.boxM HX.out.k).pc
  have qW00 := blk_cell W0b.out.k 0
  have qW01 := blk_cell W0b.out.k 1
  have qW02 := blk_cell W0b.out.k 2
  simp only [List.getElem?_toArray, List.getElem?_cons_zero, List.getElem?_cons_succ] at qW00 qW01 qW02
  have qG00 := blk_cell G0b.out.k 0
  have qG01 := blk_cell G0b.out.k 1
  have qG02 := blk_cell G0b.out.k 2
  simp only [List.getElem?_toArray, List.getElem?_cons_zero, List.getElem?_cons_succ] at qG00 qG01 qG02
  go_wp2_with fail
  obtain ⟨gH0, hgH0⟩ : ∃ gH0, w16.heap.size = gH0 := ⟨_, rfl⟩
  rw [hgH0] at H0b ⊢
  have yH0 : w16.heap.size ≤ gH0 := Nat.le_of_eq hgH0
  have yH02 : gH0 < (w16.alloc (.cells #[.int .i64 (Mac.minI m).ins, .slice AH0 (Mac.minI m).next.length cH0, .slice DH0 (Mac.minI m).out.length dH0] 43)).heap.size := by rw [← hgH0]; exact y17
  have HgH0 := Lib.hid hgH0
  clear hgH0 y17
  generalize w16.alloc (.cells #[.int .i64 (Mac.minI m).ins, .slice AH0 (Mac.minI m).next.length cH0, .slice DH0 (Mac.minI m).out.length dH0] 43) = w17 at *
  have hO := trivial
  clear hO hb
  clear z p0 p1 p2
  have qH00 := blk_cell H0b.out.k 0
  have qH01 := blk_cell H0b.out.k 1
  have qH02 := blk_cell H0b.out.k 2
  simp only [List.getElem?_toArray, List.getElem?_cons_zero, List.getElem?_cons_succ] at qH00 qH01 qH02
  have qW00 := blk_cell W0b.out.k 0
  have qW01 := blk_cell W0b.out.k 1
  have qW02 := blk_cell W0b.out.k 2
  simp only [List.getElem?_toArray, List.getElem?_cons_zero, List.getElem?_cons_succ] at qW00 qW01 qW02
  go_wp2_with fail
  refine (eqMachine_same _ _ (Mac.minI m) _ (Kept.atMr H0.out.k) (Kept.atMr W0.out.k) hlen.out).mono ?_
  rintro e w18 ⟨rfl, hb⟩
  have z18 := hb.size
  have HX := Lib.hid (HX.out.below hb)
  have W0b := Lib.hid (W0b.out.below hb)
  have W0 := Lib.hid (W0.out.below hb)
  have G0b := Lib.hid (G0b.out.below hb)
  have G0 := Lib.hid (G0.out.below hb)
  have C15 := Lib.hid (C15.out.below hb)
  have H0b := Lib.hid (H0b.out.below hb)
  have H0 := Lib.hid (H0.out.below hb)
  have B := Lib.hid (B.out.trans (hb.mono B.out.size))
  clear hb
  have qG00 := blk_cell G0b.out.k 0
  have qG01 := blk_cell G0b.out.k 1
  have qG02 := blk_cell G0b.out.k 2
  simp only [List.getElem?_toArray, List.getElem?_cons_zero, List.getElem?_cons_succ] at qG00 qG01 qG02
  have qW00 := blk_cell W0b.out.k 0
  have qW01 := blk_cell W0b.out.k 1
  have qW02 := blk_cell W0b.out.k 2
  simp only [List.getElem?_toArray, List.getElem?_cons_zero, List.getElem?_cons_succ] at qW00 qW01 qW02
  go_wp2_with fail
  have hh := heldMachine_any _ _ _ _ _ _ 1 _ G0.out.k hlen2.out (by omega)
  rw [show (((1 : Nat) : Int)) = 1 from rfl] at hh
  refine hh.mono ?_
  rintro e w19 ⟨rfl, hb⟩
  clear hh
  have z19 := hb.size
  have HX := Lib.hid (HX.out.below hb)
  have W0b := Lib.hid (W0b.out.below hb)
  have W0 := Lib.hid (W0.out.below hb)
  have G0b := Lib.hid (G0b.out.below hb)
  have G0 := Lib.hid (G0.out.below hb)
  have C15 := Lib.hid (C15.out.below hb)
  have H0b := Lib.hid (H0b.out.below hb)
  have H0 := Lib.hid (H0.out.below hb)
  have B := Lib.hid (B.out.trans (hb.mono B.out.size))
  clear hb
  have qG00 := blk_cell G0b.out.k 0
  have qG01 := blk_cell G0b.out.k 1
  have qG02 := blk_cell G0b.out.k 2
  simp only [List.getElem?_toArray, List.getElem?_cons_zero, List.getElem?_cons_succ] at qG00 qG01 qG02
  go_wp2_with fail
  go_ret
  exact ⟨rfl, B.out⟩

/-! The step from the walk to the row. -/
set_option maxRecDepth 100000 in
theorem lifted (os : Os) (started : os.Started) (H : Type) (enc : TypeId × Value → H) :
    ReturnsInHanded {} Try.checked os 5 .any (Rows.fnExactMinimizeSpec.pre6 enc Try.prog Try.f5 Rows.fnExactMinimizeRow.domain false) (Rows.fnExactMinimizeSpec.post enc Try.prog Try.f5 false true false false) := by
  refine returnsInHanded_of_change (C := Try.checked) own started (by kernel_rfl) Try.func5
    (ChangeSpec.witness6 (enc := enc) (C := Try.checked) false ⟨#[], #[.agg #[.int .i64 0, .slice none 0 0, .slice none 0 0]], []⟩ 8 (by kernel_rfl) (by kernel_rfl) (by kernel_rfl) (by kernel_rfl)) ?_
  intro W base args ds gs before hval0 hW hcnd _
  have hval : ∀ (j : Nat) t v, Try.f5.params[j]? = some t → args[j]? = some v → Value.okWide Try.prog W .any base t v := hval0
  have hW' := hW
  obtain ⟨p, q, hA0, hV, rfl, hfz, hnd⟩ := hW
  have hA : DataW.TrodAll enc Try.prog W 0 (fun _ => true) true Try.f5.params.toList args.toList ds p := hA0
  rw [Try.params5] at hA hval
  obtain ⟨v0, vs0, d0, ds0, p0, q0, hargs, rfl, rfl, h0, r0⟩ := trodAll_cons hA
  obtain ⟨rfl, rfl, rfl⟩ := trodAll_nil r0
  obtain rfl : args = #[v0] := by cases args; simp_all
  obtain ⟨rfl, rfl⟩ := trodVars_none hV
  have o0 : AMach W v0 := open_amach (hval 0 41 v0 rfl rfl) h0
  have lt0 : ∀ x ∈ p0, x.block < W.heap.size := by obtain ⟨m, hm⟩ := h0; exact DataW.trod_lt m _ _ _ hm
  clear hA0 hval0
  refine (walk v0 W o0).mono fun e W' ⟨he, bel⟩ => ?_
  subst he
  exact ⟨_, rfl, _, _, _, [], _, [], hW', trodAll_mk1 (shut_bool Try.underlying4 _), (trodAll_cons_mk (Below.trod laidOut (by kernel_rfl) (of_decide_eq_true (by kernel_rfl)) h0 bel lt0) trodAll_mk0), rfl, bel.frame _, fun h => by cases h⟩

theorem over : Rows.fnExactMinimizeRow.holds Try.pinned (OpenSpec.ofChange Rows.fnExactMinimizeSpec) :=
  OpenClaim.holds_of_wide 5 Try.f5 rfl rfl rfl rfl rfl rfl rfl ⟨rfl, rfl, rfl, rfl, rfl⟩ rfl rfl rfl rfl rfl (by kernel_rfl) Try.func5 (by kernel_rfl)
    (of_decide_eq_true (by kernel_rfl)) (by unfold Func.isWrapper; first | (rw [if_pos (by decide +kernel)]; kernel_rfl) | (rw [if_neg (by decide +kernel)]; exact ⟨rfl, rfl⟩))
    (fun os started H enc _ => lifted os started H enc)

/-- The statement. -/
theorem proved : Rows.FnExactMinimizeSaid := over
#print axioms proved
end Go.Proofs.Ytlbfejdbfhgifaa.fnExactMinimize
