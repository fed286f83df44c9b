/-
  FnExactRunMachine: The program's RunMachine returns what the reference's RunMachine returns, for every machine and every list of inputs, in memory of its own, and leaves its arguments as they were.
  Conditions: none. For every input that the row reads, the Go function laws.FnExactRunMachine returns true and leaves its arguments as they were.
-/
import Derived.Test.YthnfbjjnabohoaaHasM
import Derived.Test.YthnfbjjnabohoaaMacF
import Derived.Test.YthnfbjjnabohoaaRows
import Derived.WalkKit
import Derived.ProofKit
import Derived.OpenShut
import Derived.ShutString
import Derived.ChangeOld
import Derived.Below
namespace Go.Proofs.Ythnfbjjnabohoaa.fnExactRunMachine
open Go.ChangeShapes Go.WideShapes Go.ChangeAt Go.RowKit
set_option linter.unusedVariables false
theorem own : ownKnob Try.prog.godebug = none := by kernel_rfl
theorem laidOut : laidOutB Try.prog = true := by kernel_rfl

set_option maxHeartbeats 16000000 in
set_option maxRecDepth 100000 in
/-- The walk: the Go text returns true. -/
theorem walk (v0 : Value) (v1 : Value) (w : World) (o0 : AMach w v0) (o1 : AInts w v1) :
    Calls Try.prog 4 #[v0, v1] w fun e w' => e = .returned (.bool true) ∧ Below w.heap.size w w' := by
  obtain ⟨m, hA0, -⟩ := o0
  obtain ⟨vn, vo, rfl, -⟩ := id hA0
  obtain ⟨ins, hA1, -⟩ := o1
  obtain ⟨A1, q1, e1, hq1, hm1⟩ := Row.shape hA1
  subst e1
  unfold maxLen at hm1
  have B := Lib.hid (bel_new w (.cells #[.int .i64 m.ins, vn, vo] 24))
  have HX := Lib.hid (has_kept (A := fun w' => BoxM w' w.heap.size m vn vo) (BoxM.made 24 hA0))
  have Ha1 := Lib.hid (has_kept (A := fun w' => IntsAt w' (.slice A1 ins.length q1) ins) (Row.below hA1 B.out))
  clear hA0
  clear hA1
  have hlen := Lib.hid (Nat.le_trans (Mac.runI_length m ins) (show 40 ≤ 1048576 by decide))
  by_cases hl1 : 1048576 < (ins.length : Int)
  · go_enter Try.func4, Try.ntmps4
    go_wp2_with fail
    go_ret
    exact ⟨rfl, B.out⟩
  go_enter Try.func4, Try.ntmps4
  go_wp2_with fail
  have zw0 := B.out.size
  generalize w.alloc (.cells #[.int .i64 m.ins, vn, vo] 24) = w0 at *
  refine (szMachine_any _ m _ (Kept.boxM HX.out.k).at_).mono ?_
  rintro e w1 ⟨r, rfl, hr, hb⟩
  have z1 := hb.size
  have HX := Lib.hid (HX.out.below hb)
  have Ha1 := Lib.hid (Ha1.out.below hb)
  have B := Lib.hid (B.out.trans (hb.mono B.out.size))
  clear hb
  obtain ⟨z, p0, p1, p2⟩ := (Kept.boxM HX.out.k).pc
  rcases hr with rfl | ⟨hr0, hr1, l1⟩
  · go_wp2_with fail
    go_ret
    exact ⟨rfl, B.out⟩
  have hr2 : ¬ r < 0 := by omega
  go_wp2_with fail
  refine (toMachine_any _ m _ (Kept.boxM HX.out.k).at_ l1).mono ?_
  rintro e w2 ⟨v2, rfl, hO, hb⟩
  have z2 := hb.size
  have HX := Lib.hid (HX.out.below hb)
  have Ha1 := Lib.hid (Ha1.out.below hb)
  have B := Lib.hid (B.out.trans (hb.mono B.out.size))
  have C2 := Lib.hid (has_kept (A := fun w' => MachAt w' v2 m) (hO.at))
  clear hO hb
  go_wp2_with fail
  refine (toIntS_any _ ins _ (Kept.atN Ha1.out.k) (by omega)).mono ?_
  rintro e w3 ⟨v3, rfl, hO, hb⟩
  have z3 := hb.size
  have HX := Lib.hid (HX.out.below hb)
  have Ha1 := Lib.hid (Ha1.out.below hb)
  have C2 := Lib.hid (C2.out.below hb)
  have B := Lib.hid (B.out.trans (hb.mono B.out.size))
  have C3 := Lib.hid (has_kept (A := fun w' => IntsAt w' v3 ins) (Row.of_own hO))
  clear hO hb
  go_wp2_with fail
  refine (specRun_any _ _ m ins _ (Kept.atM C2.out.k) (Kept.atN C3.out.k)).mono ?_
  rintro e w4 ⟨u0, rfl, hO, hb⟩
  have z4 := hb.size
  have HX := Lib.hid (HX.out.below hb)
  have Ha1 := Lib.hid (Ha1.out.below hb)
  have C2 := Lib.hid (C2.out.below hb)
  have C3 := Lib.hid (C3.out.below hb)
  have B := Lib.hid (B.out.trans (hb.mono B.out.size))
  have W0 := Lib.hid (has_kept (A := fun w' => IntsAt w' u0 (Mac.runI m ins)) (Row.of_own hO))
  clear hO hb
  clear C2
  clear C3
  clear z p0 p1 p2
  obtain ⟨z, p0, p1, p2⟩ := (Kept.boxM HX.out.k).pc
  go_wp2_with fail
  refine (toMachine_any _ m _ (Kept.boxM HX.out.k).at_ l1).mono ?_
  rintro e w5 ⟨v5, rfl, hO, hb⟩
  have z5 := hb.size
  have HX := Lib.hid (HX.out.below hb)
  have Ha1 := Lib.hid (Ha1.out.below hb)
  have W0 := Lib.hid (W0.out.below hb)
  have B := Lib.hid (B.out.trans (hb.mono B.out.size))
  have C5 := Lib.hid (hasMT hO)
  clear hO hb
  obtain ⟨An, cn, Ao, co, hvx, -⟩ := (OwnMachE.at C5.out.k).shape
  subst hvx
  have hb := bel_new w5 (.cells #[.int .i64 m.ins, .slice An m.next.length cn, .slice Ao m.out.length co] 27)
  have HY := Lib.hid (has_kept (A := fun w' => BoxM w' w5.heap.size m (.slice An m.next.length cn) (.slice Ao m.out.length co)) (BoxM.made 27 (OwnMachE.at C5.out.k)))
  have z6 := hb.size
  have y6 : (w5.alloc (.cells #[.int .i64 m.ins, .slice An m.next.length cn, .slice Ao m.out.length co] 27)).heap.size = w5.heap.size + 1 := by simp
  have HX := Lib.hid (HX.out.below hb)
  have Ha1 := Lib.hid (Ha1.out.below hb)
  have W0 := Lib.hid (W0.out.below hb)
  have C5 := Lib.hid (C5.out.below hb)
  have B := Lib.hid (B.out.trans (hb.mono B.out.size))
  clear hb
  go_wp2_with fail
  obtain ⟨gY, hgY⟩ : ∃ gY, w5.heap.size = gY := ⟨_, rfl⟩
  rw [hgY] at HY ⊢
  have HgY := Lib.hid hgY
  clear hgY
  generalize w5.alloc (.cells #[.int .i64 m.ins, .slice An m.next.length cn, .slice Ao m.out.length co] 27) = w6 at *
  go_wp2_with fail
  refine (toIntS_any _ ins _ (Kept.atN Ha1.out.k) (by omega)).mono ?_
  rintro e w7 ⟨v7, rfl, hO, hb⟩
  have z7 := hb.size
  have HX := Lib.hid (HX.out.below hb)
  have Ha1 := Lib.hid (Ha1.out.below hb)
  have W0 := Lib.hid (W0.out.below hb)
  have C5 := Lib.hid (C5.out.below hb)
  have HY := Lib.hid (HY.out.below hb)
  have B := Lib.hid (B.out.trans (hb.mono B.out.size))
  have C7 := Lib.hid (has_row hO)
  clear hO hb
  clear z p0 p1 p2
  obtain ⟨z, p0, p1, p2⟩ := (Kept.boxM HY.out.k).pc
  go_wp2_with fail
  refine (implRun_any _ _ m ins _ (Kept.boxM HY.out.k).at_ (ints_of_row C7.out.k)).mono ?_
  rintro e w8 ⟨u1, rfl, hO, hb⟩
  have z8 := hb.size
  have HX := Lib.hid (HX.out.below hb)
  have Ha1 := Lib.hid (Ha1.out.below hb)
  have W0 := Lib.hid (W0.out.below hb)
  have C5 := Lib.hid (C5.out.below hb)
  have HY := Lib.hid (HY.out.below hb)
  have C7 := Lib.hid (C7.out.below hb)
  have B := Lib.hid (B.out.trans (hb.mono B.out.size))
  have G0 := Lib.hid (has_row hO)
  clear hO hb
  clear z p0 p1 p2
  go_wp2_with fail
  refine (eqIntS_any _ _ (Mac.runI m ins) (Mac.runI m ins) _ (ints_of_row G0.out.k) (Kept.atN W0.out.k) hlen.out).mono ?_
  rintro e w9 ⟨rfl, hd⟩
  rw [show decide ((Mac.runI m ins) = (Mac.runI m ins)) = true from decide_eq_true rfl]
  have hb := hd.below w8.heap.size
  clear hd
  have z9 := hb.size
  have HX := Lib.hid (HX.out.below hb)
  have Ha1 := Lib.hid (Ha1.out.below hb)
  have W0 := Lib.hid (W0.out.below hb)
  have C5 := Lib.hid (C5.out.below hb)
  have HY := Lib.hid (HY.out.below hb)
  have C7 := Lib.hid (C7.out.below hb)
  have G0 := Lib.hid (G0.out.below hb)
  have B := Lib.hid (B.out.trans (hb.mono B.out.size))
  clear hb
  go_wp2_with fail
  have HX9 := Lib.hid (Kept.boxM HX.out.k)
  have HY9 := Lib.hid (Kept.boxM HY.out.k)
  refine wp_region_rs (quietRS Try.prog _ w9 _) quietRS_ok (by kernel_rfl) (by kernel_rfl) (by kernel_rfl) (Nat.le_of_ble_eq_true rfl) trivial trivial ?_
  refine rs_look quietRS_ok quiet_any (TEq (.agg #[.int .i64 m.ins, .slice An m.next.length cn, .slice Ao m.out.length co])) (stb_eq _ _) (fun ρ w' ho hK => by
    obtain ⟨h1, -⟩ := hK
    have h1' : ρ (.tmp 7) = .pointer (some ⟨gY, 0, none⟩) := h1
    obtain ⟨-, q0, q1, q2⟩ := HY9.out.pc.below (only_below ho)
    refine ⟨_, ?_, rfl⟩
    go_simp) ?_
  refine rs_look quietRS_ok quiet_any (TEq (.agg #[.int .i64 m.ins, vn, vo])) (stb_eq _ _) (fun ρ w' ho hK => by
    obtain ⟨h1, -⟩ := hK
    have h1' : ρ (.tmp 2) = .pointer (some ⟨w.heap.size, 0, none⟩) := h1
    obtain ⟨-, q0, q1, q2⟩ := HX9.out.pc.below (only_below ho)
    refine ⟨_, ?_, rfl⟩
    go_simp) ?_
  refine rs_call quietRS_ok quiet_any (TMach m) (stb_mach _) 13 _ _ rfl (fun ρ w' ho hK => by
    obtain ⟨h0, h1, -⟩ := hK
    have h0' : ρ (.func 13) = .func (.func 13) #[] #[] := h0
    have h1' : ρ (.tmp 39) = .agg #[.int .i64 m.ins, vn, vo] := h1
    refine ⟨#[.agg #[.int .i64 m.ins, vn, vo]], ?_, ?_⟩
    · go_simp
    · refine (toMachine_any _ m w' (HX9.out.at_.below (only_below ho)) l1).mono ?_
      rintro e w2 ⟨v2, rfl, hO, hb⟩
      exact ⟨v2, rfl, hO.at, hb⟩) ?_
  refine rs_call quietRS_ok quiet_any (TEq (.bool true)) (stb_eq _ _) 15 _ _ rfl (fun ρ w' ho hK => by
    obtain ⟨h0, h1, h2, -⟩ := hK
    have h0' : ρ (.func 15) = .func (.func 15) #[] #[] := h0
    have h1' : ρ (.tmp 38) = .agg #[.int .i64 m.ins, .slice An m.next.length cn, .slice Ao m.out.length co] := h1
    have h2' : MachAt w' (ρ (.tmp 40)) m := h2
    refine ⟨#[.agg #[.int .i64 m.ins, .slice An m.next.length cn, .slice Ao m.out.length co], ρ (.tmp 40)], ?_, ?_⟩
    · go_simp
    · refine (eqMachine_same _ _ m w' (HY9.out.at_.below (only_below ho)) h2' l1).mono ?_
      rintro e w2 ⟨rfl, hb⟩
      exact ⟨_, rfl, rfl, hb⟩) ?_
  refine rs_look quietRS_ok quiet_any (TEq (.bool false)) (stb_eq _ _) (fun ρ w' ho hK => by
    obtain ⟨h1, -⟩ := hK
    have h1' : ρ (.tmp 41) = .bool true := h1
    refine ⟨_, ?_, rfl⟩
    go_simp) ?_
  intro f w9 k9 hk9 hI9 ht9 hcp9
  have h9 : f 4 = .bool false := ht9 4 (Nat.le_of_ble_eq_true rfl)
  have Hb9 := Lib.hid (only_below hI9.2.1)
  simp only [putAll, h9, Nat.zero_add, Nat.reduceAdd, Act.put, List.setIfInBounds_toArray, List.set_cons_succ, List.set_cons_zero]
  generalize f 0 = z0, f 1 = z1, f 2 = z2, f 3 = z3
  clear hI9 ht9 hcp9 hk9 h9
  clear HX9 HY9
  have hb := Hb9.out
  have z10 := hb.size
  have HX := Lib.hid (HX.out.below hb)
  have Ha1 := Lib.hid (Ha1.out.below hb)
  have W0 := Lib.hid (W0.out.below hb)
  have C5 := Lib.hid (C5.out.below hb)
  have HY := Lib.hid (HY.out.below hb)
  have C7 := Lib.hid (C7.out.below hb)
  have G0 := Lib.hid (G0.out.below hb)
  have B := Lib.hid (B.out.trans (hb.mono B.out.size))
  clear hb Hb9
  go_wp2_with fail
  refine (toIntS_any _ ins _ (Kept.atN Ha1.out.k) (by omega)).mono ?_
  rintro e w11 ⟨v11, rfl, hO, hb⟩
  have z11 := hb.size
  have HX := Lib.hid (HX.out.below hb)
  have Ha1 := Lib.hid (Ha1.out.below hb)
  have W0 := Lib.hid (W0.out.below hb)
  have C5 := Lib.hid (C5.out.below hb)
  have HY := Lib.hid (HY.out.below hb)
  have C7 := Lib.hid (C7.out.below hb)
  have G0 := Lib.hid (G0.out.below hb)
  have B := Lib.hid (B.out.trans (hb.mono B.out.size))
  have Ct := Lib.hid (Row.of_own hO)
  clear hO hb
  go_wp2_with fail
  refine (eqIntS_any _ _ ins ins _ (ints_of_row C7.out.k) Ct.out (by omega)).mono ?_
  rintro e w12 ⟨rfl, hd⟩
  rw [show decide (ins = ins) = true from decide_eq_true rfl]
  have hb := hd.below w11.heap.size
  have z12 := hb.size
  have HX := Lib.hid (HX.out.below hb)
  have Ha1 := Lib.hid (Ha1.out.below hb)
  have W0 := Lib.hid (W0.out.below hb)
  have C5 := Lib.hid (C5.out.below hb)
  have HY := Lib.hid (HY.out.below hb)
  have C7 := Lib.hid (C7.out.below hb)
  have G0 := Lib.hid (G0.out.below hb)
  have B := Lib.hid (B.out.trans (hb.mono B.out.size))
  clear hb hd Ct
  obtain ⟨z, p0, p1, p2⟩ := (Kept.boxM HY.out.k).pc
  go_wp2_with fail
  have hmk := markMachine_only _ _ _ m 1 _ C5.out.k C5.out.t l1 (by omega)
  rw [show (((1 : Nat) : Int)) = 1 from rfl] at hmk
  refine hmk.mono ?_
  rintro e w13 ⟨⟨k13, rfl, hk13⟩, ho⟩
  clear hmk
  have z13 := ho.size
  clear HY
  have HX := Lib.hid (HX.out.apart ho (by omega))
  have Ha1 := Lib.hid (Ha1.out.apart ho (by omega))
  have W0 := Lib.hid (W0.out.apart ho (by omega))
  have C7 := Lib.hid (C7.out.apart ho (by omega))
  have G0 := Lib.hid (G0.out.apart ho (by omega))
  have B := Lib.hid (Only.below B.out ho B.out.size (fun g hg => by obtain ⟨h1, h2⟩ := hg; omega))
  clear ho C5
  go_wp2_with fail
  have hmk := markIntS_only _ _ _ _ k13 _ _ C7.out.k (by omega) (by omega)
  refine hmk.mono ?_
  rintro e w14 ⟨⟨k14, rfl, hk14⟩, ho⟩
  clear hmk
  have z14 := ho.size
  have HX := Lib.hid (HX.out.apart ho (by omega))
  have Ha1 := Lib.hid (Ha1.out.apart ho (by omega))
  have W0 := Lib.hid (W0.out.apart ho (by omega))
  have G0 := Lib.hid (G0.out.apart ho (by omega))
  have B := Lib.hid (Only.below B.out ho B.out.size (fun g hg => by obtain ⟨h1, h2⟩ := hg; omega))
  clear ho C7
  go_wp2_with fail
  have hkk : ¬ ((k14 : Int) < 0) := by omega
  go_wp2_with fail
  refine (eqIntS_any _ _ (Mac.runI m ins) (Mac.runI m ins) _ (ints_of_row G0.out.k) (Kept.atN W0.out.k) hlen.out).mono ?_
  rintro e w15 ⟨rfl, hd⟩
  rw [show decide ((Mac.runI m ins) = (Mac.runI m ins)) = true from decide_eq_true rfl]
  have hb := hd.below w14.heap.size
  clear hd
  have z15 := hb.size
  have HX := Lib.hid (HX.out.below hb)
  have Ha1 := Lib.hid (Ha1.out.below hb)
  have W0 := Lib.hid (W0.out.below hb)
  have G0 := Lib.hid (G0.out.below hb)
  have B := Lib.hid (B.out.trans (hb.mono B.out.size))
  clear hb
  go_wp2_with fail
  have hmk := markIntS_own _ _ _ _ 1 _ _ G0.out.k hlen.out (by omega)
  rw [show (((1 : Nat) : Int)) = 1 from rfl] at hmk
  refine hmk.mono ?_
  rintro e w16 ⟨rfl, ho, hM⟩
  clear hmk
  have z16 := ho.size
  have HX := Lib.hid (HX.out.apart ho (by omega))
  have Ha1 := Lib.hid (Ha1.out.apart ho (by omega))
  have W0 := Lib.hid (W0.out.apart ho (by omega))
  have B := Lib.hid (Only.below B.out ho B.out.size (fun g hg => by obtain ⟨h1, h2⟩ := hg; omega))
  have G0 := Lib.hid hM
  clear ho hM
  go_wp2_with fail
  have hh := heldIntS_any _ _ 1 _ (Row.of_own G0.out.k.1) hlen.out (by omega)
  rw [show (((1 : Nat) : Int)) = 1 from rfl] at hh
  refine hh.mono ?_
  rintro e w' ⟨rfl, rfl⟩
  clear hh
  clear z p0 p1 p2
  obtain ⟨z, p0, p1, p2⟩ := (Kept.boxM HX.out.k).pc
  go_wp2_with fail
  refine (toMachine_any _ m _ (Kept.boxM HX.out.k).at_ l1).mono ?_
  rintro e w17 ⟨v17, rfl, hO, hb⟩
  have z17 := hb.size
  have HX := Lib.hid (HX.out.below hb)
  have Ha1 := Lib.hid (Ha1.out.below hb)
  have W0 := Lib.hid (W0.out.below hb)
  have G0 := Lib.hid (G0.out.below hb)
  have B := Lib.hid (B.out.trans (hb.mono B.out.size))
  have C17 := Lib.hid (has_kept (A := fun w' => MachAt w' v17 m) (hO.at))
  clear hO hb
  go_wp2_with fail
  refine (toIntS_any _ ins _ (Kept.atN Ha1.out.k) (by omega)).mono ?_
  rintro e w18 ⟨v18, rfl, hO, hb⟩
  have z18 := hb.size
  have HX := Lib.hid (HX.out.below hb)
  have Ha1 := Lib.hid (Ha1.out.below hb)
  have W0 := Lib.hid (W0.out.below hb)
  have G0 := Lib.hid (G0.out.below hb)
  have C17 := Lib.hid (C17.out.below hb)
  have B := Lib.hid (B.out.trans (hb.mono B.out.size))
  have C18 := Lib.hid (has_kept (A := fun w' => IntsAt w' v18 ins) (Row.of_own hO))
  clear hO hb
  go_wp2_with fail
  refine (implRun_any _ _ m ins _ (Kept.atM C17.out.k) (Kept.atN C18.out.k)).mono ?_
  rintro e w19 ⟨u2, rfl, hO, hb⟩
  have z19 := hb.size
  have HX := Lib.hid (HX.out.below hb)
  have Ha1 := Lib.hid (Ha1.out.below hb)
  have W0 := Lib.hid (W0.out.below hb)
  have G0 := Lib.hid (G0.out.below hb)
  have C17 := Lib.hid (C17.out.below hb)
  have C18 := Lib.hid (C18.out.below hb)
  have B := Lib.hid (B.out.trans (hb.mono B.out.size))
  have H0 := Lib.hid (has_kept (A := fun w' => IntsAt w' u2 (Mac.runI m ins)) (Row.of_own hO))
  clear hO hb
  clear z p0 p1 p2
  go_wp2_with fail
  refine (eqIntS_any _ _ (Mac.runI m ins) (Mac.runI m ins) _ (Kept.atN H0.out.k) (Kept.atN W0.out.k) hlen.out).mono ?_
  rintro e w20 ⟨rfl, hd⟩
  rw [show decide ((Mac.runI m ins) = (Mac.runI m ins)) = true from decide_eq_true rfl]
  have hb := hd.below w19.heap.size
  clear hd
  have z20 := hb.size
  have HX := Lib.hid (HX.out.below hb)
  have Ha1 := Lib.hid (Ha1.out.below hb)
  have W0 := Lib.hid (W0.out.below hb)
  have G0 := Lib.hid (G0.out.below hb)
  have C17 := Lib.hid (C17.out.below hb)
  have C18 := Lib.hid (C18.out.below hb)
  have H0 := Lib.hid (H0.out.below hb)
  have B := Lib.hid (B.out.trans (hb.mono B.out.size))
  clear hb
  go_wp2_with fail
  have hh := heldIntS_any _ _ 1 _ (Row.of_own G0.out.k.1) hlen.out (by omega)
  rw [show (((1 : Nat) : Int)) = 1 from rfl] at hh
  refine hh.mono ?_
  rintro e w' ⟨rfl, rfl⟩
  clear hh
  go_wp2_with fail
  go_ret
  exact ⟨rfl, B.out⟩

/-! The step from the walk to the row. -/
set_option maxRecDepth 100000 in
theorem lifted (os : Os) (started : os.Started) (H : Type) (enc : TypeId × Value → H) :
    ReturnsInHanded {} Try.checked os 4 .any (Rows.fnExactRunMachineSpec.pre6 enc Try.prog Try.f4 Rows.fnExactRunMachineRow.domain false) (Rows.fnExactRunMachineSpec.post enc Try.prog Try.f4 false true false false) := by
  refine returnsInHanded_of_change (C := Try.checked) own started (by kernel_rfl) Try.func4
    (ChangeSpec.witness6 (enc := enc) (C := Try.checked) false ⟨#[], #[.agg #[.int .i64 0, .slice none 0 0, .slice none 0 0], .slice none 0 0], []⟩ 8 (by kernel_rfl) (by kernel_rfl) (by kernel_rfl) (by kernel_rfl)) ?_
  intro W base args ds gs before hval0 hW hcnd _
  have hval : ∀ (j : Nat) t v, Try.f4.params[j]? = some t → args[j]? = some v → Value.okWide Try.prog W .any base t v := hval0
  have hW' := hW
  obtain ⟨p, q, hA0, hV, rfl, hfz, hnd⟩ := hW
  have hA : DataW.TrodAll enc Try.prog W 0 (fun _ => true) true Try.f4.params.toList args.toList ds p := hA0
  rw [Try.params4] at hA hval
  obtain ⟨v0, vs0, d0, ds0, p0, q0, hargs, rfl, rfl, h0, r0⟩ := trodAll_cons hA
  obtain ⟨v1, vs1, d1, ds1, p1, q1, rfl, rfl, rfl, h1, r1⟩ := trodAll_cons r0
  obtain ⟨rfl, rfl, rfl⟩ := trodAll_nil r1
  obtain rfl : args = #[v0, v1] := by cases args; simp_all
  obtain ⟨rfl, rfl⟩ := trodVars_none hV
  have o0 : AMach W v0 := open_amach (hval 0 24 v0 rfl rfl) h0
  have lt0 : ∀ x ∈ p0, x.block < W.heap.size := by obtain ⟨m, hm⟩ := h0; exact DataW.trod_lt m _ _ _ hm
  have o1 : AInts W v1 := open_aints (hval 1 31 v1 rfl rfl) h1
  have lt1 : ∀ x ∈ p1, x.block < W.heap.size := by obtain ⟨m, hm⟩ := h1; exact DataW.trod_lt m _ _ _ hm
  clear hA0 hval0
  refine (walk v0 v1 W o0 o1).mono fun e W' ⟨he, bel⟩ => ?_
  subst he
  exact ⟨_, rfl, _, _, _, [], _, [], hW', trodAll_mk1 (shut_bool Try.underlying4 _), (trodAll_cons_mk (Below.trod laidOut (by kernel_rfl) (of_decide_eq_true (by kernel_rfl)) h0 bel lt0) (trodAll_cons_mk (Below.trod laidOut (by kernel_rfl) (of_decide_eq_true (by kernel_rfl)) h1 bel lt1) trodAll_mk0)), rfl, bel.frame _, fun h => by cases h⟩

theorem over : Rows.fnExactRunMachineRow.holds Try.pinned (OpenSpec.ofChange Rows.fnExactRunMachineSpec) :=
  OpenClaim.holds_of_wide 4 Try.f4 rfl rfl rfl rfl rfl rfl rfl ⟨rfl, rfl, rfl, rfl, rfl⟩ rfl rfl rfl rfl rfl (by kernel_rfl) Try.func4 (by kernel_rfl)
    (of_decide_eq_true (by kernel_rfl)) (by unfold Func.isWrapper; first | (rw [if_pos (by decide +kernel)]; kernel_rfl) | (rw [if_neg (by decide +kernel)]; exact ⟨rfl, rfl⟩))
    (fun os started H enc _ => lifted os started H enc)

/-- The statement. -/
theorem proved : Rows.FnExactRunMachineSaid := over
#print axioms proved
end Go.Proofs.Ythnfbjjnabohoaa.fnExactRunMachine
