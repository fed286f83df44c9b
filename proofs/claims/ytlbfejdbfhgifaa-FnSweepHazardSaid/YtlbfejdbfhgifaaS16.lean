import Derived.Test.YtlbfejdbfhgifaaS15
import Derived.Test.YtlbfejdbfhgifaaS02
import Derived.Test.YtlbfejdbfhgifaaS05
import Derived.Test.YtlbfejdbfhgifaaS13
set_option linter.unusedVariables false
set_option linter.unusedSimpArgs false
namespace Go.Proofs.Ytlbfejdbfhgifaa
open Go.RowKit Go.Maps
set_option maxRecDepth 100000
set_option maxHeartbeats 8000000
/-! Sweep, by the program. -/
namespace Cir
def sweepZ (c : Cz) : Cz := if valid c then toCz (sweepI (nat c)) else ⟨0, [], [], []⟩
theorem sweepZ_valid (c : Cz) : valid (sweepZ c) = true := by
  unfold sweepZ
  split
  · rename_i h
    exact ok_valid (sweepI_ok (nat_ok h).2)
  · rfl
theorem sweepZ_same {c : Cz} (h : valid c = true) : SameStep (nat c) (nat (sweepZ c)) := by
  unfold sweepZ
  rw [if_pos h, nat_toCz]
  exact sweepI_same (nat_ok h).2
end Cir
theorem pcirc_agg {w : World} {c : Cz} {An Ag Ao : Option Addr} {cn cg co : Nat} (h : CircAt w (.agg #[.int .i64 c.ins, .slice An c.next.length cn, .slice Ag c.gates.length cg, .slice Ao c.outs.length co]) c) :
    PCirc (w.alloc (.cells #[.int .i64 c.ins, .slice An c.next.length cn, .slice Ag c.gates.length cg, .slice Ao c.outs.length co] 31)) w.heap.size c := by
  obtain ⟨vn, vg, vo, e, i1, i2, i3⟩ := h
  injection e with e
  simp only [Array.mk.injEq, List.cons.injEq, and_true] at e
  obtain ⟨-, e1, e2, e3⟩ := e
  subst e1 e2 e3
  exact PCirc.boxed _ i1 i2 i3
theorem circOwn_fourS {w : World} {v : Value} {c : Cz} {gR : Nat} {u0 u1 u2 u3 : Value} {old : Array Value} (h : CircOwn 0 w v c) (hk : w.heap[gR]? = some (.cells old 31 (0, 0))) :
    CircOwn 0 ((((w.setCell ⟨gR, 0, none⟩ u0).setCell ⟨gR, 1, none⟩ u1).setCell ⟨gR, 2, none⟩ u2).setCell ⟨gR, 3, none⟩ u3) v c := by
  obtain ⟨vn, vg, vo, e, h1, h2, h3⟩ := h
  have n1 := own_ne_tag h1 hk (by decide)
  have n2 := own_ne_tag h2 hk (by decide)
  have n3 := own_ne_tag h3 hk (by decide)
  exact ⟨vn, vg, vo, e, own_setN (own_setN (own_setN (own_setN h1 n1) n1) n1) n1, own_setN (own_setN (own_setN (own_setN h2 n2) n2) n2) n2, own_setN (own_setN (own_setN (own_setN h3 n3) n3) n3) n3⟩
theorem ptr_any (i : Int) (A B C : Option Addr) (n m k p q r : Nat) (w : World) :
    Calls Try.prog 90 #[.agg #[.int .i64 i, .slice A n p, .slice B m q, .slice C k r]] w fun e w' => e = .returned (.pointer (some ⟨w.heap.size, 0, none⟩)) ∧ w' = w.alloc (.cells #[.int .i64 i, .slice A n p, .slice B m q, .slice C k r] 31) := by
  go_enter Try.func90, Try.ntmps90
  go_wp2_with fail
  go_ret
  exact ⟨rfl, rfl⟩
theorem implSweep_any (v : Value) (c : Cz) (w : World) (h : CircAt w v c) :
    Calls Try.prog 36 #[v] w fun e w' => (∃ v', e = .returned v' ∧ CircOwn 0 w' v' (Cir.sweepZ c)) ∧ Below w.heap.size w w' := by
  have HC := Lib.hid h
  obtain ⟨An, cn, Ag, cg, Ao, co, rfl⟩ := h.shape
  have hb0 := bel_new w (.cells #[.int .i64 c.ins, .slice An c.next.length cn, .slice Ag c.gates.length cg, .slice Ao c.outs.length co] 31)
  have hsz : (w.alloc (.cells #[.int .i64 c.ins, .slice An c.next.length cn, .slice Ag c.gates.length cg, .slice Ao c.outs.length co] 31)).heap.size = w.heap.size + 1 := by simp
  have hp0 := pcirc_agg h
  have PC := PCells.boxed w c.ins (.slice An c.next.length cn) (.slice Ag c.gates.length cg) (.slice Ao c.outs.length co) 31
  obtain ⟨W1, hW1⟩ : ∃ W1, w.alloc (.cells #[.int .i64 c.ins, .slice An c.next.length cn, .slice Ag c.gates.length cg, .slice Ao c.outs.length co] 31) = W1 := ⟨_, rfl⟩
  rw [hW1] at hb0 hsz hp0 PC
  have hb1 := bel_new W1 (.cells #[.int .i64 0, .slice none 0 0, .slice none 0 0, .slice none 0 0] 31)
  have hR1 := heap_alloc_new W1 (.cells #[.int .i64 0, .slice none 0 0, .slice none 0 0, .slice none 0 0] 31)
  have hp1 := hp0.below hb1
  have hB1 := hb0.trans (hb1.mono hb0.size)
  have hz1 : (W1.alloc (.cells #[.int .i64 0, .slice none 0 0, .slice none 0 0, .slice none 0 0] 31)).heap.size = W1.heap.size + 1 := by simp
  obtain ⟨zz, p0, p1, p2, p3⟩ := PC.below hb1
  have HC1 := Lib.hid (HC.out.below hB1)
  have Hp1 := Lib.hid hp1
  have HB1 := Lib.hid hB1
  have HR1 := Lib.hid hR1
  have hgw : W1.heap.size = w.heap.size + 1 := hsz
  clear hp0 hb0 hb1 hp1 hB1 hR1 HC h PC
  go_enter Try.func36, Try.ntmps36
  go_wp2_with fail
  generalize W1.alloc (.cells #[.int .i64 0, .slice none 0 0, .slice none 0 0, .slice none 0 0] 31) = W2 at *
  have HV := Lib.hid (implValid_any _ _ _ HC1.out)
  obtain ⟨gc, hgc⟩ : ∃ gc, gc = w.heap.size := ⟨_, rfl⟩
  obtain ⟨gR, hgR⟩ : ∃ gR, gR = w.heap.size + 1 := ⟨_, rfl⟩
  rw [← hgc] at p0 p1 p2 p3 zz Hp1
  rw [hgw, ← hgR] at HR1
  rw [← hgR, ← hgc]
  have hwR : w.heap.size ≤ gR := by omega
  have hgRz := blk_ltB HR1.out
  clear hW1 hsz hgw hgc hgR hz1
  refine HV.out.mono ?_
  rintro e w3 ⟨rfl, hb3⟩
  have Hp3 := Lib.hid (Hp1.out.below hb3)
  have HR3 := Lib.hid ((hb3.block gR hgRz).trans HR1.out)
  have HB3 := Lib.hid (HB1.out.trans (hb3.mono HB1.out.size))
  clear p0 p1 p2 p3 zz hb3 HB1 HR1 Hp1 HC1 HV
  cases hv : Cir.valid c
  · have HE : Hid (Cir.sweepZ c = ⟨0, [], [], []⟩) := Lib.hid (by unfold Cir.sweepZ; rw [hv]; rfl)
    have r0 := blk_cell HR3.out 0
    have r1 := blk_cell HR3.out 1
    have r2 := blk_cell HR3.out 2
    have r3 := blk_cell HR3.out 3
    have f0 := blk_free HR3.out 0
    have f1 := blk_free HR3.out 1
    have f2 := blk_free HR3.out 2
    have f3 := blk_free HR3.out 3
    clear hv
    go_wp2_with fail
    refine bodyPost_ret (v := .agg #[.int .i64 0, .slice none 0 0, .slice none 0 0, .slice none 0 0]) (by simp [results, Try.results36, go_sem, r0, r1, r2, r3]) rfl ⟨⟨_, rfl, ?_⟩, ?_⟩
    · rw [HE.out]
      exact ⟨_, _, _, rfl, World.ownsRow_nil _ _ _ _, World.ownsRow_nil _ _ _ _, World.ownsRow_nil _ _ _ _⟩
    · exact (((HB3.out.setCell hwR _).setCell hwR _).setCell hwR _).setCell hwR _
  · obtain ⟨hd1, hd2⟩ := Cir.nat_ok hv
    have HE : Hid (Cir.sweepZ c = Cir.toCz (Cir.sweepI (Cir.nat c))) := Lib.hid (by unfold Cir.sweepZ; rw [hv]; rfl)
    rw [hd1] at Hp3
    have HO := Lib.hid (optimize_any gc (Cir.nat c) w3 Hp3.out hd2)
    have hSw : Cir.sweepI (Cir.nat c) = Cir.optI (mapC (Cir.sweepU (Cir.optI (Cir.nat c))) (Cir.optI (Cir.nat c))) := rfl
    have hok := Cir.optI_ok hd2
    have hok2 := Cir.sweepC_ok hok
    have hok3 : Cir.Ok (mapC (Cir.sweepU (Cir.optI (Cir.nat c))) (Cir.optI (Cir.nat c))) := hok2
    rw [hSw] at HE
    generalize Cir.optI (Cir.nat c) = d at *
    have hgR3 := blk_ltB HR3.out
    have hm : 2 ^ (d.ins + d.next.length) ≤ 1000 := by
      have h1 := hok.ins
      have h2 := hok.nexts
      have h3 : 2 ^ (d.ins + d.next.length) ≤ 2 ^ 7 := Nat.pow_le_pow_right (by omega) (by omega)
      omega
    have HOk := Lib.hid hok
    have HOk3 := Lib.hid hok3
    clear hd1 hd2 Hp3 hv hSw hok hok2 hok3
    go_wp2_with fail
    refine HO.out.mono ?_
    rintro e w4 ⟨⟨v4, rfl, hC4⟩, hb4⟩
    obtain ⟨A1, c1, A2, c2, A4, c4, e6⟩ := hC4.at.shape
    subst e6
    have hP5 := pcirc_agg hC4.at
    have hb5 := bel_new w4 (.cells #[.int .i64 (Cir.toCz d).ins, .slice A1 (Cir.toCz d).next.length c1, .slice A2 (Cir.toCz d).gates.length c2, .slice A4 (Cir.toCz d).outs.length c4] 31)
    have hz5 : (w4.alloc (.cells #[.int .i64 (Cir.toCz d).ins, .slice A1 (Cir.toCz d).next.length c1, .slice A2 (Cir.toCz d).gates.length c2, .slice A4 (Cir.toCz d).outs.length c4] 31)).heap.size = w4.heap.size + 1 := by simp
    have hB5 := HB3.out.trans ((hb4.trans (hb5.mono hb4.size)).mono HB3.out.size)
    have hR5 := (hb5.block gR (Nat.lt_of_lt_of_le hgR3 hb4.size)).trans ((hb4.block gR hgR3).trans HR3.out)
    go_wp2_with fail
    generalize w4.alloc (.cells #[.int .i64 (Cir.toCz d).ins, .slice A1 (Cir.toCz d).next.length c1, .slice A2 (Cir.toCz d).gates.length c2, .slice A4 (Cir.toCz d).outs.length c4] 31) = W5 at *
    obtain ⟨g3, hg3⟩ : ∃ g3, g3 = w4.heap.size := ⟨_, rfl⟩
    rw [← hg3] at hP5 ⊢
    have HP5 := Lib.hid hP5
    have HR5 := Lib.hid hR5
    have HB5 := Lib.hid hB5
    have hgR5 := blk_ltB hR5
    clear hP5 hR5 hB5 hb4 hb5 hC4 hz5 hg3 HB3 HR3 HO hgR3
    refine (functions_any g3 d W5 HP5.out HOk.out).mono ?_
    rintro e w6 ⟨⟨v6, rfl, ho6⟩, hb6⟩
    obtain ⟨A6, c6, hv6⟩ := slice_of_own ho6
    subst hv6
    have hb7 := bel_new w6 (.cells #[.slice A6 (Cir.nvars d) c6] 109)
    have hk7 := heap_alloc_new w6 (.cells #[.slice A6 (Cir.nvars d) c6] 109)
    have hz7 : (w6.alloc (.cells #[.slice A6 (Cir.nvars d) c6] 109)).heap.size = w6.heap.size + 1 := by simp
    have hb67 := hb6.trans (hb7.mono hb6.size)
    have HP7 := Lib.hid (HP5.out.below hb67)
    have HR7 := Lib.hid ((hb67.block gR hgR5).trans HR5.out)
    have HB7 := Lib.hid (HB5.out.trans (hb67.mono HB5.out.size))
    have HS7 := Lib.hid (own_below ho6 hb7)
    have HK7 := Lib.hid hk7
    go_wp2_with fail
    generalize w6.alloc (.cells #[.slice A6 (Cir.nvars d) c6] 109) = W7 at *
    obtain ⟨g4, hg4⟩ : ∃ g4, g4 = w6.heap.size := ⟨_, rfl⟩
    rw [← hg4] at HK7 ⊢
    have hg4z := blk_ltB HK7.out
    have hgR7 := blk_ltB HR7.out
    clear hb6 hb7 hk7 hz7 hb67 ho6 HP5 HR5 HB5 hg4
    have HRp := Lib.hid (replaced_any g3 (2 * Cir.nvars d) d 92 #[.pointer (some ⟨g4, 0, none⟩)] (Cir.sweepU d) W7 HP7.out (by have := HOk.out.nexts; omega) (by have := HOk.out.gatess; omega) (by have := HOk.out.outss; omega) (fun l hl => HOk.out.next l hl) (fun x hx => by
      obtain ⟨k, hk, rfl⟩ := List.mem_iff_getElem.1 hx
      have h1 := HOk.out.gate k _ (List.getElem?_eq_getElem hk)
      unfold Cir.nvars
      omega) (fun l hl => HOk.out.out l hl) (fun vs w' => by kernel_rfl) (fun w' hb l hl => sweepUse_any g4 l (Cir.nvars d) d (.slice A6 (Cir.nvars d) c6) w' ((hb.cell (p := ⟨g4, 0, none⟩) hg4z).trans (blk_cell HK7.out 0)) (Nat.lt_of_lt_of_le hg4z hb.size) (Row.below (Row.of_own HS7.out) hb) (by omega) (by
        have h1 := HOk.out.ins
        have h2 := HOk.out.nexts
        have h3 := HOk.out.gatess
        unfold Cir.nvars Cir.nfirst at hl
        omega) hm))
    refine HRp.out.mono ?_
    rintro e w8 ⟨⟨v8, rfl, hC8⟩, hb8⟩
    have hC8' := hC8.at
    obtain ⟨B1, d1, B2, d2, B4, d4, e8⟩ := hC8'.shape
    subst e8
    have HR8 := Lib.hid ((hb8.block gR hgR7).trans HR7.out)
    have HB8 := Lib.hid (HB7.out.trans (hb8.mono HB7.out.size))
    have HC8 := Lib.hid hC8'
    have hgR8 := blk_ltB HR8.out
    clear hC8 hC8' hb8 HRp HR7 HB7 HK7 HS7 HP7
    go_wp2_with fail
    refine (ptr_any _ _ _ _ _ _ _ _ _ _ w8).mono ?_
    rintro e w9 ⟨rfl, hw9⟩
    have hP9 := pcirc_agg HC8.out
    have hb9 := bel_new w8 (.cells #[.int .i64 (Cir.toCz (mapC (Cir.sweepU d) d)).ins, .slice B1 (Cir.toCz (mapC (Cir.sweepU d) d)).next.length d1, .slice B2 (Cir.toCz (mapC (Cir.sweepU d) d)).gates.length d2, .slice B4 (Cir.toCz (mapC (Cir.sweepU d) d)).outs.length d4] 31)
    rw [← hw9] at hP9 hb9
    have HP9 := Lib.hid hP9
    have HR9 := Lib.hid ((hb9.block gR hgR8).trans HR8.out)
    have HB9 := Lib.hid (HB8.out.trans (hb9.mono HB8.out.size))
    have hgR9 := blk_ltB HR9.out
    have HO9 := Lib.hid (optimize_any w8.heap.size _ w9 HP9.out HOk3.out)
    rw [← HE.out] at HO9
    clear hP9 hb9 hw9 HR8 HB8 HC8 HP9
    go_wp2_with fail
    refine HO9.out.mono ?_
    rintro e wa ⟨⟨va, rfl, hCa⟩, hba⟩
    have hRa := (hba.block gR hgR9).trans HR9.out
    have HCa := Lib.hid hCa
    have HBa := Lib.hid (HB9.out.trans (hba.mono HB9.out.size))
    obtain ⟨A7, c7, A8, c8, A9, c9, e9⟩ := hCa.at.shape
    subst e9
    have HRa := Lib.hid hRa
    have r0 := blk_cell hRa 0
    have r1 := blk_cell hRa 1
    have r2 := blk_cell hRa 2
    have r3 := blk_cell hRa 3
    have f0 := blk_free hRa 0
    have f1 := blk_free hRa 1
    have f2 := blk_free hRa 2
    have f3 := blk_free hRa 3
    clear hCa hba hRa HB9 HR9 HO9
    generalize hL1 : (Cir.sweepZ c).next.length = L1 at *
    generalize hL2 : (Cir.sweepZ c).gates.length = L2 at *
    generalize hL3 : (Cir.sweepZ c).outs.length = L3 at *
    generalize hL4 : (Cir.sweepZ c).ins = L4 at *
    clear hL1 hL2 hL3 hL4
    go_wp2_with fail
    refine bodyPost_ret (v := .agg #[.int .i64 L4, .slice A7 L1 c7, .slice A8 L2 c8, .slice A9 L3 c9]) (by simp [results, Try.results36, go_sem, r0, r1, r2, r3]) rfl ⟨⟨_, rfl, circOwn_fourS HCa.out HRa.out⟩, ?_⟩
    exact (((HBa.out.setCell hwR _).setCell hwR _).setCell hwR _).setCell hwR _
end Go.Proofs.Ytlbfejdbfhgifaa

namespace Go.Proofs.Ytlbfejdbfhgifaa
open Go.RowKit
set_option maxRecDepth 100000
set_option maxHeartbeats 8000000
/-! Circuits with the same steps are equivalent, by the program. -/
theorem pcirc_aggE {w : World} {c : Cz} {An Ag Ao : Option Addr} {cn cg co : Nat} (h : CircAt w (.agg #[.int .i64 c.ins, .slice An c.next.length cn, .slice Ag c.gates.length cg, .slice Ao c.outs.length co]) c) :
    PCirc (w.alloc (.cells #[.int .i64 c.ins, .slice An c.next.length cn, .slice Ag c.gates.length cg, .slice Ao c.outs.length co] 31)) w.heap.size c := by
  obtain ⟨vn, vg, vo, e, i1, i2, i3⟩ := h
  injection e with e
  simp only [Array.mk.injEq, List.cons.injEq, and_true] at e
  obtain ⟨-, e1, e2, e3⟩ := e
  subst e1 e2 e3
  exact PCirc.boxed _ i1 i2 i3
theorem sliceEqB_same (v v2 : Value) (xs : List Bool) (w : World) (h : BoolsAt w v xs) (h2 : BoolsAt w v2 xs) :
    Calls Try.prog 118 #[v, v2] w fun e w' => e = .returned (.bool true) ∧ Drew w w' := by
  obtain ⟨A, c, hv, hc, hcm⟩ := Row.shape h
  obtain ⟨A2, c2, hv2, hc2, hcm2⟩ := Row.shape h2
  subst hv hv2
  unfold maxLen at hcm hcm2
  have he1 : ((xs.length : Int) != (xs.length : Int)) = false := by simp
  have H1 := Lib.hid h
  have H2 := Lib.hid h2
  clear h h2
  go_enter Try.func118, Try.ntmps118
  go_wp2_with fail
  go_loopw [13] (fun i wr => ∃ (k : Nat), k ≤ xs.length ∧ i = .int .i64 k ∧ Drew w wr) (fun i _ => xs.length - (intOf i).toNat)
  case atStart => exact ⟨0, Nat.zero_le _, rfl, Drew.refl _⟩
  case round =>
    obtain ⟨k, hk, rfl, hd⟩ := hrel
    by_cases hlt : k < xs.length
    · obtain ⟨b, o, x, rfl, hbl, hx, hs⟩ := bools_open H1.out (hd.below _) rfl hlt
      obtain ⟨b2, o2, y, rfl, hbl2, hy, hs2⟩ := bools_open H2.out (hd.below _) rfl hlt
      have hxy : x = y := Option.some.inj (hx.out.symm.trans hy.out)
      subst hxy
      have hxx : (x != x) = false := by simp
      have Hd := Lib.hid hd
      clear hx hy hd
      go_wp2_with fail
      go_quiet (fail)
      go_wp2_with fail
      go_roundw
      case rel => exact ⟨k + 1, by omega, by go_num, Hd.out.more _⟩
      case measure => simp [intOf]; omega
    · go_wp2_with fail
      go_ret
      exact ⟨rfl, hd⟩
theorem sameInterface_any (v v2 : Value) (a b : Ci) (w : World) (h : CircAt w v (Cir.toCz a)) (h2 : CircAt w v2 (Cir.toCz b)) (ha : Cir.Ok a) (hb : Cir.Ok b) (hs : Cir.SameStep a b) :
    Calls Try.prog 82 #[v, v2] w fun e w' => e = .returned (.bool true) ∧ Below w.heap.size w w' := by
  have H1 := Lib.hid h
  have H2 := Lib.hid h2
  have v1 := Cir.ok_valid ha
  have v2' := Cir.ok_valid hb
  obtain ⟨An, cn, Ag, cg, Ao, co, rfl⟩ := h.shape
  obtain ⟨Bn, dn, Bg, dg, Bo, d_o, rfl⟩ := h2.shape
  have hin : (Cir.toCz b).ins = (Cir.toCz a).ins := by show ((b.ins : Nat) : Int) = _; rw [hs.ins]; rfl
  have hnx : (Cir.toCz b).next.length = (Cir.toCz a).next.length := by simp [Cir.toCz, hs.nexts]
  have hou : (Cir.toCz b).outs.length = (Cir.toCz a).outs.length := by simp [Cir.toCz, hs.outss]
  rw [hin, hnx, hou] at H2 ⊢
  have HV1 : Hid (∀ w', Below w.heap.size w w' → Calls Try.prog 47 #[.agg #[.int .i64 (Cir.toCz a).ins, .slice An (Cir.toCz a).next.length cn, .slice Ag (Cir.toCz a).gates.length cg, .slice Ao (Cir.toCz a).outs.length co]] w' fun e w'' => e = .returned (.bool true) ∧ Below w'.heap.size w' w'') := Lib.hid fun w' hb => by
    have := implValid_any _ _ w' (H1.out.below hb)
    rwa [v1] at this
  have HV2 : Hid (∀ w', Below w.heap.size w w' → Calls Try.prog 47 #[.agg #[.int .i64 (Cir.toCz a).ins, .slice Bn (Cir.toCz a).next.length dn, .slice Bg (Cir.toCz b).gates.length dg, .slice Bo (Cir.toCz a).outs.length d_o]] w' fun e w'' => e = .returned (.bool true) ∧ Below w'.heap.size w' w'') := Lib.hid fun w' hb => by
    have := implValid_any _ (Cir.toCz b) w' (H2.out.below hb)
    rwa [v2'] at this
  generalize (Cir.toCz a).ins = i0 at *
  generalize (Cir.toCz a).next.length = i1 at *
  generalize (Cir.toCz a).gates.length = i2 at *
  generalize (Cir.toCz a).outs.length = i3 at *
  generalize (Cir.toCz b).gates.length = j2 at *
  have e0 : (i0 == i0) = true := by simp
  have e1 : ((i1 : Int) == (i1 : Int)) = true := by simp
  have e3 : ((i3 : Int) == (i3 : Int)) = true := by simp
  have hb1 := bel_new w (.cells #[.int .i64 i0, .slice An i1 cn, .slice Ag i2 cg, .slice Ao i3 co] 31)
  have P1 := PCells.boxed w i0 (.slice An i1 cn) (.slice Ag i2 cg) (.slice Ao i3 co) 31
  obtain ⟨W1, hW1⟩ : ∃ W1, w.alloc (.cells #[.int .i64 i0, .slice An i1 cn, .slice Ag i2 cg, .slice Ao i3 co] 31) = W1 := ⟨_, rfl⟩
  rw [hW1] at hb1 P1
  have hb2 := bel_new W1 (.cells #[.int .i64 i0, .slice Bn i1 dn, .slice Bg j2 dg, .slice Bo i3 d_o] 31)
  have P2 := PCells.boxed W1 i0 (.slice Bn i1 dn) (.slice Bg j2 dg) (.slice Bo i3 d_o) 31
  have hB2 := hb1.trans (hb2.mono hb1.size)
  have P12 := P1.below hb2
  clear h h2 H1 H2 hs ha hb v1 v2' hin hnx hou
  have P1h := Lib.hid P12
  have P2h := Lib.hid P2
  have HB2 := Lib.hid hB2
  obtain ⟨z1, p0, p1, p2, p3⟩ := P12
  obtain ⟨z2, q0, q1, q2, q3⟩ := P2
  clear hb1 hb2 P1 hB2
  go_enter Try.func82, Try.ntmps82
  go_wp2_with fail
  clear z1 p0 p1 p2 p3 z2 q0 q1 q2 q3
  generalize W1.alloc (.cells #[.int .i64 i0, .slice Bn i1 dn, .slice Bg j2 dg, .slice Bo i3 d_o] 31) = W2 at *
  obtain ⟨g1, hg1⟩ : ∃ g1, w.heap.size = g1 := ⟨_, rfl⟩
  obtain ⟨g2, hg2⟩ : ∃ g2, W1.heap.size = g2 := ⟨_, rfl⟩
  rw [hg1] at P1h ⊢
  rw [hg2] at P2h ⊢
  clear hg1 hg2
  refine (HV1.out W2 HB2.out).mono ?_
  rintro e w3 ⟨rfl, hb3⟩
  replace P1h := Lib.hid (P1h.out.below hb3)
  replace P2h := Lib.hid (P2h.out.below hb3)
  have HB3 := Lib.hid (HB2.out.trans (hb3.mono HB2.out.size))
  clear hb3 HB2 HV1
  obtain ⟨z1, p0, p1, p2, p3⟩ := P1h.out
  obtain ⟨z2, q0, q1, q2, q3⟩ := P2h.out
  go_wp2_with fail
  refine (HV2.out w3 HB3.out).mono ?_
  rintro e w4 ⟨rfl, hb4⟩
  clear z1 p0 p1 p2 p3 z2 q0 q1 q2 q3
  replace P1h := Lib.hid (P1h.out.below hb4)
  replace P2h := Lib.hid (P2h.out.below hb4)
  have HB4 := Lib.hid (HB3.out.trans (hb4.mono HB3.out.size))
  clear hb4 HB3 HV2
  obtain ⟨z1, p0, p1, p2, p3⟩ := P1h.out
  obtain ⟨z2, q0, q1, q2, q3⟩ := P2h.out
  go_wp2_with fail
  go_ret
  exact ⟨rfl, HB4.out⟩
theorem findDiff_any (v v2 : Value) (a b : Ci) (w : World) (h : CircAt w v (Cir.toCz a)) (h2 : CircAt w v2 (Cir.toCz b)) (ha : Cir.Ok a) (hb : Cir.Ok b) (hs : Cir.SameStep a b) :
    Calls Try.prog 83 #[v, v2] w fun e w' => e = .returned (.agg #[.bool false, .slice none 0 0, .slice none 0 0]) ∧ Below w.heap.size w w' := by
  have H1 := Lib.hid h
  have H2 := Lib.hid h2
  obtain ⟨An, cn, Ag, cg, Ao, co, e1⟩ := h.shape
  obtain ⟨Bn, dn, Bg, dg, Bo, d_o, e2⟩ := h2.shape
  subst e1 e2
  have hp1 := pcirc_aggE H1.out
  have hb1 := bel_new w (.cells #[.int .i64 (Cir.toCz a).ins, .slice An (Cir.toCz a).next.length cn, .slice Ag (Cir.toCz a).gates.length cg, .slice Ao (Cir.toCz a).outs.length co] 31)
  have P1 := PCells.boxed w (Cir.toCz a).ins (.slice An (Cir.toCz a).next.length cn) (.slice Ag (Cir.toCz a).gates.length cg) (.slice Ao (Cir.toCz a).outs.length co) 31
  obtain ⟨W1, hW1⟩ : ∃ W1, w.alloc (.cells #[.int .i64 (Cir.toCz a).ins, .slice An (Cir.toCz a).next.length cn, .slice Ag (Cir.toCz a).gates.length cg, .slice Ao (Cir.toCz a).outs.length co] 31) = W1 := ⟨_, rfl⟩
  rw [hW1] at hb1 P1 hp1
  have hp2 := pcirc_aggE (H2.out.below hb1)
  have hb2 := bel_new W1 (.cells #[.int .i64 (Cir.toCz b).ins, .slice Bn (Cir.toCz b).next.length dn, .slice Bg (Cir.toCz b).gates.length dg, .slice Bo (Cir.toCz b).outs.length d_o] 31)
  have P2 := PCells.boxed W1 (Cir.toCz b).ins (.slice Bn (Cir.toCz b).next.length dn) (.slice Bg (Cir.toCz b).gates.length dg) (.slice Bo (Cir.toCz b).outs.length d_o) 31
  obtain ⟨W2, hW2⟩ : ∃ W2, W1.alloc (.cells #[.int .i64 (Cir.toCz b).ins, .slice Bn (Cir.toCz b).next.length dn, .slice Bg (Cir.toCz b).gates.length dg, .slice Bo (Cir.toCz b).outs.length d_o] 31) = W2 := ⟨_, rfl⟩
  rw [hW2] at hb2 P2 hp2
  have hb3 := bel_new W2 (.cells #[.bool false, .slice none 0 0, .slice none 0 0] 100)
  have hk3 := heap_alloc_new W2 (.cells #[.bool false, .slice none 0 0, .slice none 0 0] 100)
  have HP1 := Lib.hid ((hp1.below hb2).below hb3)
  have HP2 := Lib.hid (hp2.below hb3)
  have C1 := Lib.hid ((P1.below hb2).below hb3)
  have C2 := Lib.hid (P2.below hb3)
  have HB := Lib.hid (hb1.trans ((hb2.trans (hb3.mono hb2.size)).mono hb1.size))
  have hwR : w.heap.size ≤ W2.heap.size := Nat.le_trans hb1.size hb2.size
  have HK := Lib.hid hk3
  have HSI : Hid (∀ w', Below w.heap.size w w' → Calls Try.prog 82 #[.agg #[.int .i64 (Cir.toCz a).ins, .slice An (Cir.toCz a).next.length cn, .slice Ag (Cir.toCz a).gates.length cg, .slice Ao (Cir.toCz a).outs.length co], .agg #[.int .i64 (Cir.toCz b).ins, .slice Bn (Cir.toCz b).next.length dn, .slice Bg (Cir.toCz b).gates.length dg, .slice Bo (Cir.toCz b).outs.length d_o]] w' fun e w'' => e = .returned (.bool true) ∧ Below w'.heap.size w' w'') := Lib.hid fun w' hb' => sameInterface_any _ _ a b w' (H1.out.below hb') (H2.out.below hb') ha hb hs
  obtain ⟨m, hm⟩ : ∃ m, m = a.ins + a.next.length := ⟨_, rfl⟩
  have hm7 : m ≤ 7 := by have := ha.ins; have := ha.nexts; omega
  have HAs : Hid (∀ g w', PCirc w' g (Cir.toCz a) → Calls Try.prog 48 #[.pointer (some ⟨g, 0, none⟩)] w' fun e w'' => e = .returned (.int .i64 ((2 ^ m : Nat) : Int)) ∧ Below w'.heap.size w' w'') := Lib.hid fun g w' hp => assignments_any g _ m w' hp (by show ((a.ins : Nat) : Int) + ((a.next.map Int.ofNat).length : Int) = _; rw [List.length_map, hm]; omega) hm7
  have HEq : Hid (∀ x, Cir.lits (Cir.valsA b x) (b.next ++ b.outs) = Cir.lits (Cir.valsA a x) (a.next ++ a.outs)) := Lib.hid fun x => by
    have h1 := hs.step (Cir.bits (x / 2 ^ a.ins) a.next.length) (Cir.bits x a.ins) (Cir.bits_length _ _) (Cir.bits_length _ _)
    unfold Cir.valsA
    rw [hs.ins, hs.nexts]
    unfold Cir.lits at h1 ⊢
    rw [List.map_append, List.map_append, h1.1, h1.2]
  have HRa : Hid (∀ g x w', PCirc w' g (Cir.toCz a) → x ≤ 1000 → Calls Try.prog 105 #[.pointer (some ⟨g, 0, none⟩), .int .i64 (x : Nat), .int .i64 (-1), .bool false] w' (OwnBools (Cir.lits (Cir.valsA a x) (a.next ++ a.outs)) w')) := Lib.hid fun g x w' hp hx => results_any g a x w' hp ha hx
  have HRb : Hid (∀ g x w', PCirc w' g (Cir.toCz b) → x ≤ 1000 → Calls Try.prog 105 #[.pointer (some ⟨g, 0, none⟩), .int .i64 (x : Nat), .int .i64 (-1), .bool false] w' (OwnBools (Cir.lits (Cir.valsA a x) (a.next ++ a.outs)) w')) := Lib.hid fun g x w' hp hx => by
    have := results_any g b x w' hp hb hx
    rwa [HEq.out x] at this
  have h20 : 2 ^ m ≤ 128 := Nat.pow_le_pow_right (show 0 < 2 by decide) hm7
  generalize 2 ^ m = M at *
  clear h h2 hp1 hp2 P1 P2 hb1 hb2 hb3 hk3 ha hb hs hm H1 H2 HEq
  obtain ⟨z1, p0, p1, p2, p3⟩ := C1.out
  obtain ⟨z2, q0, q1, q2, q3⟩ := C2.out
  go_enter Try.func83, Try.ntmps83
  go_wp2_with fail
  generalize W2.alloc (.cells #[.bool false, .slice none 0 0, .slice none 0 0] 100) = W3 at *
  obtain ⟨g1, hg1⟩ : ∃ g1, w.heap.size = g1 := ⟨_, rfl⟩
  obtain ⟨g2, hg2⟩ : ∃ g2, W1.heap.size = g2 := ⟨_, rfl⟩
  obtain ⟨g3, hg3⟩ : ∃ g3, W2.heap.size = g3 := ⟨_, rfl⟩
  refine (HSI.out W3 HB.out).mono ?_
  rintro e w4 ⟨rfl, hb4⟩
  have hzK := blk_ltB HK.out
  clear z1 p0 p1 p2 p3 z2 q0 q1 q2 q3 hW1 hW2
  have HK4 := Lib.hid ((hb4.block _ hzK).trans HK.out)
  have HP14 := Lib.hid (HP1.out.below hb4)
  have HP24 := Lib.hid (HP2.out.below hb4)
  have HB4 := Lib.hid (HB.out.trans (hb4.mono HB.out.size))
  rw [hg1] at HP14
  rw [hg2] at HP24
  rw [hg3] at HK4 hwR
  rw [hg1, hg2, hg3]
  clear hb4 HK HP1 HP2 HB C1 C2 HSI hg2 hg3 hzK
  go_wp2_with fail
  refine (HAs.out _ _ HP14.out).mono ?_
  rintro e w5 ⟨rfl, hb5⟩
  have HK5 := Lib.hid ((hb5.block _ (blk_ltB HK4.out)).trans HK4.out)
  have HP15 := Lib.hid (HP14.out.below hb5)
  have HP25 := Lib.hid (HP24.out.below hb5)
  have HB5 := Lib.hid (HB4.out.trans (hb5.mono HB4.out.size))
  clear hb5 HK4 HP14 HP24 HB4 HAs
  go_wp2_with fail
  go_loopw [12] (fun i wr => ∃ x : Nat, x ≤ M ∧ i = .int .i64 x ∧ Hid (PCirc wr g1 (Cir.toCz a)) ∧ Hid (PCirc wr g2 (Cir.toCz b)) ∧ Hid (wr.heap[g3]? = some (.cells #[.bool false, .slice none 0 0, .slice none 0 0] 100 (0, 0))) ∧ Hid (Below w.heap.size w wr)) (fun i _ => M - (intOf i).toNat)
  case atStart => exact ⟨0, Nat.zero_le _, rfl, HP15, HP25, HK5, HB5⟩
  case round =>
    obtain ⟨x, hx, rfl, HP1, HP2, HK, HB⟩ := hrel
    clear HP15 HP25 HK5 HB5
    by_cases hlt : x < M
    · go_wp2_with fail
      refine (HRa.out g1 x wr HP1.out (by omega)).mono ?_
      rintro e w6 ⟨v6, rfl, ho6, hb6⟩
      have HP26 := Lib.hid (HP2.out.below hb6)
      have HP16 := Lib.hid (HP1.out.below hb6)
      have HK6 := Lib.hid ((hb6.block _ (blk_ltB HK.out)).trans HK.out)
      have HB6 := Lib.hid (HB.out.trans (hb6.mono HB.out.size))
      have HR6 := Lib.hid (ownBools_at ho6)
      clear hb6 ho6 HP1 HP2 HK HB
      go_wp2_with fail
      refine (HRb.out g2 x w6 HP26.out (by omega)).mono ?_
      rintro e w7 ⟨v7, rfl, ho7, hb7⟩
      have HP27 := Lib.hid (HP26.out.below hb7)
      have HP17 := Lib.hid (HP16.out.below hb7)
      have HK7 := Lib.hid ((hb7.block _ (blk_ltB HK6.out)).trans HK6.out)
      have HB7 := Lib.hid (HB6.out.trans (hb7.mono HB6.out.size))
      have HR7 := Lib.hid (Row.below HR6.out hb7)
      have HS7 := Lib.hid (ownBools_at ho7)
      clear hb7 ho7 HP16 HP26 HK6 HB6 HR6
      go_wp2_with fail
      refine (sliceEqB_same v6 v7 _ w7 HR7.out HS7.out).mono ?_
      rintro e w8 ⟨rfl, hd8⟩
      have hb8 := hd8.below w7.heap.size
      have HP28 := Lib.hid (HP27.out.below hb8)
      have HP18 := Lib.hid (HP17.out.below hb8)
      have HK8 := Lib.hid ((hb8.block _ (blk_ltB HK7.out)).trans HK7.out)
      have HB8 := Lib.hid (HB7.out.trans (hb8.mono HB7.out.size))
      clear hb8 hd8 HP17 HP27 HK7 HB7 HR7 HS7
      go_wp2_with fail
      go_roundw
      case rel => exact ⟨x + 1, by omega, by go_num, HP18, HP28, HK8, HB8⟩
      case measure => simp [intOf]; omega
    · obtain rfl : x = M := by omega
      have r0 := blk_cell HK.out 0
      have r1 := blk_cell HK.out 1
      have r2 := blk_cell HK.out 2
      have f0 := blk_free HK.out 0
      have f1 := blk_free HK.out 1
      have f2 := blk_free HK.out 2
      simp at r0 r1 r2
      go_wp2_with fail
      refine bodyPost_ret (v := .agg #[.bool false, .slice none 0 0, .slice none 0 0]) (by simp [results, Try.results83, go_sem, r0, r1, r2]) rfl ⟨rfl, ?_⟩
      rw [hg1] at HB hwR ⊢
      exact ((HB.out.setCell hwR _).setCell hwR _).setCell hwR _
theorem ce_field0 (b : Bool) (A B : Option Addr) (n c m d : Nat) (w : World) : (Instr.field 100 (.agg #[.bool b, .slice A n c, .slice B m d]) 0).run Try.prog w = .ok (.bool b) w := by kernel_rfl
theorem equiv_any (v v2 : Value) (a b : Ci) (w : World) (h : CircAt w v (Cir.toCz a)) (h2 : CircAt w v2 (Cir.toCz b)) (ha : Cir.Ok a) (hb : Cir.Ok b) (hs : Cir.SameStep a b) :
    Calls Try.prog 31 #[v, v2] w fun e w' => e = .returned (.bool true) ∧ Below w.heap.size w w' := by
  have H1 := Lib.hid h
  have H2 := Lib.hid h2
  obtain ⟨An, cn, Ag, cg, Ao, co, e1⟩ := h.shape
  obtain ⟨Bn, dn, Bg, dg, Bo, d_o, e2⟩ := h2.shape
  subst e1 e2
  have hb1 := bel_new w (.cells #[.int .i64 (Cir.toCz a).ins, .slice An (Cir.toCz a).next.length cn, .slice Ag (Cir.toCz a).gates.length cg, .slice Ao (Cir.toCz a).outs.length co] 31)
  have P1 := PCells.boxed w (Cir.toCz a).ins (.slice An (Cir.toCz a).next.length cn) (.slice Ag (Cir.toCz a).gates.length cg) (.slice Ao (Cir.toCz a).outs.length co) 31
  obtain ⟨W1, hW1⟩ : ∃ W1, w.alloc (.cells #[.int .i64 (Cir.toCz a).ins, .slice An (Cir.toCz a).next.length cn, .slice Ag (Cir.toCz a).gates.length cg, .slice Ao (Cir.toCz a).outs.length co] 31) = W1 := ⟨_, rfl⟩
  rw [hW1] at hb1 P1
  have hb2 := bel_new W1 (.cells #[.int .i64 (Cir.toCz b).ins, .slice Bn (Cir.toCz b).next.length dn, .slice Bg (Cir.toCz b).gates.length dg, .slice Bo (Cir.toCz b).outs.length d_o] 31)
  have P2 := PCells.boxed W1 (Cir.toCz b).ins (.slice Bn (Cir.toCz b).next.length dn) (.slice Bg (Cir.toCz b).gates.length dg) (.slice Bo (Cir.toCz b).outs.length d_o) 31
  have P12 := P1.below hb2
  have HB2 := Lib.hid (hb1.trans (hb2.mono hb1.size))
  have HSI : Hid (∀ w', Below w.heap.size w w' → Calls Try.prog 82 #[.agg #[.int .i64 (Cir.toCz a).ins, .slice An (Cir.toCz a).next.length cn, .slice Ag (Cir.toCz a).gates.length cg, .slice Ao (Cir.toCz a).outs.length co], .agg #[.int .i64 (Cir.toCz b).ins, .slice Bn (Cir.toCz b).next.length dn, .slice Bg (Cir.toCz b).gates.length dg, .slice Bo (Cir.toCz b).outs.length d_o]] w' fun e w'' => e = .returned (.bool true) ∧ Below w'.heap.size w' w'') := Lib.hid fun w' hb' => sameInterface_any _ _ a b w' (H1.out.below hb') (H2.out.below hb') ha hb hs
  have HFD : Hid (∀ w', Below w.heap.size w w' → Calls Try.prog 83 #[.agg #[.int .i64 (Cir.toCz a).ins, .slice An (Cir.toCz a).next.length cn, .slice Ag (Cir.toCz a).gates.length cg, .slice Ao (Cir.toCz a).outs.length co], .agg #[.int .i64 (Cir.toCz b).ins, .slice Bn (Cir.toCz b).next.length dn, .slice Bg (Cir.toCz b).gates.length dg, .slice Bo (Cir.toCz b).outs.length d_o]] w' fun e w'' => e = .returned (.agg #[.bool false, .slice none 0 0, .slice none 0 0]) ∧ Below w'.heap.size w' w'') := Lib.hid fun w' hb' => findDiff_any _ _ a b w' (H1.out.below hb') (H2.out.below hb') ha hb hs
  have C1 := Lib.hid P12
  have C2 := Lib.hid P2
  obtain ⟨z1, p0, p1, p2, p3⟩ := P12
  obtain ⟨z2, q0, q1, q2, q3⟩ := P2
  clear h h2 ha hb hs H1 H2 hb1 hb2 P1
  go_enter Try.func31, Try.ntmps31
  go_wp2_with fail
  clear z1 p0 p1 p2 p3 z2 q0 q1 q2 q3
  generalize W1.alloc (.cells #[.int .i64 (Cir.toCz b).ins, .slice Bn (Cir.toCz b).next.length dn, .slice Bg (Cir.toCz b).gates.length dg, .slice Bo (Cir.toCz b).outs.length d_o] 31) = W2 at *
  refine (HSI.out W2 HB2.out).mono ?_
  rintro e w3 ⟨rfl, hb3⟩
  have HB3 := Lib.hid (HB2.out.trans (hb3.mono HB2.out.size))
  obtain ⟨z1, p0, p1, p2, p3⟩ := C1.out.below hb3
  obtain ⟨z2, q0, q1, q2, q3⟩ := C2.out.below hb3
  clear hb3
  go_wp2_with fail
  refine (HFD.out w3 HB3.out).mono ?_
  rintro e w4 ⟨rfl, hb4⟩
  have HB4 := Lib.hid (HB3.out.trans (hb4.mono HB3.out.size))
  have hf := ce_field0 false none none 0 0 0 0 w4
  clear hb4 z1 p0 p1 p2 p3 z2 q0 q1 q2 q3
  go_wp2_with fail
  go_ret
  exact ⟨rfl, HB4.out⟩
end Go.Proofs.Ytlbfejdbfhgifaa
