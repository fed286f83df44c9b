import Derived.Test.YtkkkjbinfdohpaaS09
import Derived.Test.YtkkkjbinfdohpaaS10
import Derived.Test.YtkkkjbinfdohpaaS06
import Derived.Test.YtkkkjbinfdohpaaS07
import Derived.Test.YtkkkjbinfdohpaaS04
import Derived.Test.YtkkkjbinfdohpaaS05
import Derived.Test.YtkkkjbinfdohpaaS01
import Derived.Test.YtkkkjbinfdohpaaS03
import Derived.Test.YtkkkjbinfdohpaaS02
import Derived.DeepKeys4
set_option linter.unusedVariables false
set_option linter.unusedSimpArgs false
set_option maxRecDepth 100000
set_option maxHeartbeats 16000000
namespace Go.Proofs.Ytkkkjbinfdohpaa
open Go.RowKit Go.Maps
namespace Cir
def rPlace (F i bent v : Nat) : Nat := if v < F then 2 * v else if v = F + i then 2 * F + bent else 2 * v + 2
def rRow (F n i bent : Nat) : List Nat := (List.range n).map (rPlace F i bent)
def bentC (d : Ci) (i : Nat) : Nat := ((d.gates.getD i (0, 0)).1 % 2) * ((d.gates.getD i (0, 0)).2 % 2)
def rMap (d : Ci) (i : Nat) : Nat → Nat := useX (rRow (nfirst d) (nfirst d + d.gates.length) i (bentC d i))
def retC (d : Ci) (i : Nat) : Ci :=
  { ins := d.ins
    next := d.next.map (rMap d i) ++ [2 * (nfirst d + d.gates.length + 1) + bentC d i]
    gates := d.gates.map (fun g => (rMap d i g.1, rMap d i g.2)) ++ [((d.next.map (rMap d i)).getD ((d.gates.getD i (0, 0)).1 / 2 - d.ins - 1) 0 ^^^ (d.gates.getD i (0, 0)).1 % 2, (d.next.map (rMap d i)).getD ((d.gates.getD i (0, 0)).2 / 2 - d.ins - 1) 0 ^^^ (d.gates.getD i (0, 0)).2 % 2)]
    outs := d.outs.map (rMap d i) }
theorem rRow_succ (F k i bent : Nat) : rRow F (k + 1) i bent = rRow F k i bent ++ [rPlace F i bent k] := by
 unfold rRow
 rw [List.range_succ, List.map_append, List.map_singleton]
theorem rRow_length (F k i bent : Nat) : (rRow F k i bent).length = k := by unfold rRow; simp
theorem rRow_le {F n i bent : Nat} (hb : bent ≤ 1) (hn : n ≤ 40) (hF : F ≤ 40) : ∀ x ∈ rRow F n i bent, x ≤ 2 * 50 + 1 := fun x hx => by
 unfold rRow at hx
 obtain ⟨v, hv, rfl⟩ := List.mem_map.1 hx
 have := List.mem_range.1 hv
 unfold rPlace
 split
 ·omega
 ·split <;> omega
end Cir
section
variable {w w9 : World} {B gx i q : Nat} {E : Nat → Prop} {u : Value} {ob : Obj}
theorem Bx.blk (hE : ∀ g, E g → B ≤ g) (ho : Only E w w9) (hq : w.heap[q]? = some ob) (hqB : q < B) (hqx : q ≠ gx) : (w9.setCell ⟨gx, i, none⟩ u).heap[q]? = some ob := by
 have h9 := (ho.block q (heap_lt hq) (fun e => by have := hE q e; omega)).trans hq
 exact ((set1_only w9 gx i u).block q (heap_lt h9) hqx).trans h9
end
theorem append_gatesR {w : World} {ops : Array Oper} {rest : List Oper} {o : Oper} {a : Act} {Q : Exit → Act → World → Prop} (hgd : o.guard = none) (s x : Operand)
  (ho : o.op = .call { callee := .builtin .append, args := #[s, x], argTypes := #[24, 24] })
  (base : Nat) (v : Value) (n : Nat) (xs : List Value) (hs : a.eval s = v) (hown : w.ownsRow base 64 2 v n xs) (sv : Value) (m : Nat) (news : List Value) (hx : a.eval x = sv) (hr : Row w 2 sv m news) (h1 : ∀ u ∈ news, u.oneCell' = true)
  (h63 : n + m ≤ 1000000) (hbase : base ≤ w.heap.size)
  (h : ∀ v' w', w'.ownsRow base 64 2 v' (n + m) (xs ++ news) → w.grownBy w' v.ownBlock → (v'.ownBlock = v.ownBlock ∨ v'.ownBlock = some w.heap.size) → wpList Try.prog ops Q rest (a.put o.dst v') w') : wpList Try.prog ops Q (o :: rest) a w := by
 obtain ⟨i, hi, hz0, hz1, hz2⟩ := info_parts info_gate
 exact wpList_append_at hgd s x 24 ho base 64 i _ 2 16 Try.underlying24 hi hz0 hz1 hz2 rfl (by decide) v n xs hs hown sv m news hx hr h1 (by unfold maxLen; omega) (by omega) hbase h
structure RetG (d : Ci) (w : World) (B gC gR gG gx : Nat) (cn cg co : Value) (x1 x2 : Nat) (vm : Value) (m : List Nat) (u : Nat → Nat) (k : Nat) (wr : World) : Prop where
  out : ∃ vG : Value, Hid (Bx w B gC gR gx (d.ins : Int) cn cg co vm (.slice none 0 0) vG (.slice none 0 0) m [] [] ((d.gates.take k).map fun g => (u g.1, u g.2)) wr) ∧ Hid (wr.heap[gG]? = some (.cells #[.int .i64 (x1 : Int), .int .i64 (x2 : Int)] 64 (0, 0)))
structure RetN (d : Ci) (w : World) (B gC gR gG gx : Nat) (cn cg co : Value) (x1 x2 : Nat) (vm : Value) (m : List Nat) (u : Nat → Nat) (vG : Value) (G : List (Nat × Nat)) (k : Nat) (wr : World) : Prop where
  out : ∃ vN : Value, Hid (Bx w B gC gR gx (d.ins : Int) cn cg co vm vN vG (.slice none 0 0) m ((d.next.take k).map u) [] G wr) ∧ Hid (wr.heap[gG]? = some (.cells #[.int .i64 (x1 : Int), .int .i64 (x2 : Int)] 64 (0, 0)))
structure RetO (d : Ci) (w : World) (B gC gR gx : Nat) (cn cg co : Value) (vm vN vG : Value) (m N : List Nat) (u : Nat → Nat) (G : List (Nat × Nat)) (k : Nat) (wr : World) : Prop where
  out : ∃ vO : Value, Hid (Bx w B gC gR gx (d.ins : Int) cn cg co vm vN vG vO m N ((d.outs.take k).map u) G wr)
structure RetA (d : Ci) (w : World) (B gC gR gG : Nat) (cn cg co : Value) (x1 x2 F i bent k : Nat) (vm : Value) (wr : World) : Prop where
  m : wr.ownsRow B 3 1 vm k (nints (Cir.rRow F k i bent))
  c : PCells wr gC (d.ins : Int) cn cg co
  r : wr.heap[gR]? = some (.cells #[.int .i64 0, .slice none 0 0, .slice none 0 0, .slice none 0 0] 26 (0, 0))
  g : wr.heap[gG]? = some (.cells #[.int .i64 (x1 : Int), .int .i64 (x2 : Int)] 64 (0, 0))
  b : Below w.heap.size w wr
  z : B ≤ wr.heap.size
theorem RetA.below {d : Ci} {w : World} {B gC gR gG : Nat} {cn cg co : Value} {x1 x2 F i bent k : Nat} {vm : Value} {wr w' : World} (h : RetA d w B gC gR gG cn cg co x1 x2 F i bent k vm wr) (hb : Below wr.heap.size wr w') : RetA d w B gC gR gG cn cg co x1 x2 F i bent k vm w' :=
 ⟨own_below h.m hb, h.c.below hb, (hb.block gR (blk_ltB h.r)).trans h.r, (hb.block gG (blk_ltB h.g)).trans h.g, h.b.trans (hb.mono h.b.size), Nat.le_trans h.z hb.size⟩
theorem RetA.app {d : Ci} {w : World} {B gC gR gG : Nat} {cn cg co : Value} {x1 x2 F i bent k : Nat} {vm vm' : Value} {wr w' : World} {o1 : Obj} (h : RetA d w B gC gR gG cn cg co x1 x2 F i bent k vm wr) (h1 : gC < B) (h2 : gR < B) (h3 : gG < B) (h4 : w.heap.size ≤ B)
  (own : w'.ownsRow B 3 1 vm' (k + 1) (nints (Cir.rRow F k i bent) ++ [.int .i64 (Cir.rPlace F i bent k : Nat)])) (hg : (wr.alloc o1).grownBy w' vm.ownBlock) : RetA d w B gC gR gG cn cg co x1 x2 F i bent (k + 1) vm' w' := by
 have ha := h.below (bel_new wr o1)
 have ho : Only (fun g => vm.ownBlock = some g) (wr.alloc o1) w' := Only.grown hg fun k hk => hk
 have hB : ∀ g, vm.ownBlock = some g → B ≤ g := fun g hg => (ha.m.lt g hg).1
 refine ⟨?_, pcells_only ha.c ho (fun e => by have := hB _ e; omega), (ho.block gR (blk_ltB ha.r) (fun e => by have := hB _ e; omega)).trans ha.r, (ho.block gG (blk_ltB ha.g) (fun e => by have := hB _ e; omega)).trans ha.g, Only.below ha.b ho ha.b.size (fun q hq => by have := hB q hq; omega), Nat.le_trans ha.z ho.size⟩
 rw [Cir.rRow_succ, nints_snoc]
 exact own
theorem specRetime_ok (v : Value) (d : Ci) (i : Nat) (w : World) (h : CircAt w v (Cir.toCz d)) (hd : Cir.Ok d) (hv : Cir.valid (Cir.toCz d) = true) (hcan : Cir.canR d (i : Int) = true) (hi : i < d.gates.length) :
  Calls Try.prog 102 #[v, .int .i64 (i : Int)] w (fun e w' => (∃ v', e = .returned v' ∧ CircOwn 0 w' v' (Cir.toCz (Cir.retC d i))) ∧ Below w.heap.size w w') := by
 have s1 := hd.ins
 have s2 := hd.nexts
 have s3 := hd.gatess
 have s4 := hd.outss
 have HC := Lib.hid h
 obtain ⟨An, cn, Ag, cg, Ao, co, rfl⟩ := h.shape
 have hln : (Cir.toCz d).next.length = d.next.length := List.length_map _
 have hlg : (Cir.toCz d).gates.length = d.gates.length := List.length_map _
 have hlo : (Cir.toCz d).outs.length = d.outs.length := List.length_map _
 have hins : (Cir.toCz d).ins = (d.ins : Int) := rfl
 rw [hln, hlg, hlo, hins] at HC ⊢
 have HCk := HC
 obtain ⟨vn, vg, vo, e, r1, r2, r3⟩ := HC.out
 injection e with e
 simp only [Array.mk.injEq, List.cons.injEq, and_true] at e
 obtain ⟨-, e1, e2, e3⟩ := e
 subst e1 e2 e3
 have RN : Hid (Row w 1 (.slice An d.next.length cn) d.next.length (ints (Cir.toCz d).next)) := Lib.hid (by have := r1; unfold IntsAt at this; rwa [hln] at this)
 have RG : Hid (Row w 2 (.slice Ag d.gates.length cg) d.gates.length (cubes (Cir.toCz d).gates)) := Lib.hid (by have := r2; unfold CubesAt at this; rwa [hlg] at this)
 have RO : Hid (Row w 1 (.slice Ao d.outs.length co) d.outs.length (ints (Cir.toCz d).outs)) := Lib.hid (by have := r3; unfold IntsAt at this; rwa [hlo] at this)
 have hb0 := bel_new w (.cells #[.int .i64 (d.ins : Int), .slice An d.next.length cn, .slice Ag d.gates.length cg, .slice Ao d.outs.length co] 26)
 have hsz : (w.alloc (.cells #[.int .i64 (d.ins : Int), .slice An d.next.length cn, .slice Ag d.gates.length cg, .slice Ao d.outs.length co] 26)).heap.size = w.heap.size + 1 := by simp
 have PC := PCells.boxed w (d.ins : Int) (.slice An d.next.length cn) (.slice Ag d.gates.length cg) (.slice Ao d.outs.length co) 26
 obtain ⟨W1, hW1⟩ : ∃ W1, w.alloc (.cells #[.int .i64 (d.ins : Int), .slice An d.next.length cn, .slice Ag d.gates.length cg, .slice Ao d.outs.length co] 26) = W1 := ⟨_, rfl⟩
 rw [hW1] at hb0 hsz PC
 have hb1 := bel_new W1 (.cells #[.int .i64 0, .slice none 0 0, .slice none 0 0, .slice none 0 0] 26)
 have hR1 := heap_alloc_new W1 (.cells #[.int .i64 0, .slice none 0 0, .slice none 0 0, .slice none 0 0] 26)
 have hB1 := hb0.trans (hb1.mono hb0.size)
 have hz1 : (W1.alloc (.cells #[.int .i64 0, .slice none 0 0, .slice none 0 0, .slice none 0 0] 26)).heap.size = W1.heap.size + 1 := by simp
 obtain ⟨zz, p0, p1, p2, p3⟩ := PC.below hb1
 have HC1 := Lib.hid (HC.out.below hB1)
 have HB1 := Lib.hid hB1
 have HR1 := Lib.hid hR1
 have hgw : W1.heap.size = w.heap.size + 1 := hsz
 have HD := Lib.hid hd
 have Hv := Lib.hid hv
 have Hcan := Lib.hid hcan
 clear hb0 hb1 hB1 hR1 h PC hln hlg hlo hins r1 r2 r3 hd hcan
 go_enter Try.func102, Try.ntmps102
 go_wp2_with fail
 generalize W1.alloc (.cells #[.int .i64 0, .slice none 0 0, .slice none 0 0, .slice none 0 0] 26) = W2 at *
 have HV := Lib.hid (specCan_ok _ d (i : Int) _ HC1.out HD.out Hv.out ⟨by omega, by omega⟩)
 rw [Hcan.out] at HV
 obtain ⟨gC, hgC⟩ : ∃ gC, gC = w.heap.size := ⟨_, rfl⟩
 obtain ⟨gR, hgR⟩ : ∃ gR, gR = w.heap.size + 1 := ⟨_, rfl⟩
 have PC1 : Hid (PCells W2 gC (d.ins : Int) (.slice An d.next.length cn) (.slice Ag d.gates.length cg) (.slice Ao d.outs.length co)) := Lib.hid (by rw [hgC]; exact ⟨zz, p0, p1, p2, p3⟩)
 rw [← hgC] at p0 p1 p2 p3 zz
 rw [hgw, ← hgR] at HR1
 rw [← hgR, ← hgC]
 have hwR : w.heap.size ≤ gR := by omega
 have hwC : w.heap.size ≤ gC := by omega
 have hgRz := blk_ltB HR1.out
 have HgRC := Lib.hid (show gR = gC + 1 by omega)
 clear hW1 hsz hgw hgC hgR hz1
 refine HV.out.mono ?_
 rintro e w3 ⟨rfl, hb3⟩
 have HC3 := Lib.hid (HC1.out.below hb3)
 have PC3 := Lib.hid (PC1.out.below hb3)
 have HR3 := Lib.hid ((hb3.block gR hgRz).trans HR1.out)
 have HB3 := Lib.hid (HB1.out.trans (hb3.mono HB1.out.size))
 clear p0 p1 p2 p3 zz hb3 HB1 HR1 HC1 HV PC1 HC hv
 obtain ⟨zz, p0, p1, p2, p3⟩ := PC3.out
 obtain ⟨⟨x1, x2⟩, hgt⟩ := at_some hi
 obtain ⟨bq, o, x, rfl, hbl, hx, hs1, hs2⟩ := cubes_open RG.out HB3.out (show d.gates.length = (Cir.toCz d).gates.length from (List.length_map _).symm) (i := i) (by rw [show (Cir.toCz d).gates.length = d.gates.length from List.length_map _]; exact hi)
 have hxe : x = ((x1 : Int), (x2 : Int)) := by
  have h1 := hx.out
  unfold Cir.toCz at h1
  simp only [List.getElem?_map, hgt] at h1
  exact (Option.some.inj h1).symm
 subst hxe
 simp only at hs1 hs2
 have HLat : Hid (d.ins + 1 ≤ x1 / 2 ∧ x1 / 2 ≤ d.ins + d.next.length ∧ d.ins + 1 ≤ x2 / 2 ∧ x2 / 2 ≤ d.ins + d.next.length) := Lib.hid (by
  have h := Hcan.out
  unfold Cir.canR Cir.isLat at h
  rw [Int.toNat_natCast, List.getD_eq_getElem?_getD, hgt, Option.getD_some] at h
  simp only [Bool.and_eq_true, decide_eq_true_iff] at h
  omega)
 clear Hcan
 have hbent : Cir.bentC d i = x1 % 2 * (x2 % 2) := by unfold Cir.bentC; rw [List.getD_eq_getElem?_getD, hgt, Option.getD_some]
 have hr1 : (x1 : Int).tmod 2 = ((x1 % 2 : Nat) : Int) := by rw [Int.tmod_eq_emod_of_nonneg (by omega)]; rfl
 have hr2 : (x2 : Int).tmod 2 = ((x2 % 2 : Nat) : Int) := by rw [Int.tmod_eq_emod_of_nonneg (by omega)]; rfl
 obtain ⟨b1, hb1⟩ : ∃ b, x1 % 2 = b := ⟨_, rfl⟩
 obtain ⟨b2, hb2⟩ : ∃ b, x2 % 2 = b := ⟨_, rfl⟩
 have hb11 : b1 ≤ 1 := by omega
 have hb21 : b2 ≤ 1 := by omega
 rw [hb1, hb2] at hbent
 rw [hb1] at hr1
 rw [hb2] at hr2
 obtain ⟨bent, hbe⟩ : ∃ b, b1 * b2 = b := ⟨_, rfl⟩
 rw [hbe] at hbent
 have hbb : bent ≤ 1 := by
  rw [← hbe]
  have := Nat.mul_le_mul hb11 hb21
  omega
 have hbI : (b1 : Int) * (b2 : Int) = (bent : Int) := by rw [← hbe]; simp
 have hw1 : IntKind.i64.wrap (b1 : Int) = (b1 : Int) := IntWalk.i64_in _ (by omega)
 have hw2 : IntKind.i64.wrap (b2 : Int) = (b2 : Int) := IntWalk.i64_in _ (by omega)
 have hw3 : IntKind.i64.wrap (bent : Int) = (bent : Int) := IntWalk.i64_in _ (by omega)
 have Hbent := Lib.hid hbent
 have Hgt := Lib.hid hgt
 have Hb1 := Lib.hid hb1
 have Hb2 := Lib.hid hb2
 clear hbent hgt hx hb1 hb2 hbe
 go_wp2_with fail
 have hbG := bel_new w3 (.cells #[.int .i64 (x1 : Int), .int .i64 (x2 : Int)] 64)
 have hXG := heap_alloc_new w3 (.cells #[.int .i64 (x1 : Int), .int .i64 (x2 : Int)] 64)
 obtain ⟨F, hF⟩ : ∃ F, Cir.nfirst d = F := ⟨_, rfl⟩
 have HFi : Hid (∀ w', Below w.heap.size w w' → Calls Try.prog 43 #[.agg #[.int .i64 (d.ins : Int), .slice An d.next.length cn, .slice (some ⟨bq, o, none⟩) d.gates.length cg, .slice Ao d.outs.length co]] w' fun e w'' => e = .returned (.int .i64 (F : Nat)) ∧ Below w'.heap.size w' w'') := Lib.hid fun w' hb => by
  have := l1First_any _ (Cir.toCz d) w' (HCk.out.below hb) (by show (0 : Int) ≤ (d.ins : Int); omega) (by show (d.ins : Int) ≤ 100; omega) (by show (List.map _ _).length ≤ 100; rw [List.length_map]; omega)
  rwa [Cir.first_toCz, hF] at this
 have hFe : F = 1 + d.ins + d.next.length := by rw [← hF]; rfl
 have hFb : F ≤ 8 := by omega
 have HF := Lib.hid hF
 have HFe := Lib.hid hFe
 have hww : w.heap.size ≤ w3.heap.size := HB3.out.size
 have HB4 := Lib.hid (HB3.out.trans (hbG.mono hww))
 have PC4 := Lib.hid (PC3.out.below hbG)
 have HR4 := Lib.hid ((hbG.block gR (blk_ltB HR3.out)).trans HR3.out)
 obtain ⟨gG, hgG⟩ : ∃ g, w3.heap.size = g := ⟨_, rfl⟩
 rw [hgG] at hXG
 try rw [hgG]
 have HG4 := Lib.hid hXG
 have hgCG : gC < gG := by rw [← hgG]; exact PC3.out.1
 have hgRG : gR < gG := by rw [← hgG]; exact blk_ltB HR3.out
 have hs4z : (w3.alloc (.cells #[.int .i64 (x1 : Int), .int .i64 (x2 : Int)] 64)).heap.size = gG + 1 := by rw [World.size_alloc, hgG]
 generalize w3.alloc (.cells #[.int .i64 (x1 : Int), .int .i64 (x2 : Int)] 64) = w4 at *
 have hwG : w.heap.size ≤ gG := by omega
 clear hbG hXG hF hFe hgG PC3 HR3 HB3 zz p0 p1 p2 p3 hs1 hs2 HCk hww HC3
 refine (HFi.out _ HB4.out).mono ?_
 rintro e w5 ⟨rfl, hb5⟩
 have HB5 := Lib.hid (HB4.out.trans (hb5.mono HB4.out.size))
 have PC5 := Lib.hid (PC4.out.below hb5)
 have HR5 := Lib.hid ((hb5.block gR (blk_ltB HR4.out)).trans HR4.out)
 have HG5 := Lib.hid ((hb5.block gG (blk_ltB HG4.out)).trans HG4.out)
 have hz5 := hb5.size
 have hwf1 : IntKind.i64.wrap (2 * (F : Int)) = 2 * (F : Int) := IntWalk.i64_in _ (by omega)
 have hwf2 : IntKind.i64.wrap (2 * (F : Int) + (bent : Int)) = 2 * (F : Int) + (bent : Int) := IntWalk.i64_in _ (by omega)
 clear hb5 HB4 PC4 HR4 HG4
 go_wp2_with fail
 have hE := World.ownsRow_lit (base := w5.heap.size) (e := 3) (size := 1) w5 #[] 0 (Nat.le_refl _) (by unfold maxLen; omega) rfl
 have hbE := bel_new w5 (.cells #[] 3)
 obtain ⟨B, hB⟩ : ∃ B, w5.heap.size = B := ⟨_, rfl⟩
 rw [hB] at hE
 try rw [hB]
 have hgGB : gG < B := by omega
 have HB6 := Lib.hid (HB5.out.trans (hbE.mono HB5.out.size))
 have PC6 := Lib.hid (PC5.out.below hbE)
 have HR6 := Lib.hid ((hbE.block gR (blk_ltB HR5.out)).trans HR5.out)
 have HG6 := Lib.hid ((hbE.block gG (blk_ltB HG5.out)).trans HG5.out)
 have hzE := hbE.size
 generalize w5.alloc (.cells #[] 3) = w6 at *
 have HE : Hid (w6.ownsRow B 3 1 (.slice (some ⟨B, 0, none⟩) 0 0) 0 (nints (Cir.rRow F 0 i bent))) := Lib.hid hE
 have hzB : B ≤ w6.heap.size := by omega
 clear hE hbE hB HB5 PC5 HR5 HG5 hzE
 have HV0 : RetA d w B gC gR gG (.slice An d.next.length cn) (.slice (some ⟨bq, o, none⟩) d.gates.length cg) (.slice Ao d.outs.length co) x1 x2 F i bent 0 (.slice (some ⟨B, 0, none⟩) 0 0) w6 := ⟨HE.out, PC6.out, HR6.out, HG6.out, HB6.out, hzB⟩
 have HV0' := Lib.hid HV0
 have hgCB : gC < B := by omega
 have hgRB : gR < B := by omega
 have hwB : w.heap.size ≤ B := by omega
 clear HE PC6 HR6 HG6 HB6 HV0 hzB
 go_loopw [8, 9] (fun vm j wr => ∃ (k : Nat) (vm' : Value), vm' = vm ∧ k ≤ F + d.gates.length ∧ j = .int .i64 k ∧ RetA d w B gC gR gG (.slice An d.next.length cn) (.slice (some ⟨bq, o, none⟩) d.gates.length cg) (.slice Ao d.outs.length co) x1 x2 F i bent k vm wr) (fun _ j _ => F + d.gates.length - (intOf j).toNat)
 case atStart => exact ⟨0, _, rfl, Nat.zero_le _, rfl, HV0'.out⟩
 case round =>
  obtain ⟨k, vm', hvm, hk, rfl, hV⟩ := hrel
  subst hvm
  clear HV0'
  have HV0 := Lib.hid hV
  obtain ⟨z, p0, p1, p2, p3⟩ := hV.c
  have g0 := gw_cell p0 z
  have g1 := gw_cell p1 z
  have g2 := gw_cell p2 z
  have g3 := gw_cell p3 z
  have HFg : Hid (∀ n : GW wr, Calls Try.prog 43 #[.agg #[.int .i64 (d.ins : Int), .slice An d.next.length cn, .slice (some ⟨bq, o, none⟩) d.gates.length cg, .slice Ao d.outs.length co]] (gw n) fun e w' => e = .returned (.int .i64 (F : Nat)) ∧ Below (gw n).heap.size (gw n) w') := Lib.hid fun n => HFi.out _ (HV0.out.b.trans ((gw_below n).mono HV0.out.b.size))
  have hwn : IntKind.i64.wrap ((F : Int) + (d.gates.length : Int)) = (F : Int) + (d.gates.length : Int) := IntWalk.i64_in _ (by omega)
  have hwi : IntKind.i64.wrap ((F : Int) + (i : Int)) = (F : Int) + (i : Int) := IntWalk.i64_in _ (by omega)
  have hwk : IntKind.i64.wrap (2 * (k : Int)) = 2 * (k : Int) := IntWalk.i64_in _ (by omega)
  have hwk2 : IntKind.i64.wrap (2 * (k : Int) + 2) = 2 * (k : Int) + 2 := IntWalk.i64_in _ (by omega)
  clear z p0 p1 p2 p3 hV
  go_wp2_with fail
  refine wp_region_grow (by kernel_rfl) (by kernel_rfl) ?_
  repeat (go_big_quiet_step ((go_at_call 43; exact grow_call (HFg.out _))))
  refine wpQuiet_nil ?_
  intro _ hw'
  obtain ⟨nq, hw''⟩ := hw'
  subst hw''
  have hgq := gw_below nq
  generalize gw nq = wq at *
  clear nq
  have HV1 := Lib.hid (HV0.out.below hgq)
  clear HFg g0 g1 g2 g3 HV0 hgq
  obtain ⟨z, p0, p1, p2, p3⟩ := HV1.out.c
  by_cases hlt : k < F + d.gates.length
  ·have dl : decide ((k : Int) < (F : Int) + (d.gates.length : Int)) = true := decide_eq_true (by omega)
   go_wp2_with fail
   refine (HFi.out _ HV1.out.b).mono ?_
   rintro e wu ⟨rfl, hbu⟩
   have HV2 := Lib.hid (HV1.out.below hbu)
   clear HV1 hbu z p0 p1 p2 p3
   by_cases hF1 : k < F
   ·have dF : decide ((k : Int) < (F : Int)) = true := decide_eq_true (by omega)
    have dF2 : decide (k < F) = true := decide_eq_true hF1
    have HV := HV2
    obtain ⟨wv, hwv⟩ : ∃ wv, wv = wu := ⟨_, rfl⟩
    subst hwv
    have Hlit := Lib.hid (Row.of_own (World.ownsRow_lit (base := wv.heap.size) (e := 3) (size := 1) wv #[.int .i64 (2 * (k : Int))] 1 (Nat.le_refl _) (by unfold maxLen; omega) rfl))
    have HOa := Lib.hid (HV.out.m.alloc (.cells #[.int .i64 (2 * (k : Int))] 3))
    have hza : (wv.alloc (.cells #[.int .i64 (2 * (k : Int))] 3)).heap.size = wv.heap.size + 1 := by simp
    have hzv := HV.out.z
    have HPl : Hid ((2 * (k : Int)) = ((Cir.rPlace F i bent k : Nat) : Int)) := Lib.hid (by unfold Cir.rPlace; rw [if_pos hF1]; omega)
    go_wp2_with (at_builtin; refine append_ints rfl (.tmp 60) (.tmp 63) rfl B _ k _ rfl HOa.out _ 1 [.int .i64 (2 * (k : Int))] rfl Hlit.out (by simp [Value.oneCell']) (by omega) (by omega) ?_; intro v4 w5 hown4 hg4 hat4; have Hown4 := Lib.hid hown4; have Hg4 := Lib.hid hg4; clear hown4 hg4 hat4)
    go_roundw
    case rel => exact ⟨k + 1, _, rfl, by omega, by go_num, HV.out.app hgCB hgRB hgGB hwB (by rw [← HPl.out]; exact Hown4.out) Hg4.out⟩
    case measure => simp [intOf] <;> omega
   ·have dF : decide ((k : Int) < (F : Int)) = false := decide_eq_false (by omega)
    have dF2 : decide (k < F) = false := decide_eq_false hF1
    obtain ⟨z, p0, p1, p2, p3⟩ := HV2.out.c
    go_wp2_with fail
    refine (HFi.out _ HV2.out.b).mono ?_
    rintro e wv ⟨rfl, hbu⟩
    have HV := Lib.hid (HV2.out.below hbu)
    clear HV2 hbu z p0 p1 p2 p3
    by_cases hF2 : k = F + i
    ·have dE : ((k : Int) == (F : Int) + (i : Int)) = true := by rw [beq_iff_eq]; omega
     have Hlit := Lib.hid (Row.of_own (World.ownsRow_lit (base := wv.heap.size) (e := 3) (size := 1) wv #[.int .i64 (2 * (F : Int) + (bent : Int))] 1 (Nat.le_refl _) (by unfold maxLen; omega) rfl))
     have HOa := Lib.hid (HV.out.m.alloc (.cells #[.int .i64 (2 * (F : Int) + (bent : Int))] 3))
     have hza : (wv.alloc (.cells #[.int .i64 (2 * (F : Int) + (bent : Int))] 3)).heap.size = wv.heap.size + 1 := by simp
     have hzv := HV.out.z
     have HPl : Hid ((2 * (F : Int) + (bent : Int)) = ((Cir.rPlace F i bent k : Nat) : Int)) := Lib.hid (by unfold Cir.rPlace; rw [if_neg hF1, if_pos hF2]; omega)
     go_wp2_with (at_builtin; refine append_ints rfl (.tmp 72) (.tmp 74) rfl B _ k _ rfl HOa.out _ 1 [.int .i64 (2 * (F : Int) + (bent : Int))] rfl Hlit.out (by simp [Value.oneCell']) (by omega) (by omega) ?_; intro v4 w5 hown4 hg4 hat4; have Hown4 := Lib.hid hown4; have Hg4 := Lib.hid hg4; clear hown4 hg4 hat4)
     go_roundw
     case rel => exact ⟨k + 1, _, rfl, by omega, by go_num, HV.out.app hgCB hgRB hgGB hwB (by rw [← HPl.out]; exact Hown4.out) Hg4.out⟩
     case measure => simp [intOf] <;> omega
    ·have dE : ((k : Int) == (F : Int) + (i : Int)) = false := by rw [beq_eq_false_iff_ne]; omega
     have Hlit := Lib.hid (Row.of_own (World.ownsRow_lit (base := wv.heap.size) (e := 3) (size := 1) wv #[.int .i64 (2 * (k : Int) + 2)] 1 (Nat.le_refl _) (by unfold maxLen; omega) rfl))
     have HOa := Lib.hid (HV.out.m.alloc (.cells #[.int .i64 (2 * (k : Int) + 2)] 3))
     have hza : (wv.alloc (.cells #[.int .i64 (2 * (k : Int) + 2)] 3)).heap.size = wv.heap.size + 1 := by simp
     have hzv := HV.out.z
     have HPl : Hid ((2 * (k : Int) + 2) = ((Cir.rPlace F i bent k : Nat) : Int)) := Lib.hid (by unfold Cir.rPlace; rw [if_neg hF1, if_neg hF2]; omega)
     go_wp2_with (at_builtin; refine append_ints rfl (.tmp 49) (.tmp 53) rfl B _ k _ rfl HOa.out _ 1 [.int .i64 (2 * (k : Int) + 2)] rfl Hlit.out (by simp [Value.oneCell']) (by omega) (by omega) ?_; intro v4 w5 hown4 hg4 hat4; have Hown4 := Lib.hid hown4; have Hg4 := Lib.hid hg4; clear hown4 hg4 hat4)
     go_roundw
     case rel => exact ⟨k + 1, _, rfl, by omega, by go_num, HV.out.app hgCB hgRB hgGB hwB (by rw [← HPl.out]; exact Hown4.out) Hg4.out⟩
     case measure => simp [intOf] <;> omega
  ·obtain rfl : k = F + d.gates.length := by omega
   have dl : decide (((F + d.gates.length : Nat) : Int) < (F : Int) + (d.gates.length : Int)) = false := decide_eq_false (by omega)
   go_wp2_with fail
   have hX := heap_alloc_new wq (.cells #[.int .i64 (d.ins : Int), .slice none 0 0, .slice none 0 0, .slice none 0 0] 26)
   have hbX := bel_new wq (.cells #[.int .i64 (d.ins : Int), .slice none 0 0, .slice none 0 0, .slice none 0 0] 26)
   have HVX := HV1.out.below hbX
   have hzq := HV1.out.z
   have HBx : Hid (Bx w B gC gR wq.heap.size (d.ins : Int) (.slice An d.next.length cn) (.slice (some ⟨bq, o, none⟩) d.gates.length cg) (.slice Ao d.outs.length co) vm' (.slice none 0 0) (.slice none 0 0) (.slice none 0 0) (Cir.rRow F (F + d.gates.length) i bent) [] [] [] (wq.alloc (.cells #[.int .i64 (d.ins : Int), .slice none 0 0, .slice none 0 0, .slice none 0 0] 26))) := Lib.hid
    ⟨HVX.c, HVX.r, hX, by rw [Cir.rRow_length]; exact HVX.m, World.ownsRow_nil _ _ _ _, World.ownsRow_nil _ _ _ _, World.ownsRow_nil _ _ _ _, fun g _ h => by simp [Value.ownBlock] at h, fun g _ h => by simp [Value.ownBlock] at h, fun g h => by simp [Value.ownBlock] at h, hgCB, hgRB, by omega, by omega, by omega, hwB, HVX.z, HVX.b⟩
   have HGx := Lib.hid HVX.g
   obtain ⟨gx, hgx⟩ : ∃ gx, wq.heap.size = gx := ⟨_, rfl⟩
   have hxG : gG ≠ gx := by omega
   rw [hgx] at HBx
   try rw [hgx]
   generalize wq.alloc (.cells #[.int .i64 (d.ins : Int), .slice none 0 0, .slice none 0 0, .slice none 0 0] 26) = W6 at *
   have Hml : Hid ((Cir.rRow F (F + d.gates.length) i bent).length = F + d.gates.length) := Lib.hid (Cir.rRow_length _ _ _ _)
   have Hm : Hid (∀ x ∈ Cir.rRow F (F + d.gates.length) i bent, x ≤ 2 * 50 + 1) := Lib.hid (Cir.rRow_le hbb (by omega) (by omega))
   have Hu : Hid (Cir.rMap d i = Cir.useX (Cir.rRow F (F + d.gates.length) i bent)) := Lib.hid (by unfold Cir.rMap; rw [HF.out, Hbent.out])
   generalize Cir.rRow F (F + d.gates.length) i bent = m at *
   obtain ⟨u, hu⟩ : ∃ u, Cir.rMap d i = u := ⟨_, rfl⟩
   rw [hu] at Hu
   have Hud := Lib.hid hu
   have HMap : Hid (∀ (w' : World) (l : Nat), w'.ownsRow B 3 1 vm' m.length (nints m) → l / 2 < F + d.gates.length → l ≤ 1000000 → Calls Try.prog 125 #[vm', .int .i64 (l : Int)] w' fun e w'' => e = .returned (.int .i64 (u l : Nat)) ∧ Below w'.heap.size w' w'') := Lib.hid fun w' l ho h1 h2 => by
    rw [Hu.out]
    exact Bx.map ho (by have := Hml.out; omega) h2 (fun x hx => by have := Hm.out x hx; omega)
   have Hub : Hid (∀ l, u l ≤ 2 * 50 + 1) := Lib.hid fun l => by rw [Hu.out]; exact useX_le Hm.out
   have HNl : Hid (∀ l ∈ d.next, l / 2 < F + d.gates.length) := Lib.hid fun l hl => by have h := HD.out.next l hl; unfold Cir.nvars at h; rw [HF.out] at h; omega
   have HOl : Hid (∀ l ∈ d.outs, l / 2 < F + d.gates.length) := Lib.hid fun l hl => by have h := HD.out.out l hl; unfold Cir.nvars at h; rw [HF.out] at h; omega
   have HGl : Hid (∀ (k : Nat) (gt : Nat × Nat), d.gates[k]? = some gt → gt.1 / 2 < F + d.gates.length ∧ gt.2 / 2 < F + d.gates.length) := Lib.hid fun k gt hgt => by
    obtain ⟨g1, g2⟩ := HD.out.gate k gt hgt
    have hk := (List.getElem?_eq_some_iff.1 hgt).1
    rw [HF.out] at g1 g2
    omega
   clear hX hbX HVX hzq hgx HV1 hu dl z p0 p1 p2 p3 hwn hwi hwk hwk2 hlt hk
   go_loopw [11] (fun j wr => ∃ (k : Nat), k ≤ d.gates.length ∧ j = .int .i64 k ∧ RetG d w B gC gR gG gx (.slice An d.next.length cn) (.slice (some ⟨bq, o, none⟩) d.gates.length cg) (.slice Ao d.outs.length co) x1 x2 vm' m u k wr) (fun j _ => d.gates.length - (intOf j).toNat)
   case atStart => exact ⟨0, Nat.zero_le _, rfl, ⟨⟨.slice none 0 0, HBx, HGx⟩⟩⟩
   case round =>
    clear HBx HGx
    obtain ⟨k, hk, rfl, HH⟩ := hrel
    obtain ⟨vG, HBx, HGx⟩ := HH.out
    obtain ⟨z, p0, p1, p2, p3⟩ := HBx.out.hC
    have hzB5 := HBx.out.zB
    by_cases hlt : k < d.gates.length
    ·obtain ⟨bq2, o2, x, he, hbl2, hx, hs1, hs2⟩ := cubes_open RG.out (Below.refl _ _) (show d.gates.length = (Cir.toCz d).gates.length from (List.length_map _).symm) (i := k) (by rw [show (Cir.toCz d).gates.length = d.gates.length from List.length_map _]; exact hlt)
     have he1 := Option.some.inj he
     injection he1 with he2 he3 _
     subst he2 he3
     obtain ⟨gt, hgt⟩ := at_some hlt
     have hxe : x = ((gt.1 : Int), (gt.2 : Int)) := by
      have h1 := hx.out
      unfold Cir.toCz at h1
      simp only [List.getElem?_map, hgt] at h1
      exact (Option.some.inj h1).symm
     subst hxe
     obtain ⟨g1, g2⟩ := HGl.out k gt hgt
     have HS : Hid ((d.gates.take (k + 1)).map (fun g => (u g.1, u g.2)) = (d.gates.take k).map (fun g => (u g.1, u g.2)) ++ [(u gt.1, u gt.2)]) := Lib.hid (by rw [take_snoc hgt, List.map_append]; rfl)
     have hgl : ((d.gates.take k).map fun g => (u g.1, u g.2)).length ≤ 14 := by rw [List.length_map, List.length_take]; omega
     generalize ((d.gates.take k).map fun g => (u g.1, u g.2)) = G at *
     obtain ⟨l1, hl1⟩ : ∃ l, l = gt.1 := ⟨_, rfl⟩
     obtain ⟨l2, hl2⟩ : ∃ l, l = gt.2 := ⟨_, rfl⟩
     rw [← hl1] at g1 hs1 HS
     rw [← hl2] at g2 hs2 HS
     obtain ⟨y1, hy1⟩ : ∃ y, y = u l1 := ⟨_, rfl⟩
     obtain ⟨y2, hy2⟩ : ∃ y, y = u l2 := ⟨_, rfl⟩
     have hyb1 : y1 ≤ 2 * 50 + 1 := by rw [hy1]; exact Hub.out _
     have hyb2 : y2 ≤ 2 * 50 + 1 := by rw [hy2]; exact Hub.out _
     rw [← hy1, ← hy2] at HS
     have Hy1 := Lib.hid hy1
     have Hy2 := Lib.hid hy2
     have hbqz : bq < wr.heap.size := by have := HBx.out.below.size; omega
     have hneb : vG.ownBlock ≠ some bq := fun e => by have := (HBx.out.g.lt bq e).1; omega
     have hs1 := (HBx.out.below.cell (p := ⟨bq, o + k * 2, none⟩) hbl2).trans hs1
     have hs2 := (HBx.out.below.cell (p := ⟨bq, o + k * 2 + 1, none⟩) hbl2).trans hs2
     have hl1b : l1 ≤ 1000000 := by omega
     have hl2b : l2 ≤ 1000000 := by omega
     clear hx hgt hl1 hl2 hy1 hy2 he hbl2 HH
     go_wp2_with fail
     obtain ⟨i0, hi0, hz0, hz1, hz2⟩ := info_parts info_gate
     have hO := fun ops a => appRS2_ok (Pg := Try.prog) (ops := ops) (a := a) (news := [.int .i64 (y1 : Int), .int .i64 (y2 : Int)]) (d := 20) (HBx.out.g)
     refine wp_region_rsl (appRS2 Try.prog _ wr _ (B) 64 2 (vG) (G.length) (cubes (gz G)) [.int .i64 (y1 : Int), .int .i64 (y2 : Int)] 20) (hO _ _) (by kernel_rfl) (by kernel_rfl) (by kernel_rfl) 22 _ rfl rfl (by kernel_rfl) (show (20 : Nat) < 22 by decide) trivial HBx.out.g ?_
     apply rs_eq (hO _ _) (.inl (nnb rfl))
     ·intro ρ w' ho hK
      have ho : Only _ wr w' := ho
      obtain ⟨h0, -⟩ := hK
      have h0' : ρ (.tmp 10) = _ := h0
      go_simp
      try exact rfl
     apply rs_eq (hO _ _) (.inl (nnb rfl))
     ·intro ρ w' ho hK
      have ho : Only _ wr w' := ho
      obtain ⟨h0, -⟩ := hK
      have h0' : ρ (.tmp 86) = _ := h0
      obtain ⟨hP, -, hXq, -⟩ := HBx.out.rowG ho
      obtain ⟨-, q0, q1, q2, q3⟩ := hP
      have k2 := blk_cell hXq 2
      simp at k2
      have c1 := (World.cell?_of_block (a := ⟨bq, o + k * 2, none⟩) (ho.block bq hbqz (fun e => hneb e))).trans hs1
      have c2 := (World.cell?_of_block (a := ⟨bq, o + k * 2 + 1, none⟩) (ho.block bq hbqz (fun e => hneb e))).trans hs2
      go_simp
      try exact rfl
     refine rs_old (hO _ _) (.inl (nnb rfl)) _ (.inl rfl) _ rfl rfl ?_
     apply rs_eq (hO _ _) (.inl (nnb rfl))
     ·intro ρ w' ho hK
      have ho : Only _ wr w' := ho
      obtain ⟨h0, -⟩ := hK
      have h0' : ρ (.tmp 2) = _ := h0
      go_simp
      try exact rfl
     apply rs_eq (hO _ _) (.inl (nnb rfl))
     ·intro ρ w' ho hK
      have ho : Only _ wr w' := ho
      obtain ⟨h0, -⟩ := hK
      have h0' : ρ (.tmp 89) = _ := h0
      obtain ⟨hP, -, hXq, -⟩ := HBx.out.rowG ho
      obtain ⟨-, q0, q1, q2, q3⟩ := hP
      have k2 := blk_cell hXq 2
      simp at k2
      have c1 := (World.cell?_of_block (a := ⟨bq, o + k * 2, none⟩) (ho.block bq hbqz (fun e => hneb e))).trans hs1
      have c2 := (World.cell?_of_block (a := ⟨bq, o + k * 2 + 1, none⟩) (ho.block bq hbqz (fun e => hneb e))).trans hs2
      go_simp
      try exact rfl
     refine rs_old (hO _ _) (.inl (nnb rfl)) _ (.inl rfl) _ rfl rfl ?_
     apply rs_eq (hO _ _) (.inl (nnb rfl))
     ·intro ρ w' ho hK
      have ho : Only _ wr w' := ho
      obtain ⟨h0, h1, -⟩ := hK
      have h0' : ρ (.tmp 90) = _ := h0
      have h1' : ρ (.tmp 91) = _ := h1
      go_simp
      try exact rfl
     apply rs_eq (hO _ _) (.inl (nnb rfl))
     ·intro ρ w' ho hK
      have ho : Only _ wr w' := ho
      obtain ⟨h0, -⟩ := hK
      have h0' : ρ (.tmp 92) = _ := h0
      go_simp
      try exact rfl
     apply rs_eq (hO _ _) (.inl (nnb rfl))
     ·intro ρ w' ho hK
      have ho : Only _ wr w' := ho
      obtain ⟨h0, -⟩ := hK
      have h0' : ρ (.tmp 93) = _ := h0
      obtain ⟨hP, -, hXq, -⟩ := HBx.out.rowG ho
      obtain ⟨-, q0, q1, q2, q3⟩ := hP
      have k2 := blk_cell hXq 2
      simp at k2
      have c1 := (World.cell?_of_block (a := ⟨bq, o + k * 2, none⟩) (ho.block bq hbqz (fun e => hneb e))).trans hs1
      have c2 := (World.cell?_of_block (a := ⟨bq, o + k * 2 + 1, none⟩) (ho.block bq hbqz (fun e => hneb e))).trans hs2
      go_simp
      try exact rfl
     refine rs_call (hO _ _) (.inl (nnb rfl)) (TEq (.int .i64 ((y1 : Nat) : Int))) (stb_eq _ _) 125 _ _ rfl (fun ρ w' ho hK => by
      have ho : Only _ wr w' := ho
      obtain ⟨h0, h1, h2, -⟩ := hK
      have h0' : ρ (.func 125) = .func (.func 125) #[] #[] := h0
      have h1' : ρ (.tmp 88) = _ := h1
      have h2' : ρ (.tmp 94) = _ := h2
      refine ⟨#[ρ (.tmp 88), ρ (.tmp 94)], ?_, ?_⟩
      ·go_simp
      ·rw [h1', h2']
       refine (HMap.out w' l1 (own_only HBx.out.m ho (fun q hq e => own_ne_own HBx.out.m HBx.out.g (by decide) hq e)) g1 hl1b).mono ?_
       rintro e w2 ⟨rfl, hb⟩
       exact ⟨_, rfl, by rw [Hy1.out]; rfl, hb⟩) ?_
     refine rs_old (hO _ _) (.inl (nnb rfl)) _ (.inl rfl) _ rfl rfl ?_
     apply rs_eq (hO _ _) (.inl (nnb rfl))
     ·intro ρ w' ho hK
      have ho : Only _ wr w' := ho
      obtain ⟨h0, -⟩ := hK
      have h0' : ρ (.tmp 2) = _ := h0
      go_simp
      try exact rfl
     apply rs_eq (hO _ _) (.inl (nnb rfl))
     ·intro ρ w' ho hK
      have ho : Only _ wr w' := ho
      obtain ⟨h0, -⟩ := hK
      have h0' : ρ (.tmp 97) = _ := h0
      obtain ⟨hP, -, hXq, -⟩ := HBx.out.rowG ho
      obtain ⟨-, q0, q1, q2, q3⟩ := hP
      have k2 := blk_cell hXq 2
      simp at k2
      have c1 := (World.cell?_of_block (a := ⟨bq, o + k * 2, none⟩) (ho.block bq hbqz (fun e => hneb e))).trans hs1
      have c2 := (World.cell?_of_block (a := ⟨bq, o + k * 2 + 1, none⟩) (ho.block bq hbqz (fun e => hneb e))).trans hs2
      go_simp
      try exact rfl
     refine rs_old (hO _ _) (.inl (nnb rfl)) _ (.inl rfl) _ rfl rfl ?_
     apply rs_eq (hO _ _) (.inl (nnb rfl))
     ·intro ρ w' ho hK
      have ho : Only _ wr w' := ho
      obtain ⟨h0, h1, -⟩ := hK
      have h0' : ρ (.tmp 98) = _ := h0
      have h1' : ρ (.tmp 99) = _ := h1
      go_simp
      try exact rfl
     apply rs_eq (hO _ _) (.inl (nnb rfl))
     ·intro ρ w' ho hK
      have ho : Only _ wr w' := ho
      obtain ⟨h0, -⟩ := hK
      have h0' : ρ (.tmp 100) = _ := h0
      go_simp
      try exact rfl
     apply rs_eq (hO _ _) (.inl (nnb rfl))
     ·intro ρ w' ho hK
      have ho : Only _ wr w' := ho
      obtain ⟨h0, -⟩ := hK
      have h0' : ρ (.tmp 101) = _ := h0
      obtain ⟨hP, -, hXq, -⟩ := HBx.out.rowG ho
      obtain ⟨-, q0, q1, q2, q3⟩ := hP
      have k2 := blk_cell hXq 2
      simp at k2
      have c1 := (World.cell?_of_block (a := ⟨bq, o + k * 2, none⟩) (ho.block bq hbqz (fun e => hneb e))).trans hs1
      have c2 := (World.cell?_of_block (a := ⟨bq, o + k * 2 + 1, none⟩) (ho.block bq hbqz (fun e => hneb e))).trans hs2
      go_simp
      try exact rfl
     refine rs_call (hO _ _) (.inl (nnb rfl)) (TEq (.int .i64 ((y2 : Nat) : Int))) (stb_eq _ _) 125 _ _ rfl (fun ρ w' ho hK => by
      have ho : Only _ wr w' := ho
      obtain ⟨h0, h1, h2, -⟩ := hK
      have h0' : ρ (.func 125) = .func (.func 125) #[] #[] := h0
      have h1' : ρ (.tmp 96) = _ := h1
      have h2' : ρ (.tmp 102) = _ := h2
      refine ⟨#[ρ (.tmp 96), ρ (.tmp 102)], ?_, ?_⟩
      ·go_simp
      ·rw [h1', h2']
       refine (HMap.out w' l2 (own_only HBx.out.m ho (fun q hq e => own_ne_own HBx.out.m HBx.out.g (by decide) hq e)) g2 hl2b).mono ?_
       rintro e w2 ⟨rfl, hb⟩
       exact ⟨_, rfl, by rw [Hy2.out]; rfl, hb⟩) ?_
     apply rs_eq (hO _ _) (.inl (nnb rfl))
     ·intro ρ w' ho hK
      have ho : Only _ wr w' := ho
      obtain ⟨h0, h1, -⟩ := hK
      have h0' : ρ (.tmp 95) = _ := h0
      have h1' : ρ (.tmp 103) = _ := h1
      go_simp
      try exact rfl
     refine rs_build1 (hO _ _) (.inl (nnb rfl)) 2 [.int .i64 (y1 : Int), .int .i64 (y2 : Int)] 64 rfl (fun ρ w' ho hK => by
      have ho : Only _ wr w' := ho
      obtain ⟨h0, -⟩ := hK
      have h0' : ρ (.tmp 104) = _ := h0
      go_simp) ?_
     refine rs_append2 rfl (B) 64 24 2 (vG) (G.length) (cubes (gz G)) _ rfl rfl (fun g hg => hg) (show B ≤ wr.heap.size by omega) _ _ rfl _ _ rfl rfl rfl rfl i0 _ 16 Try.underlying24 hi0 hz0 hz1 hz2 rfl (by decide) (by omega) (by decide) (by simp [Value.oneCell']) ?_
     apply rs_eq (hO _ _) (.inl (nnb rfl))
     ·intro ρ w' ho hK
      have ho : Only _ wr w' := ho
      obtain ⟨h0, -⟩ := hK
      have h0' : ρ (.tmp 10) = _ := h0
      go_simp
      try exact rfl
     intro f w9 k9 hk9 hI9 ht9 hcp9
     have E0 : f 0 = _ := ht9 0 (nlb rfl)
     have E1 : f 1 = _ := ht9 1 (nlb rfl)
     have E2 : f 2 = _ := ht9 2 (nlb rfl)
     conv at E2 => rhs; whnf
     have E3 : f 3 = _ := ht9 3 (nlb rfl)
     have E4 : f 4 = _ := ht9 4 (nlb rfl)
     have E5 : f 5 = _ := ht9 5 (nlb rfl)
     conv at E5 => rhs; whnf
     have E6 : f 6 = _ := ht9 6 (nlb rfl)
     have E7 : f 7 = _ := ht9 7 (nlb rfl)
     have E8 : f 8 = _ := ht9 8 (nlb rfl)
     have E9 : f 9 = _ := ht9 9 (nlb rfl)
     have E10 : f 10 = _ := ht9 10 (nlb rfl)
     conv at E10 => rhs; whnf
     have E11 : f 11 = _ := ht9 11 (nlb rfl)
     have E12 : f 12 = _ := ht9 12 (nlb rfl)
     have E13 : f 13 = _ := ht9 13 (nlb rfl)
     conv at E13 => rhs; whnf
     have E14 : f 14 = _ := ht9 14 (nlb rfl)
     have E15 : f 15 = _ := ht9 15 (nlb rfl)
     have E16 : f 16 = _ := ht9 16 (nlb rfl)
     have E17 : f 17 = _ := ht9 17 (nlb rfl)
     have E18 : f 18 = _ := ht9 18 (nlb rfl)
     have E19 : (TNew _ 2 1 [.int .i64 (y1 : Int), .int .i64 (y2 : Int)]) w9 (f 19) := ht9 19 (nlb rfl)
     have E20 : (TAny) w9 (f 20) := ht9 20 (nlb rfl)
     have E21 : f 21 = _ := ht9 21 (nlb rfl)
     have Ho9 : Only _ wr w9 := hI9.2.1
     have hown9 : w9.ownsRow (B) 64 2 (f 20) (G.length + 1) (cubes (gz G) ++ [.int .i64 (y1 : Int), .int .i64 (y2 : Int)]) := hI9.2.2.1
     have hat9 : ∀ g, (f 20).ownBlock = some g → (vG).ownBlock = some g ∨ wr.heap.size ≤ g := hI9.2.2.2
     simp only [putAll, E0, E1, E2, E3, E4, E5, E6, E7, E8, E9, E10, E11, E12, E13, E14, E15, E16, E17, E18, E21, Nat.zero_add, Nat.reduceAdd, Act.put, List.setIfInBounds_toArray, List.set_cons_succ, List.set_cons_zero, List.take, List.getElem_toArray, List.getElem_cons_succ, List.getElem_cons_zero]
     clear E0 E1 E2 E3 E4 E5 E6 E7 E8 E9 E10 E11 E12 E13 E14 E15 E16 E17 E18 E21
     clear hI9 ht9 hcp9 hk9
     generalize f 19 = r19 at *
     generalize f 20 = r20 at *
     have O9 : Only (fun g => vG.ownBlock = some g) wr w9 := Ho9
     obtain ⟨A9, c9, hv9⟩ := slice_of_own hown9
     subst hv9
     have hX9 := (HBx.out.rowG O9).2.2.1
     have HB9 := Lib.hid (HBx.out.appG (x := y1) (y := y2) hown9 O9)
     have HG9 := Lib.hid (Bx.blk (i := 2) (u := .slice A9 (G.length + 1) c9) (fun g hg => (HBx.out.g.lt g hg).1) O9 HGx.out hgGB hxG)
     have q1 := blk_cell hX9 2
     have f1 := blk_free hX9 2
     simp at q1
     have hz9 := O9.size
     clear Ho9 O9 hX9 hown9 hat9 HBx HGx hs1 hs2 hneb z p0 p1 p2 p3
     go_wp2_with fail
     go_roundw
     case rel => exact ⟨k + 1, by omega, by go_num, ⟨⟨_, by rw [HS.out]; exact HB9, HG9⟩⟩⟩
     case measure => simp [intOf] <;> omega
    ·obtain rfl : k = d.gates.length := by omega
     go_wp2_with fail
     have HGf : Hid ((d.gates.take d.gates.length).map (fun g => (u g.1, u g.2)) = d.gates.map fun g => (u g.1, u g.2)) := Lib.hid (by rw [List.take_length])
     rw [HGf.out] at HBx
     have HGc : Hid ((d.gates.map fun g => (u g.1, u g.2)).length ≤ 14) := Lib.hid (by rw [List.length_map]; omega)
     generalize hG : (d.gates.map fun g => (u g.1, u g.2)) = G at *
     have HG := Lib.hid hG
     clear z p0 p1 p2 p3 HH HGf hG
     obtain ⟨W7, hW7⟩ : ∃ W7, W7 = wr := ⟨_, rfl⟩
     subst hW7
     go_loopw [12] (fun j wr => ∃ (k : Nat), k ≤ d.next.length ∧ j = .int .i64 k ∧ RetN d w B gC gR gG gx (.slice An d.next.length cn) (.slice (some ⟨bq, o, none⟩) d.gates.length cg) (.slice Ao d.outs.length co) x1 x2 vm' m u vG G k wr) (fun j _ => d.next.length - (intOf j).toNat)
     case atStart => exact ⟨0, Nat.zero_le _, rfl, ⟨⟨.slice none 0 0, HBx, HGx⟩⟩⟩
     case round =>
      clear HBx HGx
      obtain ⟨k, hk, rfl, HH⟩ := hrel
      obtain ⟨vN, HBx, HGx⟩ := HH.out
      obtain ⟨z, p0, p1, p2, p3⟩ := HBx.out.hC
      have hzB6 := HBx.out.zB
      by_cases hlt : k < d.next.length
      ·obtain ⟨b, oo, x, rfl, hbl, hx, hs⟩ := ints_open RN.out (Below.refl _ _) (show d.next.length = (Cir.toCz d).next.length from (List.length_map _).symm) (i := k) (by rw [show (Cir.toCz d).next.length = d.next.length from List.length_map _]; exact hlt)
       obtain ⟨l, hl⟩ := at_some hlt
       have hxe : x = (l : Int) := by
        have h1 := hx.out
        unfold Cir.toCz at h1
        rw [List.getElem?_map, hl] at h1
        exact (Option.some.inj h1).symm
       subst hxe
       have hlN := HNl.out l (List.mem_of_getElem? hl)
       have HS : Hid ((d.next.take (k + 1)).map u = (d.next.take k).map u ++ [u l]) := Lib.hid (by rw [take_snoc hl, List.map_append]; rfl)
       have hNl : ((d.next.take k).map u).length ≤ 3 := by rw [List.length_map, List.length_take]; omega
       generalize (d.next.take k).map u = N at *
       obtain ⟨y, hy⟩ : ∃ y, y = u l := ⟨_, rfl⟩
       rw [← hy] at HS
       have Hy := Lib.hid hy
       have hl6 : l ≤ 1000000 := by omega
       have hbz : b < wr.heap.size := by have := HBx.out.below.size; omega
       have hnb : vN.ownBlock ≠ some b := fun e => by have := (HBx.out.n.lt b e).1; omega
       have hs' := (HBx.out.below.cell (p := ⟨b, oo + k, none⟩) hbl).trans hs
       clear hx hl hy HH
       go_wp2_with fail
       obtain ⟨i0, hi0, hz0, hz1, hz2⟩ := info_parts info_int
       have hO := fun ops a => appRS2_ok (Pg := Try.prog) (ops := ops) (a := a) (news := [.int .i64 (y : Int)]) (d := 10) (HBx.out.n)
       refine wp_region_rsl (appRS2 Try.prog _ wr _ (B) 3 1 (vN) (N.length) (nints N) [.int .i64 (y : Int)] 10) (hO _ _) (by kernel_rfl) (by kernel_rfl) (by kernel_rfl) 12 _ rfl rfl (by kernel_rfl) (show (10 : Nat) < 12 by decide) trivial HBx.out.n ?_
       apply rs_eq (hO _ _) (.inl (nnb rfl))
       ·intro ρ w' ho hK
        have ho : Only _ wr w' := ho
        obtain ⟨h0, -⟩ := hK
        have h0' : ρ (.tmp 10) = _ := h0
        go_simp
        try exact rfl
       apply rs_eq (hO _ _) (.inl (nnb rfl))
       ·intro ρ w' ho hK
        have ho : Only _ wr w' := ho
        obtain ⟨h0, -⟩ := hK
        have h0' : ρ (.tmp 115) = _ := h0
        obtain ⟨hP, -, hXq, -⟩ := HBx.out.rowN ho
        obtain ⟨-, q0, q1, q2, q3⟩ := hP
        have k1 := blk_cell hXq 1
        simp at k1
        have c1 := (World.cell?_of_block (a := ⟨b, oo + k, none⟩) (ho.block b hbz (fun e => hnb e))).trans hs'
        go_simp
        try exact rfl
       refine rs_old (hO _ _) (.inl (nnb rfl)) _ (.inl rfl) _ rfl rfl ?_
       apply rs_eq (hO _ _) (.inl (nnb rfl))
       ·intro ρ w' ho hK
        have ho : Only _ wr w' := ho
        obtain ⟨h0, -⟩ := hK
        have h0' : ρ (.tmp 2) = _ := h0
        go_simp
        try exact rfl
       apply rs_eq (hO _ _) (.inl (nnb rfl))
       ·intro ρ w' ho hK
        have ho : Only _ wr w' := ho
        obtain ⟨h0, -⟩ := hK
        have h0' : ρ (.tmp 118) = _ := h0
        obtain ⟨hP, -, hXq, -⟩ := HBx.out.rowN ho
        obtain ⟨-, q0, q1, q2, q3⟩ := hP
        have k1 := blk_cell hXq 1
        simp at k1
        have c1 := (World.cell?_of_block (a := ⟨b, oo + k, none⟩) (ho.block b hbz (fun e => hnb e))).trans hs'
        go_simp
        try exact rfl
       refine rs_old (hO _ _) (.inl (nnb rfl)) _ (.inl rfl) _ rfl rfl ?_
       apply rs_eq (hO _ _) (.inl (nnb rfl))
       ·intro ρ w' ho hK
        have ho : Only _ wr w' := ho
        obtain ⟨h0, h1, -⟩ := hK
        have h0' : ρ (.tmp 119) = _ := h0
        have h1' : ρ (.tmp 120) = _ := h1
        go_simp
        try exact rfl
       apply rs_eq (hO _ _) (.inl (nnb rfl))
       ·intro ρ w' ho hK
        have ho : Only _ wr w' := ho
        obtain ⟨h0, -⟩ := hK
        have h0' : ρ (.tmp 121) = _ := h0
        obtain ⟨hP, -, hXq, -⟩ := HBx.out.rowN ho
        obtain ⟨-, q0, q1, q2, q3⟩ := hP
        have k1 := blk_cell hXq 1
        simp at k1
        have c1 := (World.cell?_of_block (a := ⟨b, oo + k, none⟩) (ho.block b hbz (fun e => hnb e))).trans hs'
        go_simp
        try exact rfl
       refine rs_call (hO _ _) (.inl (nnb rfl)) (TEq (.int .i64 ((y : Nat) : Int))) (stb_eq _ _) 125 _ _ rfl (fun ρ w' ho hK => by
        have ho : Only _ wr w' := ho
        obtain ⟨h0, h1, h2, -⟩ := hK
        have h0' : ρ (.func 125) = .func (.func 125) #[] #[] := h0
        have h1' : ρ (.tmp 117) = _ := h1
        have h2' : ρ (.tmp 122) = _ := h2
        refine ⟨#[ρ (.tmp 117), ρ (.tmp 122)], ?_, ?_⟩
        ·go_simp
        ·rw [h1', h2']
         refine (HMap.out w' l (own_only HBx.out.m ho (fun q hq e => HBx.out.mn q hq e)) hlN hl6).mono ?_
         rintro e w2 ⟨rfl, hb⟩
         exact ⟨_, rfl, by rw [Hy.out]; rfl, hb⟩) ?_
       refine rs_build1 (hO _ _) (.inl (nnb rfl)) 1 [.int .i64 (y : Int)] 3 rfl (fun ρ w' ho hK => by
        have ho : Only _ wr w' := ho
        obtain ⟨h0, -⟩ := hK
        have h0' : ρ (.tmp 123) = _ := h0
        go_simp) ?_
       refine rs_append2 rfl (B) 3 23 1 (vN) (N.length) (nints N) _ rfl rfl (fun g hg => hg) (show B ≤ wr.heap.size by omega) _ _ rfl _ _ rfl rfl rfl rfl i0 _ 8 Try.underlying23 hi0 hz0 hz1 hz2 rfl (by decide) (by omega) (by decide) (by simp [Value.oneCell']) ?_
       apply rs_eq (hO _ _) (.inl (nnb rfl))
       ·intro ρ w' ho hK
        have ho : Only _ wr w' := ho
        obtain ⟨h0, -⟩ := hK
        have h0' : ρ (.tmp 10) = _ := h0
        go_simp
        try exact rfl
       intro f w9 k9 hk9 hI9 ht9 hcp9
       have E0 : f 0 = _ := ht9 0 (nlb rfl)
       have E1 : f 1 = _ := ht9 1 (nlb rfl)
       have E2 : f 2 = _ := ht9 2 (nlb rfl)
       conv at E2 => rhs; whnf
       have E3 : f 3 = _ := ht9 3 (nlb rfl)
       have E4 : f 4 = _ := ht9 4 (nlb rfl)
       have E5 : f 5 = _ := ht9 5 (nlb rfl)
       conv at E5 => rhs; whnf
       have E6 : f 6 = _ := ht9 6 (nlb rfl)
       have E7 : f 7 = _ := ht9 7 (nlb rfl)
       have E8 : f 8 = _ := ht9 8 (nlb rfl)
       have E9 : (TNew _ 1 1 [.int .i64 (y : Int)]) w9 (f 9) := ht9 9 (nlb rfl)
       have E10 : (TAny) w9 (f 10) := ht9 10 (nlb rfl)
       have E11 : f 11 = _ := ht9 11 (nlb rfl)
       have Ho9 : Only _ wr w9 := hI9.2.1
       have hown9 : w9.ownsRow (B) 3 1 (f 10) (N.length + 1) (nints N ++ [.int .i64 (y : Int)]) := hI9.2.2.1
       have hat9 : ∀ g, (f 10).ownBlock = some g → (vN).ownBlock = some g ∨ wr.heap.size ≤ g := hI9.2.2.2
       simp only [putAll, E0, E1, E2, E3, E4, E5, E6, E7, E8, E11, Nat.zero_add, Nat.reduceAdd, Act.put, List.setIfInBounds_toArray, List.set_cons_succ, List.set_cons_zero, List.take, List.getElem_toArray, List.getElem_cons_succ, List.getElem_cons_zero]
       clear E0 E1 E2 E3 E4 E5 E6 E7 E8 E11
       clear hI9 ht9 hcp9 hk9
       generalize f 9 = r9 at *
       generalize f 10 = r10 at *
       have O9 : Only (fun g => vN.ownBlock = some g) wr w9 := Ho9
       obtain ⟨A9, c9, hv9⟩ := slice_of_own hown9
       subst hv9
       have hX9 := (HBx.out.rowN O9).2.2.1
       have HB9 := Lib.hid (HBx.out.appN (x := y) hown9 O9 hat9)
       have HG9 := Lib.hid (Bx.blk (i := 1) (u := .slice A9 (N.length + 1) c9) (fun g hg => (HBx.out.n.lt g hg).1) O9 HGx.out hgGB hxG)
       have q1 := blk_cell hX9 1
       have f1 := blk_free hX9 1
       simp at q1
       have hz9 := O9.size
       clear Ho9 O9 hX9 hown9 hat9 HBx HGx hs hs' hnb z p0 p1 p2 p3
       go_wp2_with fail
       go_roundw
       case rel => exact ⟨k + 1, by omega, by go_num, ⟨⟨_, by rw [HS.out]; exact HB9, HG9⟩⟩⟩
       case measure => simp [intOf] <;> omega
      ·obtain rfl : k = d.next.length := by omega
       have HNf : Hid ((d.next.take d.next.length).map u = d.next.map u) := Lib.hid (by rw [List.take_length])
       rw [HNf.out] at HBx
       have hNc : (d.next.map u).length = d.next.length := List.length_map _
       have HNu : Hid (∀ x ∈ d.next.map u, x ≤ 2 * 50 + 1) := Lib.hid fun x hx => by obtain ⟨l, _, rfl⟩ := List.mem_map.1 hx; exact Hub.out l
       generalize hN : d.next.map u = N at *
       have HN := Lib.hid hN
       obtain ⟨hl1, hl2, hl3, hl4⟩ := HLat.out
       have hq1 := tdiv_two x1
       have hq2 := tdiv_two x2
       obtain ⟨q1, hqe1⟩ : ∃ q, x1 / 2 = q := ⟨_, rfl⟩
       obtain ⟨q2, hqe2⟩ : ∃ q, x2 / 2 = q := ⟨_, rfl⟩
       rw [hqe1] at hq1 hl1 hl2
       rw [hqe2] at hq2 hl3 hl4
       obtain ⟨j1, hj1⟩ : ∃ j, q1 - d.ins - 1 = j := ⟨_, rfl⟩
       obtain ⟨j2, hj2⟩ : ∃ j, q2 - d.ins - 1 = j := ⟨_, rfl⟩
       have hj1n : j1 < N.length := by omega
       have hj2n : j2 < N.length := by omega
       have hwq1 : IntKind.i64.wrap (q1 : Int) = (q1 : Int) := IntWalk.i64_in _ (by omega)
       have hwq2 : IntKind.i64.wrap (q2 : Int) = (q2 : Int) := IntWalk.i64_in _ (by omega)
       have hws1 : IntKind.i64.wrap ((q1 : Int) - (d.ins : Int)) = ((j1 + 1 : Nat) : Int) := by rw [IntWalk.i64_in _ (by omega)]; omega
       have hws2 : IntKind.i64.wrap ((q2 : Int) - (d.ins : Int)) = ((j2 + 1 : Nat) : Int) := by rw [IntWalk.i64_in _ (by omega)]; omega
       have hwt1 : IntKind.i64.wrap (((j1 + 1 : Nat) : Int) - 1) = (j1 : Int) := by rw [IntWalk.i64_in _ (by omega)]; omega
       have hwt2 : IntKind.i64.wrap (((j2 + 1 : Nat) : Int) - 1) = (j2 : Int) := by rw [IntWalk.i64_in _ (by omega)]; omega
       obtain ⟨n1, hn1⟩ := at_some hj1n
       obtain ⟨n2, hn2⟩ := at_some hj2n
       have hn1b := HNu.out n1 (List.mem_of_getElem? hn1)
       have hn2b := HNu.out n2 (List.mem_of_getElem? hn2)
       have HGate : Hid (((N.getD ((d.gates.getD i (0, 0)).1 / 2 - d.ins - 1) 0 ^^^ (d.gates.getD i (0, 0)).1 % 2, N.getD ((d.gates.getD i (0, 0)).2 / 2 - d.ins - 1) 0 ^^^ (d.gates.getD i (0, 0)).2 % 2) : Nat × Nat) = (n1 ^^^ b1, n2 ^^^ b2)) := Lib.hid (by
        have e : d.gates.getD i (0, 0) = (x1, x2) := by rw [List.getD_eq_getElem?_getD, Hgt.out, Option.getD_some]
        rw [e]
        simp only
        rw [hqe1, hqe2, hj1, hj2, Hb1.out, Hb2.out, List.getD_eq_getElem?_getD, hn1, List.getD_eq_getElem?_getD, hn2, Option.getD_some, Option.getD_some])
       have hx1r := i64_xor_nat n1 b1 (by omega) (by omega)
       have hx2r := i64_xor_nat n2 b2 (by omega) (by omega)
       obtain ⟨e1, he1⟩ : ∃ e, n1 ^^^ b1 = e := ⟨_, rfl⟩
       obtain ⟨e2, he2⟩ : ∃ e, n2 ^^^ b2 = e := ⟨_, rfl⟩
       rw [he1] at hx1r HGate
       rw [he2] at hx2r HGate
       obtain ⟨gn, cN, hvN, hgn1, hgn2, -, -⟩ := own_open HBx.out.n (by omega)
       subst hvN
       obtain ⟨u1, hu1, hd1, hf1⟩ := own_slot HBx.out.n (j := j1) (by omega)
       obtain ⟨u2, hu2, hd2, hf2⟩ := own_slot HBx.out.n (j := j2) (by omega)
       have hnn1 : (nints N)[j1]? = some (.int .i64 (n1 : Nat)) := by unfold nints ints nats; rw [List.map_map, List.getElem?_map, hn1]; rfl
       have hnn2 : (nints N)[j2]? = some (.int .i64 (n2 : Nat)) := by unfold nints ints nats; rw [List.map_map, List.getElem?_map, hn2]; rfl
       obtain rfl := Option.some.inj (hu1.symm.trans hnn1)
       obtain rfl := Option.some.inj (hu2.symm.trans hnn2)
       have t0 := blk_cell HGx.out 0
       have t1 := blk_cell HGx.out 1
       have t2 := blk_cell HBx.out.hx 1
       simp at t0 t1 t2
       have gGz := blk_ltB HGx.out
       have gxz := blk_ltB HBx.out.hx
       have c0 := gw_cell p0 z
       have c1 := gw_cell t0 gGz
       have c2 := gw_cell t1 gGz
       have c3 := gw_cell t2 gxz
       have c4 := gw_cell hd1 hgn2
       have c5 := gw_cell hd2 hgn2
       clear hqe1 hqe2 hj1 hj2 hn1 hn2 he1 he2 hu1 hu2 hnn1 hnn2 hf1 hf2 HH HNf hN hl1 hl2 hl3 hl4
       go_wp2_with fail
       refine wp_region_grow (by kernel_rfl) (by kernel_rfl) ?_
       repeat (go_big_quiet_step ((fail)))
       refine wpQuiet_nil ?_
       intro _ hw'
       obtain ⟨nq, hw''⟩ := hw'
       subst hw''
       have hgq := gw_below nq
       generalize gw nq = wq at *
       clear nq
       replace HBx := Lib.hid (HBx.out.step hgq)
       replace HGx := Lib.hid ((hgq.block gG gGz).trans HGx.out)
       have hd2' := (hgq.cell (p := ⟨gn, j2, none⟩) hgn2).trans hd2
       clear c0 c1 c2 c3 c4 c5 t0 t1 t2 hd1 hd2 gGz gxz z p0 p1 p2 p3
       obtain ⟨z, p0, p1, p2, p3⟩ := HBx.out.hC
       have t0 := blk_cell HGx.out 0
       have t1 := blk_cell HGx.out 1
       have t2 := blk_cell HBx.out.hx 1
       simp at t0 t1 t2
       have gGz := blk_ltB HGx.out
       have gxz := blk_ltB HBx.out.hx
       have hgn3 : gn < wq.heap.size := Nat.lt_of_lt_of_le hgn2 hgq.size
       clear hgq
       obtain ⟨wr2, hwr2⟩ : ∃ W, W = wq := ⟨_, rfl⟩
       subst hwr2
       have c0 := gw_cell p0 z
       have c1 := gw_cell t0 gGz
       have c2 := gw_cell t1 gGz
       have c3 := gw_cell t2 gxz
       have c5 := gw_cell hd2' hgn3
       go_wp2_with fail
       refine wp_region_grow (by kernel_rfl) (by kernel_rfl) ?_
       repeat (go_big_quiet_step ((fail)))
       refine wpQuiet_nil ?_
       intro _ hw'
       obtain ⟨nq, hw''⟩ := hw'
       subst hw''
       have hgq := gw_below nq
       generalize gw nq = wq at *
       clear nq
       replace HBx := Lib.hid (HBx.out.step hgq)
       clear c0 c1 c2 c3 c5 t0 t1 t2 hd2' gGz gxz z p0 p1 p2 p3 HGx hgn3 hgn2 hgn1 hgq
       obtain ⟨wr3, hwr3⟩ : ∃ W, W = wq := ⟨_, rfl⟩
       subst hwr3
       obtain ⟨z, p0, p1, p2, p3⟩ := HBx.out.hC
       have x2 := blk_cell HBx.out.hx 2
       simp at x2
       have hzB7 := HBx.out.zB
       have hgl := HGc.out
       have Hlit := Lib.hid (Row.of_own (World.ownsRow_lit (base := wr3.heap.size) (e := 64) (size := 2) wr3 #[.int .i64 (e1 : Nat), .int .i64 (e2 : Nat)] 1 (Nat.le_refl _) (by unfold maxLen; omega) rfl))
       have HBl := Lib.hid (HBx.out.step (bel_new wr3 (.cells #[.int .i64 (e1 : Nat), .int .i64 (e2 : Nat)] 64)))
       have hza : (wr3.alloc (.cells #[.int .i64 (e1 : Nat), .int .i64 (e2 : Nat)] 64)).heap.size = wr3.heap.size + 1 := by simp
       go_wp2_with (at_builtin; refine append_gatesR rfl (.tmp 158) (.tmp 162) rfl B vG G.length _ rfl HBl.out.g _ 1 [.int .i64 (e1 : Nat), .int .i64 (e2 : Nat)] rfl Hlit.out (by simp [Value.oneCell']) (by omega) (by omega) ?_; intro v5 w5 hown5 hg5 hat5; obtain ⟨A5, c5, hv5⟩ := slice_of_own hown5; subst hv5; have ho5 := Only.grown (E := fun g => vG.ownBlock = some g) hg5 (fun k hk => hk); have HB5 := Lib.hid (HBl.out.appG (x := e1) (y := e2) hown5 ho5); have hX5 := (HBl.out.rowG ho5).2.2.1; have r2 := blk_cell hX5 2; have f2 := blk_free hX5 2; simp at r2; clear hown5 hg5 hat5 ho5 hX5)
       clear Hlit HBl hza HBx z p0 p1 p2 p3 x2
       generalize w5.setCell ⟨gx, 2, none⟩ (.slice A5 (G.length + 1) c5) = w6 at *
       clear r2 f2
       obtain ⟨vG2, hvG2⟩ : ∃ v, v = Value.slice A5 (G.length + 1) c5 := ⟨_, rfl⟩
       rw [← hvG2] at HB5
       have HvG2 := Lib.hid hvG2
       clear hvG2
       have hzB8 := HB5.out.zB
       have hwA : IntKind.i64.wrap ((F : Int) + (d.gates.length : Int)) = (F : Int) + (d.gates.length : Int) := IntWalk.i64_in _ (by omega)
       have hwB2 : IntKind.i64.wrap ((F : Int) + (d.gates.length : Int) + 1) = (F : Int) + (d.gates.length : Int) + 1 := IntWalk.i64_in _ (by omega)
       have hwC : IntKind.i64.wrap (2 * ((F : Int) + (d.gates.length : Int) + 1)) = 2 * ((F : Int) + (d.gates.length : Int) + 1) := IntWalk.i64_in _ (by omega)
       have hwD : IntKind.i64.wrap (2 * ((F : Int) + (d.gates.length : Int) + 1) + (bent : Int)) = 2 * ((F : Int) + (d.gates.length : Int) + 1) + (bent : Int) := IntWalk.i64_in _ (by omega)
       have hNl3 : N.length ≤ 3 := by omega
       obtain ⟨NL, hNL⟩ : ∃ NL, N.length = NL := ⟨_, rfl⟩
       have HNown : Hid (w6.ownsRow B 3 1 (.slice (some ⟨gn, 0, none⟩) NL cN) NL (nints N)) := Lib.hid (by have h := HB5.out.n; rw [hNL] at h; exact h)
       have hvne : Hid ((Value.slice (some ⟨gn, 0, none⟩) N.length cN) = Value.slice (some ⟨gn, 0, none⟩) NL cN) := Lib.hid (by rw [hNL])
       rw [hvne.out] at HB5
       rw [hNL] at hNl3
       have HNL := Lib.hid hNL
       clear hNL hNc
       obtain ⟨i0, hi0, hz0, hz1, hz2⟩ := info_parts info_int
       have hO := fun ops a => appRS2_ok (Pg := Try.prog) (ops := ops) (a := a) (news := [.int .i64 (2 * ((F : Int) + (d.gates.length : Int) + 1) + (bent : Int))]) (d := 13) (HNown.out)
       refine wp_region_rsl (appRS2 Try.prog _ w6 _ (B) 3 1 (Value.slice (some ⟨gn, 0, none⟩) NL cN) (NL) (nints N) [.int .i64 (2 * ((F : Int) + (d.gates.length : Int) + 1) + (bent : Int))] 13) (hO _ _) (by kernel_rfl) (by kernel_rfl) (by kernel_rfl) 15 _ rfl rfl (by kernel_rfl) (show (13 : Nat) < 15 by decide) trivial HNown.out ?_
       apply rs_eq (hO _ _) (.inl (nnb rfl))
       ·intro ρ w' ho hK
        have ho : Only _ w6 w' := ho
        obtain ⟨h0, -⟩ := hK
        have h0' : ρ (.tmp 10) = _ := h0
        go_simp
        try exact rfl
       apply rs_eq (hO _ _) (.inl (nnb rfl))
       ·intro ρ w' ho hK
        have ho : Only _ w6 w' := ho
        obtain ⟨h0, -⟩ := hK
        have h0' : ρ (.tmp 165) = _ := h0
        obtain ⟨hP, -, hXq, -⟩ := HB5.out.rowN ho
        obtain ⟨-, q0, q1, q2, q3⟩ := hP
        have k1 := blk_cell hXq 1
        simp at k1
        go_simp
        try exact rfl
       apply rs_eq (hO _ _) (.inl (nnb rfl))
       ·intro ρ w' ho hK
        have ho : Only _ w6 w' := ho
        obtain ⟨h0, -⟩ := hK
        have h0' : ρ (.tmp 2) = _ := h0
        obtain ⟨hP, -, hXq, -⟩ := HB5.out.rowN ho
        obtain ⟨-, q0, q1, q2, q3⟩ := hP
        have k1 := blk_cell hXq 1
        simp at k1
        go_simp
        try exact rfl
       refine rs_call (hO _ _) (.inl (nnb rfl)) (TEq (.int .i64 (F : Nat))) (stb_eq _ _) 43 _ _ rfl (fun ρ w' ho hK => by
        have ho : Only _ w6 w' := ho
        obtain ⟨h0, h1, -⟩ := hK
        have h0' : ρ (.func 43) = .func (.func 43) #[] #[] := h0
        have h1' : ρ (.tmp 167) = _ := h1
        refine ⟨#[ρ (.tmp 167)], ?_, ?_⟩
        ·go_simp
        ·rw [h1']
         refine (HFi.out w' (HB5.out.rowN ho).2.2.2).mono ?_
         rintro e w2 ⟨rfl, hb⟩
         exact ⟨_, rfl, rfl, hb⟩) ?_
       apply rs_eq (hO _ _) (.inl (nnb rfl))
       ·intro ρ w' ho hK
        have ho : Only _ w6 w' := ho
        obtain ⟨h0, -⟩ := hK
        have h0' : ρ (.tmp 2) = _ := h0
        go_simp
        try exact rfl
       apply rs_eq (hO _ _) (.inl (nnb rfl))
       ·intro ρ w' ho hK
        have ho : Only _ w6 w' := ho
        obtain ⟨h0, -⟩ := hK
        have h0' : ρ (.tmp 169) = _ := h0
        obtain ⟨hP, -, hXq, -⟩ := HB5.out.rowN ho
        obtain ⟨-, q0, q1, q2, q3⟩ := hP
        have k1 := blk_cell hXq 1
        simp at k1
        go_simp
        try exact rfl
       apply rs_eq (hO _ _) (.inl (nnb rfl))
       ·intro ρ w' ho hK
        have ho : Only _ w6 w' := ho
        obtain ⟨h0, -⟩ := hK
        have h0' : ρ (.tmp 170) = _ := h0
        go_simp
        try exact rfl
       apply rs_eq (hO _ _) (.inl (nnb rfl))
       ·intro ρ w' ho hK
        have ho : Only _ w6 w' := ho
        obtain ⟨h0, h1, -⟩ := hK
        have h0' : ρ (.tmp 168) = _ := h0
        have h1' : ρ (.tmp 171) = _ := h1
        go_simp
        try exact rfl
       apply rs_eq (hO _ _) (.inl (nnb rfl))
       ·intro ρ w' ho hK
        have ho : Only _ w6 w' := ho
        obtain ⟨h0, h1, -⟩ := hK
        have h0' : ρ (.tmp 172) = _ := h0
        have h1' : ρ (.const (Value.int IntKind.i64 1)) = (Value.int IntKind.i64 1) := h1
        go_simp
        try exact rfl
       apply rs_eq (hO _ _) (.inl (nnb rfl))
       ·intro ρ w' ho hK
        have ho : Only _ w6 w' := ho
        obtain ⟨h0, h1, -⟩ := hK
        have h0' : ρ (.const (Value.int IntKind.i64 2)) = (Value.int IntKind.i64 2) := h0
        have h1' : ρ (.tmp 173) = _ := h1
        go_simp
        try exact rfl
       refine rs_old (hO _ _) (.inl (nnb rfl)) _ (.inl rfl) _ rfl rfl ?_
       apply rs_eq (hO _ _) (.inl (nnb rfl))
       ·intro ρ w' ho hK
        have ho : Only _ w6 w' := ho
        obtain ⟨h0, h1, -⟩ := hK
        have h0' : ρ (.tmp 174) = _ := h0
        have h1' : ρ (.tmp 175) = _ := h1
        go_simp
        try exact rfl
       refine rs_build1 (hO _ _) (.inl (nnb rfl)) 1 [.int .i64 (2 * ((F : Int) + (d.gates.length : Int) + 1) + (bent : Int))] 3 rfl (fun ρ w' ho hK => by
        have ho : Only _ w6 w' := ho
        obtain ⟨h0, -⟩ := hK
        have h0' : ρ (.tmp 176) = _ := h0
        go_simp) ?_
       refine rs_append2 rfl (B) 3 23 1 (Value.slice (some ⟨gn, 0, none⟩) NL cN) (NL) (nints N) _ rfl rfl (fun g hg => hg) (show B ≤ w6.heap.size by omega) _ _ rfl _ _ rfl rfl rfl rfl i0 _ 8 Try.underlying23 hi0 hz0 hz1 hz2 rfl (by decide) (by omega) (by decide) (by simp [Value.oneCell']) ?_
       apply rs_eq (hO _ _) (.inl (nnb rfl))
       ·intro ρ w' ho hK
        have ho : Only _ w6 w' := ho
        obtain ⟨h0, -⟩ := hK
        have h0' : ρ (.tmp 10) = _ := h0
        go_simp
        try exact rfl
       intro f w9 k9 hk9 hI9 ht9 hcp9
       have E0 : f 0 = _ := ht9 0 (nlb rfl)
       have E1 : f 1 = _ := ht9 1 (nlb rfl)
       have E2 : f 2 = _ := ht9 2 (nlb rfl)
       have E3 : f 3 = _ := ht9 3 (nlb rfl)
       have E4 : f 4 = _ := ht9 4 (nlb rfl)
       have E5 : f 5 = _ := ht9 5 (nlb rfl)
       have E6 : f 6 = _ := ht9 6 (nlb rfl)
       have E7 : f 7 = _ := ht9 7 (nlb rfl)
       have E8 : f 8 = _ := ht9 8 (nlb rfl)
       have E9 : f 9 = _ := ht9 9 (nlb rfl)
       have E10 : f 10 = _ := ht9 10 (nlb rfl)
       conv at E10 => rhs; whnf
       have E11 : f 11 = _ := ht9 11 (nlb rfl)
       have E12 : (TNew _ 1 1 [.int .i64 (2 * ((F : Int) + (d.gates.length : Int) + 1) + (bent : Int))]) w9 (f 12) := ht9 12 (nlb rfl)
       have E13 : (TAny) w9 (f 13) := ht9 13 (nlb rfl)
       have E14 : f 14 = _ := ht9 14 (nlb rfl)
       have Ho9 : Only _ w6 w9 := hI9.2.1
       have hown9 : w9.ownsRow (B) 3 1 (f 13) (NL + 1) (nints N ++ [.int .i64 (2 * ((F : Int) + (d.gates.length : Int) + 1) + (bent : Int))]) := hI9.2.2.1
       have hat9 : ∀ g, (f 13).ownBlock = some g → (Value.slice (some ⟨gn, 0, none⟩) NL cN).ownBlock = some g ∨ w6.heap.size ≤ g := hI9.2.2.2
       simp only [putAll, E0, E1, E2, E3, E4, E5, E6, E7, E8, E9, E10, E11, E14, Nat.zero_add, Nat.reduceAdd, Act.put, List.setIfInBounds_toArray, List.set_cons_succ, List.set_cons_zero, List.take, List.getElem_toArray, List.getElem_cons_succ, List.getElem_cons_zero]
       clear E0 E1 E2 E3 E4 E5 E6 E7 E8 E9 E10 E11 E14
       clear hI9 ht9 hcp9 hk9
       generalize f 12 = r12 at *
       generalize f 13 = r13 at *
       have O9 : Only (fun g => (Value.slice (some ⟨gn, 0, none⟩) NL cN).ownBlock = some g) w6 w9 := Ho9
       obtain ⟨A9, c9, hv9⟩ := slice_of_own hown9
       subst hv9
       have hX9 := (HB5.out.rowN O9).2.2.1
       have hVe : 2 * ((F : Int) + (d.gates.length : Int) + 1) + (bent : Int) = ((2 * (F + d.gates.length + 1) + bent : Nat) : Int) := by omega
       rw [hVe] at hown9
       have HB9 := Lib.hid (HB5.out.appN (x := 2 * (F + d.gates.length + 1) + bent) (by rw [HNL.out]; exact hown9) O9 hat9)
       have q1 := blk_cell hX9 1
       have f1 := blk_free hX9 1
       simp at q1
       have hz9 := O9.size
       have HNf : Hid (N ++ [2 * (F + d.gates.length + 1) + bent] = (Cir.retC d i).next) := Lib.hid (by unfold Cir.retC; rw [Hud.out, HN.out, HF.out, Hbent.out])
       have HGf : Hid (G ++ [(e1, e2)] = (Cir.retC d i).gates) := Lib.hid (by unfold Cir.retC; rw [Hud.out, HN.out, HG.out, HGate.out])
       rw [HNf.out, HGf.out] at HB9
       generalize hNF : (Cir.retC d i).next = NF at *
       generalize hGF : (Cir.retC d i).gates = GF at *
       have HNF := Lib.hid hNF
       have HGF := Lib.hid hGF
       clear hNF hGF
       clear Ho9 O9 hX9 hown9 hat9 HB5 HNown hvne hwA hwB2 hwC hwD hVe hx1r hx2r
       go_wp2_with fail
       generalize w9.setCell ⟨gx, 1, none⟩ (.slice A9 (NL + 1) c9) = w10 at *
       clear q1 f1 hz9
       obtain ⟨vN2, hvN2⟩ : ∃ v, v = Value.slice A9 (NL + 1) c9 := ⟨_, rfl⟩
       rw [← hvN2] at HB9
       clear hvN2
       go_loopw [15] (fun j wr => ∃ (k : Nat), k ≤ d.outs.length ∧ j = .int .i64 k ∧ RetO d w B gC gR gx (.slice An d.next.length cn) (.slice (some ⟨bq, o, none⟩) d.gates.length cg) (.slice Ao d.outs.length co) vm' vN2 vG2 m NF u GF k wr) (fun j _ => d.outs.length - (intOf j).toNat)
       case atStart => exact ⟨0, Nat.zero_le _, rfl, ⟨⟨.slice none 0 0, HB9⟩⟩⟩
       case round =>
        clear HB9
        obtain ⟨k, hk, rfl, HH⟩ := hrel
        obtain ⟨vO, HBx⟩ := HH.out
        obtain ⟨z, p0, p1, p2, p3⟩ := HBx.out.hC
        have hzB9 := HBx.out.zB
        by_cases hlt : k < d.outs.length
        ·obtain ⟨b, oo, x, rfl, hbl, hx, hs⟩ := ints_open RO.out (Below.refl _ _) (show d.outs.length = (Cir.toCz d).outs.length from (List.length_map _).symm) (i := k) (by rw [show (Cir.toCz d).outs.length = d.outs.length from List.length_map _]; exact hlt)
         obtain ⟨l, hl⟩ := at_some hlt
         have hxe : x = (l : Int) := by
          have h1 := hx.out
          unfold Cir.toCz at h1
          rw [List.getElem?_map, hl] at h1
          exact (Option.some.inj h1).symm
         subst hxe
         have hlN := HOl.out l (List.mem_of_getElem? hl)
         have HS : Hid ((d.outs.take (k + 1)).map u = (d.outs.take k).map u ++ [u l]) := Lib.hid (by rw [take_snoc hl, List.map_append]; rfl)
         have hOl : ((d.outs.take k).map u).length ≤ 3 := by rw [List.length_map, List.length_take]; omega
         generalize (d.outs.take k).map u = O at *
         obtain ⟨y, hy⟩ : ∃ y, y = u l := ⟨_, rfl⟩
         rw [← hy] at HS
         have Hy := Lib.hid hy
         have hl6 : l ≤ 1000000 := by omega
         have hbz : b < wr.heap.size := by have := HBx.out.below.size; omega
         have hnb : vO.ownBlock ≠ some b := fun e => by have := (HBx.out.o.lt b e).1; omega
         have hs' := (HBx.out.below.cell (p := ⟨b, oo + k, none⟩) hbl).trans hs
         clear hx hl hy HH
         go_wp2_with fail
         obtain ⟨i0, hi0, hz0, hz1, hz2⟩ := info_parts info_int
         have hO := fun ops a => appRS2_ok (Pg := Try.prog) (ops := ops) (a := a) (news := [.int .i64 (y : Int)]) (d := 10) (HBx.out.o)
         refine wp_region_rsl (appRS2 Try.prog _ wr _ (B) 3 1 (vO) (O.length) (nints O) [.int .i64 (y : Int)] 10) (hO _ _) (by kernel_rfl) (by kernel_rfl) (by kernel_rfl) 12 _ rfl rfl (by kernel_rfl) (show (10 : Nat) < 12 by decide) trivial HBx.out.o ?_
         apply rs_eq (hO _ _) (.inl (nnb rfl))
         ·intro ρ w' ho hK
          have ho : Only _ wr w' := ho
          obtain ⟨h0, -⟩ := hK
          have h0' : ρ (.tmp 10) = _ := h0
          go_simp
          try exact rfl
         apply rs_eq (hO _ _) (.inl (nnb rfl))
         ·intro ρ w' ho hK
          have ho : Only _ wr w' := ho
          obtain ⟨h0, -⟩ := hK
          have h0' : ρ (.tmp 187) = _ := h0
          obtain ⟨hP, -, hXq, -⟩ := HBx.out.rowO ho
          obtain ⟨-, q0, q1, q2, q3⟩ := hP
          have k1 := blk_cell hXq 3
          simp at k1
          have c1 := (World.cell?_of_block (a := ⟨b, oo + k, none⟩) (ho.block b hbz (fun e => hnb e))).trans hs'
          go_simp
          try exact rfl
         refine rs_old (hO _ _) (.inl (nnb rfl)) _ (.inl rfl) _ rfl rfl ?_
         apply rs_eq (hO _ _) (.inl (nnb rfl))
         ·intro ρ w' ho hK
          have ho : Only _ wr w' := ho
          obtain ⟨h0, -⟩ := hK
          have h0' : ρ (.tmp 2) = _ := h0
          go_simp
          try exact rfl
         apply rs_eq (hO _ _) (.inl (nnb rfl))
         ·intro ρ w' ho hK
          have ho : Only _ wr w' := ho
          obtain ⟨h0, -⟩ := hK
          have h0' : ρ (.tmp 190) = _ := h0
          obtain ⟨hP, -, hXq, -⟩ := HBx.out.rowO ho
          obtain ⟨-, q0, q1, q2, q3⟩ := hP
          have k1 := blk_cell hXq 3
          simp at k1
          have c1 := (World.cell?_of_block (a := ⟨b, oo + k, none⟩) (ho.block b hbz (fun e => hnb e))).trans hs'
          go_simp
          try exact rfl
         refine rs_old (hO _ _) (.inl (nnb rfl)) _ (.inl rfl) _ rfl rfl ?_
         apply rs_eq (hO _ _) (.inl (nnb rfl))
         ·intro ρ w' ho hK
          have ho : Only _ wr w' := ho
          obtain ⟨h0, h1, -⟩ := hK
          have h0' : ρ (.tmp 191) = _ := h0
          have h1' : ρ (.tmp 192) = _ := h1
          go_simp
          try exact rfl
         apply rs_eq (hO _ _) (.inl (nnb rfl))
         ·intro ρ w' ho hK
          have ho : Only _ wr w' := ho
          obtain ⟨h0, -⟩ := hK
          have h0' : ρ (.tmp 193) = _ := h0
          obtain ⟨hP, -, hXq, -⟩ := HBx.out.rowO ho
          obtain ⟨-, q0, q1, q2, q3⟩ := hP
          have k1 := blk_cell hXq 3
          simp at k1
          have c1 := (World.cell?_of_block (a := ⟨b, oo + k, none⟩) (ho.block b hbz (fun e => hnb e))).trans hs'
          go_simp
          try exact rfl
         refine rs_call (hO _ _) (.inl (nnb rfl)) (TEq (.int .i64 ((y : Nat) : Int))) (stb_eq _ _) 125 _ _ rfl (fun ρ w' ho hK => by
          have ho : Only _ wr w' := ho
          obtain ⟨h0, h1, h2, -⟩ := hK
          have h0' : ρ (.func 125) = .func (.func 125) #[] #[] := h0
          have h1' : ρ (.tmp 189) = _ := h1
          have h2' : ρ (.tmp 194) = _ := h2
          refine ⟨#[ρ (.tmp 189), ρ (.tmp 194)], ?_, ?_⟩
          ·go_simp
          ·rw [h1', h2']
           refine (HMap.out w' l (own_only HBx.out.m ho (fun q hq e => HBx.out.mo q hq e)) hlN hl6).mono ?_
           rintro e w2 ⟨rfl, hb⟩
           exact ⟨_, rfl, by rw [Hy.out]; rfl, hb⟩) ?_
         refine rs_build1 (hO _ _) (.inl (nnb rfl)) 1 [.int .i64 (y : Int)] 3 rfl (fun ρ w' ho hK => by
          have ho : Only _ wr w' := ho
          obtain ⟨h0, -⟩ := hK
          have h0' : ρ (.tmp 195) = _ := h0
          go_simp) ?_
         refine rs_append2 rfl (B) 3 23 1 (vO) (O.length) (nints O) _ rfl rfl (fun g hg => hg) (show B ≤ wr.heap.size by omega) _ _ rfl _ _ rfl rfl rfl rfl i0 _ 8 Try.underlying23 hi0 hz0 hz1 hz2 rfl (by decide) (by omega) (by decide) (by simp [Value.oneCell']) ?_
         apply rs_eq (hO _ _) (.inl (nnb rfl))
         ·intro ρ w' ho hK
          have ho : Only _ wr w' := ho
          obtain ⟨h0, -⟩ := hK
          have h0' : ρ (.tmp 10) = _ := h0
          go_simp
          try exact rfl
         intro f w9 k9 hk9 hI9 ht9 hcp9
         have E0 : f 0 = _ := ht9 0 (nlb rfl)
         have E1 : f 1 = _ := ht9 1 (nlb rfl)
         have E2 : f 2 = _ := ht9 2 (nlb rfl)
         conv at E2 => rhs; whnf
         have E3 : f 3 = _ := ht9 3 (nlb rfl)
         have E4 : f 4 = _ := ht9 4 (nlb rfl)
         have E5 : f 5 = _ := ht9 5 (nlb rfl)
         conv at E5 => rhs; whnf
         have E6 : f 6 = _ := ht9 6 (nlb rfl)
         have E7 : f 7 = _ := ht9 7 (nlb rfl)
         have E8 : f 8 = _ := ht9 8 (nlb rfl)
         have E9 : (TNew _ 1 1 [.int .i64 (y : Int)]) w9 (f 9) := ht9 9 (nlb rfl)
         have E10 : (TAny) w9 (f 10) := ht9 10 (nlb rfl)
         have E11 : f 11 = _ := ht9 11 (nlb rfl)
         have Ho9 : Only _ wr w9 := hI9.2.1
         have hown9 : w9.ownsRow (B) 3 1 (f 10) (O.length + 1) (nints O ++ [.int .i64 (y : Int)]) := hI9.2.2.1
         have hat9 : ∀ g, (f 10).ownBlock = some g → (vO).ownBlock = some g ∨ wr.heap.size ≤ g := hI9.2.2.2
         simp only [putAll, E0, E1, E2, E3, E4, E5, E6, E7, E8, E11, Nat.zero_add, Nat.reduceAdd, Act.put, List.setIfInBounds_toArray, List.set_cons_succ, List.set_cons_zero, List.take, List.getElem_toArray, List.getElem_cons_succ, List.getElem_cons_zero]
         clear E0 E1 E2 E3 E4 E5 E6 E7 E8 E11
         clear hI9 ht9 hcp9 hk9
         generalize f 9 = r9 at *
         generalize f 10 = r10 at *
         have O9 : Only (fun g => vO.ownBlock = some g) wr w9 := Ho9
         obtain ⟨A9, c9, hv9⟩ := slice_of_own hown9
         subst hv9
         have hX9 := (HBx.out.rowO O9).2.2.1
         have HB9 := Lib.hid (HBx.out.appO (x := y) hown9 O9 hat9)
         have q1 := blk_cell hX9 3
         have f1 := blk_free hX9 3
         simp at q1
         have hz9 := O9.size
         clear Ho9 O9 hX9 hown9 hat9 HBx hs hs' hnb z p0 p1 p2 p3
         go_wp2_with fail
         go_roundw
         case rel => exact ⟨k + 1, by omega, by go_num, ⟨⟨_, by rw [HS.out]; exact HB9⟩⟩⟩
         case measure => simp [intOf] <;> omega
        ·obtain rfl : k = d.outs.length := by omega
         have HOF : Hid ((d.outs.take d.outs.length).map u = (Cir.retC d i).outs) := Lib.hid (by rw [List.take_length]; unfold Cir.retC; rw [Hud.out])
         rw [HOF.out] at HBx
         obtain ⟨AN, cN2, hvN⟩ := slice_of_own HBx.out.n
         obtain ⟨AG, cG2, hvG⟩ := slice_of_own HBx.out.g
         obtain ⟨AO, cO2, hvO⟩ := slice_of_own HBx.out.o
         subst hvN hvG hvO
         have hCf : CircOwn 0 wr (.agg #[.int .i64 (d.ins : Int), .slice AN NF.length cN2, .slice AG GF.length cG2, .slice AO (Cir.retC d i).outs.length cO2]) (Cir.toCz (Cir.retC d i)) := by
          have e1 : (Cir.toCz (Cir.retC d i)).next = nats NF := by rw [← HNF.out]; rfl
          have e2 : (Cir.toCz (Cir.retC d i)).gates = gz GF := by rw [← HGF.out]; rfl
          have e3 : (Cir.toCz (Cir.retC d i)).outs = nats (Cir.retC d i).outs := rfl
          refine ⟨_, _, _, rfl, ?_, ?_, ?_⟩
          ·rw [e1, nats_length]; exact own_mono HBx.out.n (Nat.zero_le _)
          ·rw [e2, gz_length]; exact own_mono HBx.out.g (Nat.zero_le _)
          ·rw [e3, nats_length]; exact own_mono HBx.out.o (Nat.zero_le _)
         have HCf := Lib.hid hCf
         have HRf := Lib.hid HBx.out.hR
         have HBf := Lib.hid HBx.out.below
         have y0 := blk_cell HBx.out.hx 0
         have y1 := blk_cell HBx.out.hx 1
         have y2 := blk_cell HBx.out.hx 2
         have y3 := blk_cell HBx.out.hx 3
         simp at y0 y1 y2 y3
         have r0 := blk_cell HRf.out 0
         have r1 := blk_cell HRf.out 1
         have r2 := blk_cell HRf.out 2
         have r3 := blk_cell HRf.out 3
         have f0 := blk_free HRf.out 0
         have f1 := blk_free HRf.out 1
         have f2 := blk_free HRf.out 2
         have f3 := blk_free HRf.out 3
         clear hCf HBx HH
         generalize NF.length = M1 at *
         generalize GF.length = M2 at *
         generalize (Cir.retC d i).outs.length = M3 at *
         go_wp2_with fail
         refine bodyPost_ret (v := .agg #[.int .i64 (d.ins : Int), .slice AN M1 cN2, .slice AG M2 cG2, .slice AO M3 cO2]) (by simp [results, Try.results102, go_sem, r0, r1, r2, r3]) rfl ⟨⟨_, rfl, circOwn_four HCf.out HRf.out⟩, ?_⟩
         exact (((HBf.out.setCell hwR _).setCell hwR _).setCell hwR _).setCell hwR _
end Go.Proofs.Ytkkkjbinfdohpaa
namespace Go.Proofs.Ytkkkjbinfdohpaa
open Go.RowKit
@[reducible] def rdStepRS (Pg : Program) (ops : Array Oper) (R P : Nat) (w : World) (a : Act) (k : Nat) (R0 R1 : World → Prop) (d : Nat) : RS :=
  { P := Pg, ops := ops, E := fun g => g = R ∨ g = k, F := (· = R), rd := some (R, P), w0 := w, J := JStep R0 R1, d := d, a0 := a }
theorem rdStepRS_ok {Pg : Program} {ops : Array Oper} {R P : Nat} {w : World} {a : Act} {k : Nat} {R0 R1 : World → Prop} {d : Nat} (hR : R < w.heap.size) (hk : k < w.heap.size) (h0 : ∀ w1 w2, R0 w1 → Only (· = R) w1 w2 → R0 w2) (h1 : ∀ w1 w2, R1 w1 → Only (· = R) w1 w2 → R1 w2) : (rdStepRS Pg ops R P w a k R0 R1 d).Ok :=
 ⟨fun _ h => .inl h, fun ov w1 w2 hj ho => by
  cases ov with
  | none => exact h0 _ _ hj ho
  | some v => exact h1 _ _ hj ho,
  fun _ _ e => by cases e; exact ⟨rfl, hR⟩, fun g hg => by
   rcases hg with rfl | rfl
   ·exact hR
   ·exact hk⟩
section
variable {S : RS} {Fin : List Ty → Prop} {o : Oper} {l : List Oper} {i : Nat} {τs : List Ty}
theorem rs_doR (hd : i = S.d) {R0 R1 : World → Prop} (hJ : S.J = JStep R0 R1) (R P : Nat) (hrd : S.rd = some (R, P))
  (h : ∀ ρ w, Only S.E S.w0 w → R0 w → Known S.ops (tys τs) S.a0 ρ w i o.op.operands.toList → ∃ w', (execOp ρ o).run S.P w = .ok .skip w' ∧ R1 w' ∧ Only S.E w w' ∧ ∀ Q, Rd w R Q → Rd w' R Q)
  (rest : RSeq S Fin l (i + 1) (TAny :: τs)) : RSeq S Fin (o :: l) i τs := by
 intro _
 refine ⟨TAny, stb_any _, fun k ov ρ w hk hI hov hK => ?_, rest⟩
 obtain rfl := hov (by rw [hd]; exact ancB_self _ _ _)
 have h0 : R0 w := by have := hI.2.2; rw [hJ] at this; exact this
 obtain ⟨w', hrun, h1, hon, hrr⟩ := h ρ w hI.2.1 h0 hK
 unfold Good
 rw [hrun]
 refine ⟨trivial, ⟨?_, hI.2.1.trans hon, ?_⟩, hon⟩
 ·have hr' := hI.1
  rw [hrd] at hr' ⊢
  have hr'' : Rd w R (P + 40 * k) := hr'
  exact (hrr _ hr'').more (by omega)
 ·rw [if_pos hd, hJ]
  exact h1
end
def DrawnFindViolation (w : World) (e : Ending) (w' : World) : Prop := ∃ v c, ∃ o : Int, e = .returned (.tuple #[v, .int .i64 o]) ∧ OwnC w.heap.size v c w' ∧ Small c ∧ -1 ≤ o ∧ o ≤ 7 ∧ Below w.heap.size w w'
end Go.Proofs.Ytkkkjbinfdohpaa
namespace Go.Proofs.Ytkkkjbinfdohpaa
open Go.RowKit Go.Maps
def TSomeC : Ty := fun w v => ∃ d, CircOwn 0 w v d
theorem stb_someC : Stb (fun _ => False) TSomeC := fun _ _ _ ⟨d, h⟩ ho => ⟨d, h.below (only_below ho)⟩
theorem circOwn_next {w : World} {L0 : Int} {vn vg vo vn' : Value} {c : Cz} {n : Nat} {xs : List Int} (h : CircOwn 0 w (.agg #[.int .i64 L0, vn, vg, vo]) c) (hg : w.ownsRow 0 3 1 vn' n (ints xs)) (hl : xs.length = n) : CircOwn 0 w (.agg #[.int .i64 L0, vn', vg, vo]) ⟨L0, xs, c.gates, c.outs⟩ := by
 obtain ⟨h1, h2, h3⟩ := circOwn_row h
 exact ⟨vn', vg, vo, rfl, by show w.ownsRow 0 3 1 vn' xs.length (ints xs); rw [hl]; exact hg, h1, h3⟩
theorem circOwn_nset {w w' : World} {L0 : Int} {vn vg vo v8 : Value} {c : Cz} {g8 R P B n : Nat} {cs : List Value} (h : CircOwn 0 w (.agg #[.int .i64 L0, vn, vg, vo]) c) (hr : Rd w R P) (ho : Only (fun g => g = R ∨ g = g8) w w') (h8 : w.ownsRow B 3 1 v8 n cs) (hb : v8.ownBlock = some g8) (hn : vn.ownBlock ≠ some g8) (hg : vo.ownBlock ≠ some g8) : CircOwn 0 w' (.agg #[.int .i64 L0, vn, vg, vo]) c := by
 have h' := h
 obtain ⟨a, b, d, e, -⟩ := h
 obtain ⟨h1, h2, h3⟩ := circOwn_row h'
 injection e with e
 simp only [Array.mk.injEq, List.cons.injEq, and_true] at e
 obtain ⟨e0, -⟩ := e
 obtain ⟨A, q, p, bs, hh, -⟩ := hr
 refine ⟨vn, vg, vo, by rw [e0], own_only h2 ho (fun g hg' e => ?_), own_only h1 ho (fun g hg' e => ?_), own_only h3 ho (fun g hg' e => ?_)⟩
 ·rcases e with e | e
  ·exact own_ne_tag h2 hh (by decide) (by rw [hg', e])
  ·exact hn (by rw [← e]; exact hg')
 ·rcases e with e | e
  ·exact own_ne_tag h1 hh (by decide) (by rw [hg', e])
  ·exact own_ne_own h1 h8 (by decide) hg' (by rw [e]; exact hb)
 ·rcases e with e | e
  ·exact own_ne_tag h3 hh (by decide) (by rw [hg', e])
  ·exact hg (by rw [← e]; exact hg')
def TAtN (gN n : Nat) : Ty := fun _ v => ∃ j : Nat, v = .pointer (some ⟨gN, j, none⟩) ∧ j < n
theorem stb_atN (E : Nat → Prop) (gN n : Nat) : Stb E (TAtN gN n) := fun _ _ _ h _ => h
theorem specOpt_some (v : Value) (c : Cz) (w : World) (h : CircAt w v c) : Calls Try.prog 99 #[v] w (SomeCirc w) :=
 (specOpt_any v c w h).mono fun _ _ ⟨⟨v', d, e, h1, _⟩, hb⟩ => ⟨⟨v', d, e, h1⟩, hb⟩
theorem specRetime_some (v : Value) (c : Cz) (k : Nat) (w : World) (h : CircAt w v c) (hc : Cir.canI c (k : Int) = true) : Calls Try.prog 102 #[v, .int .i64 (k : Int)] w (SomeCirc w) := by
 unfold Cir.canI at hc
 rw [Bool.and_eq_true] at hc
 obtain ⟨d1, d2⟩ := Cir.nat_ok hc.1
 have hk : k < (Cir.nat c).gates.length := by
  have h := hc.2
  unfold Cir.canR at h
  simp only [Bool.and_eq_true, decide_eq_true_iff] at h
  omega
 exact (specRetime_ok v (Cir.nat c) k w (by rw [← d1]; exact h) d2 (by rw [← d1]; exact hc.1) hc.2 hk).mono fun _ _ ⟨⟨v', e, h1⟩, hb⟩ => ⟨⟨v', _, e, h1⟩, hb⟩
theorem l20Twins_any (R P : Nat) (w : World) (h : Rd w R P) (hP : P ≤ 20000) :
  Calls Try.prog 64 #[.pointer (some ⟨R, 0, none⟩)] w (DrewTwo R w) := by
 have zR := h.lt
 obtain ⟨n0, hn0⟩ : ∃ n0, w.heap.size = n0 := ⟨_, rfl⟩
 have hX0 := heap_alloc_new w (.cells #[.int .i64 0, .slice none 0 0, .slice none 0 0, .slice none 0 0] 26)
 have hb0 := bel_new w (.cells #[.int .i64 0, .slice none 0 0, .slice none 0 0, .slice none 0 0] 26)
 have hb1 := bel_new (w.alloc (.cells #[.int .i64 0, .slice none 0 0, .slice none 0 0, .slice none 0 0] 26)) (.cells #[.int .i64 0, .slice none 0 0, .slice none 0 0, .slice none 0 0] 26)
 have hX1 := heap_alloc_new (w.alloc (.cells #[.int .i64 0, .slice none 0 0, .slice none 0 0, .slice none 0 0] 26)) (.cells #[.int .i64 0, .slice none 0 0, .slice none 0 0, .slice none 0 0] 26)
 have hX0 := (hb1.block w.heap.size (by rw [World.size_alloc]; omega)).trans hX0
 have hs : ((w.alloc (.cells #[.int .i64 0, .slice none 0 0, .slice none 0 0, .slice none 0 0] 26)).alloc (.cells #[.int .i64 0, .slice none 0 0, .slice none 0 0, .slice none 0 0] 26)).heap.size = w.heap.size + 1 + 1 := by simp
 have Hr0 := Lib.hid ((h.alloc (.cells #[.int .i64 0, .slice none 0 0, .slice none 0 0, .slice none 0 0] 26)).alloc (.cells #[.int .i64 0, .slice none 0 0, .slice none 0 0, .slice none 0 0] 26))
 have HO0 : Hid (Only (fun g => g = R) w ((w.alloc (.cells #[.int .i64 0, .slice none 0 0, .slice none 0 0, .slice none 0 0] 26)).alloc (.cells #[.int .i64 0, .slice none 0 0, .slice none 0 0, .slice none 0 0] 26))) := Lib.hid (Only.of_below _ (hb0.trans (hb1.mono hb0.size)))
 rw [World.size_alloc] at hX1
 have HX0 := Lib.hid hX0
 have HX1 := Lib.hid hX1
 clear hX0 hX1 hb0 hb1 h
 go_enter Try.func64, Try.ntmps64
 go_wp2_with fail
 generalize (w.alloc (.cells #[.int .i64 0, .slice none 0 0, .slice none 0 0, .slice none 0 0] 26)).alloc (.cells #[.int .i64 0, .slice none 0 0, .slice none 0 0, .slice none 0 0] 26) = W2 at *
 rw [hn0] at HX0 HX1 hs zR
 try rw [hn0]
 obtain ⟨n1, hn1⟩ : ∃ n1, n0 + 1 = n1 := ⟨_, rfl⟩
 rw [hn1] at HX1 hs
 rw [hn1]
 have hn01 : n0 < n1 := by omega
 have Hw := Lib.hid hn0
 clear hn1 hn0
 refine (l20Circuit_any R P 16 _ Hr0.out (by omega) (by omega) (by omega)).mono ?_
 rintro e w3 ⟨v3, c, rfl, hO, hS, hr3, hg3⟩
 have HX03 := Lib.hid (res_grown HX0.out hg3 (fun e => by have := Option.some.inj e; omega))
 have HX13 := Lib.hid (res_grown HX1.out hg3 (fun e => by have := Option.some.inj e; omega))
 have HO3 := Lib.hid (HO0.out.trans (Only.grown hg3 fun k hk => (Option.some.inj hk).symm))
 have Hr3 := Lib.hid hr3
 have hC := hO.circ
 obtain ⟨An, cn, Ag, cg, Ao, co, rfl⟩ := hC.shape
 have HC := Lib.hid hC
 have hSg : c.gates.length ≤ 15 := hS.g
 have hSn : c.next.length ≤ 4 := hS.n
 have hz3 := hg3.size
 obtain ⟨L1, hL1⟩ : ∃ L1, c.next.length = L1 := ⟨_, rfl⟩
 obtain ⟨L2, hL2⟩ : ∃ L2, c.gates.length = L2 := ⟨_, rfl⟩
 obtain ⟨L3, hL3⟩ : ∃ L3, c.outs.length = L3 := ⟨_, rfl⟩
 obtain ⟨L0, hL0⟩ : ∃ L0, c.ins = L0 := ⟨_, rfl⟩
 rw [hL1, hL2, hL3, hL0] at HC
 rw [hL1, hL2, hL3, hL0]
 rw [hL2] at hSg
 rw [hL1] at hSn
 have HL1 := Lib.hid hL1
 have HL2 := Lib.hid hL2
 clear hO hC hr3 hg3 HX0 HX1 HO0 Hr0 hS hL1 hL2 hL3 hL0
 have hA := heap_alloc_new w3 (.cells #[.int .i64 L0, .slice An L1 cn, .slice Ag L2 cg, .slice Ao L3 co] 26)
 have hb := bel_new w3 (.cells #[.int .i64 L0, .slice An L1 cn, .slice Ag L2 cg, .slice Ao L3 co] 26)
 have HX05 := Lib.hid ((hb.block n0 (blk_ltB HX03.out)).trans HX03.out)
 have HX15 := Lib.hid ((hb.block n1 (blk_ltB HX13.out)).trans HX13.out)
 have HO5 := Lib.hid (HO3.out.trans (Only.of_below (fun g => g = R) hb))
 have Hr5 := Lib.hid (Hr3.out.alloc (.cells #[.int .i64 L0, .slice An L1 cn, .slice Ag L2 cg, .slice Ao L3 co] 26))
 have HC5 := Lib.hid (HC.out.below hb)
 have HA := Lib.hid hA
 have hs5 : (w3.alloc (.cells #[.int .i64 L0, .slice An L1 cn, .slice Ag L2 cg, .slice Ao L3 co] 26)).heap.size = w3.heap.size + 1 := by simp
 clear hA hb HX03 HX13 HO3 Hr3 HC
 go_wp2_with fail
 generalize w3.alloc (.cells #[.int .i64 L0, .slice An L1 cn, .slice Ag L2 cg, .slice Ao L3 co] 26) = w5 at *
 obtain ⟨g4, hg4⟩ : ∃ g, w3.heap.size = g := ⟨_, rfl⟩
 rw [hg4] at HA
 rw [hg4]
 have hn4 : n1 < g4 := by omega
 clear hg4 hs5 hs hz3
 refine (pick_any 5 R _ _ Hr5.out (by omega) (by omega) (by omega)).mono ?_
 rintro e w6 ⟨x, hx0, hx1, rfl, hr6, hg6⟩
 have hRn : R < n0 := zR
 have HX06 := Lib.hid (res_grown HX05.out hg6 (fun e => by have := Option.some.inj e; omega))
 have HX16 := Lib.hid (res_grown HX15.out hg6 (fun e => by have := Option.some.inj e; omega))
 have HA6 := Lib.hid (res_grown HA.out hg6 (fun e => by have := Option.some.inj e; omega))
 have HO6 := Lib.hid (HO5.out.trans (Only.grown hg6 fun k hk => (Option.some.inj hk).symm))
 have HC6 := Lib.hid (HC5.out.rd Hr5.out hg6)
 have Hr6 := Lib.hid hr6
 clear hr6 hg6 HX05 HX15 HA HO5 HC5 Hr5
 have a0 := blk_cell HA6.out 0
 have a1 := blk_cell HA6.out 1
 have a2 := blk_cell HA6.out 2
 have a3 := blk_cell HA6.out 3
 simp at a0 a1 a2 a3
 obtain rfl | rfl | rfl | rfl | rfl : x = 0 ∨ x = 1 ∨ x = 2 ∨ x = 3 ∨ x = 4 := by omega
 ·go_wp2_with fail
  refine wp_region_rst (quietRS Try.prog _ w6 _) quietRS_ok (by kernel_rfl) (by kernel_rfl) (by kernel_rfl) 3 [_, _] rfl (by kernel_rfl) (by kernel_rfl) (show (0 : Nat) < 3 by decide) trivial trivial ?_
  apply rs_eq quietRS_ok quiet_any
  ·intro ρ w' ho hK
   have ho : Only _ w6 w' := ho
   obtain ⟨h0, -⟩ := hK
   have h0' : ρ (.tmp 4) = _ := h0
   have hAq := ((only_below ho).block g4 (blk_ltB HA6.out)).trans HA6.out
   have a0 := blk_cell hAq 0
   have a1 := blk_cell hAq 1
   have a2 := blk_cell hAq 2
   have a3 := blk_cell hAq 3
   simp at a0 a1 a2 a3
   go_simp
   try exact rfl
  apply rs_eq quietRS_ok quiet_any
  ·intro ρ w' ho hK
   have ho : Only _ w6 w' := ho
   obtain ⟨h0, -⟩ := hK
   have h0' : ρ (.tmp 4) = _ := h0
   have hAq := ((only_below ho).block g4 (blk_ltB HA6.out)).trans HA6.out
   have a0 := blk_cell hAq 0
   have a1 := blk_cell hAq 1
   have a2 := blk_cell hAq 2
   have a3 := blk_cell hAq 3
   simp at a0 a1 a2 a3
   go_simp
   try exact rfl
  refine rs_call quietRS_ok quiet_any (TSomeC) (stb_someC) 99 _ _ rfl (fun ρ w' ho hK => by
   have ho : Only _ w6 w' := ho
   obtain ⟨h0, h1, -⟩ := hK
   have h0' : ρ (.func 99) = .func (.func 99) #[] #[] := h0
   have h1' : ρ (.tmp 14) = _ := h1
   refine ⟨#[ρ (.tmp 14)], ?_, ?_⟩
   ·go_simp
   ·rw [h1']
    refine (specOpt_some _ c w' (CircOwn.at (HC6.out.below (only_below ho)))).mono ?_
    rintro e w2 ⟨⟨v, d, rfl, hd⟩, hb⟩
    exact ⟨v, rfl, ⟨d, hd⟩, hb⟩) ?_
  intro f w9 k9 hk9 hI9 ht9 hcp9
  have E0 : f 0 = _ := ht9 0 (nlb rfl)
  have E1 : f 1 = _ := ht9 1 (nlb rfl)
  have E2 : (TSomeC) w9 (f 2) := ht9 2 (nlb rfl)
  have Ho9 : Only _ w6 w9 := hI9.2.1
  simp only [putAll, E0, E1, Nat.zero_add, Nat.reduceAdd, Act.put, List.setIfInBounds_toArray, List.set_cons_succ, List.set_cons_zero, List.take, List.getElem_toArray, List.getElem_cons_succ, List.getElem_cons_zero]
  clear E0 E1
  clear hI9 ht9 hcp9 hk9
  generalize f 2 = r2 at *
  have hb9 := only_below Ho9
  obtain ⟨c7, hCb⟩ : ∃ d, CircOwn 0 w9 r2 d := E2
  have HX08 := Lib.hid ((hb9.block n0 (blk_ltB HX06.out)).trans HX06.out)
  have HX18 := Lib.hid ((hb9.block n1 (blk_ltB HX16.out)).trans HX16.out)
  have HCa8 := Lib.hid (HC6.out.below hb9)
  have HO8 := Lib.hid (HO6.out.trans (Only.of_below (fun g => g = R) hb9))
  clear Ho9 hb9
  obtain ⟨B1, b1, B2, b2, B4, b4, rfl⟩ := hCb.shape
  obtain ⟨M1, hM1⟩ : ∃ M1, c7.next.length = M1 := ⟨_, rfl⟩
  obtain ⟨M2, hM2⟩ : ∃ M2, c7.gates.length = M2 := ⟨_, rfl⟩
  obtain ⟨M3, hM3⟩ : ∃ M3, c7.outs.length = M3 := ⟨_, rfl⟩
  obtain ⟨M0, hM0⟩ : ∃ M0, c7.ins = M0 := ⟨_, rfl⟩
  rw [hM1, hM2, hM3, hM0] at hCb
  try rw [hM1, hM2, hM3, hM0]
  clear hM1 hM2 hM3 hM0
  have HCb8 := Lib.hid hCb
  clear hCb
  have x00 := blk_cell HX08.out 0
  have x01 := blk_cell HX08.out 1
  have x02 := blk_cell HX08.out 2
  have x03 := blk_cell HX08.out 3
  have x10 := blk_cell HX18.out 0
  have x11 := blk_cell HX18.out 1
  have x12 := blk_cell HX18.out 2
  have x13 := blk_cell HX18.out 3
  have f00 := blk_free HX08.out 0
  have f01 := blk_free HX08.out 1
  have f02 := blk_free HX08.out 2
  have f03 := blk_free HX08.out 3
  have f10 := blk_free HX18.out 0
  have f11 := blk_free HX18.out 1
  have f12 := blk_free HX18.out 2
  have f13 := blk_free HX18.out 3
  simp at x00 x01 x02 x03 x10 x11 x12 x13
  have hne : n0 ≠ n1 := by omega
  have hne' : n1 ≠ n0 := by omega
  have hwn0 : w.heap.size ≤ n0 := by have := Hw.out; omega
  have hwn1 : w.heap.size ≤ n1 := by omega
  go_wp2_with fail
  refine bodyPost_ret (v := .tuple #[.agg #[.int .i64 L0, .slice An L1 cn, .slice Ag L2 cg, .slice Ao L3 co], .agg #[.int .i64 M0, .slice B1 M1 b1, .slice B2 M2 b2, .slice B4 M3 b4]]) (by simp [results, Try.results64, go_sem, x00, x01, x02, x03, x10, x11, x12, x13, hne, hne']) rfl ⟨_, _, c, c7, rfl, ?_, ?_, ?_⟩
  ·with_reducible exact circOwn_two HCa8.out HX08.out HX18.out hne
  ·with_reducible exact circOwn_two HCb8.out HX08.out HX18.out hne
  ·with_reducible exact only_two HO8.out hwn0 hwn1
 ·go_wp2_with fail
  refine wp_region_rst (quietRS Try.prog _ w6 _) quietRS_ok (by kernel_rfl) (by kernel_rfl) (by kernel_rfl) 3 [_, _] rfl (by kernel_rfl) (by kernel_rfl) (show (0 : Nat) < 3 by decide) trivial trivial ?_
  apply rs_eq quietRS_ok quiet_any
  ·intro ρ w' ho hK
   have ho : Only _ w6 w' := ho
   obtain ⟨h0, -⟩ := hK
   have h0' : ρ (.tmp 4) = _ := h0
   have hAq := ((only_below ho).block g4 (blk_ltB HA6.out)).trans HA6.out
   have a0 := blk_cell hAq 0
   have a1 := blk_cell hAq 1
   have a2 := blk_cell hAq 2
   have a3 := blk_cell hAq 3
   simp at a0 a1 a2 a3
   go_simp
   try exact rfl
  apply rs_eq quietRS_ok quiet_any
  ·intro ρ w' ho hK
   have ho : Only _ w6 w' := ho
   obtain ⟨h0, -⟩ := hK
   have h0' : ρ (.tmp 4) = _ := h0
   have hAq := ((only_below ho).block g4 (blk_ltB HA6.out)).trans HA6.out
   have a0 := blk_cell hAq 0
   have a1 := blk_cell hAq 1
   have a2 := blk_cell hAq 2
   have a3 := blk_cell hAq 3
   simp at a0 a1 a2 a3
   go_simp
   try exact rfl
  refine rs_call quietRS_ok quiet_any (TSomeC) (stb_someC) 100 _ _ rfl (fun ρ w' ho hK => by
   have ho : Only _ w6 w' := ho
   obtain ⟨h0, h1, -⟩ := hK
   have h0' : ρ (.func 100) = .func (.func 100) #[] #[] := h0
   have h1' : ρ (.tmp 19) = _ := h1
   refine ⟨#[ρ (.tmp 19)], ?_, ?_⟩
   ·go_simp
   ·rw [h1']
    refine (specRemove_any _ c w' (CircOwn.at (HC6.out.below (only_below ho)))).mono ?_
    rintro e w2 ⟨⟨v, d, rfl, hd⟩, hb⟩
    exact ⟨v, rfl, ⟨d, hd⟩, hb⟩) ?_
  intro f w9 k9 hk9 hI9 ht9 hcp9
  have E0 : f 0 = _ := ht9 0 (nlb rfl)
  have E1 : f 1 = _ := ht9 1 (nlb rfl)
  have E2 : (TSomeC) w9 (f 2) := ht9 2 (nlb rfl)
  have Ho9 : Only _ w6 w9 := hI9.2.1
  simp only [putAll, E0, E1, Nat.zero_add, Nat.reduceAdd, Act.put, List.setIfInBounds_toArray, List.set_cons_succ, List.set_cons_zero, List.take, List.getElem_toArray, List.getElem_cons_succ, List.getElem_cons_zero]
  clear E0 E1
  clear hI9 ht9 hcp9 hk9
  generalize f 2 = r2 at *
  have hb9 := only_below Ho9
  obtain ⟨c7, hCb⟩ : ∃ d, CircOwn 0 w9 r2 d := E2
  have HX08 := Lib.hid ((hb9.block n0 (blk_ltB HX06.out)).trans HX06.out)
  have HX18 := Lib.hid ((hb9.block n1 (blk_ltB HX16.out)).trans HX16.out)
  have HCa8 := Lib.hid (HC6.out.below hb9)
  have HO8 := Lib.hid (HO6.out.trans (Only.of_below (fun g => g = R) hb9))
  clear Ho9 hb9
  obtain ⟨B1, b1, B2, b2, B4, b4, rfl⟩ := hCb.shape
  obtain ⟨M1, hM1⟩ : ∃ M1, c7.next.length = M1 := ⟨_, rfl⟩
  obtain ⟨M2, hM2⟩ : ∃ M2, c7.gates.length = M2 := ⟨_, rfl⟩
  obtain ⟨M3, hM3⟩ : ∃ M3, c7.outs.length = M3 := ⟨_, rfl⟩
  obtain ⟨M0, hM0⟩ : ∃ M0, c7.ins = M0 := ⟨_, rfl⟩
  rw [hM1, hM2, hM3, hM0] at hCb
  try rw [hM1, hM2, hM3, hM0]
  clear hM1 hM2 hM3 hM0
  have HCb8 := Lib.hid hCb
  clear hCb
  have x00 := blk_cell HX08.out 0
  have x01 := blk_cell HX08.out 1
  have x02 := blk_cell HX08.out 2
  have x03 := blk_cell HX08.out 3
  have x10 := blk_cell HX18.out 0
  have x11 := blk_cell HX18.out 1
  have x12 := blk_cell HX18.out 2
  have x13 := blk_cell HX18.out 3
  have f00 := blk_free HX08.out 0
  have f01 := blk_free HX08.out 1
  have f02 := blk_free HX08.out 2
  have f03 := blk_free HX08.out 3
  have f10 := blk_free HX18.out 0
  have f11 := blk_free HX18.out 1
  have f12 := blk_free HX18.out 2
  have f13 := blk_free HX18.out 3
  simp at x00 x01 x02 x03 x10 x11 x12 x13
  have hne : n0 ≠ n1 := by omega
  have hne' : n1 ≠ n0 := by omega
  have hwn0 : w.heap.size ≤ n0 := by have := Hw.out; omega
  have hwn1 : w.heap.size ≤ n1 := by omega
  go_wp2_with fail
  refine bodyPost_ret (v := .tuple #[.agg #[.int .i64 L0, .slice An L1 cn, .slice Ag L2 cg, .slice Ao L3 co], .agg #[.int .i64 M0, .slice B1 M1 b1, .slice B2 M2 b2, .slice B4 M3 b4]]) (by simp [results, Try.results64, go_sem, x00, x01, x02, x03, x10, x11, x12, x13, hne, hne']) rfl ⟨_, _, c, c7, rfl, ?_, ?_, ?_⟩
  ·with_reducible exact circOwn_two HCa8.out HX08.out HX18.out hne
  ·with_reducible exact circOwn_two HCb8.out HX08.out HX18.out hne
  ·with_reducible exact only_two HO8.out hwn0 hwn1
 ·go_wp2_with fail
  have HL2b := HL2.out
  go_loopw [5] (fun j wr => ∃ k : Nat, k ≤ L2 ∧ j = .int .i64 k ∧ Hid (Below w6.heap.size w6 wr)) (fun j _ => L2 - (intOf j).toNat)
  case atStart => exact ⟨0, Nat.zero_le _, rfl, Lib.hid (Below.refl _ _)⟩
  case round =>
   obtain ⟨k, hk, rfl, Hb⟩ := hrel
   have HX07 := Lib.hid ((Hb.out.block n0 (blk_ltB HX06.out)).trans HX06.out)
   have HX17 := Lib.hid ((Hb.out.block n1 (blk_ltB HX16.out)).trans HX16.out)
   have HA7 := Lib.hid ((Hb.out.block g4 (blk_ltB HA6.out)).trans HA6.out)
   have HC7 := Lib.hid (HC6.out.below Hb.out)
   have HO7 := Lib.hid (HO6.out.trans (Only.of_below (fun g => g = R) Hb.out))
   have q0 := blk_cell HA7.out 0
   have q1 := blk_cell HA7.out 1
   have q2 := blk_cell HA7.out 2
   have q3 := blk_cell HA7.out 3
   simp at q0 q1 q2 q3
   clear a0 a1 a2 a3
   by_cases hlt : k < L2
   ·go_wp2_with fail
    refine (specCan_any _ c (k : Int) wr HC7.out.at ⟨by omega, by omega⟩).mono ?_
    rintro e w8 ⟨rfl, hb8⟩
    cases hcan : Cir.canI c (k : Int)
    ·have Hb8 := Lib.hid (Hb.out.trans (hb8.mono Hb.out.size))
     clear hb8 hcan
     go_wp2_with fail
     go_roundw
     case rel => exact ⟨k + 1, by omega, by go_num, Hb8⟩
     case measure => simp [intOf] <;> omega
    ·have HX0b := Lib.hid ((hb8.block n0 (blk_ltB HX07.out)).trans HX07.out)
     have HX1b := Lib.hid ((hb8.block n1 (blk_ltB HX17.out)).trans HX17.out)
     have HAb := Lib.hid ((hb8.block g4 (blk_ltB HA7.out)).trans HA7.out)
     have HCb := Lib.hid (HC7.out.below hb8)
     have HOb := Lib.hid (HO7.out.trans (Only.of_below (fun g => g = R) hb8))
     have Hcan := Lib.hid hcan
     clear hb8 hcan q0 q1 q2 q3 HX07 HX17 HA7 HC7 HO7
     go_wp2_with fail
     refine wp_region_rst (quietRS Try.prog _ w8 _) quietRS_ok (by kernel_rfl) (by kernel_rfl) (by kernel_rfl) 4 [_, _] rfl (by kernel_rfl) (by kernel_rfl) (show (0 : Nat) < 4 by decide) trivial trivial ?_
     apply rs_eq quietRS_ok quiet_any
     ·intro ρ w' ho hK
      have ho : Only _ w8 w' := ho
      obtain ⟨h0, -⟩ := hK
      have h0' : ρ (.tmp 4) = _ := h0
      have hAq := ((only_below ho).block g4 (blk_ltB HAb.out)).trans HAb.out
      have a0 := blk_cell hAq 0
      have a1 := blk_cell hAq 1
      have a2 := blk_cell hAq 2
      have a3 := blk_cell hAq 3
      simp at a0 a1 a2 a3
      go_simp
      try exact rfl
     apply rs_eq quietRS_ok quiet_any
     ·intro ρ w' ho hK
      have ho : Only _ w8 w' := ho
      obtain ⟨h0, -⟩ := hK
      have h0' : ρ (.tmp 4) = _ := h0
      have hAq := ((only_below ho).block g4 (blk_ltB HAb.out)).trans HAb.out
      have a0 := blk_cell hAq 0
      have a1 := blk_cell hAq 1
      have a2 := blk_cell hAq 2
      have a3 := blk_cell hAq 3
      simp at a0 a1 a2 a3
      go_simp
      try exact rfl
     refine rs_old quietRS_ok quiet_any _ (.inl rfl) _ rfl rfl ?_
     refine rs_call quietRS_ok quiet_any (TSomeC) (stb_someC) 102 _ _ rfl (fun ρ w' ho hK => by
      have ho : Only _ w8 w' := ho
      obtain ⟨h0, h1, h2, -⟩ := hK
      have h0' : ρ (.func 102) = .func (.func 102) #[] #[] := h0
      have h1' : ρ (.tmp 34) = _ := h1
      have h2' : ρ (.tmp 35) = _ := h2
      refine ⟨#[ρ (.tmp 34), ρ (.tmp 35)], ?_, ?_⟩
      ·go_simp
      ·rw [h1', h2']
       refine (specRetime_some _ c k w' (CircOwn.at (HCb.out.below (only_below ho))) Hcan.out).mono ?_
       rintro e w2 ⟨⟨v, d, rfl, hd⟩, hb⟩
       exact ⟨v, rfl, ⟨d, hd⟩, hb⟩) ?_
     intro f w9 k9 hk9 hI9 ht9 hcp9
     have E0 : f 0 = _ := ht9 0 (nlb rfl)
     have E1 : f 1 = _ := ht9 1 (nlb rfl)
     have E2 : f 2 = _ := ht9 2 (nlb rfl)
     conv at E2 => rhs; whnf
     have E3 : (TSomeC) w9 (f 3) := ht9 3 (nlb rfl)
     have Ho9 : Only _ w8 w9 := hI9.2.1
     simp only [putAll, E0, E1, E2, Nat.zero_add, Nat.reduceAdd, Act.put, List.setIfInBounds_toArray, List.set_cons_succ, List.set_cons_zero, List.take, List.getElem_toArray, List.getElem_cons_succ, List.getElem_cons_zero]
     clear E0 E1 E2
     clear hI9 ht9 hcp9 hk9
     generalize f 3 = r3 at *
     have hb9 := only_below Ho9
     obtain ⟨c7, hCb⟩ : ∃ d, CircOwn 0 w9 r3 d := E3
     have HX08 := Lib.hid ((hb9.block n0 (blk_ltB HX0b.out)).trans HX0b.out)
     have HX18 := Lib.hid ((hb9.block n1 (blk_ltB HX1b.out)).trans HX1b.out)
     have HCa8 := Lib.hid (HCb.out.below hb9)
     have HO8 := Lib.hid (HOb.out.trans (Only.of_below (fun g => g = R) hb9))
     clear Ho9 hb9
     obtain ⟨B1, b1, B2, b2, B4, b4, rfl⟩ := hCb.shape
     obtain ⟨M1, hM1⟩ : ∃ M1, c7.next.length = M1 := ⟨_, rfl⟩
     obtain ⟨M2, hM2⟩ : ∃ M2, c7.gates.length = M2 := ⟨_, rfl⟩
     obtain ⟨M3, hM3⟩ : ∃ M3, c7.outs.length = M3 := ⟨_, rfl⟩
     obtain ⟨M0, hM0⟩ : ∃ M0, c7.ins = M0 := ⟨_, rfl⟩
     rw [hM1, hM2, hM3, hM0] at hCb
     try rw [hM1, hM2, hM3, hM0]
     clear hM1 hM2 hM3 hM0
     have HCb8 := Lib.hid hCb
     clear hCb
     have x00 := blk_cell HX08.out 0
     have x01 := blk_cell HX08.out 1
     have x02 := blk_cell HX08.out 2
     have x03 := blk_cell HX08.out 3
     have x10 := blk_cell HX18.out 0
     have x11 := blk_cell HX18.out 1
     have x12 := blk_cell HX18.out 2
     have x13 := blk_cell HX18.out 3
     have f00 := blk_free HX08.out 0
     have f01 := blk_free HX08.out 1
     have f02 := blk_free HX08.out 2
     have f03 := blk_free HX08.out 3
     have f10 := blk_free HX18.out 0
     have f11 := blk_free HX18.out 1
     have f12 := blk_free HX18.out 2
     have f13 := blk_free HX18.out 3
     simp at x00 x01 x02 x03 x10 x11 x12 x13
     have hne : n0 ≠ n1 := by omega
     have hne' : n1 ≠ n0 := by omega
     have hwn0 : w.heap.size ≤ n0 := by have := Hw.out; omega
     have hwn1 : w.heap.size ≤ n1 := by omega
     go_wp2_with fail
     refine bodyPost_ret (v := .tuple #[.agg #[.int .i64 L0, .slice An L1 cn, .slice Ag L2 cg, .slice Ao L3 co], .agg #[.int .i64 M0, .slice B1 M1 b1, .slice B2 M2 b2, .slice B4 M3 b4]]) (by simp [results, Try.results64, go_sem, x00, x01, x02, x03, x10, x11, x12, x13, hne, hne']) rfl ⟨_, _, c, c7, rfl, ?_, ?_, ?_⟩
     ·with_reducible exact circOwn_two HCa8.out HX08.out HX18.out hne
     ·with_reducible exact circOwn_two HCb8.out HX08.out HX18.out hne
     ·with_reducible exact only_two HO8.out hwn0 hwn1
   ·obtain rfl : k = L2 := by omega
    have Hr7 : Hid (Rd wr R (P + 10000 + 1)) := Lib.hid (Hr6.out.keep fun q hq => Hb.out.block q (by have := Hr6.out.lt; omega))
    go_wp2_with fail
    refine (l20Pair_any R _ wr Hr7.out (by omega)).mono ?_
    rintro e w7 ⟨va, vb, c6, c7, rfl, hCa, hCb, ho7⟩
    obtain ⟨A1, e1, A2, e2, A4, e4, rfl⟩ := hCa.shape
    obtain ⟨K1, hK1⟩ : ∃ M1, c6.next.length = M1 := ⟨_, rfl⟩
    obtain ⟨K2, hK2⟩ : ∃ M2, c6.gates.length = M2 := ⟨_, rfl⟩
    obtain ⟨K3, hK3⟩ : ∃ M3, c6.outs.length = M3 := ⟨_, rfl⟩
    obtain ⟨K0, hK0⟩ : ∃ M0, c6.ins = M0 := ⟨_, rfl⟩
    rw [hK1, hK2, hK3, hK0] at hCa
    rw [hK1, hK2, hK3, hK0]
    clear hK1 hK2 hK3 hK0
    have HCa8 := Lib.hid hCa
    clear hCa
    obtain ⟨B1, b1, B2, b2, B4, b4, rfl⟩ := hCb.shape
    obtain ⟨M1, hM1⟩ : ∃ M1, c7.next.length = M1 := ⟨_, rfl⟩
    obtain ⟨M2, hM2⟩ : ∃ M2, c7.gates.length = M2 := ⟨_, rfl⟩
    obtain ⟨M3, hM3⟩ : ∃ M3, c7.outs.length = M3 := ⟨_, rfl⟩
    obtain ⟨M0, hM0⟩ : ∃ M0, c7.ins = M0 := ⟨_, rfl⟩
    rw [hM1, hM2, hM3, hM0] at hCb
    try rw [hM1, hM2, hM3, hM0]
    clear hM1 hM2 hM3 hM0
    have HCb8 := Lib.hid hCb
    clear hCb
    have HX08 := Lib.hid ((ho7.block n0 (blk_ltB HX07.out) (by omega)).trans HX07.out)
    have HX18 := Lib.hid ((ho7.block n1 (blk_ltB HX17.out) (by omega)).trans HX17.out)
    have HO8 := Lib.hid (HO7.out.trans ho7)
    clear ho7
    have x00 := blk_cell HX08.out 0
    have x01 := blk_cell HX08.out 1
    have x02 := blk_cell HX08.out 2
    have x03 := blk_cell HX08.out 3
    have x10 := blk_cell HX18.out 0
    have x11 := blk_cell HX18.out 1
    have x12 := blk_cell HX18.out 2
    have x13 := blk_cell HX18.out 3
    have f00 := blk_free HX08.out 0
    have f01 := blk_free HX08.out 1
    have f02 := blk_free HX08.out 2
    have f03 := blk_free HX08.out 3
    have f10 := blk_free HX18.out 0
    have f11 := blk_free HX18.out 1
    have f12 := blk_free HX18.out 2
    have f13 := blk_free HX18.out 3
    simp at x00 x01 x02 x03 x10 x11 x12 x13
    have hne : n0 ≠ n1 := by omega
    have hne' : n1 ≠ n0 := by omega
    have hwn0 : w.heap.size ≤ n0 := by have := Hw.out; omega
    have hwn1 : w.heap.size ≤ n1 := by omega
    go_wp2_with fail
    refine bodyPost_ret (v := .tuple #[.agg #[.int .i64 K0, .slice A1 K1 e1, .slice A2 K2 e2, .slice A4 K3 e4], .agg #[.int .i64 M0, .slice B1 M1 b1, .slice B2 M2 b2, .slice B4 M3 b4]]) (by simp [results, Try.results64, go_sem, x00, x01, x02, x03, x10, x11, x12, x13, hne, hne']) rfl ⟨_, _, c6, c7, rfl, ?_, ?_, ?_⟩
    ·with_reducible exact circOwn_two HCa8.out HX08.out HX18.out hne
    ·with_reducible exact circOwn_two HCb8.out HX08.out HX18.out hne
    ·with_reducible exact only_two HO8.out hwn0 hwn1
 ·have hA1 := heap_alloc_new w6 (.cells #[.int .i64 L0, .slice An L1 cn, .slice Ag L2 cg, .slice Ao L3 co] 26)
  have hbA := bel_new w6 (.cells #[.int .i64 L0, .slice An L1 cn, .slice Ag L2 cg, .slice Ao L3 co] 26)
  have hbE := bel_new (w6.alloc (.cells #[.int .i64 L0, .slice An L1 cn, .slice Ag L2 cg, .slice Ao L3 co] 26)) (.cells #[] 3)
  have HEo := Lib.hid (World.ownsRow_lit (base := w6.heap.size) (e := 3) (size := 1) (w6.alloc (.cells #[.int .i64 L0, .slice An L1 cn, .slice Ag L2 cg, .slice Ao L3 co] 26)) #[] 0 (by simp) (by unfold maxLen; omega) rfl)
  have hA1 := (hbE.block w6.heap.size (by rw [World.size_alloc]; omega)).trans hA1
  have hbb := hbA.trans (hbE.mono hbA.size)
  have HX07 := Lib.hid ((hbb.block n0 (blk_ltB HX06.out)).trans HX06.out)
  have HX17 := Lib.hid ((hbb.block n1 (blk_ltB HX16.out)).trans HX16.out)
  have HA7 := Lib.hid ((hbb.block g4 (blk_ltB HA6.out)).trans HA6.out)
  have HB7 := Lib.hid hA1
  have HO7 := Lib.hid (HO6.out.trans (Only.of_below (fun g => g = R) hbb))
  have HC7 := Lib.hid (HC6.out.below hbb)
  have Hr7 := Lib.hid ((Hr6.out.alloc (.cells #[.int .i64 L0, .slice An L1 cn, .slice Ag L2 cg, .slice Ao L3 co] 26)).alloc (.cells #[] 3))
  have hRN := (circOwn_row HC7.out).2.1
  have HRN : Hid (Row ((w6.alloc (.cells #[.int .i64 L0, .slice An L1 cn, .slice Ag L2 cg, .slice Ao L3 co] 26)).alloc (.cells #[] 3)) 1 (.slice An L1 cn) L1 (ints c.next)) := Lib.hid (by have := Row.of_own hRN; rwa [HL1.out] at this)
  have HAltN : Hid (∀ g, (Value.slice An L1 cn).ownBlock = some g → g < w6.heap.size) := Lib.hid fun g hg => ((circOwn_row HC6.out).2.1.lt g hg).2
  have HAltO : Hid (∀ g, (Value.slice Ao L3 co).ownBlock = some g → g < w6.heap.size) := Lib.hid fun g hg => ((circOwn_row HC6.out).2.2.lt g hg).2
  have hzz7 : ((w6.alloc (.cells #[.int .i64 L0, .slice An L1 cn, .slice Ag L2 cg, .slice Ao L3 co] 26)).alloc (.cells #[] 3)).heap.size = w6.heap.size + 2 := by simp
  have hg4z := blk_ltB HA6.out
  rw [World.size_alloc] at HEo
  have e0 := blk_cell HA7.out 0
  have e1 := blk_cell HA7.out 1
  have e2 := blk_cell HA7.out 2
  have e3 := blk_cell HA7.out 3
  simp at e0 e1 e2 e3
  clear hA1 hbA hbE hRN
  have Hbb := Lib.hid hbb
  clear hbb HX06 HX16 HA6 HO6 Hr6
  go_wp2_with (at_builtin; refine Stop.out ?_)
  refine ⟨?_⟩
  refine append_ints rfl (.tmp 40) (.tmp 42) rfl w6.heap.size _ 0 [] rfl HEo.out (.slice An L1 cn) L1 (ints c.next) rfl HRN.out (ints_one _) (by omega) (by omega) ?_
  intro v8 w8 hown8 hg8 hat8
  rw [Nat.zero_add, List.nil_append] at hown8
  obtain ⟨A8, c8, hv8⟩ := slice_of_own hown8
  subst hv8
  have Hown8 := Lib.hid hown8
  have ho8 := Only.grown (E := fun g => g = w6.heap.size + 1) hg8 (fun k hk => (Option.some.inj hk).symm)
  have HX08 := Lib.hid ((ho8.block n0 (blk_ltB HX07.out) (by omega)).trans HX07.out)
  have HX18 := Lib.hid ((ho8.block n1 (blk_ltB HX17.out) (by omega)).trans HX17.out)
  have HA8 := Lib.hid ((ho8.block g4 (blk_ltB HA7.out) (by omega)).trans HA7.out)
  have HB8 := Lib.hid ((ho8.block w6.heap.size (blk_ltB HB7.out) (by omega)).trans HB7.out)
  have HC8 := HC6.out.only ((Only.of_below (fun g => g = w6.heap.size + 1) Hbb.out).trans ho8) (fun g hg e => by omega)
  have HO8 := HO7.out.aft ho8 (fun g hg => .inl (by have := Hw.out; omega))
  have hr8 : Rd w8 R (P + 10000 + 1) := Hr7.out.grown hg8 (fun g hg => by have h : w6.heap.size + 1 = g := Option.some.inj hg; omega)
  have y0 := blk_cell HB8.out 0
  have y1 := blk_cell HB8.out 1
  have y2 := blk_cell HB8.out 2
  have y3 := blk_cell HB8.out 3
  have s0 := blk_free HB8.out 0
  have s1 := blk_free HB8.out 1
  have s2 := blk_free HB8.out 2
  have s3 := blk_free HB8.out 3
  simp at y0 y1 y2 y3
  have hz8 := ho8.size
  clear hown8 hg8 hat8 ho8
  obtain ⟨g5, hg5⟩ : ∃ g, w6.heap.size = g := ⟨_, rfl⟩
  obtain ⟨wa, hwa⟩ : ∃ wa, w8.setCell ⟨g5, 1, none⟩ (.slice A8 L1 c8) = wa := ⟨_, rfl⟩
  rw [hg5] at HB8
  have hs1 := set1_only w8 g5 1 (.slice A8 L1 c8)
  have HBa := heap_setCell_same w8 g5 1 _ _ (.slice A8 L1 c8) HB8.out
  simp at HBa
  have hRw : R < g5 := by omega
  have hra : Rd (w8.setCell ⟨g5, 1, none⟩ (.slice A8 L1 c8)) R (P + 10000 + 1) := rd_set hr8 hRw
  rw [hwa] at hs1 HBa hra
  have HBa := Lib.hid HBa
  have Hra := Lib.hid hra
  have HXa := Lib.hid ((hs1.block n0 (blk_ltB HX08.out) (by omega)).trans HX08.out)
  have HXb := Lib.hid ((hs1.block n1 (blk_ltB HX18.out) (by omega)).trans HX18.out)
  have HAa := Lib.hid ((hs1.block g4 (blk_ltB HA8.out) (by omega)).trans HA8.out)
  have HNa : Hid (wa.ownsRow g5 3 1 (.slice A8 L1 c8) L1 (ints c.next)) := Lib.hid (by rw [← hg5]; exact own_only Hown8.out hs1 (fun g hg e => own_ne_tag Hown8.out HB8.out (by decide) (by rw [hg, e])))
  have HCa := Lib.hid (HC8.tag HB8.out (by decide) (by decide) hs1)
  have HOa := Lib.hid (HO8.aft hs1 (fun g hg => .inl (by have := Hw.out; omega)))
  rw [hg5] at HAltN HAltO
  rw [hg5]
  have z0 := blk_cell HBa.out 0
  have z1 := blk_cell HBa.out 1
  have z2 := blk_cell HBa.out 2
  have z3 := blk_cell HBa.out 3
  simp at z0 z1 z2 z3
  rw [hg5] at y0 y1 y2 y3 s0 s1 s2 s3
  clear hs1 hra hr8 HC6 HC7 HC8 Hbb Hr7 HB8 HX08 HX18 HA8 HA7 HB7 HX07 HX17 HO7 HO8 Hown8 HRN HEo e0 e1 e2 e3 hz8 hzz7
  have hg5a := blk_ltB HBa.out
  by_cases hL : 0 < L1
  ·have dl : decide (0 < L1) = true := decide_eq_true hL
   go_wp2_with fail
   clear hwa y0 y1 y2 y3 s0 s1 s2 s3
   obtain ⟨gN, cN', hvN, hgN1, hgN2, -, -⟩ := own_open HNa.out hL
   injection hvN with hA8 _ hc8
   subst hA8 hc8
   have hg5N : gN ≠ g5 := fun e => own_ne_tag HNa.out HBa.out (by decide) (by rw [e]; rfl)
   have hngm : ¬ (g5 = R ∨ g5 = gN) := by omega
   have hL11 : L1 - 1 + 1 = L1 := by omega
   have hOk := fun ops a => rdStepRS_ok (Pg := Try.prog) (ops := ops) (P := P + 10000 + 1) (a := a) (R0 := fun w' => w'.ownsRow g5 3 1 (.slice (some ⟨gN, 0, none⟩) L1 c8) L1 (ints c.next)) (R1 := fun w' => ∃ xs : List Int, xs.length = L1 ∧ w'.ownsRow g5 3 1 (.slice (some ⟨gN, 0, none⟩) L1 c8) L1 (ints xs)) (d := 10) Hra.out.lt hgN2 (fun wa wb h ho => own_only h ho (fun g hg e => by have h1 := (h.lt g hg).1; omega)) (fun wa wb ⟨y, hy, h⟩ ho => ⟨y, hy, own_only h ho (fun g hg e => by have h1 := (h.lt g hg).1; omega)⟩)
   refine wp_region_rs (rdStepRS Try.prog _ R (P + 10000 + 1) wa _ gN _ _ 10) (hOk _ _) (by kernel_rfl) (by kernel_rfl) (by kernel_rfl) (nlb rfl) Hra.out HNa.out ?_
   apply rs_eq (hOk _ _) (.inl (nnb rfl))
   ·intro ρ w' ho hK
    have ho : Only _ wa w' := ho
    obtain ⟨h0, -⟩ := hK
    have h0' : ρ (.tmp 6) = _ := h0
    go_simp
    try exact rfl
   apply rs_eq (hOk _ _) (.inl (nnb rfl))
   ·intro ρ w' ho hK
    have ho : Only _ wa w' := ho
    obtain ⟨h0, -⟩ := hK
    have h0' : ρ (.tmp 49) = _ := h0
    have r1 := cell_on ho hngm hg5a z1
    go_simp
    try exact rfl
   refine rs_old (hOk _ _) (.inl (nnb rfl)) _ (.inl rfl) _ rfl rfl ?_
   apply rs_eq (hOk _ _) (.inl (nnb rfl))
   ·intro ρ w' ho hK
    have ho : Only _ wa w' := ho
    obtain ⟨h0, -⟩ := hK
    have h0' : ρ (.tmp 6) = _ := h0
    go_simp
    try exact rfl
   apply rs_eq (hOk _ _) (.inl (nnb rfl))
   ·intro ρ w' ho hK
    have ho : Only _ wa w' := ho
    obtain ⟨h0, -⟩ := hK
    have h0' : ρ (.tmp 52) = _ := h0
    have r1 := cell_on ho hngm hg5a z1
    go_simp
    try exact rfl
   apply rs_eq (hOk _ _) (.inl (nnb rfl))
   ·intro ρ w' ho hK
    have ho : Only _ wa w' := ho
    obtain ⟨h0, -⟩ := hK
    have h0' : ρ (.tmp 53) = _ := h0
    go_simp
    try exact rfl
   refine rs_pick (hOk _ _) (.inl (nnb rfl)) 36 _ _ _ R (P + 10000 + 1) (L1 - 1) rfl rfl fn_draw (fun ρ w hK => ⟨hK.1, hK.2.1, (L1 : Int), hK.2.2.1, by omega, by omega⟩) (fun n kk w hk h1n hn hr => pick_upto n (L1 - 1) _ _ w hr (by have hk' : kk < 11 := hk; omega) h1n hn (by omega)) ?_
   refine rs_old (hOk _ _) (.inl (nnb rfl)) _ (.inl rfl) _ rfl rfl ?_
   refine rs_pick (hOk _ _) (.inl (nnb rfl)) 36 _ _ _ R (P + 10000 + 1) 3 rfl rfl fn_draw (fun ρ w hK => ⟨hK.1, hK.2.1, 4, hK.2.2.1, by omega, by omega⟩) (fun n kk w hk h1n hn hr => pick_upto n 3 _ _ w hr (by have hk' : kk < 11 := hk; omega) h1n hn (by omega)) ?_
   refine rs_look (hOk _ _) (.inl (nnb rfl)) (TAtN gN L1) (stb_atN _ _ _) (fun ρ w' ho hK => by
    obtain ⟨h0, h1, -⟩ := hK
    have h0' : ρ (.tmp 50) = .slice (some ⟨gN, 0, none⟩) L1 c8 := h0
    obtain ⟨q, h1', h2, h3⟩ : ∃ q : Int, ρ (.tmp 55) = .int .i64 q ∧ 0 ≤ q ∧ q ≤ ((L1 - 1 : Nat) : Int) := h1
    obtain ⟨j, rfl⟩ : ∃ j : Nat, q = (j : Int) := ⟨q.toNat, by omega⟩
    have hjL : j < L1 := by omega
    refine ⟨.pointer (some ⟨gN, j, none⟩), ?_, j, rfl, hjL⟩
    clear h3
    go_simp) ?_
   refine rs_doR rfl rfl R (P + 10000 + 1) rfl (fun ρ w' ho h0 hK => by
    obtain ⟨⟨j, h1, hj⟩, ⟨q, h2, -, -⟩, -⟩ := hK
    have h1' : ρ (.tmp 58) = .pointer (some ⟨gN, j, none⟩) := h1
    have h2' : ρ (.tmp 57) = .int .i64 q := h2
    have h0' : w'.ownsRow g5 3 1 (.slice (some ⟨gN, 0, none⟩) L1 c8) L1 (ints c.next) := h0
    obtain ⟨u0, _, hcell, hfr⟩ := own_slot h0' (j := j) (by omega)
    have hst := h0'.stored j (.int .i64 q)
    have hkw := (h0'.lt gN rfl).2
    refine ⟨w'.setCell ⟨gN, j, none⟩ (.int .i64 q), ?_, ⟨c.next.set j q, by rw [List.length_set]; exact HL1.out, by have := hst.1; rw [show (ints c.next).set j (.int .i64 q) = ints (c.next.set j q) from by unfold ints; rw [List.map_set]] at this; exact this⟩, Only.grown hst.2 (fun g hg => .inr (Option.some.inj hg).symm), fun Q hQ => hQ.grown hst.2 (fun g hg => by have h : gN = g := Option.some.inj hg; omega)⟩
    clear hst h0'
    go_simp) ?_
   intro f w9 k9 hk9 hI9 ht9 hcp9
   have E0 : f 0 = _ := ht9 0 (nlb rfl)
   have E1 : f 1 = _ := ht9 1 (nlb rfl)
   have E2 : f 2 = _ := ht9 2 (nlb rfl)
   conv at E2 => rhs; whnf
   have E3 : f 3 = _ := ht9 3 (nlb rfl)
   have E4 : f 4 = _ := ht9 4 (nlb rfl)
   have E5 : f 5 = _ := ht9 5 (nlb rfl)
   have E6 : (TInt 0 ((L1 - 1 : Nat) : Int)) w9 (f 6) := ht9 6 (nlb rfl)
   have E7 : f 7 = _ := ht9 7 (nlb rfl)
   conv at E7 => rhs; whnf
   have E8 : (TInt 0 ((3 : Nat) : Int)) w9 (f 8) := ht9 8 (nlb rfl)
   have E9 : (TAtN gN L1) w9 (f 9) := ht9 9 (nlb rfl)
   have E10 : (TAny) w9 (f 10) := ht9 10 (nlb rfl)
   have Ho9 : Only _ wa w9 := hI9.2.1
   have HJ9 := hI9.2.2
   have HR9 := hI9.1
   have HK9 := hk9
   simp only [putAll, E0, E1, E2, E3, E4, E5, E7, Nat.zero_add, Nat.reduceAdd, Act.put, List.setIfInBounds_toArray, List.set_cons_succ, List.set_cons_zero]
   clear E0 E1 E2 E3 E4 E5 E7
   clear hI9 ht9 hcp9 hk9
   generalize f 6 = r6 at *
   generalize f 8 = r8 at *
   generalize f 9 = r9 at *
   generalize f 10 = r10 at *
   obtain ⟨xs, hxs, hxo⟩ : ∃ xs : List Int, xs.length = L1 ∧ w9.ownsRow g5 3 1 (.slice (some ⟨gN, 0, none⟩) L1 c8) L1 (ints xs) := HJ9
   have ho9 : Only (fun g => g = R ∨ g = gN) wa w9 := Ho9
   have HX08 := Lib.hid ((ho9.block n0 (blk_ltB HXa.out) (by omega)).trans HXa.out)
   have HX18 := Lib.hid ((ho9.block n1 (blk_ltB HXb.out) (by omega)).trans HXb.out)
   have HA8 := Lib.hid ((ho9.block g4 (blk_ltB HAa.out) (by omega)).trans HAa.out)
   have HB8 := Lib.hid ((ho9.block g5 (blk_ltB HBa.out) hngm).trans HBa.out)
   have HCa8 := Lib.hid (circOwn_nset HCa.out Hra.out ho9 HNa.out rfl (fun e => by have := HAltN.out gN e; omega) (fun e => by have := HAltO.out gN e; omega))
   have HCb8 := Lib.hid (circOwn_next HCa8.out (own_mono hxo (Nat.zero_le _)) hxs)
   have HO8 := Lib.hid (HOa.out.aft ho9 (fun g hg => hg.elim .inr (fun h => .inl (by have := Hw.out; omega))))
   clear hOk Ho9 ho9 hxo HXa HXb HAa HBa HCa HOa HNa Hra
   go_wp2_with fail
   have a0 := blk_cell HA8.out 0
   have a1 := blk_cell HA8.out 1
   have a2 := blk_cell HA8.out 2
   have a3 := blk_cell HA8.out 3
   have q0 := blk_cell HB8.out 0
   have q1 := blk_cell HB8.out 1
   have q2 := blk_cell HB8.out 2
   have q3 := blk_cell HB8.out 3
   simp at a0 a1 a2 a3 q0 q1 q2 q3
   have x00 := blk_cell HX08.out 0
   have x01 := blk_cell HX08.out 1
   have x02 := blk_cell HX08.out 2
   have x03 := blk_cell HX08.out 3
   have x10 := blk_cell HX18.out 0
   have x11 := blk_cell HX18.out 1
   have x12 := blk_cell HX18.out 2
   have x13 := blk_cell HX18.out 3
   have f00 := blk_free HX08.out 0
   have f01 := blk_free HX08.out 1
   have f02 := blk_free HX08.out 2
   have f03 := blk_free HX08.out 3
   have f10 := blk_free HX18.out 0
   have f11 := blk_free HX18.out 1
   have f12 := blk_free HX18.out 2
   have f13 := blk_free HX18.out 3
   simp at x00 x01 x02 x03 x10 x11 x12 x13
   have hne : n0 ≠ n1 := by omega
   have hne' : n1 ≠ n0 := by omega
   have hwn0 : w.heap.size ≤ n0 := by have := Hw.out; omega
   have hwn1 : w.heap.size ≤ n1 := by omega
   go_region
   all_goals
    go_wp2_with fail
    refine bodyPost_ret (v := .tuple #[.agg #[.int .i64 L0, .slice An L1 cn, .slice Ag L2 cg, .slice Ao L3 co], .agg #[.int .i64 L0, .slice (some ⟨gN, 0, none⟩) L1 c8, .slice Ag L2 cg, .slice Ao L3 co]]) (by simp [results, Try.results64, go_sem, x00, x01, x02, x03, x10, x11, x12, x13, hne, hne']) rfl ⟨_, _, c, ⟨L0, xs, c.gates, c.outs⟩, rfl, ?_, ?_, ?_⟩
    ·first | with_reducible exact CircOwn.below (circOwn_two HCa8.out HX08.out HX18.out hne) (Below.refl _ _).drew | with_reducible exact CircOwn.below (circOwn_two HCa8.out HX18.out HX08.out hne') (Below.refl _ _).drew
    ·first | with_reducible exact CircOwn.below (circOwn_two HCb8.out HX08.out HX18.out hne) (Below.refl _ _).drew | with_reducible exact CircOwn.below (circOwn_two HCb8.out HX18.out HX08.out hne') (Below.refl _ _).drew
    ·first | with_reducible exact (only_two HO8.out hwn0 hwn1).trans (Only.of_below _ (Below.refl _ _).drew) | with_reducible exact (only_two HO8.out hwn1 hwn0).trans (Only.of_below _ (Below.refl _ _).drew)
  ·have dl : decide (0 < L1) = false := decide_eq_false hL
   have HCb8 := Lib.hid (circOwn_next HCa.out (own_mono HNa.out (Nat.zero_le _)) HL1.out)
   have HX08 := HXa
   have HX18 := HXb
   have HA8 := HAa
   have HB8 := HBa
   have HCa8 := HCa
   have HO8 := HOa
   clear HXa HXb HAa HBa HCa HOa HNa Hra
   go_wp2_with fail
   clear hwa y0 y1 y2 y3 s0 s1 s2 s3
   have a0 := blk_cell HA8.out 0
   have a1 := blk_cell HA8.out 1
   have a2 := blk_cell HA8.out 2
   have a3 := blk_cell HA8.out 3
   have q0 := blk_cell HB8.out 0
   have q1 := blk_cell HB8.out 1
   have q2 := blk_cell HB8.out 2
   have q3 := blk_cell HB8.out 3
   simp at a0 a1 a2 a3 q0 q1 q2 q3
   have x00 := blk_cell HX08.out 0
   have x01 := blk_cell HX08.out 1
   have x02 := blk_cell HX08.out 2
   have x03 := blk_cell HX08.out 3
   have x10 := blk_cell HX18.out 0
   have x11 := blk_cell HX18.out 1
   have x12 := blk_cell HX18.out 2
   have x13 := blk_cell HX18.out 3
   have f00 := blk_free HX08.out 0
   have f01 := blk_free HX08.out 1
   have f02 := blk_free HX08.out 2
   have f03 := blk_free HX08.out 3
   have f10 := blk_free HX18.out 0
   have f11 := blk_free HX18.out 1
   have f12 := blk_free HX18.out 2
   have f13 := blk_free HX18.out 3
   simp at x00 x01 x02 x03 x10 x11 x12 x13
   have hne : n0 ≠ n1 := by omega
   have hne' : n1 ≠ n0 := by omega
   have hwn0 : w.heap.size ≤ n0 := by have := Hw.out; omega
   have hwn1 : w.heap.size ≤ n1 := by omega
   go_region
   all_goals
    go_wp2_with fail
    refine bodyPost_ret (v := .tuple #[.agg #[.int .i64 L0, .slice An L1 cn, .slice Ag L2 cg, .slice Ao L3 co], .agg #[.int .i64 L0, .slice A8 L1 c8, .slice Ag L2 cg, .slice Ao L3 co]]) (by simp [results, Try.results64, go_sem, x00, x01, x02, x03, x10, x11, x12, x13, hne, hne']) rfl ⟨_, _, c, ⟨L0, c.next, c.gates, c.outs⟩, rfl, ?_, ?_, ?_⟩
    ·first | with_reducible exact CircOwn.below (circOwn_two HCa8.out HX08.out HX18.out hne) (Below.refl _ _).drew | with_reducible exact CircOwn.below (circOwn_two HCa8.out HX18.out HX08.out hne') (Below.refl _ _).drew
    ·first | with_reducible exact CircOwn.below (circOwn_two HCb8.out HX08.out HX18.out hne) (Below.refl _ _).drew | with_reducible exact CircOwn.below (circOwn_two HCb8.out HX18.out HX08.out hne') (Below.refl _ _).drew
    ·first | with_reducible exact (only_two HO8.out hwn0 hwn1).trans (Only.of_below _ (Below.refl _ _).drew) | with_reducible exact (only_two HO8.out hwn1 hwn0).trans (Only.of_below _ (Below.refl _ _).drew)
 ·go_wp2_with fail
  refine (l20Pair_any R _ w6 Hr6.out (by omega)).mono ?_
  rintro e w7 ⟨va, vb, c6, c7, rfl, hCa, hCb, ho7⟩
  obtain ⟨A1, e1, A2, e2, A4, e4, rfl⟩ := hCa.shape
  obtain ⟨K1, hK1⟩ : ∃ M1, c6.next.length = M1 := ⟨_, rfl⟩
  obtain ⟨K2, hK2⟩ : ∃ M2, c6.gates.length = M2 := ⟨_, rfl⟩
  obtain ⟨K3, hK3⟩ : ∃ M3, c6.outs.length = M3 := ⟨_, rfl⟩
  obtain ⟨K0, hK0⟩ : ∃ M0, c6.ins = M0 := ⟨_, rfl⟩
  rw [hK1, hK2, hK3, hK0] at hCa
  rw [hK1, hK2, hK3, hK0]
  clear hK1 hK2 hK3 hK0
  have HCa8 := Lib.hid hCa
  clear hCa
  obtain ⟨B1, b1, B2, b2, B4, b4, rfl⟩ := hCb.shape
  obtain ⟨M1, hM1⟩ : ∃ M1, c7.next.length = M1 := ⟨_, rfl⟩
  obtain ⟨M2, hM2⟩ : ∃ M2, c7.gates.length = M2 := ⟨_, rfl⟩
  obtain ⟨M3, hM3⟩ : ∃ M3, c7.outs.length = M3 := ⟨_, rfl⟩
  obtain ⟨M0, hM0⟩ : ∃ M0, c7.ins = M0 := ⟨_, rfl⟩
  rw [hM1, hM2, hM3, hM0] at hCb
  try rw [hM1, hM2, hM3, hM0]
  clear hM1 hM2 hM3 hM0
  have HCb8 := Lib.hid hCb
  clear hCb
  have HX08 := Lib.hid ((ho7.block n0 (blk_ltB HX06.out) (by omega)).trans HX06.out)
  have HX18 := Lib.hid ((ho7.block n1 (blk_ltB HX16.out) (by omega)).trans HX16.out)
  have HO8 := Lib.hid (HO6.out.trans ho7)
  clear ho7
  have x00 := blk_cell HX08.out 0
  have x01 := blk_cell HX08.out 1
  have x02 := blk_cell HX08.out 2
  have x03 := blk_cell HX08.out 3
  have x10 := blk_cell HX18.out 0
  have x11 := blk_cell HX18.out 1
  have x12 := blk_cell HX18.out 2
  have x13 := blk_cell HX18.out 3
  have f00 := blk_free HX08.out 0
  have f01 := blk_free HX08.out 1
  have f02 := blk_free HX08.out 2
  have f03 := blk_free HX08.out 3
  have f10 := blk_free HX18.out 0
  have f11 := blk_free HX18.out 1
  have f12 := blk_free HX18.out 2
  have f13 := blk_free HX18.out 3
  simp at x00 x01 x02 x03 x10 x11 x12 x13
  have hne : n0 ≠ n1 := by omega
  have hne' : n1 ≠ n0 := by omega
  have hwn0 : w.heap.size ≤ n0 := by have := Hw.out; omega
  have hwn1 : w.heap.size ≤ n1 := by omega
  go_wp2_with fail
  refine bodyPost_ret (v := .tuple #[.agg #[.int .i64 K0, .slice A1 K1 e1, .slice A2 K2 e2, .slice A4 K3 e4], .agg #[.int .i64 M0, .slice B1 M1 b1, .slice B2 M2 b2, .slice B4 M3 b4]]) (by simp [results, Try.results64, go_sem, x00, x01, x02, x03, x10, x11, x12, x13, hne, hne']) rfl ⟨_, _, c6, c7, rfl, ?_, ?_, ?_⟩
  ·with_reducible exact circOwn_two HCa8.out HX08.out HX18.out hne
  ·with_reducible exact circOwn_two HCb8.out HX08.out HX18.out hne
  ·with_reducible exact only_two HO8.out hwn0 hwn1
end Go.Proofs.Ytkkkjbinfdohpaa
namespace Go.Proofs.Ytkkkjbinfdohpaa
open Go.RowKit Go.Maps
def DrawnTwo (w : World) (e : Ending) (w' : World) : Prop := ∃ va vb ca cb, e = .returned (.tuple #[va, vb]) ∧ CircOwn 0 w' va ca ∧ CircOwn 0 w' vb cb ∧ Below w.heap.size w w'
theorem drawTwins_any (v : Value) (bs : List Int) (w : World) (h : Row w 1 v bs.length (bs.map (Value.int .u8))) (hb : ∀ x ∈ bs, (Lit.int .u8 x).wf = true) (hl : bs.length ≤ 1048576) :
  Calls Try.prog 24 #[v] w (DrawnTwo w) := by
 have H := Lib.hid h
 clear h
 obtain ⟨n0, hn0⟩ : ∃ n0, w.heap.size = n0 := ⟨_, rfl⟩
 have hX0 := heap_alloc_new w (.cells #[.int .i64 0, .slice none 0 0, .slice none 0 0, .slice none 0 0] 26)
 have hb0 := bel_new w (.cells #[.int .i64 0, .slice none 0 0, .slice none 0 0, .slice none 0 0] 26)
 have hb1 := bel_new (w.alloc (.cells #[.int .i64 0, .slice none 0 0, .slice none 0 0, .slice none 0 0] 26)) (.cells #[.int .i64 0, .slice none 0 0, .slice none 0 0, .slice none 0 0] 26)
 have hX1 := heap_alloc_new (w.alloc (.cells #[.int .i64 0, .slice none 0 0, .slice none 0 0, .slice none 0 0] 26)) (.cells #[.int .i64 0, .slice none 0 0, .slice none 0 0, .slice none 0 0] 26)
 have hX0 := (hb1.block w.heap.size (by rw [World.size_alloc]; omega)).trans hX0
 have hs : ((w.alloc (.cells #[.int .i64 0, .slice none 0 0, .slice none 0 0, .slice none 0 0] 26)).alloc (.cells #[.int .i64 0, .slice none 0 0, .slice none 0 0, .slice none 0 0] 26)).heap.size = w.heap.size + 1 + 1 := by simp
 have hbb := hb0.trans (hb1.mono hb0.size)
 have HB0 := Lib.hid hbb
 have H0 := Lib.hid (Row.below H.out hbb)
 rw [World.size_alloc] at hX1
 have HX0 := Lib.hid hX0
 have HX1 := Lib.hid hX1
 clear hX0 hX1 hb0 hb1 H hbb
 go_enter Try.func24, Try.ntmps24
 go_wp2_with fail
 generalize (w.alloc (.cells #[.int .i64 0, .slice none 0 0, .slice none 0 0, .slice none 0 0] 26)).alloc (.cells #[.int .i64 0, .slice none 0 0, .slice none 0 0, .slice none 0 0] 26) = W2 at *
 rw [hn0] at HX0 HX1 hs
 try rw [hn0]
 obtain ⟨n1, hn1⟩ : ∃ n1, n0 + 1 = n1 := ⟨_, rfl⟩
 rw [hn1] at HX1 hs
 try rw [hn1]
 have hn01 : n0 < n1 := by omega
 have Hw := Lib.hid hn0
 clear hn1 hn0
 refine (open_any _ bs _ H0.out hb hl).mono ?_
 rintro e w1 ⟨rfl, hr1, hb1⟩
 have HX01 := Lib.hid ((hb1.block n0 (blk_ltB HX0.out)).trans HX0.out)
 have HX11 := Lib.hid ((hb1.block n1 (blk_ltB HX1.out)).trans HX1.out)
 have HB1 := Lib.hid (HB0.out.trans (hb1.mono HB0.out.size))
 rw [hs] at hr1
 have Hr1 := Lib.hid hr1
 have hz1 := hb1.size
 have hwn0 : w.heap.size ≤ n0 := by have := Hw.out; omega
 clear hr1 hb1 HX0 HX1 HB0 H0 hb hl
 go_wp2_with fail
 refine (l20Twins_any _ 0 w1 Hr1.out (by omega)).mono ?_
 rintro e w2 ⟨va, vb, ca, cb, rfl, hCa, hCb, ho⟩
 obtain ⟨An, cn, Ag, cg, Ao, co, rfl⟩ := hCa.shape
 obtain ⟨B1, b1, B2, b2, B4, b4, rfl⟩ := hCb.shape
 obtain ⟨K1, hK1⟩ : ∃ K1, ca.next.length = K1 := ⟨_, rfl⟩
 obtain ⟨K2, hK2⟩ : ∃ K2, ca.gates.length = K2 := ⟨_, rfl⟩
 obtain ⟨K3, hK3⟩ : ∃ K3, ca.outs.length = K3 := ⟨_, rfl⟩
 obtain ⟨K0, hK0⟩ : ∃ K0, ca.ins = K0 := ⟨_, rfl⟩
 rw [hK1, hK2, hK3, hK0] at hCa
 rw [hK1, hK2, hK3, hK0]
 clear hK1 hK2 hK3 hK0
 obtain ⟨M1, hM1⟩ : ∃ M1, cb.next.length = M1 := ⟨_, rfl⟩
 obtain ⟨M2, hM2⟩ : ∃ M2, cb.gates.length = M2 := ⟨_, rfl⟩
 obtain ⟨M3, hM3⟩ : ∃ M3, cb.outs.length = M3 := ⟨_, rfl⟩
 obtain ⟨M0, hM0⟩ : ∃ M0, cb.ins = M0 := ⟨_, rfl⟩
 rw [hM1, hM2, hM3, hM0] at hCb
 rw [hM1, hM2, hM3, hM0]
 clear hM1 hM2 hM3 hM0
 have HX02 := Lib.hid ((ho.block n0 (blk_ltB HX01.out) (by omega)).trans HX01.out)
 have HX12 := Lib.hid ((ho.block n1 (blk_ltB HX11.out) (by omega)).trans HX11.out)
 have HB2 := Lib.hid (Only.below HB1.out ho HB1.out.size (fun q hq => by omega))
 have HCa := Lib.hid hCa
 have HCb := Lib.hid hCb
 clear hCa hCb ho HX01 HX11 HB1 Hr1
 have x00 := blk_cell HX02.out 0
 have x01 := blk_cell HX02.out 1
 have x02 := blk_cell HX02.out 2
 have x03 := blk_cell HX02.out 3
 have x10 := blk_cell HX12.out 0
 have x11 := blk_cell HX12.out 1
 have x12 := blk_cell HX12.out 2
 have x13 := blk_cell HX12.out 3
 have f00 := blk_free HX02.out 0
 have f01 := blk_free HX02.out 1
 have f02 := blk_free HX02.out 2
 have f03 := blk_free HX02.out 3
 have f10 := blk_free HX12.out 0
 have f11 := blk_free HX12.out 1
 have f12 := blk_free HX12.out 2
 have f13 := blk_free HX12.out 3
 simp at x00 x01 x02 x03 x10 x11 x12 x13
 have hne : n0 ≠ n1 := by omega
 have hne' : n1 ≠ n0 := by omega
 have hwn1 : w.heap.size ≤ n1 := by omega
 go_wp2_with fail
 refine bodyPost_ret (v := .tuple #[.agg #[.int .i64 K0, .slice An K1 cn, .slice Ag K2 cg, .slice Ao K3 co], .agg #[.int .i64 M0, .slice B1 M1 b1, .slice B2 M2 b2, .slice B4 M3 b4]]) (by simp [results, Try.results24, go_sem, x00, x01, x02, x03, x10, x11, x12, x13, hne, hne']) rfl ⟨_, _, ca, cb, rfl, ?_, ?_, ?_⟩
 ·with_reducible exact circOwn_two HCa.out HX02.out HX12.out hne
 ·with_reducible exact circOwn_two HCb.out HX02.out HX12.out hne
 ·exact (((((((HB2.out.setCell hwn0 _).setCell hwn0 _).setCell hwn0 _).setCell hwn0 _).setCell hwn1 _).setCell hwn1 _).setCell hwn1 _).setCell hwn1 _
end Go.Proofs.Ytkkkjbinfdohpaa
namespace Go.Proofs.Ytkkkjbinfdohpaa
open Go.RowKit
def RowIn (F : Nat → Prop) (w : World) (size : Nat) (v : Value) (n : Nat) (cs : List Value) : Prop := Row w size v n cs ∧ (0 < n → ∀ g, v.ownBlock = some g → F g)
def From (B : Nat) : Nat → Prop := fun g => B ≤ g
theorem RowIn.only {F E : Nat → Prop} {w w' : World} {size n : Nat} {v : Value} {cs : List Value} (h : RowIn F w size v n cs) (ho : Only E w w') (hE : ∀ g, F g → ¬ E g) : RowIn F w' size v n cs := by
 obtain ⟨⟨h1, A, c, rfl, h2, h3, h4⟩, h5⟩ := h
 refine ⟨⟨h1, A, c, rfl, h2, h3, fun hn => ?_⟩, h5⟩
 obtain ⟨b, o, rfl, hb, hc⟩ := h4 hn
 refine ⟨b, o, rfl, Nat.lt_of_lt_of_le hb ho.size, fun j u hu => ?_⟩
 rw [World.cell?_of_block (ho.block b hb (hE b (h5 hn b rfl)))]
 exact hc j u hu
theorem RowIn.mono {F F' : Nat → Prop} {w : World} {size n : Nat} {v : Value} {cs : List Value} (h : RowIn F w size v n cs) (hF : ∀ g, F g → F' g) : RowIn F' w size v n cs := ⟨h.1, fun hn g hg => hF g (h.2 hn g hg)⟩
theorem RowIn.below {F : Nat → Prop} {w w' : World} {size n : Nat} {v : Value} {cs : List Value} (h : RowIn F w size v n cs) (hb : Below w.heap.size w w') : RowIn F w' size v n cs := ⟨h.1.below hb, h.2⟩
theorem RowIn.of_own {w : World} {B size n : Nat} {e : TypeId} {v : Value} {cs : List Value} (h : w.ownsRow B e size v n cs) : RowIn (fun g => B ≤ g ∧ g < w.heap.size) w size v n cs := ⟨Row.of_own h, fun _ g hg => h.lt g hg⟩
def SSIn {α : Type} (enc : List α → List Value) (F : Nat → Prop) (w : World) (v : Value) (xss : List (List α)) : Prop :=
  ∃ vs : List Value, vs.length = xss.length ∧ RowIn F w 1 v xss.length vs ∧ ∀ (i : Nat) (x : List α) (u : Value), xss[i]? = some x → vs[i]? = some u → RowIn F w 1 u x.length (enc x)
variable {α : Type} {enc : List α → List Value} {F : Nat → Prop} {w w' : World} {v : Value} {xss : List (List α)}
theorem SSIn.at (h : SSIn enc F w v xss) : SSAt enc w v xss := by
 obtain ⟨vs, h1, h2, h3⟩ := h
 exact ⟨vs, h1, h2.1, fun i x u hx hu => (h3 i x u hx hu).1⟩
theorem SSIn.only {E : Nat → Prop} (h : SSIn enc F w v xss) (ho : Only E w w') (hE : ∀ g, F g → ¬ E g) : SSIn enc F w' v xss := by
 obtain ⟨vs, h1, h2, h3⟩ := h
 exact ⟨vs, h1, h2.only ho hE, fun i x u hx hu => (h3 i x u hx hu).only ho hE⟩
theorem SSIn.below (h : SSIn enc F w v xss) (hb : Below w.heap.size w w') : SSIn enc F w' v xss := by
 obtain ⟨vs, h1, h2, h3⟩ := h
 exact ⟨vs, h1, h2.below hb, fun i x u hx hu => (h3 i x u hx hu).below hb⟩
theorem SSIn.mono {F' : Nat → Prop} (h : SSIn enc F w v xss) (hF : ∀ g, F g → F' g) : SSIn enc F' w v xss := by
 obtain ⟨vs, h1, h2, h3⟩ := h
 exact ⟨vs, h1, h2.mono hF, fun i x u hx hu => (h3 i x u hx hu).mono hF⟩
theorem SSIn.nil (enc : List α → List Value) (F : Nat → Prop) (w : World) : SSIn enc F w (.slice none 0 0) [] := ⟨[], rfl, ⟨Row.nil w 1, fun h => absurd h (Nat.lt_irrefl 0)⟩, fun i x u hx _ => by simp at hx⟩
theorem SSIn.snoc {B : Nat} {e ti : TypeId} {v' u : Value} {x : List α} {vs : List Value} (h1 : vs.length = xss.length) (h3 : ∀ (i : Nat) (x : List α) (u : Value), xss[i]? = some x → vs[i]? = some u → RowIn F w 1 u x.length (enc x))
  (hu : w.ownsRow B ti 1 u x.length (enc x)) (hv : w.ownsRow B e 1 v' (xss.length + 1) (vs ++ [u])) : SSIn enc (fun g => F g ∨ (B ≤ g ∧ g < w.heap.size)) w v' (xss ++ [x]) := by
 refine ⟨vs ++ [u], by simp [h1], ?_, fun i y z hy hz => ?_⟩
 ·rw [List.length_append, List.length_singleton]
  exact (RowIn.of_own hv).mono fun g hg => .inr hg
 ·rcases Nat.lt_or_ge i xss.length with hi | hi
  ·rw [List.getElem?_append_left hi] at hy
   rw [List.getElem?_append_left (by omega)] at hz
   exact (h3 i y z hy hz).mono fun g hg => .inl hg
  ·have hil : i = xss.length := by
    rcases Nat.lt_or_ge xss.length i with h | h
    ·rw [List.getElem?_eq_none (by simp; omega)] at hy; cases hy
    ·omega
   subst hil
   rw [List.getElem?_append_right (Nat.le_refl _), Nat.sub_self] at hy
   rw [List.getElem?_append_right (by omega), h1, Nat.sub_self] at hz
   obtain rfl := Option.some.inj hy
   obtain rfl := Option.some.inj hz
   exact (RowIn.of_own hu).mono fun g hg => .inr hg
end Go.Proofs.Ytkkkjbinfdohpaa
namespace Go.Proofs.Ytkkkjbinfdohpaa
open Go.RowKit
theorem info_bool2 : (Try.prog.info? 4).map (fun i => (i.zero, i.size, i.bytes)) = some (some (.bool false), 1, 1) := by kernel_rfl
theorem info_bools2 : (Try.prog.info? 69).map (fun i => (i.zero, i.size, i.bytes)) = some (some (.slice none 0 0), 1, 24) := by kernel_rfl
theorem info_boolss2 : (Try.prog.info? 88).map (fun i => (i.zero, i.size, i.bytes)) = some (some (.slice none 0 0), 1, 24) := by kernel_rfl
def Cloned (e : TypeId) (n : Nat) (cs : List Value) (w : World) (r : Ending) (w' : World) : Prop := ∃ v', r = .returned v' ∧ w'.ownsRow w.heap.size e 1 v' n cs ∧ Below w.heap.size w w'
theorem append_rows {w : World} {ops : Array Oper} {rest : List Oper} {o : Oper} {a : Act} {Q : Exit → Act → World → Prop} (hgd : o.guard = none) (s x : Operand)
  (ho : o.op = .call { callee := .builtin .append, args := #[s, x], argTypes := #[88, 88] })
  (base : Nat) (v : Value) (n : Nat) (xs : List Value) (hs : a.eval s = v) (hown : w.ownsRow base 69 1 v n xs) (sv : Value) (m : Nat) (news : List Value) (hx : a.eval x = sv) (hr : Row w 1 sv m news) (h1 : ∀ u ∈ news, u.oneCell' = true)
  (h63 : n + m ≤ 1000000) (hbase : base ≤ w.heap.size)
  (h : ∀ v' w', w'.ownsRow base 69 1 v' (n + m) (xs ++ news) → w.grownBy w' v.ownBlock → (v'.ownBlock = v.ownBlock ∨ v'.ownBlock = some w.heap.size) → wpList Try.prog ops Q rest (a.put o.dst v') w') : wpList Try.prog ops Q (o :: rest) a w := by
 obtain ⟨i, hi, hz0, hz1, hz2⟩ := info_parts info_bools2
 exact wpList_append_at hgd s x 88 ho base 69 i _ 1 24 Try.underlying88 hi hz0 hz1 hz2 rfl (by decide) v n xs hs hown sv m news hx hr h1 (by unfold maxLen; omega) (by omega) hbase h
theorem append_bits {w : World} {ops : Array Oper} {rest : List Oper} {o : Oper} {a : Act} {Q : Exit → Act → World → Prop} (hgd : o.guard = none) (s x : Operand)
  (ho : o.op = .call { callee := .builtin .append, args := #[s, x], argTypes := #[69, 69] })
  (base : Nat) (v : Value) (n : Nat) (xs : List Value) (hs : a.eval s = v) (hown : w.ownsRow base 4 1 v n xs) (sv : Value) (m : Nat) (news : List Value) (hx : a.eval x = sv) (hr : Row w 1 sv m news) (h1 : ∀ u ∈ news, u.oneCell' = true)
  (h63 : n + m ≤ 1000000) (hbase : base ≤ w.heap.size)
  (h : ∀ v' w', w'.ownsRow base 4 1 v' (n + m) (xs ++ news) → w.grownBy w' v.ownBlock → (v'.ownBlock = v.ownBlock ∨ v'.ownBlock = some w.heap.size) → wpList Try.prog ops Q rest (a.put o.dst v') w') : wpList Try.prog ops Q (o :: rest) a w := by
 obtain ⟨i, hi, hz0, hz1, hz2⟩ := info_parts info_bool2
 exact wpList_append_at hgd s x 69 ho base 4 i _ 1 1 Try.underlying69 hi hz0 hz1 hz2 rfl (by decide) v n xs hs hown sv m news hx hr h1 (by unfold maxLen; omega) (by omega) hbase h
theorem append_paths {w : World} {ops : Array Oper} {rest : List Oper} {o : Oper} {a : Act} {Q : Exit → Act → World → Prop} (hgd : o.guard = none) (s x : Operand)
  (ho : o.op = .call { callee := .builtin .append, args := #[s, x], argTypes := #[145, 145] })
  (base : Nat) (v : Value) (n : Nat) (xs : List Value) (hs : a.eval s = v) (hown : w.ownsRow base 88 1 v n xs) (sv : Value) (m : Nat) (news : List Value) (hx : a.eval x = sv) (hr : Row w 1 sv m news) (h1 : ∀ u ∈ news, u.oneCell' = true)
  (h63 : n + m ≤ 1000000) (hbase : base ≤ w.heap.size)
  (h : ∀ v' w', w'.ownsRow base 88 1 v' (n + m) (xs ++ news) → w.grownBy w' v.ownBlock → (v'.ownBlock = v.ownBlock ∨ v'.ownBlock = some w.heap.size) → wpList Try.prog ops Q rest (a.put o.dst v') w') : wpList Try.prog ops Q (o :: rest) a w := by
 obtain ⟨i, hi, hz0, hz1, hz2⟩ := info_parts info_boolss2
 exact wpList_append_at hgd s x 145 ho base 88 i _ 1 24 Try.underlying145 hi hz0 hz1 hz2 rfl (by decide) v n xs hs hown sv m news hx hr h1 (by unfold maxLen; omega) (by omega) hbase h
theorem cloneB_any (v : Value) (n : Nat) (cs : List Value) (w : World) (h : Row w 1 v n cs) (h1 : ∀ u ∈ cs, u.oneCell' = true) (hn : n ≤ 1000) :
  Calls Try.prog 119 #[v] w (Cloned 4 n cs w) := by
 have he := fun (w : World) (a : Option Addr) (n c : Nat) => Lib.run_eql_slice_nil (P := Try.prog) w 69 4 a n c 0 0 Try.underlying69
 have hr := Lib.hid h
 obtain ⟨hl, A, c, rfl, hc, hcm, hcell⟩ := h
 cases A with
 | none =>
  have hn0 : n = 0 := by
   rcases Nat.eq_zero_or_pos n with h0 | h0
   ·exact h0
   ·obtain ⟨b, o, hx, -⟩ := hcell h0; cases hx
  subst hn0
  obtain rfl : cs = [] := List.eq_nil_of_length_eq_zero (by simpa using hl)
  clear hl hcell h1 hr
  go_enter Try.func119, Try.ntmps119
  go_wp2_with fail
  go_ret
  exact ⟨_, rfl, World.ownsRow_nil _ _ _ _, Below.refl _ _⟩
 | some p =>
  have Hown0 := Lib.hid (World.ownsRow_lit (base := w.heap.size) (e := 4) (size := 1) w #[] 0 (Nat.le_refl _) (by unfold maxLen; omega) rfl)
  have H1 := Lib.hid h1
  clear hl hcell h1
  go_enter Try.func119, Try.ntmps119
  go_wp2_with (at_builtin; refine append_bits rfl (.tmp 5) (.tmp 6) rfl w.heap.size _ 0 _ rfl Hown0.out _ n cs rfl (hr.out.alloc _) H1.out (by omega) (by simp) ?_; intro v5 w5 hown5 hg5 hat5; have Ho5 := Lib.hid hown5; have Hg5 := Lib.hid hg5; clear hown5 hg5 hat5)
  go_ret
  refine ⟨_, rfl, ?_, ((Below.refl _ _).alloc (Nat.le_refl _) _).grown Hg5.out (by simp) (own_ge0 Hown0.out)⟩
  have := Ho5.out
  simpa using this
theorem cloneSS_any (v : Value) (n : Nat) (cs : List Value) (w : World) (h : Row w 1 v n cs) (h1 : ∀ u ∈ cs, u.oneCell' = true) (hn : n ≤ 1000) :
  Calls Try.prog 118 #[v] w (Cloned 69 n cs w) := by
 have he := fun (w : World) (a : Option Addr) (n c : Nat) => Lib.run_eql_slice_nil (P := Try.prog) w 88 69 a n c 0 0 Try.underlying88
 have hr := Lib.hid h
 obtain ⟨hl, A, c, rfl, hc, hcm, hcell⟩ := h
 cases A with
 | none =>
  have hn0 : n = 0 := by
   rcases Nat.eq_zero_or_pos n with h0 | h0
   ·exact h0
   ·obtain ⟨b, o, hx, -⟩ := hcell h0; cases hx
  subst hn0
  obtain rfl : cs = [] := List.eq_nil_of_length_eq_zero (by simpa using hl)
  clear hl hcell h1 hr
  go_enter Try.func118, Try.ntmps118
  go_wp2_with fail
  go_ret
  exact ⟨_, rfl, World.ownsRow_nil _ _ _ _, Below.refl _ _⟩
 | some p =>
  have Hown0 := Lib.hid (World.ownsRow_lit (base := w.heap.size) (e := 69) (size := 1) w #[] 0 (Nat.le_refl _) (by unfold maxLen; omega) rfl)
  have H1 := Lib.hid h1
  clear hl hcell h1
  go_enter Try.func118, Try.ntmps118
  go_wp2_with (at_builtin; refine append_rows rfl (.tmp 5) (.tmp 6) rfl w.heap.size _ 0 _ rfl Hown0.out _ n cs rfl (hr.out.alloc _) H1.out (by omega) (by simp) ?_; intro v5 w5 hown5 hg5 hat5; have Ho5 := Lib.hid hown5; have Hg5 := Lib.hid hg5; clear hown5 hg5 hat5)
  go_ret
  refine ⟨_, rfl, ?_, ((Below.refl _ _).alloc (Nat.le_refl _) _).grown Hg5.out (by simp) (own_ge0 Hown0.out)⟩
  have := Ho5.out
  simpa using this
end Go.Proofs.Ytkkkjbinfdohpaa
namespace Go.Proofs.Ytkkkjbinfdohpaa
open Go.RowKit
def rowsOf (ins : Nat) (p : List Nat) : List (List Bool) := p.map fun x => Cir.bits x ins
theorem rowsOf_snoc (ins : Nat) (p : List Nat) (x : Nat) : rowsOf ins (p ++ [x]) = rowsOf ins p ++ [Cir.bits x ins] := by unfold rowsOf; simp
theorem rowsOf_length (ins : Nat) (p : List Nat) : (rowsOf ins p).length = p.length := by unfold rowsOf; simp
structure VB (B mb ins N : Nat) (l : List (Nat × List Nat)) (vq vp : Value) (pv : List Value) (F : Nat → Prop) (w : World) : Prop where
  q : w.ownsRow B 3 1 vq l.length (nints (Cir.vsts l))
  p : w.ownsRow B 88 1 vp l.length pv
  s : SetAt w mb N (fun x => Cir.memB (Cir.vsts l) x)
  r : ∀ (i s : Nat) (x : List Nat) (u : Value), l[i]? = some (s, x) → pv[i]? = some u → SSIn bools F w u (rowsOf ins x)
  f : ∀ g, F g → g < w.heap.size ∧ vq.ownBlock ≠ some g ∧ vp.ownBlock ≠ some g ∧ g ≠ mb
  a : Apart vq vp
  am : vq.ownBlock ≠ some mb ∧ vp.ownBlock ≠ some mb
end Go.Proofs.Ytkkkjbinfdohpaa
namespace Go.Proofs.Ytkkkjbinfdohpaa
open Go.RowKit
def OwnBoolSS (B T : Nat) (w : World) (v : Value) (xss : List (List Bool)) : Prop := OwnSS bools 69 4 B T w v xss
end Go.Proofs.Ytkkkjbinfdohpaa
namespace Go.Proofs.Ytkkkjbinfdohpaa
open Go.RowKit
def Searched (ins : Nat) (r : Option (List Nat)) (w : World) (e : Ending) (w' : World) : Prop :=
  match r with
  | none => e = .returned (.tuple #[.slice none 0 0, .bool false]) ∧ Below w.heap.size w w'
  | some p => ∃ v, e = .returned (.tuple #[v, .bool true]) ∧ OwnBoolSS w.heap.size w'.heap.size w' v (rowsOf ins p) ∧ Below w.heap.size w w'
theorem SSIn.one {F : Nat → Prop} {w : World} {xss : List (List Bool)} {vs : List Value} (h1 : vs.length = xss.length) (h3 : ∀ (i : Nat) (x : List Bool) (u : Value), xss[i]? = some x → vs[i]? = some u → RowIn F w 1 u x.length (bools x)) : ∀ u ∈ vs, u.oneCell' = true := fun u hu => by
 obtain ⟨i, hi, rfl⟩ := List.mem_iff_getElem.1 hu
 obtain ⟨_, A, c, hv, -⟩ := (h3 i _ _ (List.getElem?_eq_getElem (by omega)) (List.getElem?_eq_getElem hi)).1
 rw [hv]; rfl
end Go.Proofs.Ytkkkjbinfdohpaa
namespace Go.Proofs.Ytkkkjbinfdohpaa
open Go.RowKit Go.Maps
theorem pmap_laidOut : laidOutB Try.prog = true := by kernel_rfl
theorem pmap_row : (141 : TypeId) < Try.prog.types.size := of_decide_eq_true (by kernel_rfl)
theorem pmap_deep : Try.prog.keyTypeAt 2 141 = true := by kernel_rfl
theorem pmap_deepT : Try.prog.keyType 141 = true := by kernel_rfl
theorem pmap_wide : (match Try.prog.underlying 141 with | some (.array _ _) | some (.struct _) => true | _ => false) = true := by kernel_rfl
theorem pmap_keyed : Keyed Try.prog 141 := Keyed.of_law (deep_law_laid pmap_laidOut (m := 2) (by omega) pmap_row pmap_deep pmap_wide)
theorem pmap_cells : Try.prog.cellsOf 141 = 2 := by kernel_rfl
theorem pmap_cellsI : Try.prog.cellsOf 3 = 1 := by kernel_rfl
def pkey (x : Nat × Nat) : Value := .agg #[.int .i64 (x.1 : Int), .int .i64 (x.2 : Int)]
def PrOk (x : Nat × Nat) : Prop := x.1 ≤ 1000000 ∧ x.2 ≤ 1000000
theorem pkey_some {x : Nat × Nat} (h : PrOk x) : ∃ l, keyOf Try.prog 141 (pkey x) = some l := by
 obtain ⟨h1, h2⟩ := h
 obtain ⟨m, hm⟩ : ∃ m, Try.prog.types.size = m + 1 := ⟨_, (Nat.succ_pred_eq_of_pos (Nat.lt_of_le_of_lt (Nat.zero_le _) pmap_row)).symm⟩
 have hf : (pkey x).formed Try.prog 141 = true := by
  simp [pkey, Value.formed, Try.underlying141, pmap_cells, pmap_cellsI]
 unfold keyOf
 rw [Try.underlying141]
 simp only [pmap_deepT, hf, Bool.and_self, if_true, hm]
 have hr : List.range 2 = [0, 1] := rfl
 simp [Program.keyLits, pkey, hr, Try.underlying141, Try.underlying3, Value.cells, pmap_cells, pmap_cellsI, i64_wf (x := x.1) (by omega), i64_wf (x := x.2) (by omega)]
theorem pkey_inj {x y : Nat × Nat} (h : pkey x = pkey y) : x = y := by
 obtain ⟨a, b⟩ := x
 obtain ⟨a', b'⟩ := y
 unfold pkey at h
 simp at h
 obtain ⟨h1, h2⟩ := h
 have e1 : a = a' := by omega
 have e2 : b = b' := by omega
 rw [e1, e2]
theorem pkey_ne {x y : Nat × Nat} {l l' : Lit} (h : keyOf Try.prog 141 (pkey x) = some l) (h' : keyOf Try.prog 141 (pkey y) = some l') (hne : x ≠ y) : l ≠ l' := by
 intro e
 subst e
 exact hne (pkey_inj (pmap_keyed.inj h h'))
def PSet (w : World) (b n : Nat) (S : (Nat × Nat) → Bool) : Prop := ∃ D : DataW Unit, w.ownsMap Try.prog 141 (plainElem Try.prog 4) b n D ∧ IsMap D ∧ ∀ x l, keyOf Try.prog 141 (pkey x) = some l → D.atKey l (.lit (.bool false)) = .lit (.bool (S x))
theorem PSet.lt {w : World} {b n : Nat} {S : (Nat × Nat) → Bool} (h : PSet w b n S) : b < w.heap.size := by
 obtain ⟨D, h1, _⟩ := h
 exact h1.lt
theorem PSet.only {E : Nat → Prop} {w w' : World} {b n : Nat} {S : (Nat × Nat) → Bool} (h : PSet w b n S) (ho : Only E w w') (hE : ¬ E b) : PSet w' b n S := by
 have hl := h.lt
 obtain ⟨D, ⟨es, clock, h1, h2, h3, h4⟩, h5⟩ := h
 exact ⟨D, ⟨es, clock, (ho.block b hl hE).trans h1, h2, h3, h4⟩, h5⟩
theorem PSet.below {w w' : World} {b n : Nat} {S : (Nat × Nat) → Bool} (h : PSet w b n S) (hb : Below w.heap.size w w') : PSet w' b n S :=
 h.only (E := fun _ => False) ⟨hb.os, hb.tape, hb.output, hb.size, fun k hk _ => hb.block k hk⟩ id
theorem pSet_made (w : World) : PSet (w.alloc (.map #[] 0)) w.heap.size 0 (fun _ => false) :=
 ⟨.map [], World.ownsMap_made w _ _ _, isMap_empty, fun x l h => rfl⟩
theorem PSet.look {w : World} {b n : Nat} {S : (Nat × Nat) → Bool} (h : PSet w b n S) {x : Nat × Nat} (hx : PrOk x) :
  (Instr.lookup 153 (.map (some b)) (pkey x) false).run Try.prog w = .ok (.bool (S x)) w := by
 obtain ⟨D, h1, h2, h3⟩ := h
 obtain ⟨l, hl⟩ := pkey_some hx
 obtain ⟨v, ps, hrun, hv⟩ := h1.lookup pmap_keyed Try.underlying153 (zero_bool w) (plainElem_bool Try.underlying4 false) hl
 rw [h3 x l hl] at hv
 have hvb : v = .bool (S x) := by
  unfold plainElem at hv
  rw [Try.underlying4] at hv
  cases v <;> simp at hv
  rw [hv.1]
 subst hvb
 exact hrun
theorem PSet.set {w : World} {b n : Nat} {S : (Nat × Nat) → Bool} (h : PSet w b n S) (hn : n ≤ 1000000) {x : Nat × Nat} (hx : PrOk x) :
  ∃ w', (Instr.mapUpdate 153 (.map (some b)) (pkey x) (.bool true)).run Try.prog w = .ok () w' ∧ PSet w' b (n + 1) (fun y => S y || decide (y = x)) ∧ w.grownBy w' (some b) := by
 obtain ⟨D, h1, h2, h3⟩ := h
 obtain ⟨l, hl⟩ := pkey_some hx
 obtain ⟨w', hrun, r1, r2⟩ := h1.update pmap_keyed Try.underlying153 (by unfold maxLen; omega) hl (plainElem_bool Try.underlying4 true)
 have hlit : WideAt.IsKeyLit l := pmap_keyed.key hl
 refine ⟨w', hrun, ⟨_, r1, h2.put _ _, fun y l' hl' => ?_⟩, r2⟩
 by_cases e : y = x
 ·subst e
  rw [hl] at hl'
  injection hl' with hl'
  subst hl'
  rw [atKey_put_same h2 hlit]
  simp
 ·rw [atKey_put_other (pkey_ne hl' hl e), h3 y l' hl']
  simp [e]
end Go.Proofs.Ytkkkjbinfdohpaa