import Derived.Test.YtkkkjbinfdohpaaS08
import Derived.Test.YtkkkjbinfdohpaaS01
import Derived.StillTailTactics
import Derived.Deep.RegionWith
import Derived.Deep.DeepCutAuto
import Derived.Test.YtkkkjbinfdohpaaS05
import Derived.Test.YtkkkjbinfdohpaaS06
set_option linter.unusedVariables false
set_option linter.unusedSimpArgs false
set_option maxRecDepth 100000
set_option maxHeartbeats 16000000
namespace Go.Proofs.Ytkkkjbinfdohpaa
namespace Two
def covers (l : List (Nat × Nat)) (t n : Nat) : Bool := (List.range (2 ^ n)).all fun x => !t.testBit x || l.any (has · x)
def allWithin (l : List (Nat × Nat)) (t n : Nat) : Prop := ∀ k ∈ l, within k t n = true
def minF (t n : Nat) (l : List (Nat × Nat)) : Nat → List (Nat × Nat)
  | 0 => l
  | i + 1 => minF t n (if covers (l.eraseIdx i) t n then l.eraseIdx i else l) i
def minimal (t n : Nat) : List (Nat × Nat) := minF t n (primes t n) (primes t n).length
end Two
end Go.Proofs.Ytkkkjbinfdohpaa
namespace Go.Proofs.Ytkkkjbinfdohpaa
open Go.RowKit
def fitsT (t n : Int) : Bool := decide (0 ≤ n ∧ n ≤ 4 ∧ 0 ≤ t ∧ t < 2 ^ 2 ^ n.toNat)
end Go.Proofs.Ytkkkjbinfdohpaa
namespace Go.Proofs.Ytkkkjbinfdohpaa
open Go.RowKit
def CubesN (w : World) (v : Value) (ks : List (Nat × Nat)) : Prop := CubesAt w v (ks.map intK)
def Found (l : List (Nat × Nat)) (p : Nat × Nat → Bool) (w : World) (e : Ending) (w' : World) : Prop :=
  ∃ r : Int, e = .returned (.int .i64 r) ∧ (decide (0 ≤ r) = l.any p) ∧ Below w.heap.size w w'
end Go.Proofs.Ytkkkjbinfdohpaa
namespace Go.Proofs.Ytkkkjbinfdohpaa
open Go.RowKit
end Go.Proofs.Ytkkkjbinfdohpaa
namespace Go.Proofs.Ytkkkjbinfdohpaa
open Go.RowKit
theorem cubes_one (ks : List (Int × Int)) : ∀ u ∈ cubes ks, u.oneCell' = true := by
 intro u hu
 unfold cubes at hu
 obtain ⟨k, _, hk⟩ := List.mem_flatMap.1 hu
 simp at hk
 rcases hk with rfl | rfl <;> rfl
namespace Two
end Two
def primesI (t n : Int) : List (Nat × Nat) := if fitsT t n then Two.primes t.toNat n.toNat else []
def PrimesOut (t n : Int) (w : World) (e : Ending) (w' : World) : Prop :=
  ∃ v, e = .returned v ∧ w'.ownsRow w.heap.size 35 2 v (primesI t n).length (cubes ((primesI t n).map intK)) ∧ Below w.heap.size w w'
end Go.Proofs.Ytkkkjbinfdohpaa
namespace Go.Proofs.Ytkkkjbinfdohpaa
open Go.RowKit Go.Maps
theorem circOwn_two {w : World} {v : Value} {c : Cz} {k1 k2 : Nat} {a b d e a' b' d' e' : Value} {old old2 : Array Value} (h : CircOwn 0 w v c) (h1 : w.heap[k1]? = some (.cells old 26 (0, 0))) (h2 : w.heap[k2]? = some (.cells old2 26 (0, 0))) (hne : k1 ≠ k2) :
  CircOwn 0 ((((((((w.setCell ⟨k1, 0, none⟩ a).setCell ⟨k1, 1, none⟩ b).setCell ⟨k1, 2, none⟩ d).setCell ⟨k1, 3, none⟩ e).setCell ⟨k2, 0, none⟩ a').setCell ⟨k2, 1, none⟩ b').setCell ⟨k2, 2, none⟩ d').setCell ⟨k2, 3, none⟩ e') v c :=
 circOwn_four (circOwn_four h h1) (((set4_only w k1 a b d e).block k2 (blk_ltB h2) (fun e => hne e.symm)).trans h2)
theorem only_two {R : Nat} {w0 w : World} {k1 k2 : Nat} {a b d e a' b' d' e' : Value} (h : Only (fun g => g = R) w0 w) (h1 : w0.heap.size ≤ k1) (h2 : w0.heap.size ≤ k2) :
  Only (fun g => g = R) w0 ((((((((w.setCell ⟨k1, 0, none⟩ a).setCell ⟨k1, 1, none⟩ b).setCell ⟨k1, 2, none⟩ d).setCell ⟨k1, 3, none⟩ e).setCell ⟨k2, 0, none⟩ a').setCell ⟨k2, 1, none⟩ b').setCell ⟨k2, 2, none⟩ d').setCell ⟨k2, 3, none⟩ e') :=
 (h.aft (set4_only w k1 a b d e) (fun g hg => .inl (by omega))).aft (set4_only _ k2 a' b' d' e') (fun g hg => .inl (by omega))
theorem circOwn_row {w : World} {L0 : Int} {vn vg vo : Value} {c : Cz} (h : CircOwn 0 w (.agg #[.int .i64 L0, vn, vg, vo]) c) : w.ownsRow 0 64 2 vg c.gates.length (cubes c.gates) ∧ (w.ownsRow 0 3 1 vn c.next.length (ints c.next) ∧ w.ownsRow 0 3 1 vo c.outs.length (ints c.outs)) := by
 obtain ⟨a, b, d, e, h1, h2, h3⟩ := h
 injection e with e
 simp only [Array.mk.injEq, List.cons.injEq, and_true] at e
 obtain ⟨-, rfl, rfl, rfl⟩ := e
 exact ⟨h2, h1, h3⟩
theorem circOwn_gates {w : World} {L0 : Int} {vn vg vo vg' : Value} {c : Cz} {n : Nat} {ks : List (Int × Int)} (h : CircOwn 0 w (.agg #[.int .i64 L0, vn, vg, vo]) c) (hg : w.ownsRow 0 64 2 vg' n (cubes ks)) (hl : ks.length = n) : CircOwn 0 w (.agg #[.int .i64 L0, vn, vg', vo]) ⟨L0, c.next, ks, c.outs⟩ := by
 obtain ⟨h1, h2, h3⟩ := circOwn_row h
 exact ⟨vn, vg', vo, rfl, h2, by show w.ownsRow 0 64 2 vg' ks.length (cubes ks); rw [hl]; exact hg, h3⟩
theorem circOwn_gset {w w' : World} {L0 : Int} {vn vg vo v8 : Value} {c : Cz} {g8 B n : Nat} {cs : List Value} (h : CircOwn 0 w (.agg #[.int .i64 L0, vn, vg, vo]) c) (ho : Only (fun g => g = g8) w w') (h8 : w.ownsRow B 64 2 v8 n cs) (hb : v8.ownBlock = some g8) (hg : vg.ownBlock ≠ some g8) : CircOwn 0 w' (.agg #[.int .i64 L0, vn, vg, vo]) c := by
 have h' := h
 obtain ⟨a, b, d, e, -⟩ := h
 obtain ⟨h1, h2, h3⟩ := circOwn_row h'
 injection e with e
 simp only [Array.mk.injEq, List.cons.injEq, and_true] at e
 obtain ⟨e0, -⟩ := e
 refine ⟨vn, vg, vo, by rw [e0], own_only h2 ho (fun g hg e => own_ne_own h2 h8 (by decide) hg (by rw [e]; exact hb)), own_only h1 ho (fun g hg' e => hg (by rw [← e]; exact hg')), own_only h3 ho (fun g hg e => own_ne_own h3 h8 (by decide) hg (by rw [e]; exact hb))⟩
theorem append_gatesP {w : World} {ops : Array Oper} {rest : List Oper} {o : Oper} {a : Act} {Q : Exit → Act → World → Prop} (hgd : o.guard = none) (s x : Operand)
  (ho : o.op = .call { callee := .builtin .append, args := #[s, x], argTypes := #[24, 24] })
  (base : Nat) (v : Value) (n : Nat) (xs : List Value) (hs : a.eval s = v) (hown : w.ownsRow base 64 2 v n xs) (sv : Value) (m : Nat) (news : List Value) (hx : a.eval x = sv) (hr : Row w 2 sv m news) (h1 : ∀ u ∈ news, u.oneCell' = true)
  (h63 : n + m ≤ 1000000) (hbase : base ≤ w.heap.size)
  (h : ∀ v' w', w'.ownsRow base 64 2 v' (n + m) (xs ++ news) → w.grownBy w' v.ownBlock → (v'.ownBlock = v.ownBlock ∨ v'.ownBlock = some w.heap.size) → wpList Try.prog ops Q rest (a.put o.dst v') w') : wpList Try.prog ops Q (o :: rest) a w := by
 obtain ⟨i, hi, hz0, hz1, hz2⟩ := info_parts info_gate
 exact wpList_append_at hgd s x 24 ho base 64 i _ 2 16 Try.underlying24 hi hz0 hz1 hz2 rfl (by decide) v n xs hs hown sv m news hx hr h1 (by unfold maxLen; omega) (by omega) hbase h
theorem l20Pair_any (R P : Nat) (w : World) (h : Rd w R P) (hP : P ≤ 50000) :
  Calls Try.prog 103 #[.pointer (some ⟨R, 0, none⟩)] w (DrewTwo R w) := by
 have zR := h.lt
 obtain ⟨n0, hn0⟩ : ∃ n0, w.heap.size = n0 := ⟨_, rfl⟩
 have hX0 := heap_alloc_new w (.cells #[.int .i64 0, .slice none 0 0, .slice none 0 0, .slice none 0 0] 26)
 have hb0 := bel_new w (.cells #[.int .i64 0, .slice none 0 0, .slice none 0 0, .slice none 0 0] 26)
 have hb1 := bel_new (w.alloc (.cells #[.int .i64 0, .slice none 0 0, .slice none 0 0, .slice none 0 0] 26)) (.cells #[.int .i64 0, .slice none 0 0, .slice none 0 0, .slice none 0 0] 26)
 have hX1 := heap_alloc_new (w.alloc (.cells #[.int .i64 0, .slice none 0 0, .slice none 0 0, .slice none 0 0] 26)) (.cells #[.int .i64 0, .slice none 0 0, .slice none 0 0, .slice none 0 0] 26)
 have hX0 := (hb1.block w.heap.size (by rw [World.size_alloc]; omega)).trans hX0
 have hs : ((w.alloc (.cells #[.int .i64 0, .slice none 0 0, .slice none 0 0, .slice none 0 0] 26)).alloc (.cells #[.int .i64 0, .slice none 0 0, .slice none 0 0, .slice none 0 0] 26)).heap.size = w.heap.size + 1 + 1 := by simp
 have Hr0 := Lib.hid ((h.alloc (.cells #[.int .i64 0, .slice none 0 0, .slice none 0 0, .slice none 0 0] 26)).alloc (.cells #[.int .i64 0, .slice none 0 0, .slice none 0 0, .slice none 0 0] 26))
 have HO0 : Hid (Only (fun g => g = R) w ((w.alloc (.cells #[.int .i64 0, .slice none 0 0, .slice none 0 0, .slice none 0 0] 26)).alloc (.cells #[.int .i64 0, .slice none 0 0, .slice none 0 0, .slice none 0 0] 26))) := Lib.hid (Only.of_below _ (hb0.trans (hb1.mono hb0.size)))
 rw [World.size_alloc] at hX1
 have HX0 := Lib.hid hX0
 have HX1 := Lib.hid hX1
 clear hX0 hX1 hb0 hb1 h
 go_enter Try.func103, Try.ntmps103
 go_wp2_with fail
 generalize (w.alloc (.cells #[.int .i64 0, .slice none 0 0, .slice none 0 0, .slice none 0 0] 26)).alloc (.cells #[.int .i64 0, .slice none 0 0, .slice none 0 0, .slice none 0 0] 26) = W2 at *
 rw [hn0] at HX0 HX1 hs zR
 try rw [hn0]
 obtain ⟨n1, hn1⟩ : ∃ n1, n0 + 1 = n1 := ⟨_, rfl⟩
 rw [hn1] at HX1 hs
 rw [hn1]
 have hn01 : n0 < n1 := by omega
 have Hw := Lib.hid hn0
 clear hn1 hn0
 refine (l20Circuit_any R P 16 _ Hr0.out (by omega) (by omega) (by omega)).mono ?_
 rintro e w3 ⟨v3, c, rfl, hO, hS, hr3, hg3⟩
 have HX03 := Lib.hid (res_grown HX0.out hg3 (fun e => by have := Option.some.inj e; omega))
 have HX13 := Lib.hid (res_grown HX1.out hg3 (fun e => by have := Option.some.inj e; omega))
 have HO3 := Lib.hid (HO0.out.trans (Only.grown hg3 fun k hk => (Option.some.inj hk).symm))
 have Hr3 := Lib.hid hr3
 have hC := hO.circ
 obtain ⟨An, cn, Ag, cg, Ao, co, rfl⟩ := hC.shape
 have HC := Lib.hid hC
 have hSg : c.gates.length ≤ 15 := hS.g
 have hz3 := hg3.size
 obtain ⟨L1, hL1⟩ : ∃ L1, c.next.length = L1 := ⟨_, rfl⟩
 obtain ⟨L2, hL2⟩ : ∃ L2, c.gates.length = L2 := ⟨_, rfl⟩
 obtain ⟨L3, hL3⟩ : ∃ L3, c.outs.length = L3 := ⟨_, rfl⟩
 obtain ⟨L0, hL0⟩ : ∃ L0, c.ins = L0 := ⟨_, rfl⟩
 rw [hL1, hL2, hL3, hL0] at HC
 rw [hL1, hL2, hL3, hL0]
 rw [hL2] at hSg
 have HL2 := Lib.hid hL2
 clear hO hC hr3 hg3 HX0 HX1 HO0 Hr0 hS hL1 hL2 hL3 hL0
 have hA := heap_alloc_new w3 (.cells #[.int .i64 L0, .slice An L1 cn, .slice Ag L2 cg, .slice Ao L3 co] 26)
 have hb4 := bel_new w3 (.cells #[.int .i64 L0, .slice An L1 cn, .slice Ag L2 cg, .slice Ao L3 co] 26)
 have hb5 := bel_new (w3.alloc (.cells #[.int .i64 L0, .slice An L1 cn, .slice Ag L2 cg, .slice Ao L3 co] 26)) (.cells #[.int .i64 L0, .slice An L1 cn, .slice Ag L2 cg, .slice Ao L3 co] 26)
 have hB := heap_alloc_new (w3.alloc (.cells #[.int .i64 L0, .slice An L1 cn, .slice Ag L2 cg, .slice Ao L3 co] 26)) (.cells #[.int .i64 L0, .slice An L1 cn, .slice Ag L2 cg, .slice Ao L3 co] 26)
 have hA := (hb5.block w3.heap.size (by rw [World.size_alloc]; omega)).trans hA
 have hb := hb4.trans (hb5.mono hb4.size)
 rw [World.size_alloc] at hB
 have HX05 := Lib.hid ((hb.block n0 (blk_ltB HX03.out)).trans HX03.out)
 have HX15 := Lib.hid ((hb.block n1 (blk_ltB HX13.out)).trans HX13.out)
 have HO5 := Lib.hid (HO3.out.trans (Only.of_below (fun g => g = R) hb))
 have Hr5 := Lib.hid ((Hr3.out.alloc (.cells #[.int .i64 L0, .slice An L1 cn, .slice Ag L2 cg, .slice Ao L3 co] 26)).alloc (.cells #[.int .i64 L0, .slice An L1 cn, .slice Ag L2 cg, .slice Ao L3 co] 26))
 have HC5 := Lib.hid (HC.out.below hb)
 have HA := Lib.hid hA
 have HB := Lib.hid hB
 have hs5 : ((w3.alloc (.cells #[.int .i64 L0, .slice An L1 cn, .slice Ag L2 cg, .slice Ao L3 co] 26)).alloc (.cells #[.int .i64 L0, .slice An L1 cn, .slice Ag L2 cg, .slice Ao L3 co] 26)).heap.size = w3.heap.size + 2 := by simp
 clear hA hB hb hb4 hb5 HX03 HX13 HO3 Hr3 HC
 go_wp2_with fail
 generalize (w3.alloc (.cells #[.int .i64 L0, .slice An L1 cn, .slice Ag L2 cg, .slice Ao L3 co] 26)).alloc (.cells #[.int .i64 L0, .slice An L1 cn, .slice Ag L2 cg, .slice Ao L3 co] 26) = w5 at *
 obtain ⟨g4, hg4⟩ : ∃ g, w3.heap.size = g := ⟨_, rfl⟩
 obtain ⟨g5, hg5⟩ : ∃ g, w3.heap.size + 1 = g := ⟨_, rfl⟩
 rw [hg5] at HB
 rw [hg4] at HA
 rw [hg5, hg4]
 have h45 : g4 < g5 := by omega
 have hn4 : n1 < g4 := by omega
 clear hg4 hg5 hs5 hs hz3
 refine (pick_any 4 R _ _ Hr5.out (by omega) (by omega) (by omega)).mono ?_
 rintro e w6 ⟨x, hx0, hx1, rfl, hr6, hg6⟩
 have hRn : R < n0 := zR
 have HX06 := Lib.hid (res_grown HX05.out hg6 (fun e => by have := Option.some.inj e; omega))
 have HX16 := Lib.hid (res_grown HX15.out hg6 (fun e => by have := Option.some.inj e; omega))
 have HA6 := Lib.hid (res_grown HA.out hg6 (fun e => by have := Option.some.inj e; omega))
 have HB6 := Lib.hid (res_grown HB.out hg6 (fun e => by have := Option.some.inj e; omega))
 have HO6 := Lib.hid (HO5.out.trans (Only.grown hg6 fun k hk => (Option.some.inj hk).symm))
 have HC6 := Lib.hid (HC5.out.rd Hr5.out hg6)
 have Hr6 := Lib.hid hr6
 clear hr6 hg6 HX05 HX15 HA HB HO5 HC5 Hr5
 have a0 := blk_cell HA6.out 0
 have a1 := blk_cell HA6.out 1
 have a2 := blk_cell HA6.out 2
 have a3 := blk_cell HA6.out 3
 simp at a0 a1 a2 a3
 obtain rfl | rfl | hx : x = 0 ∨ x = 1 ∨ 2 ≤ x := by omega
 ·go_wp2_with fail
  refine (l20Circuit_any R _ 16 _ Hr6.out (by omega) (by omega) (by omega)).mono ?_
  rintro e w7 ⟨v7, c7, rfl, hO7, hS7, hr7, hg7⟩
  have HX07 := Lib.hid (res_grown HX06.out hg7 (fun e => by have := Option.some.inj e; omega))
  have HX17 := Lib.hid (res_grown HX16.out hg7 (fun e => by have := Option.some.inj e; omega))
  have HA7 := Lib.hid (res_grown HA6.out hg7 (fun e => by have := Option.some.inj e; omega))
  have HB7 := Lib.hid (res_grown HB6.out hg7 (fun e => by have := Option.some.inj e; omega))
  have HO7 := Lib.hid (HO6.out.trans (Only.grown hg7 fun k hk => (Option.some.inj hk).symm))
  have HCa := Lib.hid (HC6.out.rd Hr6.out hg7)
  have hCb := hO7.circ
  clear hO7 hS7 hr7 hg7 HX06 HX16 HA6 HB6 HO6 HC6 Hr6 a0 a1 a2 a3
  obtain ⟨B1, b1, B2, b2, B4, b4, rfl⟩ := hCb.shape
  obtain ⟨M1, hM1⟩ : ∃ M1, c7.next.length = M1 := ⟨_, rfl⟩
  obtain ⟨M2, hM2⟩ : ∃ M2, c7.gates.length = M2 := ⟨_, rfl⟩
  obtain ⟨M3, hM3⟩ : ∃ M3, c7.outs.length = M3 := ⟨_, rfl⟩
  obtain ⟨M0, hM0⟩ : ∃ M0, c7.ins = M0 := ⟨_, rfl⟩
  rw [hM1, hM2, hM3, hM0] at hCb
  rw [hM1, hM2, hM3, hM0]
  clear hM1 hM2 hM3 hM0
  have HCb := Lib.hid hCb
  clear hCb
  have q0 := blk_cell HB7.out 0
  have q1 := blk_cell HB7.out 1
  have q2 := blk_cell HB7.out 2
  have q3 := blk_cell HB7.out 3
  have t0 := blk_free HB7.out 0
  have t1 := blk_free HB7.out 1
  have t2 := blk_free HB7.out 2
  have t3 := blk_free HB7.out 3
  simp at q0 q1 q2 q3
  have hs4 := set4_only w7 g5 (.int .i64 M0) (.slice B1 M1 b1) (.slice B2 M2 b2) (.slice B4 M3 b4)
  have HB8 := Lib.hid (set4_heap (a := .int .i64 M0) (b := .slice B1 M1 b1) (c := .slice B2 M2 b2) (d := .slice B4 M3 b4) HB7.out)
  have HX08 := Lib.hid ((hs4.block n0 (blk_ltB HX07.out) (by omega)).trans HX07.out)
  have HX18 := Lib.hid ((hs4.block n1 (blk_ltB HX17.out) (by omega)).trans HX17.out)
  have HA8 := Lib.hid ((hs4.block g4 (blk_ltB HA7.out) (by omega)).trans HA7.out)
  have HCa8 := Lib.hid (HCa.out.tag HB7.out (by decide) (by decide) hs4)
  have HCb8 := Lib.hid (HCb.out.tag HB7.out (by decide) (by decide) hs4)
  have HO8 := Lib.hid (HO7.out.aft hs4 (fun g hg => .inl (by have := Hw.out; omega)))
  clear hs4 HX07 HX17 HA7 HB7 HCa HCb HO7
  go_wp2_with fail
  generalize ((((w7.setCell ⟨g5, 0, none⟩ (.int .i64 M0)).setCell ⟨g5, 1, none⟩ (.slice B1 M1 b1)).setCell ⟨g5, 2, none⟩ (.slice B2 M2 b2)).setCell ⟨g5, 3, none⟩ (.slice B4 M3 b4)) = w8 at *
  have a0 := blk_cell HA8.out 0
  have a1 := blk_cell HA8.out 1
  have a2 := blk_cell HA8.out 2
  have a3 := blk_cell HA8.out 3
  have q0 := blk_cell HB8.out 0
  have q1 := blk_cell HB8.out 1
  have q2 := blk_cell HB8.out 2
  have q3 := blk_cell HB8.out 3
  simp at a0 a1 a2 a3 q0 q1 q2 q3
  have x00 := blk_cell HX08.out 0
  have x01 := blk_cell HX08.out 1
  have x02 := blk_cell HX08.out 2
  have x03 := blk_cell HX08.out 3
  have x10 := blk_cell HX18.out 0
  have x11 := blk_cell HX18.out 1
  have x12 := blk_cell HX18.out 2
  have x13 := blk_cell HX18.out 3
  have f00 := blk_free HX08.out 0
  have f01 := blk_free HX08.out 1
  have f02 := blk_free HX08.out 2
  have f03 := blk_free HX08.out 3
  have f10 := blk_free HX18.out 0
  have f11 := blk_free HX18.out 1
  have f12 := blk_free HX18.out 2
  have f13 := blk_free HX18.out 3
  simp at x00 x01 x02 x03 x10 x11 x12 x13
  have hne : n0 ≠ n1 := by omega
  have hne' : n1 ≠ n0 := by omega
  have hwn0 : w.heap.size ≤ n0 := by have := Hw.out; omega
  have hwn1 : w.heap.size ≤ n1 := by omega
  go_region
  all_goals
   go_wp2_with fail
   refine bodyPost_ret (v := .tuple #[.agg #[.int .i64 L0, .slice An L1 cn, .slice Ag L2 cg, .slice Ao L3 co], .agg #[.int .i64 M0, .slice B1 M1 b1, .slice B2 M2 b2, .slice B4 M3 b4]]) (by simp [results, Try.results103, go_sem, x00, x01, x02, x03, x10, x11, x12, x13, hne, hne']) rfl ⟨_, _, c, c7, rfl, ?_, ?_, ?_⟩
   ·first | with_reducible exact CircOwn.below (circOwn_two HCa8.out HX08.out HX18.out hne) (Below.refl _ _).drew | with_reducible exact CircOwn.below (circOwn_two HCa8.out HX18.out HX08.out hne') (Below.refl _ _).drew
   ·first | with_reducible exact CircOwn.below (circOwn_two HCb8.out HX08.out HX18.out hne) (Below.refl _ _).drew | with_reducible exact CircOwn.below (circOwn_two HCb8.out HX18.out HX08.out hne') (Below.refl _ _).drew
   ·first | with_reducible exact (only_two HO8.out hwn0 hwn1).trans (Only.of_below _ (Below.refl _ _).drew) | with_reducible exact (only_two HO8.out hwn1 hwn0).trans (Only.of_below _ (Below.refl _ _).drew)
 ·go_wp2_with fail
  refine (specOpt_any _ c _ HC6.out.at).mono ?_
  rintro e w7 ⟨⟨v7, c7, rfl, hC7, -⟩, hb7⟩
  have HX07 := Lib.hid ((hb7.block n0 (blk_ltB HX06.out)).trans HX06.out)
  have HX17 := Lib.hid ((hb7.block n1 (blk_ltB HX16.out)).trans HX16.out)
  have HA7 := Lib.hid ((hb7.block g4 (blk_ltB HA6.out)).trans HA6.out)
  have HB7 := Lib.hid ((hb7.block g5 (blk_ltB HB6.out)).trans HB6.out)
  have HO7 := Lib.hid (HO6.out.trans (Only.of_below (fun g => g = R) hb7))
  have HCa := Lib.hid (HC6.out.below hb7)
  have hCb := hC7
  clear hC7 hb7 HX06 HX16 HA6 HB6 HO6 HC6 Hr6 a0 a1 a2 a3
  obtain ⟨B1, b1, B2, b2, B4, b4, rfl⟩ := hCb.shape
  obtain ⟨M1, hM1⟩ : ∃ M1, c7.next.length = M1 := ⟨_, rfl⟩
  obtain ⟨M2, hM2⟩ : ∃ M2, c7.gates.length = M2 := ⟨_, rfl⟩
  obtain ⟨M3, hM3⟩ : ∃ M3, c7.outs.length = M3 := ⟨_, rfl⟩
  obtain ⟨M0, hM0⟩ : ∃ M0, c7.ins = M0 := ⟨_, rfl⟩
  rw [hM1, hM2, hM3, hM0] at hCb
  rw [hM1, hM2, hM3, hM0]
  clear hM1 hM2 hM3 hM0
  have HCb := Lib.hid hCb
  clear hCb
  have q0 := blk_cell HB7.out 0
  have q1 := blk_cell HB7.out 1
  have q2 := blk_cell HB7.out 2
  have q3 := blk_cell HB7.out 3
  have t0 := blk_free HB7.out 0
  have t1 := blk_free HB7.out 1
  have t2 := blk_free HB7.out 2
  have t3 := blk_free HB7.out 3
  simp at q0 q1 q2 q3
  have hs4 := set4_only w7 g5 (.int .i64 M0) (.slice B1 M1 b1) (.slice B2 M2 b2) (.slice B4 M3 b4)
  have HB8 := Lib.hid (set4_heap (a := .int .i64 M0) (b := .slice B1 M1 b1) (c := .slice B2 M2 b2) (d := .slice B4 M3 b4) HB7.out)
  have HX08 := Lib.hid ((hs4.block n0 (blk_ltB HX07.out) (by omega)).trans HX07.out)
  have HX18 := Lib.hid ((hs4.block n1 (blk_ltB HX17.out) (by omega)).trans HX17.out)
  have HA8 := Lib.hid ((hs4.block g4 (blk_ltB HA7.out) (by omega)).trans HA7.out)
  have HCa8 := Lib.hid (HCa.out.tag HB7.out (by decide) (by decide) hs4)
  have HCb8 := Lib.hid (HCb.out.tag HB7.out (by decide) (by decide) hs4)
  have HO8 := Lib.hid (HO7.out.aft hs4 (fun g hg => .inl (by have := Hw.out; omega)))
  clear hs4 HX07 HX17 HA7 HB7 HCa HCb HO7
  go_wp2_with fail
  generalize ((((w7.setCell ⟨g5, 0, none⟩ (.int .i64 M0)).setCell ⟨g5, 1, none⟩ (.slice B1 M1 b1)).setCell ⟨g5, 2, none⟩ (.slice B2 M2 b2)).setCell ⟨g5, 3, none⟩ (.slice B4 M3 b4)) = w8 at *
  have a0 := blk_cell HA8.out 0
  have a1 := blk_cell HA8.out 1
  have a2 := blk_cell HA8.out 2
  have a3 := blk_cell HA8.out 3
  have q0 := blk_cell HB8.out 0
  have q1 := blk_cell HB8.out 1
  have q2 := blk_cell HB8.out 2
  have q3 := blk_cell HB8.out 3
  simp at a0 a1 a2 a3 q0 q1 q2 q3
  have x00 := blk_cell HX08.out 0
  have x01 := blk_cell HX08.out 1
  have x02 := blk_cell HX08.out 2
  have x03 := blk_cell HX08.out 3
  have x10 := blk_cell HX18.out 0
  have x11 := blk_cell HX18.out 1
  have x12 := blk_cell HX18.out 2
  have x13 := blk_cell HX18.out 3
  have f00 := blk_free HX08.out 0
  have f01 := blk_free HX08.out 1
  have f02 := blk_free HX08.out 2
  have f03 := blk_free HX08.out 3
  have f10 := blk_free HX18.out 0
  have f11 := blk_free HX18.out 1
  have f12 := blk_free HX18.out 2
  have f13 := blk_free HX18.out 3
  simp at x00 x01 x02 x03 x10 x11 x12 x13
  have hne : n0 ≠ n1 := by omega
  have hne' : n1 ≠ n0 := by omega
  have hwn0 : w.heap.size ≤ n0 := by have := Hw.out; omega
  have hwn1 : w.heap.size ≤ n1 := by omega
  go_region
  all_goals
   go_wp2_with fail
   refine bodyPost_ret (v := .tuple #[.agg #[.int .i64 L0, .slice An L1 cn, .slice Ag L2 cg, .slice Ao L3 co], .agg #[.int .i64 M0, .slice B1 M1 b1, .slice B2 M2 b2, .slice B4 M3 b4]]) (by simp [results, Try.results103, go_sem, x00, x01, x02, x03, x10, x11, x12, x13, hne, hne']) rfl ⟨_, _, c, c7, rfl, ?_, ?_, ?_⟩
   ·first | with_reducible exact CircOwn.below (circOwn_two HCa8.out HX08.out HX18.out hne) (Below.refl _ _).drew | with_reducible exact CircOwn.below (circOwn_two HCa8.out HX18.out HX08.out hne') (Below.refl _ _).drew
   ·first | with_reducible exact CircOwn.below (circOwn_two HCb8.out HX08.out HX18.out hne) (Below.refl _ _).drew | with_reducible exact CircOwn.below (circOwn_two HCb8.out HX18.out HX08.out hne') (Below.refl _ _).drew
   ·first | with_reducible exact (only_two HO8.out hwn0 hwn1).trans (Only.of_below _ (Below.refl _ _).drew) | with_reducible exact (only_two HO8.out hwn1 hwn0).trans (Only.of_below _ (Below.refl _ _).drew)
 ·have hx1' : (x == 0) = false := by simp; omega
  have hx2' : (x == 1) = false := by simp; omega
  have b0 := blk_cell HB6.out 0
  have b1 := blk_cell HB6.out 1
  have b2 := blk_cell HB6.out 2
  have b3 := blk_cell HB6.out 3
  have t0 := blk_free HB6.out 0
  have t1 := blk_free HB6.out 1
  have t2 := blk_free HB6.out 2
  have t3 := blk_free HB6.out 3
  simp at b0 b1 b2 b3
  have hEl := Row.of_own (World.ownsRow_lit (base := w6.heap.size) (e := 64) (size := 2) w6 #[] 0 (Nat.le_refl _) (by unfold maxLen; omega) rfl)
  have hEo := World.ownsRow_lit (base := w6.heap.size) (e := 64) (size := 2) w6 #[] 0 (Nat.le_refl _) (by unfold maxLen; omega) rfl
  have HEo := Lib.hid hEo
  have hbe := bel_new w6 (.cells #[] 64)
  have HX07 := Lib.hid ((hbe.block n0 (blk_ltB HX06.out)).trans HX06.out)
  have HX17 := Lib.hid ((hbe.block n1 (blk_ltB HX16.out)).trans HX16.out)
  have HA7 := Lib.hid ((hbe.block g4 (blk_ltB HA6.out)).trans HA6.out)
  have HB7 := Lib.hid ((hbe.block g5 (blk_ltB HB6.out)).trans HB6.out)
  have HO7 := Lib.hid (HO6.out.trans (Only.of_below (fun g => g = R) hbe))
  have HC7 := Lib.hid (HC6.out.below hbe)
  have Hr7 := Lib.hid (Hr6.out.alloc (.cells #[] 64))
  have hz7 := hbe.size
  have hRG := circOwn_row HC7.out
  have HRG : Hid (Row (w6.alloc (.cells #[] 64)) 2 (.slice Ag L2 cg) L2 (cubes c.gates)) := Lib.hid (by have := Row.of_own hRG.1; rwa [HL2.out] at this)
  have HgL := Lib.hid hRG.2
  have hg5z := blk_ltB HB6.out
  have hzz7 : (w6.alloc (.cells #[] 64)).heap.size = w6.heap.size + 1 := by simp
  have e0 := blk_cell HA7.out 0
  have e1 := blk_cell HA7.out 1
  have e2 := blk_cell HA7.out 2
  have e3 := blk_cell HA7.out 3
  simp at e0 e1 e2 e3
  have Hbe := Lib.hid hbe
  clear hEl hEo hbe hRG HX06 HX16 HA6 HB6 HO6 Hr6
  go_wp2_with (at_builtin; refine Stop.out ?_)
  refine ⟨?_⟩
  refine append_gatesP rfl (.tmp 12) (.tmp 14) rfl w6.heap.size _ 0 [] rfl HEo.out (.slice Ag L2 cg) L2 (cubes c.gates) rfl HRG.out (cubes_one _) (by omega) (by omega) ?_
  intro v8 w8 hown8 hg8 hat8
  rw [Nat.zero_add, List.nil_append] at hown8
  obtain ⟨A8, c8, hv8⟩ := slice_of_own hown8
  subst hv8
  have Hown8 := Lib.hid hown8
  have ho8 := Only.grown (E := fun g => g = w6.heap.size) hg8 (fun k hk => (Option.some.inj hk).symm)
  have HX08 := Lib.hid ((ho8.block n0 (blk_ltB HX07.out) (by omega)).trans HX07.out)
  have HX18 := Lib.hid ((ho8.block n1 (blk_ltB HX17.out) (by omega)).trans HX17.out)
  have HA8 := Lib.hid ((ho8.block g4 (blk_ltB HA7.out) (by omega)).trans HA7.out)
  have HB8 := Lib.hid ((ho8.block g5 (blk_ltB HB7.out) (by omega)).trans HB7.out)
  have Ho8 := Lib.hid ho8
  have Hg8 := Lib.hid hg8
  have y0 := blk_cell HB8.out 0
  have y1 := blk_cell HB8.out 1
  have y2 := blk_cell HB8.out 2
  have y3 := blk_cell HB8.out 3
  have s0 := blk_free HB8.out 0
  have s1 := blk_free HB8.out 1
  have s2 := blk_free HB8.out 2
  have s3 := blk_free HB8.out 3
  simp at y0 y1 y2 y3
  clear hown8 hg8 hat8 ho8
  obtain ⟨w9, hw9⟩ : ∃ w9, w8.setCell ⟨g5, 2, none⟩ (.slice A8 L2 c8) = w9 := ⟨_, rfl⟩
  have hs1 := set1_only w8 g5 2 (.slice A8 L2 c8)
  have HB9 := heap_setCell_same w8 g5 2 _ _ (.slice A8 L2 c8) HB8.out
  simp at HB9
  rw [hw9] at hs1 HB9
  have HB9 := Lib.hid HB9
  have HX09 := Lib.hid ((hs1.block n0 (blk_ltB HX08.out) (by omega)).trans HX08.out)
  have HX19 := Lib.hid ((hs1.block n1 (blk_ltB HX18.out) (by omega)).trans HX18.out)
  have HA9 := Lib.hid ((hs1.block g4 (blk_ltB HA8.out) (by omega)).trans HA8.out)
  have HG9 : Hid (w9.ownsRow w6.heap.size 64 2 (.slice A8 L2 c8) L2 (cubes c.gates)) := Lib.hid (own_only Hown8.out hs1 (fun g hg e => own_ne_tag Hown8.out HB8.out (by decide) (by rw [hg, e])))
  have HC8 := HC6.out.only ((Only.of_below (fun g => g = w6.heap.size) Hbe.out).trans Ho8.out) (fun g hg e => by omega)
  have HC9 := Lib.hid (HC8.tag HB8.out (by decide) (by decide) hs1)
  have HO9 := Lib.hid ((HO7.out.aft Ho8.out (fun g hg => .inl (by have := Hw.out; omega))).aft hs1 (fun g hg => .inl (by have := Hw.out; omega)))
  have hz8 := Ho8.out.size
  have hz9 := hs1.size
  have hRw : R < w6.heap.size := by omega
  have hHr8 : Rd w8 R (P + 10000 + 1) := Hr7.out.grown Hg8.out (fun g hg => by have h : w6.heap.size = g := Option.some.inj hg; omega)
  have Hr9 : Hid (Rd w9 R (P + 10000 + 1)) := Lib.hid (by rw [← hw9]; exact rd_set hHr8 (by omega))
  have z0 := blk_cell HB9.out 0
  have z1 := blk_cell HB9.out 1
  have z2 := blk_cell HB9.out 2
  have z3 := blk_cell HB9.out 3
  simp at z0 z1 z2 z3
  have HAlt : Hid (∀ g, (Value.slice Ag L2 cg).ownBlock = some g → g < w6.heap.size) := Lib.hid fun g hg => ((circOwn_row HC6.out).1.lt g hg).2
  clear HC6 HC7 HC8 Hbe Ho8 Hg8 Hr7 HB8 HX08 HX18 HA8 HA7 HB7 HX07 HX17 HO7 Hown8 hHr8 HRG HEo
  by_cases hL : 0 < L2
  ·have dl : decide (0 < L2) = true := decide_eq_true hL
   go_wp2_with fail
   clear hw9
   refine (pick_any (L2 : Int) R _ _ Hr9.out (by omega) (by omega) (by omega)).mono ?_
   rintro e w10 ⟨k0, hk0, hk1, rfl, hr10, hg10⟩
   obtain ⟨k, rfl⟩ : ∃ k : Nat, k0 = (k : Int) := ⟨k0.toNat, by omega⟩
   have hkL : k < L2 := by omega
   have HXa := Lib.hid (res_grown HX09.out hg10 (fun e => by have := Option.some.inj e; omega))
   have HXb := Lib.hid (res_grown HX19.out hg10 (fun e => by have := Option.some.inj e; omega))
   have HAa := Lib.hid (res_grown HA9.out hg10 (fun e => by have := Option.some.inj e; omega))
   have HBa := Lib.hid (res_grown HB9.out hg10 (fun e => by have := Option.some.inj e; omega))
   have HOa := Lib.hid (HO9.out.trans (Only.grown hg10 fun k hk => (Option.some.inj hk).symm))
   have HCa := Lib.hid (HC9.out.rd Hr9.out hg10)
   have HGa := Lib.hid (own_only HG9.out (Only.grown (E := fun g => g = R) hg10 fun k hk => (Option.some.inj hk).symm) (fun g hg e => by have := (HG9.out.lt g hg).1; omega))
   have Hra := Lib.hid hr10
   clear hr10 hg10 HX09 HX19 HA9 HB9 HO9 HC9 HG9 Hr9 z0 z1 z2 z3
   go_wp2_with fail
   refine (pick_any 2 R _ _ Hra.out (by omega) (by omega) (by omega)).mono ?_
   rintro e w11 ⟨y, hy0, hy1, rfl, hr11, hg11⟩
   have HX07 := Lib.hid (res_grown HXa.out hg11 (fun e => by have := Option.some.inj e; omega))
   have HX17 := Lib.hid (res_grown HXb.out hg11 (fun e => by have := Option.some.inj e; omega))
   have HA7 := Lib.hid (res_grown HAa.out hg11 (fun e => by have := Option.some.inj e; omega))
   have HB7 := Lib.hid (res_grown HBa.out hg11 (fun e => by have := Option.some.inj e; omega))
   have HO7 := Lib.hid (HOa.out.trans (Only.grown hg11 fun k hk => (Option.some.inj hk).symm))
   have HC7 := Lib.hid (HCa.out.rd Hra.out hg11)
   have HG7 := Lib.hid (own_only HGa.out (Only.grown (E := fun g => g = R) hg11 fun k hk => (Option.some.inj hk).symm) (fun g hg e => by have := (HGa.out.lt g hg).1; omega))
   clear hr11 hg11 HXa HXb HAa HBa HOa HCa HGa Hra
   have z0 := blk_cell HB7.out 0
   have z1 := blk_cell HB7.out 1
   have z2 := blk_cell HB7.out 2
   have z3 := blk_cell HB7.out 3
   simp at z0 z1 z2 z3
   obtain ⟨g8, c8', hv8, hg81, hg82, -, -⟩ := own_open HG7.out hL
   injection hv8 with hA8 _ hc8
   subst hA8 hc8
   obtain ⟨ks, hks, hkl⟩ : ∃ ks, cubes c.gates = cubes ks ∧ ks.length = L2 := ⟨c.gates, rfl, HL2.out⟩
   rw [hks] at HG7
   have hcl : (cubes ks).length = L2 * 2 := by rw [cubes_length, hkl]
   obtain ⟨⟨a1, a2⟩, hka⟩ := at_some (show k < ks.length by omega)
   obtain ⟨cg1, cg2⟩ := cubes_get hka
   obtain ⟨v1, hv1, hd1, hf1⟩ := own_slot HG7.out (j := k * 2) (by omega)
   obtain ⟨v2, hv2, hd2, hf2⟩ := own_slot HG7.out (j := k * 2 + 1) (by omega)
   obtain rfl := Option.some.inj (hv1.symm.trans cg1)
   obtain rfl := Option.some.inj (hv2.symm.trans cg2)
   have hg8g : g8 ≠ g5 := fun e => own_ne_tag HG7.out HB7.out (by decide) (by rw [e]; rfl)
   have hn0z := blk_ltB HX07.out
   have hw68 : w6.heap.size ≤ g8 := hg81
   have HSt : Hid (∀ (W : World) (cs : List Value), Only (fun g => g = g8) w11 W → W.ownsRow w6.heap.size 64 2 (.slice (some ⟨g8, 0, none⟩) L2 c8) L2 cs → (∀ u ∈ cs, ∃ x : Int, u = .int .i64 x) → Hid (∃ ks : List (Int × Int), ks.length = L2 ∧ W.ownsRow w6.heap.size 64 2 (.slice (some ⟨g8, 0, none⟩) L2 c8) L2 (cubes ks)) ∧ Hid (W.heap[n0]? = some (.cells #[.int .i64 0, .slice none 0 0, .slice none 0 0, .slice none 0 0] 26 (0, 0))) ∧ Hid (W.heap[n1]? = some (.cells #[.int .i64 0, .slice none 0 0, .slice none 0 0, .slice none 0 0] 26 (0, 0))) ∧ Hid (W.heap[g4]? = some (.cells #[.int .i64 L0, .slice An L1 cn, .slice Ag L2 cg, .slice Ao L3 co] 26 (0, 0))) ∧ Hid (W.heap[g5]? = some (.cells #[.int .i64 L0, .slice An L1 cn, .slice (some ⟨g8, 0, none⟩) L2 c8, .slice Ao L3 co] 26 (0, 0))) ∧ Hid (CircOwn 0 W (.agg #[.int .i64 L0, .slice An L1 cn, .slice Ag L2 cg, .slice Ao L3 co]) c) ∧ Hid (Only (fun g => g = R) w W)) := Lib.hid fun W cs ho hO hi => by
    obtain ⟨ks', h1, h2⟩ := cubes_of L2 cs (by have := hO.1; omega) hi
    exact ⟨Lib.hid ⟨ks', h1, by rw [← h2]; exact hO⟩, Lib.hid ((ho.block n0 (blk_ltB HX07.out) (by omega)).trans HX07.out), Lib.hid ((ho.block n1 (blk_ltB HX17.out) (by omega)).trans HX17.out), Lib.hid ((ho.block g4 (blk_ltB HA7.out) (by omega)).trans HA7.out), Lib.hid ((ho.block g5 (blk_ltB HB7.out) (fun e => hg8g e.symm)).trans HB7.out), Lib.hid (circOwn_gset HC7.out ho HG7.out rfl (fun e => by have := HAlt.out g8 e; omega)), Lib.hid (HO7.out.aft ho (fun g hg => .inl (by have := Hw.out; omega)))⟩
   have hci := cubes_ints ks
   have hgo : Hid (∀ (j : Nat) (X : Int) (W : World) (cs : List Value), (W.ownsRow w6.heap.size 64 2 (.slice (some ⟨g8, 0, none⟩) L2 c8) L2 cs ∧ Only (fun g => g = g8) w11 W ∧ ∀ u ∈ cs, ∃ x : Int, u = .int .i64 x) → ((W.setCell ⟨g8, j, none⟩ (.int .i64 X)).ownsRow w6.heap.size 64 2 (.slice (some ⟨g8, 0, none⟩) L2 c8) L2 (cs.set j (.int .i64 X)) ∧ Only (fun g => g = g8) w11 (W.setCell ⟨g8, j, none⟩ (.int .i64 X)) ∧ ∀ u ∈ cs.set j (.int .i64 X), ∃ x : Int, u = .int .i64 x)) := Lib.hid fun j X W cs ⟨h1, h2, h3⟩ => ⟨(h1.stored j (.int .i64 X)).1, h2.trans (set1_only W g8 j (.int .i64 X)), set_ints h3 j X⟩
   have hst0 : w11.ownsRow w6.heap.size 64 2 (.slice (some ⟨g8, 0, none⟩) L2 c8) L2 (cubes ks) ∧ Only (fun g => g = g8) w11 w11 ∧ ∀ u ∈ cubes ks, ∃ x : Int, u = .int .i64 x := ⟨HG7.out, Only.refl _ _, hci⟩
   have Hst0 := Lib.hid hst0
   clear hst0 hci hv1 hv2 hka cg1 cg2 hcl hks hkl
   obtain rfl | rfl : y = 0 ∨ y = 1 := by omega
   ·go_wp2_with fail
    refine go_once2 (fun (w8 : World) (cs : List Value) => Hid (Only (fun g => g = g8) w11 w8 ∧ w8.ownsRow w6.heap.size 64 2 (.slice (some ⟨g8, 0, none⟩) L2 c8) L2 cs ∧ ∀ u ∈ cs, ∃ x : Int, u = .int .i64 x)) ?C (fun key => ?main) ?key
    case main =>
     go_region
     all_goals
      have h1 := hgo.out (k * 2) (bits .xor .i64 a1 1) w11 _ Hst0.out
      have hf := And.intro (h1.2.1.trans (Only.of_below (fun g => g = g8) (Below.refl _ _).drew)) (And.intro (own_below h1.1 (Below.refl _ _).drew) h1.2.2)
      generalize (w11.setCell ⟨g8, k * 2, none⟩ (.int .i64 (bits .xor .i64 a1 1))).drew = W at *
      generalize (cubes ks).set (k * 2) (.int .i64 (bits .xor .i64 a1 1)) = cs at *
      exact key W cs (Lib.hid hf)
    case key =>
     rintro w8 cs HK0
     have HK := HK0.out
     clear HX07 HX17 HA7 HB7 HO7 HC7 HG7 Hst0 hgo
     obtain ⟨⟨ks', hkl', HG8⟩, HX08, HX18, HA8, HB8, HCa8, HO8⟩ := HSt.out w8 cs HK.1 HK.2.1 HK.2.2
     have HCb8 := Lib.hid (circOwn_gates HCa8.out (own_mono HG8 (Nat.zero_le _)) hkl')
     clear HK0 HK
     go_wp2_with fail
     have a0 := blk_cell HA8.out 0
     have a1 := blk_cell HA8.out 1
     have a2 := blk_cell HA8.out 2
     have a3 := blk_cell HA8.out 3
     have q0 := blk_cell HB8.out 0
     have q1 := blk_cell HB8.out 1
     have q2 := blk_cell HB8.out 2
     have q3 := blk_cell HB8.out 3
     simp at a0 a1 a2 a3 q0 q1 q2 q3
     have x00 := blk_cell HX08.out 0
     have x01 := blk_cell HX08.out 1
     have x02 := blk_cell HX08.out 2
     have x03 := blk_cell HX08.out 3
     have x10 := blk_cell HX18.out 0
     have x11 := blk_cell HX18.out 1
     have x12 := blk_cell HX18.out 2
     have x13 := blk_cell HX18.out 3
     have f00 := blk_free HX08.out 0
     have f01 := blk_free HX08.out 1
     have f02 := blk_free HX08.out 2
     have f03 := blk_free HX08.out 3
     have f10 := blk_free HX18.out 0
     have f11 := blk_free HX18.out 1
     have f12 := blk_free HX18.out 2
     have f13 := blk_free HX18.out 3
     simp at x00 x01 x02 x03 x10 x11 x12 x13
     have hne : n0 ≠ n1 := by omega
     have hne' : n1 ≠ n0 := by omega
     have hwn0 : w.heap.size ≤ n0 := by have := Hw.out; omega
     have hwn1 : w.heap.size ≤ n1 := by omega
     go_region
     all_goals
      go_wp2_with fail
      refine bodyPost_ret (v := .tuple #[.agg #[.int .i64 L0, .slice An L1 cn, .slice Ag L2 cg, .slice Ao L3 co], .agg #[.int .i64 L0, .slice An L1 cn, .slice (some ⟨g8, 0, none⟩) L2 c8, .slice Ao L3 co]]) (by simp [results, Try.results103, go_sem, x00, x01, x02, x03, x10, x11, x12, x13, hne, hne']) rfl ⟨_, _, c, ⟨L0, c.next, ks', c.outs⟩, rfl, ?_, ?_, ?_⟩
      ·first | with_reducible exact CircOwn.below (circOwn_two HCa8.out HX08.out HX18.out hne) (Below.refl _ _).drew | with_reducible exact CircOwn.below (circOwn_two HCa8.out HX18.out HX08.out hne') (Below.refl _ _).drew
      ·first | with_reducible exact CircOwn.below (circOwn_two HCb8.out HX08.out HX18.out hne) (Below.refl _ _).drew | with_reducible exact CircOwn.below (circOwn_two HCb8.out HX18.out HX08.out hne') (Below.refl _ _).drew
      ·first | with_reducible exact (only_two HO8.out hwn0 hwn1).trans (Only.of_below _ (Below.refl _ _).drew) | with_reducible exact (only_two HO8.out hwn1 hwn0).trans (Only.of_below _ (Below.refl _ _).drew)
   ·go_wp2_with fail
    refine go_once2 (fun (w8 : World) (cs : List Value) => Hid (Only (fun g => g = g8) w11 w8 ∧ w8.ownsRow w6.heap.size 64 2 (.slice (some ⟨g8, 0, none⟩) L2 c8) L2 cs ∧ ∀ u ∈ cs, ∃ x : Int, u = .int .i64 x)) ?C2 (fun key => ?main2) ?key2
    case main2 =>
     go_region
     all_goals
      have h0 := hgo.out (k * 2) a2 w11 _ Hst0.out
      have h1 := hgo.out (k * 2 + 1) a1 _ _ h0
      have hf := And.intro (h1.2.1.trans (Only.of_below (fun g => g = g8) (Below.refl _ _).drew)) (And.intro (own_below h1.1 (Below.refl _ _).drew) h1.2.2)
      clear h0
      generalize ((w11.setCell ⟨g8, k * 2, none⟩ (.int .i64 a2)).setCell ⟨g8, k * 2 + 1, none⟩ (.int .i64 a1)).drew = W at *
      generalize ((cubes ks).set (k * 2) (.int .i64 a2)).set (k * 2 + 1) (.int .i64 a1) = cs at *
      exact key W cs (Lib.hid hf)
    case key2 =>
     rintro w8 cs HK0
     have HK := HK0.out
     clear HX07 HX17 HA7 HB7 HO7 HC7 HG7 Hst0 hgo
     obtain ⟨⟨ks', hkl', HG8⟩, HX08, HX18, HA8, HB8, HCa8, HO8⟩ := HSt.out w8 cs HK.1 HK.2.1 HK.2.2
     have HCb8 := Lib.hid (circOwn_gates HCa8.out (own_mono HG8 (Nat.zero_le _)) hkl')
     clear HK0 HK
     go_wp2_with fail
     have a0 := blk_cell HA8.out 0
     have a1 := blk_cell HA8.out 1
     have a2 := blk_cell HA8.out 2
     have a3 := blk_cell HA8.out 3
     have q0 := blk_cell HB8.out 0
     have q1 := blk_cell HB8.out 1
     have q2 := blk_cell HB8.out 2
     have q3 := blk_cell HB8.out 3
     simp at a0 a1 a2 a3 q0 q1 q2 q3
     have x00 := blk_cell HX08.out 0
     have x01 := blk_cell HX08.out 1
     have x02 := blk_cell HX08.out 2
     have x03 := blk_cell HX08.out 3
     have x10 := blk_cell HX18.out 0
     have x11 := blk_cell HX18.out 1
     have x12 := blk_cell HX18.out 2
     have x13 := blk_cell HX18.out 3
     have f00 := blk_free HX08.out 0
     have f01 := blk_free HX08.out 1
     have f02 := blk_free HX08.out 2
     have f03 := blk_free HX08.out 3
     have f10 := blk_free HX18.out 0
     have f11 := blk_free HX18.out 1
     have f12 := blk_free HX18.out 2
     have f13 := blk_free HX18.out 3
     simp at x00 x01 x02 x03 x10 x11 x12 x13
     have hne : n0 ≠ n1 := by omega
     have hne' : n1 ≠ n0 := by omega
     have hwn0 : w.heap.size ≤ n0 := by have := Hw.out; omega
     have hwn1 : w.heap.size ≤ n1 := by omega
     go_region
     all_goals
      go_wp2_with fail
      refine bodyPost_ret (v := .tuple #[.agg #[.int .i64 L0, .slice An L1 cn, .slice Ag L2 cg, .slice Ao L3 co], .agg #[.int .i64 L0, .slice An L1 cn, .slice (some ⟨g8, 0, none⟩) L2 c8, .slice Ao L3 co]]) (by simp [results, Try.results103, go_sem, x00, x01, x02, x03, x10, x11, x12, x13, hne, hne']) rfl ⟨_, _, c, ⟨L0, c.next, ks', c.outs⟩, rfl, ?_, ?_, ?_⟩
      ·first | with_reducible exact CircOwn.below (circOwn_two HCa8.out HX08.out HX18.out hne) (Below.refl _ _).drew | with_reducible exact CircOwn.below (circOwn_two HCa8.out HX18.out HX08.out hne') (Below.refl _ _).drew
      ·first | with_reducible exact CircOwn.below (circOwn_two HCb8.out HX08.out HX18.out hne) (Below.refl _ _).drew | with_reducible exact CircOwn.below (circOwn_two HCb8.out HX18.out HX08.out hne') (Below.refl _ _).drew
      ·first | with_reducible exact (only_two HO8.out hwn0 hwn1).trans (Only.of_below _ (Below.refl _ _).drew) | with_reducible exact (only_two HO8.out hwn1 hwn0).trans (Only.of_below _ (Below.refl _ _).drew)
  ·have dl : decide (0 < L2) = false := decide_eq_false hL
   have HCb8 := Lib.hid (circOwn_gates HC9.out (own_mono HG9.out (Nat.zero_le _)) HL2.out)
   have HX08 := HX09
   have HX18 := HX19
   have HA8 := HA9
   have HB8 := HB9
   have HCa8 := HC9
   have HO8 := HO9
   clear HX09 HX19 HA9 HB9 HC9 HO9 HG9 Hr9
   go_wp2_with fail
   clear hw9
   have a0 := blk_cell HA8.out 0
   have a1 := blk_cell HA8.out 1
   have a2 := blk_cell HA8.out 2
   have a3 := blk_cell HA8.out 3
   have q0 := blk_cell HB8.out 0
   have q1 := blk_cell HB8.out 1
   have q2 := blk_cell HB8.out 2
   have q3 := blk_cell HB8.out 3
   simp at a0 a1 a2 a3 q0 q1 q2 q3
   have x00 := blk_cell HX08.out 0
   have x01 := blk_cell HX08.out 1
   have x02 := blk_cell HX08.out 2
   have x03 := blk_cell HX08.out 3
   have x10 := blk_cell HX18.out 0
   have x11 := blk_cell HX18.out 1
   have x12 := blk_cell HX18.out 2
   have x13 := blk_cell HX18.out 3
   have f00 := blk_free HX08.out 0
   have f01 := blk_free HX08.out 1
   have f02 := blk_free HX08.out 2
   have f03 := blk_free HX08.out 3
   have f10 := blk_free HX18.out 0
   have f11 := blk_free HX18.out 1
   have f12 := blk_free HX18.out 2
   have f13 := blk_free HX18.out 3
   simp at x00 x01 x02 x03 x10 x11 x12 x13
   have hne : n0 ≠ n1 := by omega
   have hne' : n1 ≠ n0 := by omega
   have hwn0 : w.heap.size ≤ n0 := by have := Hw.out; omega
   have hwn1 : w.heap.size ≤ n1 := by omega
   go_region
   all_goals
    go_wp2_with fail
    refine bodyPost_ret (v := .tuple #[.agg #[.int .i64 L0, .slice An L1 cn, .slice Ag L2 cg, .slice Ao L3 co], .agg #[.int .i64 L0, .slice An L1 cn, .slice A8 L2 c8, .slice Ao L3 co]]) (by simp [results, Try.results103, go_sem, x00, x01, x02, x03, x10, x11, x12, x13, hne, hne']) rfl ⟨_, _, c, ⟨L0, c.next, c.gates, c.outs⟩, rfl, ?_, ?_, ?_⟩
    ·first | with_reducible exact CircOwn.below (circOwn_two HCa8.out HX08.out HX18.out hne) (Below.refl _ _).drew | with_reducible exact CircOwn.below (circOwn_two HCa8.out HX18.out HX08.out hne') (Below.refl _ _).drew
    ·first | with_reducible exact CircOwn.below (circOwn_two HCb8.out HX08.out HX18.out hne) (Below.refl _ _).drew | with_reducible exact CircOwn.below (circOwn_two HCb8.out HX18.out HX08.out hne') (Below.refl _ _).drew
    ·first | with_reducible exact (only_two HO8.out hwn0 hwn1).trans (Only.of_below _ (Below.refl _ _).drew) | with_reducible exact (only_two HO8.out hwn1 hwn0).trans (Only.of_below _ (Below.refl _ _).drew)
end Go.Proofs.Ytkkkjbinfdohpaa
namespace Go.Proofs.Ytkkkjbinfdohpaa
open Go.RowKit Go.Maps
def gz (l : List (Nat × Nat)) : List (Int × Int) := l.map fun s => ((s.1 : Int), (s.2 : Int))
theorem gz_snoc (l : List (Nat × Nat)) (x y : Nat) : cubes (gz (l ++ [(x, y)])) = cubes (gz l) ++ [.int .i64 (x : Int), .int .i64 (y : Int)] := by
 unfold gz
 rw [List.map_append, cubes_append]
 rfl
theorem gz_length (l : List (Nat × Nat)) : (gz l).length = l.length := by unfold gz; simp
theorem pcells_only {E : Nat → Prop} {w w' : World} {g : Nat} {i : Int} {vn vg vo : Value} (h : PCells w g i vn vg vo) (ho : Only E w w') (hne : ¬ E g) : PCells w' g i vn vg vo := by
 obtain ⟨z, a, b, c, e⟩ := h
 have hb := ho.block g z hne
 exact ⟨Nat.lt_of_lt_of_le z ho.size, (World.cell?_of_block hb).trans a, (World.cell?_of_block hb).trans b, (World.cell?_of_block hb).trans c, (World.cell?_of_block hb).trans e⟩
structure Bx (w0 : World) (B gC gR gx : Nat) (ins : Int) (cn cg co vm vN vG vO : Value) (m N O : List Nat) (G : List (Nat × Nat)) (w : World) : Prop where
  hC : PCells w gC ins cn cg co
  hR : w.heap[gR]? = some (.cells #[.int .i64 0, .slice none 0 0, .slice none 0 0, .slice none 0 0] 26 (0, 0))
  hx : w.heap[gx]? = some (.cells #[.int .i64 ins, vN, vG, vO] 26 (0, 0))
  m : w.ownsRow B 3 1 vm m.length (nints m)
  n : w.ownsRow B 3 1 vN N.length (nints N)
  g : w.ownsRow B 64 2 vG G.length (cubes (gz G))
  o : w.ownsRow B 3 1 vO O.length (nints O)
  mn : Apart vm vN
  mo : Apart vm vO
  no : Apart vN vO
  lC : gC < B
  lR : gR < B
  xC : gC ≠ gx
  xR : gR ≠ gx
  lx : w0.heap.size ≤ gx
  lB : w0.heap.size ≤ B
  zB : B ≤ w.heap.size
  below : Below w0.heap.size w0 w
section
variable {w0 w w' w9 : World} {B gC gR gx x y : Nat} {ins : Int} {cn cg co vm vN vG vO vm' vN' vG' vO' : Value} {m N O : List Nat} {G : List (Nat × Nat)}
theorem Bx.step (h : Bx w0 B gC gR gx ins cn cg co vm vN vG vO m N O G w) (hb : Below w.heap.size w w') : Bx w0 B gC gR gx ins cn cg co vm vN vG vO m N O G w' :=
 ⟨h.hC.below hb, (hb.block gR (Nat.lt_of_lt_of_le h.lR h.zB)).trans h.hR, (hb.block gx (blk_ltB h.hx)).trans h.hx, own_below h.m hb, own_below h.n hb, own_below h.g hb, own_below h.o hb, h.mn, h.mo, h.no, h.lC, h.lR, h.xC, h.xR, h.lx, h.lB, Nat.le_trans h.zB hb.size, h.below.trans (hb.mono h.below.size)⟩
theorem Bx.keep {E : Nat → Prop} (h : Bx w0 B gC gR gx ins cn cg co vm vN vG vO m N O G w) (ho : Only E w w') (hE : ∀ g, E g → B ≤ g) (hx : ¬ E gx) : PCells w' gC ins cn cg co ∧ w'.heap[gR]? = some (.cells #[.int .i64 0, .slice none 0 0, .slice none 0 0, .slice none 0 0] 26 (0, 0)) ∧ w'.heap[gx]? = some (.cells #[.int .i64 ins, vN, vG, vO] 26 (0, 0)) ∧ Below w0.heap.size w0 w' := by
 have l1 := h.lC
 have l2 := h.lR
 have l3 := h.zB
 have l4 := h.lB
 refine ⟨pcells_only h.hC ho (fun e => by have := hE _ e; omega), (ho.block gR (by omega) (fun e => by have := hE _ e; omega)).trans h.hR, (ho.block gx (blk_ltB h.hx) hx).trans h.hx, Only.below h.below ho h.below.size (fun q hq => by have := hE q hq; omega)⟩
theorem Bx.rowM (h : Bx w0 B gC gR gx ins cn cg co vm vN vG vO m N O G w) (ho : Only (fun g => vm.ownBlock = some g) w w') : PCells w' gC ins cn cg co ∧ w'.heap[gR]? = some (.cells #[.int .i64 0, .slice none 0 0, .slice none 0 0, .slice none 0 0] 26 (0, 0)) ∧ w'.heap[gx]? = some (.cells #[.int .i64 ins, vN, vG, vO] 26 (0, 0)) ∧ Below w0.heap.size w0 w' :=
 h.keep ho (fun g hg => (h.m.lt g hg).1) (fun e => own_ne_tag h.m h.hx (by decide) e)
theorem Bx.rowN (h : Bx w0 B gC gR gx ins cn cg co vm vN vG vO m N O G w) (ho : Only (fun g => vN.ownBlock = some g) w w') : PCells w' gC ins cn cg co ∧ w'.heap[gR]? = some (.cells #[.int .i64 0, .slice none 0 0, .slice none 0 0, .slice none 0 0] 26 (0, 0)) ∧ w'.heap[gx]? = some (.cells #[.int .i64 ins, vN, vG, vO] 26 (0, 0)) ∧ Below w0.heap.size w0 w' :=
 h.keep ho (fun g hg => (h.n.lt g hg).1) (fun e => own_ne_tag h.n h.hx (by decide) e)
theorem Bx.rowG (h : Bx w0 B gC gR gx ins cn cg co vm vN vG vO m N O G w) (ho : Only (fun g => vG.ownBlock = some g) w w') : PCells w' gC ins cn cg co ∧ w'.heap[gR]? = some (.cells #[.int .i64 0, .slice none 0 0, .slice none 0 0, .slice none 0 0] 26 (0, 0)) ∧ w'.heap[gx]? = some (.cells #[.int .i64 ins, vN, vG, vO] 26 (0, 0)) ∧ Below w0.heap.size w0 w' :=
 h.keep ho (fun g hg => (h.g.lt g hg).1) (fun e => own_ne_tag h.g h.hx (by decide) e)
theorem Bx.rowO (h : Bx w0 B gC gR gx ins cn cg co vm vN vG vO m N O G w) (ho : Only (fun g => vO.ownBlock = some g) w w') : PCells w' gC ins cn cg co ∧ w'.heap[gR]? = some (.cells #[.int .i64 0, .slice none 0 0, .slice none 0 0, .slice none 0 0] 26 (0, 0)) ∧ w'.heap[gx]? = some (.cells #[.int .i64 ins, vN, vG, vO] 26 (0, 0)) ∧ Below w0.heap.size w0 w' :=
 h.keep ho (fun g hg => (h.o.lt g hg).1) (fun e => own_ne_tag h.o h.hx (by decide) e)
theorem bx_apart {w : World} {v v' u : Value} (h : Apart v u) (hat : ∀ g, v'.ownBlock = some g → v.ownBlock = some g ∨ w.heap.size ≤ g) (hu : ∀ g, u.ownBlock = some g → g < w.heap.size) : Apart v' u := fun g h1 h2 => by
 rcases hat g h1 with e | e
 ·exact h g e h2
 ·have := hu g h2; omega
theorem Bx.appM {o1 : Obj} (h : Bx w0 B gC gR gx ins cn cg co vm vN vG vO m N O G w) (own : w'.ownsRow B 3 1 vm' (m.length + 1) (nints m ++ [.int .i64 (x : Int)])) (hg : (w.alloc o1).grownBy w' vm.ownBlock) (hat : vm'.ownBlock = vm.ownBlock ∨ vm'.ownBlock = some (w.alloc o1).heap.size) : Bx w0 B gC gR gx ins cn cg co vm' vN vG vO (m ++ [x]) N O G w' := by
 have h1 := h.step (bel_new w o1)
 have ho : Only (fun g => vm.ownBlock = some g) (w.alloc o1) w' := Only.grown hg fun k hk => hk
 have k := h1.rowM ho
 have hat' : ∀ g, vm'.ownBlock = some g → vm.ownBlock = some g ∨ (w.alloc o1).heap.size ≤ g := fun g hg => by
  rcases hat with e | e
  ·exact .inl (e.symm.trans hg)
  ·exact .inr (Nat.le_of_eq (Option.some.inj (e.symm.trans hg)))
 refine ⟨k.1, k.2.1, k.2.2.1, ?_, own_only h1.n ho (fun g h2 h3 => h1.mn g h3 h2), own_only h1.g ho (fun g h2 h3 => own_ne_own h1.g h1.m (by decide) h2 h3), own_only h1.o ho (fun g h2 h3 => h1.mo g h3 h2), bx_apart h1.mn hat' fun g hg => (h1.n.lt g hg).2, bx_apart h1.mo hat' fun g hg => (h1.o.lt g hg).2, h1.no, h1.lC, h1.lR, h1.xC, h1.xR, h1.lx, h1.lB, Nat.le_trans h1.zB ho.size, k.2.2.2⟩
 rw [List.length_append, List.length_singleton, nints_snoc]
 exact own
theorem setx (hx : w.heap[gx]? = some (.cells #[.int .i64 ins, vN, vG, vO] 26 (0, 0))) : (w.setCell ⟨gx, 1, none⟩ vN').heap[gx]? = some (.cells #[.int .i64 ins, vN', vG, vO] 26 (0, 0)) ∧ (w.setCell ⟨gx, 2, none⟩ vG').heap[gx]? = some (.cells #[.int .i64 ins, vN, vG', vO] 26 (0, 0)) ∧ (w.setCell ⟨gx, 3, none⟩ vO').heap[gx]? = some (.cells #[.int .i64 ins, vN, vG, vO'] 26 (0, 0)) := by
 have h1 := heap_setCell_same w gx 1 _ _ vN' hx
 have h2 := heap_setCell_same w gx 2 _ _ vG' hx
 have h3 := heap_setCell_same w gx 3 _ _ vO' hx
 simp at h1 h2 h3
 exact ⟨h1, h2, h3⟩
theorem Bx.appN (h : Bx w0 B gC gR gx ins cn cg co vm vN vG vO m N O G w) (own : w9.ownsRow B 3 1 vN' (N.length + 1) (nints N ++ [.int .i64 (x : Int)])) (ho : Only (fun g => vN.ownBlock = some g) w w9) (hat : ∀ g, vN'.ownBlock = some g → vN.ownBlock = some g ∨ w.heap.size ≤ g) : Bx w0 B gC gR gx ins cn cg co vm vN' vG vO m (N ++ [x]) O G (w9.setCell ⟨gx, 1, none⟩ vN') := by
 have k := h.rowN ho
 have hs := set1_only w9 gx 1 vN'
 have hx' := (setx (vN' := vN') (vG' := vG) (vO' := vO) k.2.2.1).1
 have m9 := own_only h.m ho (fun g h2 h3 => h.mn g h2 h3)
 have g9 := own_only h.g ho (fun g h2 h3 => own_ne_own h.g h.n (by decide) h2 h3)
 have o9 := own_only h.o ho (fun g h2 h3 => h.no g h3 h2)
 have zz := ho.size
 have l1 := h.lC
 have l2 := h.lR
 have l3 := h.zB
 have l4 := h.lx
 refine ⟨pcells_only k.1 hs (fun e => h.xC e), (hs.block gR (by omega) (fun e => h.xR e)).trans k.2.1, hx', own_only m9 hs (fun g hg e => own_ne_tag m9 k.2.2.1 (by decide) (by rw [hg, e])), ?_, own_only g9 hs (fun g hg e => own_ne_tag g9 k.2.2.1 (by decide) (by rw [hg, e])), own_only o9 hs (fun g hg e => own_ne_tag o9 k.2.2.1 (by decide) (by rw [hg, e])), (bx_apart h.mn.symm hat fun g hg => (h.m.lt g hg).2).symm, h.mo, bx_apart h.no hat fun g hg => (h.o.lt g hg).2, h.lC, h.lR, h.xC, h.xR, h.lx, h.lB, Nat.le_trans h.zB (Nat.le_trans zz hs.size), Only.below k.2.2.2 hs k.2.2.2.size (fun q hq => by omega)⟩
 rw [List.length_append, List.length_singleton, nints_snoc]
 exact own_only own hs (fun g hg e => own_ne_tag own k.2.2.1 (by decide) (by rw [hg, e]))
theorem Bx.appO (h : Bx w0 B gC gR gx ins cn cg co vm vN vG vO m N O G w) (own : w9.ownsRow B 3 1 vO' (O.length + 1) (nints O ++ [.int .i64 (x : Int)])) (ho : Only (fun g => vO.ownBlock = some g) w w9) (hat : ∀ g, vO'.ownBlock = some g → vO.ownBlock = some g ∨ w.heap.size ≤ g) : Bx w0 B gC gR gx ins cn cg co vm vN vG vO' m N (O ++ [x]) G (w9.setCell ⟨gx, 3, none⟩ vO') := by
 have k := h.rowO ho
 have hs := set1_only w9 gx 3 vO'
 have hx' := (setx (vN' := vN) (vG' := vG) (vO' := vO') k.2.2.1).2.2
 have m9 := own_only h.m ho (fun g h2 h3 => h.mo g h2 h3)
 have g9 := own_only h.g ho (fun g h2 h3 => own_ne_own h.g h.o (by decide) h2 h3)
 have n9 := own_only h.n ho (fun g h2 h3 => h.no g h2 h3)
 have zz := ho.size
 have l1 := h.lC
 have l2 := h.lR
 have l3 := h.zB
 have l4 := h.lx
 refine ⟨pcells_only k.1 hs (fun e => h.xC e), (hs.block gR (by omega) (fun e => h.xR e)).trans k.2.1, hx', own_only m9 hs (fun g hg e => own_ne_tag m9 k.2.2.1 (by decide) (by rw [hg, e])), own_only n9 hs (fun g hg e => own_ne_tag n9 k.2.2.1 (by decide) (by rw [hg, e])), own_only g9 hs (fun g hg e => own_ne_tag g9 k.2.2.1 (by decide) (by rw [hg, e])), ?_, h.mn, (bx_apart h.mo.symm hat fun g hg => (h.m.lt g hg).2).symm, (bx_apart h.no.symm hat fun g hg => (h.n.lt g hg).2).symm, h.lC, h.lR, h.xC, h.xR, h.lx, h.lB, Nat.le_trans h.zB (Nat.le_trans zz hs.size), Only.below k.2.2.2 hs k.2.2.2.size (fun q hq => by omega)⟩
 rw [List.length_append, List.length_singleton, nints_snoc]
 exact own_only own hs (fun g hg e => own_ne_tag own k.2.2.1 (by decide) (by rw [hg, e]))
theorem Bx.appG (h : Bx w0 B gC gR gx ins cn cg co vm vN vG vO m N O G w) (own : w9.ownsRow B 64 2 vG' (G.length + 1) (cubes (gz G) ++ [.int .i64 (x : Int), .int .i64 (y : Int)])) (ho : Only (fun g => vG.ownBlock = some g) w w9) : Bx w0 B gC gR gx ins cn cg co vm vN vG' vO m N O (G ++ [(x, y)]) (w9.setCell ⟨gx, 2, none⟩ vG') := by
 have k := h.rowG ho
 have hs := set1_only w9 gx 2 vG'
 have hx' := (setx (vN' := vN) (vG' := vG') (vO' := vO) k.2.2.1).2.1
 have m9 := own_only h.m ho (fun g h2 h3 => own_ne_own h.m h.g (by decide) h2 h3)
 have o9 := own_only h.o ho (fun g h2 h3 => own_ne_own h.o h.g (by decide) h2 h3)
 have n9 := own_only h.n ho (fun g h2 h3 => own_ne_own h.n h.g (by decide) h2 h3)
 have zz := ho.size
 have l1 := h.lC
 have l2 := h.lR
 have l3 := h.zB
 have l4 := h.lx
 refine ⟨pcells_only k.1 hs (fun e => h.xC e), (hs.block gR (by omega) (fun e => h.xR e)).trans k.2.1, hx', own_only m9 hs (fun g hg e => own_ne_tag m9 k.2.2.1 (by decide) (by rw [hg, e])), own_only n9 hs (fun g hg e => own_ne_tag n9 k.2.2.1 (by decide) (by rw [hg, e])), ?_, own_only o9 hs (fun g hg e => own_ne_tag o9 k.2.2.1 (by decide) (by rw [hg, e])), h.mn, h.mo, h.no, h.lC, h.lR, h.xC, h.xR, h.lx, h.lB, Nat.le_trans h.zB (Nat.le_trans zz hs.size), Only.below k.2.2.2 hs k.2.2.2.size (fun q hq => by omega)⟩
 rw [List.length_append, List.length_singleton, gz_snoc]
 exact own_only own hs (fun g hg e => own_ne_tag own k.2.2.1 (by decide) (by rw [hg, e]))
theorem Bx.map (hm : w.ownsRow B 3 1 vm m.length (nints m)) {l : Nat} (hl : l / 2 < m.length) (hb : l ≤ 1000000) (hv : ∀ x ∈ m, x ≤ 1000000) : Calls Try.prog 125 #[vm, .int .i64 (l : Int)] w fun e w'' => e = .returned (.int .i64 (Cir.useX m l : Nat)) ∧ Below w.heap.size w w'' :=
 l3Map_any vm l m w (by
  have h := Row.of_own hm
  unfold IntsAt
  rw [List.length_map]
  exact h) hl hb hv
theorem useX_le {m : List Nat} {b l : Nat} (hv : ∀ x ∈ m, x ≤ 2 * b + 1) : Cir.useX m l ≤ 2 * b + 1 := by
 have := Cir.useX_lt (N := b + 1) (by omega) (fun x hx => by have := hv x hx; omega) l
 omega
end
end Go.Proofs.Ytkkkjbinfdohpaa
namespace Go.Proofs.Ytkkkjbinfdohpaa
open Go.RowKit Go.Maps
def MarkRow (d : Ci) (w : World) (e : Ending) (w' : World) : Prop := (∃ v U, e = .returned v ∧ U.length = Cir.nvars d ∧ w'.ownsRow w.heap.size 4 1 v (Cir.nvars d) (bools U)) ∧ Below w.heap.size w w'
theorem bools_atD {U : List Bool} {j : Nat} (h : j < U.length) : (bools U)[j]? = some (.bool (U.getD j false)) := by
 unfold bools
 rw [List.getElem?_map, List.getElem?_eq_getElem h, List.getD_eq_getElem?_getD, List.getElem?_eq_getElem h]
 rfl
theorem l20Used_any (v : Value) (d : Ci) (w : World) (h : CircAt w v (Cir.toCz d)) (hd : Cir.Ok d) :
  Calls Try.prog 124 #[v] w (MarkRow d w) := by
 have s1 := hd.ins
 have s2 := hd.nexts
 have s3 := hd.gatess
 have s4 := hd.outss
 have H1 := Lib.hid h
 have HFi : Hid (∀ w' v', CircAt w' v' (Cir.toCz d) → Calls Try.prog 43 #[v'] w' fun e w'' => e = .returned (.int .i64 (Cir.nfirst d : Nat)) ∧ Below w'.heap.size w' w'') := Lib.hid fun w' v' h' => by
  have := l1First_any v' (Cir.toCz d) w' h' (by show (0 : Int) ≤ (d.ins : Int); omega) (by show (d.ins : Int) ≤ 100; omega) (by show (List.map _ _).length ≤ 100; rw [List.length_map]; omega)
  rwa [Cir.first_toCz] at this
 obtain ⟨An, cn, Ag, cg, Ao, co, rfl⟩ := h.shape
 have hln : (Cir.toCz d).next.length = d.next.length := List.length_map _
 have hlg : (Cir.toCz d).gates.length = d.gates.length := List.length_map _
 have hlo : (Cir.toCz d).outs.length = d.outs.length := List.length_map _
 have hins : (Cir.toCz d).ins = (d.ins : Int) := rfl
 rw [hln, hlg, hlo, hins] at H1 ⊢
 obtain ⟨vn, vg, vo, e, r1, r2, r3⟩ := H1.out
 injection e with e
 simp only [Array.mk.injEq, List.cons.injEq, and_true] at e
 obtain ⟨-, e1, e2, e3⟩ := e
 subst e1 e2 e3
 have RN : Hid (Row w 1 (.slice An d.next.length cn) d.next.length (ints (Cir.toCz d).next)) := Lib.hid (by have := r1; unfold IntsAt at this; rwa [hln] at this)
 have RG : Hid (Row w 2 (.slice Ag d.gates.length cg) d.gates.length (cubes (Cir.toCz d).gates)) := Lib.hid (by have := r2; unfold CubesAt at this; rwa [hlg] at this)
 have RO : Hid (Row w 1 (.slice Ao d.outs.length co) d.outs.length (ints (Cir.toCz d).outs)) := Lib.hid (by have := r3; unfold IntsAt at this; rwa [hlo] at this)
 have hb1 := bel_new w (.cells #[.int .i64 (d.ins : Int), .slice An d.next.length cn, .slice Ag d.gates.length cg, .slice Ao d.outs.length co] 26)
 have P1 := PCells.boxed w (d.ins : Int) (.slice An d.next.length cn) (.slice Ag d.gates.length cg) (.slice Ao d.outs.length co) 26
 have HW0 : Hid (w.heap.size < (w.alloc (.cells #[.int .i64 (d.ins : Int), .slice An d.next.length cn, .slice Ag d.gates.length cg, .slice Ao d.outs.length co] 26)).heap.size) := Lib.hid (by rw [World.size_alloc]; omega)
 have HD := Lib.hid hd
 have hFb : Cir.nfirst d ≤ 8 := by unfold Cir.nfirst; omega
 have hFe : Cir.nfirst d = 1 + d.ins + d.next.length := rfl
 have HFe := Lib.hid hFe
 obtain ⟨n, hn⟩ : ∃ n, n = Cir.nvars d := ⟨_, rfl⟩
 have hnF : n = Cir.nfirst d + d.gates.length := by rw [hn]; unfold Cir.nvars; omega
 have Hn := Lib.hid hn
 have hnb : n ≤ 100 := by omega
 have hmk := run_make_row' (P := Try.prog) 69 4 (.bool false) 1 Try.underlying69 info_bool rfl .i64 .i64 n (by omega) (by omega)
 have hwn : IntKind.i64.wrap ((Cir.nfirst d : Int) + (d.gates.length : Int)) = (n : Int) := by rw [IntWalk.i64_in _ (by omega)]; omega
 have HnF := Lib.hid hnF
 clear h hd hln hlg hlo hins r1 r2 r3 hFe hn hnF
 go_enter Try.func124, Try.ntmps124
 go_wp2_with fail
 have HB1 := Lib.hid hb1
 have PC1 := Lib.hid P1
 generalize w.alloc (.cells #[.int .i64 (d.ins : Int), .slice An d.next.length cn, .slice Ag d.gates.length cg, .slice Ao d.outs.length co] 26) = W1 at *
 clear hb1 P1
 refine wp_region_rs (quietRS Try.prog _ W1 _) quietRS_ok (by kernel_rfl) (by kernel_rfl) (by kernel_rfl) (nlb rfl) trivial trivial ?_
 apply rs_eq quietRS_ok quiet_any
 ·intro ρ w' ho hK
  have ho : Only _ W1 w' := ho
  obtain ⟨h0, -⟩ := hK
  have h0' : ρ (.tmp 1) = _ := h0
  obtain ⟨-, q0, q1, q2, q3⟩ := PC1.out.below (only_below ho)
  go_simp
  try exact rfl
 refine rs_call quietRS_ok quiet_any (TEq (.int .i64 (Cir.nfirst d : Nat))) (stb_eq _ _) 43 _ _ rfl (fun ρ w' ho hK => by
  have ho : Only _ W1 w' := ho
  obtain ⟨h0, h1, -⟩ := hK
  have h0' : ρ (.func 43) = .func (.func 43) #[] #[] := h0
  have h1' : ρ (.tmp 8) = _ := h1
  refine ⟨#[ρ (.tmp 8)], ?_, ?_⟩
  ·go_simp
  ·rw [h1']
   refine (HFi.out w' _ (H1.out.below (HB1.out.trans ((only_below ho).mono HB1.out.size)))).mono ?_
   rintro e w2 ⟨rfl, hb⟩
   exact ⟨_, rfl, rfl, hb⟩) ?_
 apply rs_eq quietRS_ok quiet_any
 ·intro ρ w' ho hK
  have ho : Only _ W1 w' := ho
  obtain ⟨h0, -⟩ := hK
  have h0' : ρ (.tmp 1) = _ := h0
  go_simp
  try exact rfl
 apply rs_eq quietRS_ok quiet_any
 ·intro ρ w' ho hK
  have ho : Only _ W1 w' := ho
  obtain ⟨h0, -⟩ := hK
  have h0' : ρ (.tmp 10) = _ := h0
  obtain ⟨-, q0, q1, q2, q3⟩ := PC1.out.below (only_below ho)
  go_simp
  try exact rfl
 apply rs_eq quietRS_ok quiet_any
 ·intro ρ w' ho hK
  have ho : Only _ W1 w' := ho
  obtain ⟨h0, -⟩ := hK
  have h0' : ρ (.tmp 11) = _ := h0
  go_simp
  try exact rfl
 apply rs_eq quietRS_ok quiet_any
 ·intro ρ w' ho hK
  have ho : Only _ W1 w' := ho
  obtain ⟨h0, h1, -⟩ := hK
  have h0' : ρ (.tmp 9) = _ := h0
  have h1' : ρ (.tmp 12) = _ := h1
  go_simp
  try exact rfl
 refine rs_alloc quietRS_ok quiet_any (TOwn W1.heap.size 4 1 n (bools (List.replicate n false))) (stb_own (fun _ h => h.elim) _ _ _ _) (fun ρ w' ho hK => by
  obtain ⟨h0, h1, -⟩ := hK
  have h0' : ρ (.tmp 13) = .int .i64 (n : Int) := h0
  refine ⟨.slice (some ⟨w'.heap.size, 0, none⟩) n n, .cells (madeCells #[Value.bool false] n) 4, ?_, ?_⟩
  ·go_simp
  ·have h := World.ownsRow_lit (base := W1.heap.size) (e := 4) (size := 1) w' (madeCells #[Value.bool false] n) n ho.size (by unfold maxLen; omega) (by simp [madeCells])
   have e : (madeCells #[Value.bool false] n).toList = bools (List.replicate n false) := by simp [madeCells, bools, Nat.mod_one, List.map_const']
   rwa [e] at h) ?_
 refine rs_same quietRS_ok quiet_any 14 6 (.inr rfl) rfl _ rfl ?_
 intro f w9 k9 hk9 hI9 ht9 hcp9
 have E0 : f 0 = _ := ht9 0 (nlb rfl)
 have E1 : f 1 = _ := ht9 1 (nlb rfl)
 have E2 : f 2 = _ := ht9 2 (nlb rfl)
 have E3 : f 3 = _ := ht9 3 (nlb rfl)
 have E4 : f 4 = _ := ht9 4 (nlb rfl)
 have E5 : f 5 = _ := ht9 5 (nlb rfl)
 have E6 : (TOwn W1.heap.size 4 1 n (bools (List.replicate n false))) w9 (f 6) := ht9 6 (nlb rfl)
 have E7 : (TOwn W1.heap.size 4 1 n (bools (List.replicate n false))) w9 (f 7) := ht9 7 (nlb rfl)
 have Ho9 : Only _ W1 w9 := hI9.2.1
 have C7 : f 7 = f 6 := (hcp9 7 _ 14 6 rfl rfl rfl rfl).2
 simp only [putAll, E0, E1, E2, E3, E4, E5, C7, Nat.zero_add, Nat.reduceAdd, Act.put, List.setIfInBounds_toArray, List.set_cons_succ, List.set_cons_zero]
 clear E0 E1 E2 E3 E4 E5
 clear hI9 ht9 hcp9 hk9
 generalize f 6 = r6 at *
 have hb9 := only_below Ho9
 have hO : w9.ownsRow W1.heap.size 4 1 r6 n (bools (List.replicate n false)) := E6
 have hgC : w.heap.size < W1.heap.size := HW0.out
 obtain ⟨Au, cu, eu⟩ := slice_of_own hO
 subst eu
 obtain ⟨gu, cu', hvu, hgu1, hgu2, -, -⟩ := own_open hO (by have := HnF.out; have := HFe.out; omega)
 injection hvu with hAu _ hcu
 subst hAu hcu
 have HU0 : Hid (w9.ownsRow W1.heap.size 4 1 (.slice (some ⟨gu, 0, none⟩) n cu) n (bools (List.replicate n false))) := Lib.hid hO
 have PC9 := Lib.hid (PC1.out.below hb9)
 have HB9 := Lib.hid (HB1.out.trans (hb9.mono HB1.out.size))
 have hguC : gu ≠ w.heap.size := by omega
 have hguw : w.heap.size ≤ gu := by omega
 obtain ⟨gC, hgC⟩ : ∃ g, w.heap.size = g := ⟨_, rfl⟩
 have HG : Hid (∀ (k : Nat) (gt : Nat × Nat), d.gates[k]? = some gt → gt.1 < 2 * n ∧ gt.2 < 2 * n) := Lib.hid fun k gt hgt => by
  obtain ⟨g1, g2⟩ := HD.out.gate k gt hgt
  have hk := (List.getElem?_eq_some_iff.1 hgt).1
  have := HnF.out
  omega
 have HO : Hid (∀ l ∈ d.outs, l < 2 * n) := Lib.hid fun l hl => by have := HD.out.out l hl; rw [← Hn.out] at this; exact this
 have HN : Hid (∀ l ∈ d.next, l < 2 * n) := Lib.hid fun l hl => by have := HD.out.next l hl; rw [← Hn.out] at this; exact this
 have HSet : Hid (∀ (wr : World) (U : List Bool) (j : Nat), wr.ownsRow W1.heap.size 4 1 (.slice (some ⟨gu, 0, none⟩) n cu) n (bools U) → Below w.heap.size w wr → PCells wr gC (d.ins : Int) (.slice An d.next.length cn) (.slice Ag d.gates.length cg) (.slice Ao d.outs.length co) → Hid ((wr.setCell ⟨gu, j, none⟩ (.bool true)).ownsRow W1.heap.size 4 1 (.slice (some ⟨gu, 0, none⟩) n cu) n (bools (U.set j true))) ∧ Hid (Below w.heap.size w (wr.setCell ⟨gu, j, none⟩ (.bool true))) ∧ Hid (PCells (wr.setCell ⟨gu, j, none⟩ (.bool true)) gC (d.ins : Int) (.slice An d.next.length cn) (.slice Ag d.gates.length cg) (.slice Ao d.outs.length co))) := Lib.hid fun wr U j h1 h2 h3 => by
  have hst := h1.stored j (.bool true)
  rw [bools_set] at hst
  exact ⟨Lib.hid hst.1, Lib.hid (h2.grown hst.2 h2.size (fun k hk => by have := Option.some.inj hk; omega)), Lib.hid (h3.kept hst.2 (by omega))⟩
 rw [hgC]
 rw [hgC] at PC9
 have HF := HFi
 clear Ho9 hb9 E6 hO PC1 HB1 hmk hgu1 hgu2 HFi hwn hguC
 obtain ⟨z, p0, p1, p2, p3⟩ := PC9.out
 go_wp2_with fail
 clear z p0 p1 p2 p3
 go_loopw [4] (fun i wr => ∃ (k : Nat) (U : List Bool), k ≤ d.outs.length ∧ i = .int .i64 k ∧ U.length = n ∧ Hid (wr.ownsRow W1.heap.size 4 1 (.slice (some ⟨gu, 0, none⟩) n cu) n (bools U)) ∧ Hid (PCells wr gC (d.ins : Int) (.slice An d.next.length cn) (.slice Ag d.gates.length cg) (.slice Ao d.outs.length co)) ∧ Hid (Below w.heap.size w wr)) (fun i _ => d.outs.length - (intOf i).toNat)
 case atStart => exact ⟨0, _, Nat.zero_le _, rfl, List.length_replicate, HU0, PC9, HB9⟩
 case round =>
  obtain ⟨k, U, hk, rfl, hUl, HU, PC, HB⟩ := hrel
  clear HU0 PC9 HB9
  obtain ⟨z, p0, p1, p2, p3⟩ := PC.out
  by_cases hlt : k < d.outs.length
  ·obtain ⟨b, o, x, rfl, hbl, hx, hs⟩ := ints_open RO.out HB.out (show d.outs.length = (Cir.toCz d).outs.length from (List.length_map _).symm) (i := k) (by rw [show (Cir.toCz d).outs.length = d.outs.length from List.length_map _]; exact hlt)
   obtain ⟨l, hl⟩ := at_some hlt
   have hxe : x = (l : Int) := by
    have h1 := hx.out
    unfold Cir.toCz at h1
    rw [List.getElem?_map, hl] at h1
    exact (Option.some.inj h1).symm
   subst hxe
   have hl2 := HO.out l (List.mem_of_getElem? hl)
   have hq := tdiv_two l
   obtain ⟨q, hq'⟩ : ∃ q, l / 2 = q := ⟨_, rfl⟩
   have hqb : q < n := by omega
   rw [hq'] at hq
   have hwq : IntKind.i64.wrap (q : Int) = q := IntWalk.i64_in _ (by omega)
   obtain ⟨u0, -, hd0, hf0⟩ := own_slot HU.out (j := q) (by omega)
   obtain ⟨HU', HB', PC'⟩ := HSet.out wr U q HU.out HB.out PC.out
   clear hx hl hq' hl2
   go_wp2_with fail
   go_roundw
   case rel => exact ⟨k + 1, U.set q true, by omega, by go_num, by rw [List.length_set]; exact hUl, HU', PC', HB'⟩
   case measure => simp [intOf]; omega
  ·obtain rfl : k = d.outs.length := by omega
   go_wp2_with fail
   obtain ⟨W6, hW6⟩ : ∃ W6, W6 = wr := ⟨_, rfl⟩
   subst hW6
   clear z p0 p1 p2 p3
   go_loopw [5] (fun i wr => ∃ (k : Nat) (U : List Bool), k ≤ d.next.length + 1 ∧ i = .int .i64 k ∧ U.length = n ∧ Hid (wr.ownsRow W1.heap.size 4 1 (.slice (some ⟨gu, 0, none⟩) n cu) n (bools U)) ∧ Hid (PCells wr gC (d.ins : Int) (.slice An d.next.length cn) (.slice Ag d.gates.length cg) (.slice Ao d.outs.length co)) ∧ Hid (Below w.heap.size w wr)) (fun i _ => d.next.length + 1 - (intOf i).toNat)
   case atStart => exact ⟨0, U, Nat.zero_le _, rfl, hUl, HU, PC, HB⟩
   case round =>
    clear HU PC HB hUl
    obtain ⟨r, U, hk, rfl, hUl, HU, PC, HB⟩ := hrel
    obtain ⟨z, p0, p1, p2, p3⟩ := PC.out
    by_cases hlt : r ≤ d.next.length
    ·have dge : decide ((r : Int) ≤ (d.next.length : Int)) = true := decide_eq_true (by omega)
     have dge2 : decide (r ≤ d.next.length) = true := decide_eq_true hlt
     go_wp2_with fail
     obtain ⟨W7, hW7⟩ : ∃ W7, W7 = wr := ⟨_, rfl⟩
     subst hW7
     clear z p0 p1 p2 p3 dge dge2
     go_loopw [6] (fun i wr => ∃ (k : Nat) (U : List Bool), k ≤ d.next.length ∧ i = .int .i64 k ∧ U.length = n ∧ Hid (wr.ownsRow W1.heap.size 4 1 (.slice (some ⟨gu, 0, none⟩) n cu) n (bools U)) ∧ Hid (PCells wr gC (d.ins : Int) (.slice An d.next.length cn) (.slice Ag d.gates.length cg) (.slice Ao d.outs.length co)) ∧ Hid (Below w.heap.size w wr)) (fun i _ => d.next.length - (intOf i).toNat)
     case atStart => exact ⟨0, U, Nat.zero_le _, rfl, hUl, HU, PC, HB⟩
     case round =>
      clear HU PC HB hUl
      obtain ⟨k, U, hk, rfl, hUl, HU, PC, HB⟩ := hrel
      obtain ⟨z, p0, p1, p2, p3⟩ := PC.out
      by_cases hlt2 : k < d.next.length
      ·obtain ⟨b, o, x, rfl, hbl, hx, hs⟩ := ints_open RN.out HB.out (show d.next.length = (Cir.toCz d).next.length from (List.length_map _).symm) (i := k) (by rw [show (Cir.toCz d).next.length = d.next.length from List.length_map _]; exact hlt2)
       obtain ⟨l, hl⟩ := at_some hlt2
       have hxe : x = (l : Int) := by
        have h1 := hx.out
        unfold Cir.toCz at h1
        rw [List.getElem?_map, hl] at h1
        exact (Option.some.inj h1).symm
       subst hxe
       have hl2 := HN.out l (List.mem_of_getElem? hl)
       have hq := tdiv_two l
       obtain ⟨q, hq'⟩ : ∃ q, l / 2 = q := ⟨_, rfl⟩
       have hqb : q < n := by omega
       rw [hq'] at hq
       have hwq : IntKind.i64.wrap (q : Int) = q := IntWalk.i64_in _ (by omega)
       have hjn : d.ins + 1 + k < n := by have := HnF.out; have := HFe.out; omega
       obtain ⟨u1, hu1, hd1, hf1⟩ := own_slot HU.out (j := d.ins + 1 + k) (by omega)
       obtain rfl := Option.some.inj (hu1.symm.trans (bools_atD (by omega)))
       have hwa : IntKind.i64.wrap ((d.ins : Int) + 1) = ((d.ins + 1 : Nat) : Int) := by rw [IntWalk.i64_in _ (by omega)]; omega
       have hwb : IntKind.i64.wrap (((d.ins + 1 : Nat) : Int) + (k : Int)) = ((d.ins + 1 + k : Nat) : Int) := by rw [IntWalk.i64_in _ (by omega)]; omega
       clear hx hl hq' hl2 hu1
       cases hfl : U.getD (d.ins + 1 + k) false
       ·rw [hfl] at hd1
        clear hfl
        go_wp2_with fail
        go_roundw
        case rel => exact ⟨k + 1, U, by omega, by go_num, hUl, HU, PC, HB⟩
        case measure => simp [intOf]; omega
       ·rw [hfl] at hd1
        obtain ⟨u0, -, hd0, hf0⟩ := own_slot HU.out (j := q) (by omega)
        obtain ⟨HU', HB', PC'⟩ := HSet.out wr U q HU.out HB.out PC.out
        clear hfl
        go_wp2_with fail
        go_roundw
        case rel => exact ⟨k + 1, U.set q true, by omega, by go_num, by rw [List.length_set]; exact hUl, HU', PC', HB'⟩
        case measure => simp [intOf]; omega
      ·obtain rfl : k = d.next.length := by omega
       go_wp2_with fail
       obtain ⟨W8, hW8⟩ : ∃ W8, W8 = wr := ⟨_, rfl⟩
       subst hW8
       clear z p0 p1 p2 p3
       go_loopw [7] (fun i wr => ∃ (k : Nat) (U : List Bool), k ≤ d.gates.length ∧ i = .int .i64 ((k : Int) - 1) ∧ U.length = n ∧ Hid (wr.ownsRow W1.heap.size 4 1 (.slice (some ⟨gu, 0, none⟩) n cu) n (bools U)) ∧ Hid (PCells wr gC (d.ins : Int) (.slice An d.next.length cn) (.slice Ag d.gates.length cg) (.slice Ao d.outs.length co)) ∧ Hid (Below w.heap.size w wr)) (fun i _ => (intOf i + 1).toNat)
       case atStart => exact ⟨d.gates.length, U, Nat.le_refl _, by go_num, hUl, HU, PC, HB⟩
       case round =>
        clear HU PC HB hUl
        obtain ⟨k, U, hk, rfl, hUl, HU, PC, HB⟩ := hrel
        obtain ⟨z, p0, p1, p2, p3⟩ := PC.out
        cases k with
        | zero =>
         go_wp2_with fail
         go_roundw
         case rel => exact ⟨r + 1, U, by omega, by go_num, hUl, HU, PC, HB⟩
         case measure => simp [intOf]; omega
        | succ k =>
         have hk1 : ((k + 1 : Nat) : Int) - 1 = (k : Int) := by omega
         rw [hk1]
         have dk : decide ((k : Int) ≥ 0) = true := decide_eq_true (by omega)
         go_wp2_with fail
         refine (HF.out _ _ (H1.out.below HB.out)).mono ?_
         rintro e w4 ⟨rfl, hb4⟩
         have HU4 := Lib.hid (own_below HU.out hb4)
         have PC4 := Lib.hid (PC.out.below hb4)
         have HB4 := Lib.hid (HB.out.trans (hb4.mono HB.out.size))
         clear hb4 HU PC HB z p0 p1 p2 p3
         obtain ⟨z, p0, p1, p2, p3⟩ := PC4.out
         have hlt3 : k < d.gates.length := by omega
         obtain ⟨bq, o, x, rfl, hbl, hx, hs1, hs2⟩ := cubes_open RG.out HB4.out (show d.gates.length = (Cir.toCz d).gates.length from (List.length_map _).symm) (i := k) (by rw [show (Cir.toCz d).gates.length = d.gates.length from List.length_map _]; exact hlt3)
         obtain ⟨gt, hgt⟩ := at_some hlt3
         have hxe : x = ((gt.1 : Int), (gt.2 : Int)) := by
          have h1 := hx.out
          unfold Cir.toCz at h1
          simp only [List.getElem?_map, hgt] at h1
          exact (Option.some.inj h1).symm
         subst hxe
         obtain ⟨g1, g2⟩ := HG.out k gt hgt
         obtain ⟨x1, hx1⟩ : ∃ x1, x1 = gt.1 := ⟨_, rfl⟩
         obtain ⟨x2, hx2⟩ : ∃ x2, x2 = gt.2 := ⟨_, rfl⟩
         rw [← hx1] at g1 hs1
         rw [← hx2] at g2 hs2
         have hqa := tdiv_two x1
         obtain ⟨q1, hq1⟩ : ∃ q, x1 / 2 = q := ⟨_, rfl⟩
         have hqb1 : q1 < n := by omega
         rw [hq1] at hqa
         have hwq1 : IntKind.i64.wrap (q1 : Int) = q1 := IntWalk.i64_in _ (by omega)
         have hqb := tdiv_two x2
         obtain ⟨q2, hq2⟩ : ∃ q, x2 / 2 = q := ⟨_, rfl⟩
         have hqb2 : q2 < n := by omega
         rw [hq2] at hqb
         have hwq2 : IntKind.i64.wrap (q2 : Int) = q2 := IntWalk.i64_in _ (by omega)
         have hjn : Cir.nfirst d + k < n := by have := HnF.out; omega
         have hwa : IntKind.i64.wrap ((Cir.nfirst d : Int) + (k : Int)) = ((Cir.nfirst d + k : Nat) : Int) := by rw [IntWalk.i64_in _ (by omega)]; omega
         obtain ⟨u1, hu1, hd1, hf1⟩ := own_slot HU4.out (j := Cir.nfirst d + k) (by omega)
         obtain rfl := Option.some.inj (hu1.symm.trans (bools_atD (by omega)))
         obtain ⟨HU5, HB5, PC5⟩ := HSet.out w4 U q1 HU4.out HB4.out PC4.out
         obtain ⟨u2, -, hd2, hf2⟩ := own_slot HU4.out (j := q1) (by omega)
         obtain ⟨u3, -, hd3, hf3⟩ := own_slot HU5.out (j := q2) (by omega)
         obtain ⟨HU6, HB6, PC6⟩ := HSet.out _ _ q2 HU5.out HB5.out PC5.out
         obtain ⟨z', t0, t1, t2, t3⟩ := PC5.out
         have ht1 := (World.cell?_of_block (a := ⟨bq, o + k * 2 + 1, none⟩) (show (w4.setCell ⟨gu, q1, none⟩ (.bool true)).heap[bq]? = w4.heap[bq]? from (set1_only w4 gu q1 (.bool true)).block bq (by have := HB4.out.size; omega) (by omega))).trans hs2
         clear hx hgt hx1 hx2 hq1 hq2 g1 g2 hu1
         cases hfl : U.getD (Cir.nfirst d + k) false
         ·rw [hfl] at hd1
          clear hfl HU5 HB5 PC5 HU6 HB6 PC6 hd2 hf2 hd3 hf3 z' t0 t1 t2 t3 ht1
          go_wp2_with fail
          go_roundw
          case rel => exact ⟨k, U, by omega, by go_num, hUl, HU4, PC4, HB4⟩
          case measure => simp [intOf] <;> omega
         ·rw [hfl] at hd1
          clear hfl
          go_wp2_with fail
          go_roundw
          case rel => exact ⟨k, (U.set q1 true).set q2 true, by omega, by go_num, by rw [List.length_set, List.length_set]; exact hUl, HU6, PC6, HB6⟩
          case measure => simp [intOf] <;> omega
    ·have dge : decide ((r : Int) ≤ (d.next.length : Int)) = false := decide_eq_false (by omega)
     have dge2 : decide (r ≤ d.next.length) = false := decide_eq_false hlt
     go_wp2_with fail
     go_ret
     exact ⟨⟨_, U, rfl, by rw [hUl, Hn.out], by rw [← Hn.out]; exact own_mono HU.out (by have := HW0.out; omega)⟩, HB.out⟩
end Go.Proofs.Ytkkkjbinfdohpaa
namespace Go.Proofs.Ytkkkjbinfdohpaa
open Go.RowKit Go.Maps
abbrev SomeCirc (w : World) (e : Ending) (w' : World) : Prop := (∃ v d, e = .returned v ∧ CircOwn 0 w' v d) ∧ Below w.heap.size w w'
section
variable {w0 w w' w9 : World} {B B2 gC gR gx n : Nat} {ins : Int} {cn cg co vm vN vG vO vU u : Value} {m N O : List Nat} {G : List (Nat × Nat)} {cs : List Value}
theorem Bx.bm {o1 : Obj} (h : Bx w0 B gC gR gx ins cn cg co vm vN vG vO m N O G w) (hU : w.ownsRow B2 4 1 vU n cs) (hg : (w.alloc o1).grownBy w' vm.ownBlock) : w'.ownsRow B2 4 1 vU n cs := by
 have hU' := own_below hU (bel_new w o1)
 have h' := h.step (bel_new w o1)
 exact own_only hU' (Only.grown (E := fun g => vm.ownBlock = some g) hg fun k hk => hk) fun q hq e => own_ne_own hU' h'.m (by decide) hq e
theorem Bx.bs {E : Nat → Prop} {i : Nat} (h : w9.heap[gx]? = some (.cells #[.int .i64 ins, vN, vG, vO] 26 (0, 0))) (hU : w.ownsRow B2 4 1 vU n cs) (ho : Only E w w9) (hE : ∀ q, vU.ownBlock = some q → ¬ E q) : (w9.setCell ⟨gx, i, none⟩ u).ownsRow B2 4 1 vU n cs := by
 have h9 := own_only hU ho hE
 exact own_only h9 (set1_only w9 gx i u) (fun g hg e => own_ne_tag h9 h (by decide) (by rw [hg, e]))
theorem Bx.bn (h : Bx w0 B gC gR gx ins cn cg co vm vN vG vO m N O G w) (hU : w.ownsRow B2 4 1 vU n cs) (ho : Only (fun g => vN.ownBlock = some g) w w9) : (w9.setCell ⟨gx, 1, none⟩ u).ownsRow B2 4 1 vU n cs :=
 Bx.bs (h.rowN ho).2.2.1 hU ho fun q hq e => own_ne_own hU h.n (by decide) hq e
theorem Bx.bg (h : Bx w0 B gC gR gx ins cn cg co vm vN vG vO m N O G w) (hU : w.ownsRow B2 4 1 vU n cs) (ho : Only (fun g => vG.ownBlock = some g) w w9) : (w9.setCell ⟨gx, 2, none⟩ u).ownsRow B2 4 1 vU n cs :=
 Bx.bs (h.rowG ho).2.2.1 hU ho fun q hq e => own_ne_own hU h.g (by decide) hq e
theorem Bx.circ (h : Bx w0 B gC gR gx ins cn cg co vm vN vG vO m N O G w) : CircAt w (.agg #[.int .i64 ins, vN, vG, vO]) ⟨ins, nats N, gz G, nats O⟩ :=
 ⟨vN, vG, vO, rfl, by
  have := Row.of_own h.n
  unfold IntsAt
  rw [nats_length]
  exact this, by
  have := Row.of_own h.g
  unfold CubesAt
  rw [gz_length]
  exact this, by
  have := Row.of_own h.o
  unfold IntsAt
  rw [nats_length]
  exact this⟩
end
structure Rem3 (d : Ci) (w : World) (B gC gR gx : Nat) (cn cg co : Value) (b3 n : Nat) (vU : Value) (U : List Bool) (k : Nat) (vm : Value) (wr : World) : Prop where
  out : ∃ (m : List Nat) (vG : Value) (G : List (Nat × Nat)), m.length = d.ins + 1 + d.next.length + k ∧ Hid (G.length = k) ∧ Hid (∀ x ∈ m, x ≤ 2 * 50 + 1) ∧ B ≤ wr.heap.size ∧ Hid (Bx w B gC gR gx (d.ins : Int) cn cg co vm (.slice none 0 0) vG (.slice none 0 0) m [] [] G wr) ∧ Hid (wr.ownsRow b3 4 1 vU n (bools U))
structure Rem4 (d : Ci) (w : World) (B gC gR gx : Nat) (cn cg co : Value) (b3 n : Nat) (vU : Value) (U : List Bool) (vm vG : Value) (m : List Nat) (G : List (Nat × Nat)) (k : Nat) (wr : World) : Prop where
  out : ∃ (vN : Value) (N : List Nat), N.length ≤ k ∧ B ≤ wr.heap.size ∧ Hid (Bx w B gC gR gx (d.ins : Int) cn cg co vm vN vG (.slice none 0 0) m N [] G wr) ∧ Hid (wr.ownsRow b3 4 1 vU n (bools U))
structure Rem5 (d : Ci) (w : World) (B gC gR gx : Nat) (cn cg co : Value) (vm vN vG : Value) (m N : List Nat) (G : List (Nat × Nat)) (k : Nat) (wr : World) : Prop where
  out : ∃ (vO : Value) (O : List Nat), O.length ≤ k ∧ B ≤ wr.heap.size ∧ Hid (Bx w B gC gR gx (d.ins : Int) cn cg co vm vN vG vO m N O G wr)
theorem specRemove_no (v : Value) (c : Cz) (w : World) (h : CircAt w v c) (hv : Cir.valid c = false) :
  Calls Try.prog 100 #[v] w (SomeCirc w) := by
 have HC := Lib.hid h
 obtain ⟨An, cn, Ag, cg, Ao, co, rfl⟩ := h.shape
 have hb0 := bel_new w (.cells #[.int .i64 c.ins, .slice An c.next.length cn, .slice Ag c.gates.length cg, .slice Ao c.outs.length co] 26)
 have hsz : (w.alloc (.cells #[.int .i64 c.ins, .slice An c.next.length cn, .slice Ag c.gates.length cg, .slice Ao c.outs.length co] 26)).heap.size = w.heap.size + 1 := by simp
 have PC := PCells.boxed w c.ins (.slice An c.next.length cn) (.slice Ag c.gates.length cg) (.slice Ao c.outs.length co) 26
 obtain ⟨W1, hW1⟩ : ∃ W1, w.alloc (.cells #[.int .i64 c.ins, .slice An c.next.length cn, .slice Ag c.gates.length cg, .slice Ao c.outs.length co] 26) = W1 := ⟨_, rfl⟩
 rw [hW1] at hb0 hsz PC
 have hb1 := bel_new W1 (.cells #[.int .i64 0, .slice none 0 0, .slice none 0 0, .slice none 0 0] 26)
 have hR1 := heap_alloc_new W1 (.cells #[.int .i64 0, .slice none 0 0, .slice none 0 0, .slice none 0 0] 26)
 have hB1 := hb0.trans (hb1.mono hb0.size)
 have hz1 : (W1.alloc (.cells #[.int .i64 0, .slice none 0 0, .slice none 0 0, .slice none 0 0] 26)).heap.size = W1.heap.size + 1 := by simp
 obtain ⟨zz, p0, p1, p2, p3⟩ := PC.below hb1
 have HC1 := Lib.hid (HC.out.below hB1)
 have HB1 := Lib.hid hB1
 have HR1 := Lib.hid hR1
 have hgw : W1.heap.size = w.heap.size + 1 := hsz
 clear hb0 hb1 hB1 hR1 h PC
 go_enter Try.func100, Try.ntmps100
 go_wp2_with fail
 generalize W1.alloc (.cells #[.int .i64 0, .slice none 0 0, .slice none 0 0, .slice none 0 0] 26) = W2 at *
 have HV := Lib.hid (specValid_any _ _ _ HC1.out)
 rw [hv] at HV
 obtain ⟨gC, hgC⟩ : ∃ gC, gC = w.heap.size := ⟨_, rfl⟩
 obtain ⟨gR, hgR⟩ : ∃ gR, gR = w.heap.size + 1 := ⟨_, rfl⟩
 have PC1 : Hid (PCells W2 gC c.ins (.slice An c.next.length cn) (.slice Ag c.gates.length cg) (.slice Ao c.outs.length co)) := Lib.hid (by rw [hgC]; exact ⟨zz, p0, p1, p2, p3⟩)
 rw [← hgC] at p0 p1 p2 p3 zz
 rw [hgw, ← hgR] at HR1
 rw [← hgR, ← hgC]
 have hwR : w.heap.size ≤ gR := by omega
 have hwC : w.heap.size ≤ gC := by omega
 have hgRz := blk_ltB HR1.out
 have HgRC := Lib.hid (show gR = gC + 1 by omega)
 clear hW1 hsz hgw hgC hgR hz1
 refine HV.out.mono ?_
 rintro e w3 ⟨rfl, hb3⟩
 have HC3 := Lib.hid (HC1.out.below hb3)
 have PC3 := Lib.hid (PC1.out.below hb3)
 have HR3 := Lib.hid ((hb3.block gR hgRz).trans HR1.out)
 have HB3 := Lib.hid (HB1.out.trans (hb3.mono HB1.out.size))
 clear p0 p1 p2 p3 zz hb3 HB1 HR1 HC1 HV PC1 HC
 obtain ⟨zz, p0, p1, p2, p3⟩ := PC3.out
 have r0 := blk_cell HR3.out 0
 have r1 := blk_cell HR3.out 1
 have r2 := blk_cell HR3.out 2
 have r3 := blk_cell HR3.out 3
 have f0 := blk_free HR3.out 0
 have f1 := blk_free HR3.out 1
 have f2 := blk_free HR3.out 2
 have f3 := blk_free HR3.out 3
 clear hv
 go_wp2_with fail
 refine bodyPost_ret (v := .agg #[.int .i64 0, .slice none 0 0, .slice none 0 0, .slice none 0 0]) (by simp [results, Try.results100, go_sem, r0, r1, r2, r3]) rfl ⟨⟨_, ⟨0, [], [], []⟩, rfl, ?_⟩, ?_⟩
 ·exact ⟨_, _, _, rfl, World.ownsRow_nil _ _ _ _, World.ownsRow_nil _ _ _ _, World.ownsRow_nil _ _ _ _⟩
 ·exact (((HB3.out.setCell hwR _).setCell hwR _).setCell hwR _).setCell hwR _
theorem specRemove_ok (v : Value) (d : Ci) (w : World) (h : CircAt w v (Cir.toCz d)) (hd : Cir.Ok d) (hv : Cir.valid (Cir.toCz d) = true) :
  Calls Try.prog 100 #[v] w (SomeCirc w) := by
 have s1 := hd.ins
 have s2 := hd.nexts
 have s3 := hd.gatess
 have s4 := hd.outss
 have HC := Lib.hid h
 obtain ⟨An, cn, Ag, cg, Ao, co, rfl⟩ := h.shape
 have hln : (Cir.toCz d).next.length = d.next.length := List.length_map _
 have hlg : (Cir.toCz d).gates.length = d.gates.length := List.length_map _
 have hlo : (Cir.toCz d).outs.length = d.outs.length := List.length_map _
 have hins : (Cir.toCz d).ins = (d.ins : Int) := rfl
 rw [hln, hlg, hlo, hins] at HC ⊢
 obtain ⟨vn, vg, vo, e, r1, r2, r3⟩ := HC.out
 injection e with e
 simp only [Array.mk.injEq, List.cons.injEq, and_true] at e
 obtain ⟨-, e1, e2, e3⟩ := e
 subst e1 e2 e3
 have RN : Hid (Row w 1 (.slice An d.next.length cn) d.next.length (ints (Cir.toCz d).next)) := Lib.hid (by have := r1; unfold IntsAt at this; rwa [hln] at this)
 have RG : Hid (Row w 2 (.slice Ag d.gates.length cg) d.gates.length (cubes (Cir.toCz d).gates)) := Lib.hid (by have := r2; unfold CubesAt at this; rwa [hlg] at this)
 have RO : Hid (Row w 1 (.slice Ao d.outs.length co) d.outs.length (ints (Cir.toCz d).outs)) := Lib.hid (by have := r3; unfold IntsAt at this; rwa [hlo] at this)
 have hb0 := bel_new w (.cells #[.int .i64 (d.ins : Int), .slice An d.next.length cn, .slice Ag d.gates.length cg, .slice Ao d.outs.length co] 26)
 have hsz : (w.alloc (.cells #[.int .i64 (d.ins : Int), .slice An d.next.length cn, .slice Ag d.gates.length cg, .slice Ao d.outs.length co] 26)).heap.size = w.heap.size + 1 := by simp
 have PC := PCells.boxed w (d.ins : Int) (.slice An d.next.length cn) (.slice Ag d.gates.length cg) (.slice Ao d.outs.length co) 26
 obtain ⟨W1, hW1⟩ : ∃ W1, w.alloc (.cells #[.int .i64 (d.ins : Int), .slice An d.next.length cn, .slice Ag d.gates.length cg, .slice Ao d.outs.length co] 26) = W1 := ⟨_, rfl⟩
 rw [hW1] at hb0 hsz PC
 have hb1 := bel_new W1 (.cells #[.int .i64 0, .slice none 0 0, .slice none 0 0, .slice none 0 0] 26)
 have hR1 := heap_alloc_new W1 (.cells #[.int .i64 0, .slice none 0 0, .slice none 0 0, .slice none 0 0] 26)
 have hB1 := hb0.trans (hb1.mono hb0.size)
 have hz1 : (W1.alloc (.cells #[.int .i64 0, .slice none 0 0, .slice none 0 0, .slice none 0 0] 26)).heap.size = W1.heap.size + 1 := by simp
 obtain ⟨zz, p0, p1, p2, p3⟩ := PC.below hb1
 have HC1 := Lib.hid (HC.out.below hB1)
 have HB1 := Lib.hid hB1
 have HR1 := Lib.hid hR1
 have hgw : W1.heap.size = w.heap.size + 1 := hsz
 have HD := Lib.hid hd
 have Hv := Lib.hid hv
 clear hb0 hb1 hB1 hR1 h PC hln hlg hlo hins r1 r2 r3 hd
 go_enter Try.func100, Try.ntmps100
 go_wp2_with fail
 generalize W1.alloc (.cells #[.int .i64 0, .slice none 0 0, .slice none 0 0, .slice none 0 0] 26) = W2 at *
 have HV := Lib.hid (specValid_any _ _ _ HC1.out)
 rw [hv] at HV
 obtain ⟨gC, hgC⟩ : ∃ gC, gC = w.heap.size := ⟨_, rfl⟩
 obtain ⟨gR, hgR⟩ : ∃ gR, gR = w.heap.size + 1 := ⟨_, rfl⟩
 have PC1 : Hid (PCells W2 gC (d.ins : Int) (.slice An d.next.length cn) (.slice Ag d.gates.length cg) (.slice Ao d.outs.length co)) := Lib.hid (by rw [hgC]; exact ⟨zz, p0, p1, p2, p3⟩)
 rw [← hgC] at p0 p1 p2 p3 zz
 rw [hgw, ← hgR] at HR1
 rw [← hgR, ← hgC]
 have hwR : w.heap.size ≤ gR := by omega
 have hwC : w.heap.size ≤ gC := by omega
 have hgRz := blk_ltB HR1.out
 have HgRC := Lib.hid (show gR = gC + 1 by omega)
 clear hW1 hsz hgw hgC hgR hz1
 refine HV.out.mono ?_
 rintro e w3 ⟨rfl, hb3⟩
 have HC3 := Lib.hid (HC1.out.below hb3)
 have PC3 := Lib.hid (PC1.out.below hb3)
 have HR3 := Lib.hid ((hb3.block gR hgRz).trans HR1.out)
 have HB3 := Lib.hid (HB1.out.trans (hb3.mono HB1.out.size))
 clear p0 p1 p2 p3 zz hb3 HB1 HR1 HC1 HV PC1 HC hv
 obtain ⟨zz, p0, p1, p2, p3⟩ := PC3.out
 go_wp2_with fail
 refine (l20Used_any _ d w3 HC3.out HD.out).mono ?_
 rintro e w4 ⟨⟨vU, U, rfl, hUl, hU⟩, hb4⟩
 obtain ⟨AU, cU, eU⟩ := slice_of_own hU
 subst eU
 have hgC3 : gC < w3.heap.size := PC3.out.1
 have hgR3 := blk_ltB HR3.out
 have PC4 := Lib.hid (PC3.out.below hb4)
 have HR4 := Lib.hid ((hb4.block gR hgR3).trans HR3.out)
 have HB4 := Lib.hid (HB3.out.trans (hb4.mono HB3.out.size))
 have HU4 : Hid (w4.ownsRow w3.heap.size 4 1 (.slice AU (Cir.nvars d) cU) (Cir.nvars d) (bools U)) := Lib.hid hU
 obtain ⟨n, hn⟩ : ∃ n, Cir.nvars d = n := ⟨_, rfl⟩
 rw [hn] at HU4 hUl
 rw [hn]
 have HnF : Hid (n = 1 + d.ins + d.next.length + d.gates.length) := Lib.hid (by rw [← hn]; unfold Cir.nvars; rfl)
 have hn100 : n ≤ 100 := by have := HnF.out; omega
 have hn1 : d.ins + 1 + d.next.length ≤ n := by have := HnF.out; omega
 have hz34 := hb4.size
 have hgC4 : gC < w4.heap.size := by omega
 have hgR4 : gR < w4.heap.size := by omega
 have hww : w.heap.size ≤ w4.heap.size := HB4.out.size
 have HNl : Hid (∀ l ∈ d.next, l / 2 < n) := Lib.hid fun l hl => by have := HD.out.next l hl; rw [hn] at this; omega
 have HOl : Hid (∀ l ∈ d.outs, l / 2 < n) := Lib.hid fun l hl => by have := HD.out.out l hl; rw [hn] at this; omega
 have HGl : Hid (∀ (k : Nat) (gt : Nat × Nat), d.gates[k]? = some gt → gt.1 / 2 < 1 + d.ins + d.next.length + k ∧ gt.2 / 2 < 1 + d.ins + d.next.length + k) := Lib.hid fun k gt hgt => by
  obtain ⟨g1, g2⟩ := HD.out.gate k gt hgt
  unfold Cir.nfirst at g1 g2
  omega
 clear hb4 hU HB3 HR3 PC3 HC3 hgC3 hgR3 zz p0 p1 p2 p3 hn
 obtain ⟨z, p0, p1, p2, p3⟩ := PC4.out
 go_wp2_with fail
 have hE := World.ownsRow_lit (base := w4.heap.size) (e := 3) (size := 1) w4 #[] 0 (Nat.le_refl _) (by unfold maxLen; omega) rfl
 have hbE := bel_new w4 (.cells #[] 3)
 generalize w4.alloc (.cells #[] 3) = W5 at *
 have HE : Hid (W5.ownsRow w4.heap.size 3 1 (.slice (some ⟨w4.heap.size, 0, none⟩) 0 0) 0 (nints ((List.range 0).map fun v => 2 * v))) := Lib.hid hE
 have HbE := Lib.hid hbE
 clear hE hbE z p0 p1 p2 p3
 go_loopw [4, 5] (fun vm i wr => ∃ (k : Nat) (vm' : Value), vm' = vm ∧ k ≤ d.ins + 1 ∧ i = .int .i64 k ∧ Hid (wr.ownsRow w4.heap.size 3 1 vm k (nints ((List.range k).map fun v => 2 * v))) ∧ Hid (Below w4.heap.size w4 wr)) (fun _ i _ => d.ins + 1 - (intOf i).toNat)
 case atStart => exact ⟨0, _, rfl, Nat.zero_le _, rfl, HE, HbE⟩
 case round =>
  obtain ⟨k, vm', hvm, hk, rfl, HM, Hb⟩ := hrel
  subst hvm
  clear HE HbE
  obtain ⟨Am, cm, em⟩ := slice_of_own HM.out
  subst em
  obtain ⟨z, p0, p1, p2, p3⟩ := PC4.out.below Hb.out
  by_cases hlt : k ≤ d.ins
  ·have dl : decide ((k : Int) ≤ (d.ins : Int)) = true := decide_eq_true (by omega)
   have dl2 : decide (k ≤ d.ins) = true := decide_eq_true hlt
   have hw2 := IntWalk.i64_in (2 * (k : Int)) (by omega)
   have Hlit := Lib.hid (Row.of_own (World.ownsRow_lit (base := wr.heap.size) (e := 3) (size := 1) wr #[.int .i64 (2 * (k : Int))] 1 (Nat.le_refl _) (by unfold maxLen; omega) rfl))
   have HOa := Lib.hid (HM.out.alloc (.cells #[.int .i64 (2 * (k : Int))] 3))
   have hza : (wr.alloc (.cells #[.int .i64 (2 * (k : Int))] 3)).heap.size = wr.heap.size + 1 := by simp
   have hzf := Hb.out.size
   go_wp2_with (at_builtin; refine append_ints rfl (.tmp 25) (.tmp 28) rfl w4.heap.size _ k _ rfl HOa.out _ 1 [.int .i64 (2 * (k : Int))] rfl Hlit.out (by simp [Value.oneCell']) (by omega) (by omega) ?_; intro v4 w5 hown4 hg4 hat4; have Hown4 := Lib.hid hown4; have Hg4 := Lib.hid hg4; clear hown4 hg4 hat4)
   go_roundw
   case rel => exact ⟨k + 1, _, rfl, by omega, by go_num, Lib.hid (by
     have e : nints ((List.range (k + 1)).map fun v => 2 * v) = nints ((List.range k).map fun v => 2 * v) ++ [.int .i64 (2 * (k : Int))] := by
      rw [List.range_succ, List.map_append, List.map_singleton, nints_snoc]
      congr 1
     rw [e]
     exact Hown4.out), Lib.hid ((Hb.out.alloc Hb.out.size _).grown Hg4.out (by omega) (fun q hq => (HOa.out.lt q hq).1))⟩
   case measure => simp [intOf]; omega
  ·obtain rfl : k = d.ins + 1 := by omega
   have dl : decide (((d.ins + 1 : Nat) : Int) ≤ (d.ins : Int)) = false := decide_eq_false (by omega)
   have dl2 : decide (d.ins + 1 ≤ d.ins) = false := decide_eq_false (by omega)
   have dl3 : decide ((d.ins : Int) + 1 ≤ (d.ins : Int)) = false := decide_eq_false (by omega)
   go_wp2_with fail
   have hX := heap_alloc_new wr (.cells #[.int .i64 (d.ins : Int), .slice none 0 0, .slice none 0 0, .slice none 0 0] 26)
   have hbX := bel_new wr (.cells #[.int .i64 (d.ins : Int), .slice none 0 0, .slice none 0 0, .slice none 0 0] 26)
   have HB6 := HB4.out.trans (Hb.out.mono HB4.out.size)
   have hzf := Hb.out.size
   have HBx : Hid (Bx w w4.heap.size gC gR wr.heap.size (d.ins : Int) (.slice An d.next.length cn) (.slice Ag d.gates.length cg) (.slice Ao d.outs.length co) (.slice Am (d.ins + 1) cm) (.slice none 0 0) (.slice none 0 0) (.slice none 0 0) ((List.range (d.ins + 1)).map fun v => 2 * v) [] [] [] (wr.alloc (.cells #[.int .i64 (d.ins : Int), .slice none 0 0, .slice none 0 0, .slice none 0 0] 26))) := Lib.hid
    ⟨(PC4.out.below Hb.out).below hbX, (hbX.block gR (by omega)).trans ((Hb.out.block gR hgR4).trans HR4.out), hX, by rw [List.length_map, List.length_range]; exact own_below HM.out hbX, World.ownsRow_nil _ _ _ _, World.ownsRow_nil _ _ _ _, World.ownsRow_nil _ _ _ _, fun g _ h => by simp [Value.ownBlock] at h, fun g _ h => by simp [Value.ownBlock] at h, fun g h => by simp [Value.ownBlock] at h, hgC4, hgR4, by omega, by omega, by omega, hww, by rw [World.size_alloc]; omega, HB6.trans (hbX.mono HB6.size)⟩
   have HU5 := Lib.hid (own_below HU4.out (Hb.out.trans (hbX.mono Hb.out.size)))
   obtain ⟨gx, hgx⟩ : ∃ gx, wr.heap.size = gx := ⟨_, rfl⟩
   rw [hgx] at HBx
   rw [hgx]
   have hz6 : w4.heap.size ≤ (wr.alloc (.cells #[.int .i64 (d.ins : Int), .slice none 0 0, .slice none 0 0, .slice none 0 0] 26)).heap.size := by rw [World.size_alloc]; omega
   obtain ⟨B, hB⟩ : ∃ B, w4.heap.size = B := ⟨_, rfl⟩
   rw [hB] at HBx hz6
   generalize wr.alloc (.cells #[.int .i64 (d.ins : Int), .slice none 0 0, .slice none 0 0, .slice none 0 0] 26) = W6 at *
   have hm0 : ((List.range (d.ins + 1)).map fun v => 2 * v).length = d.ins + 1 + 0 := by rw [List.length_map, List.length_range]
   have hm1 : ∀ x ∈ (List.range (d.ins + 1)).map fun v => 2 * v, x ≤ 2 * 50 + 1 := fun x hx => by
    obtain ⟨y, hy, rfl⟩ := List.mem_map.1 hx
    have := List.mem_range.1 hy
    omega
   have Hm1 := Lib.hid hm1
   generalize ((List.range (d.ins + 1)).map fun v => 2 * v) = m0 at *
   have hwB : w.heap.size ≤ B := by omega
   clear hX hbX HB6 hzf PC4 HR4 HB4 HU4 HM Hb hgx z p0 p1 p2 p3 hm1 dl dl2 dl3 hlt hk hgC4 hgR4 hww hz34 hB
   go_loopw [4, 7, 8] (fun vm kk i wr => ∃ (k kept : Nat) (m : List Nat) (vm' : Value), vm' = vm ∧ kk = .int .i64 kept ∧ kept ≤ k ∧ k ≤ d.next.length ∧ i = .int .i64 k ∧ m.length = d.ins + 1 + k ∧ Hid (∀ x ∈ m, x ≤ 2 * 50 + 1) ∧ B ≤ wr.heap.size ∧ Hid (Bx w B gC gR gx (d.ins : Int) (.slice An d.next.length cn) (.slice Ag d.gates.length cg) (.slice Ao d.outs.length co) vm (.slice none 0 0) (.slice none 0 0) (.slice none 0 0) m [] [] [] wr) ∧ Hid (wr.ownsRow w3.heap.size 4 1 (.slice AU n cU) n (bools U))) (fun _ _ i _ => d.next.length - (intOf i).toNat)
   case atStart => exact ⟨0, 0, m0, _, rfl, rfl, Nat.le_refl _, Nat.zero_le _, rfl, hm0, Hm1, hz6, HBx, HU5⟩
   case round =>
    clear HBx HU5 Hm1 hm0 hz6
    obtain ⟨k, kept, m, vm', hvm, rfl, hkk, hk, rfl, hml, Hm, hzr, HBx, HU⟩ := hrel
    subst hvm
    obtain ⟨z, p0, p1, p2, p3⟩ := HBx.out.hC
    by_cases hlt : k < d.next.length
    ·obtain ⟨gu, cu', hvu, hgu1, hgu2, -, -⟩ := own_open HU.out (by omega)
     injection hvu with hAu _ hcu
     subst hAu hcu
     obtain ⟨u1, hu1, hd1, hf1⟩ := own_slot HU.out (j := d.ins + 1 + k) (by omega)
     obtain rfl := Option.some.inj (hu1.symm.trans (bools_atD (by omega)))
     have hwa : IntKind.i64.wrap ((d.ins : Int) + 1) = ((d.ins + 1 : Nat) : Int) := by rw [IntWalk.i64_in _ (by omega)]; omega
     have hwb : IntKind.i64.wrap (((d.ins + 1 : Nat) : Int) + (k : Int)) = ((d.ins + 1 + k : Nat) : Int) := by rw [IntWalk.i64_in _ (by omega)]; omega
     have hwc : IntKind.i64.wrap ((d.ins : Int) + 1 + (kept : Int)) = (d.ins : Int) + 1 + (kept : Int) := IntWalk.i64_in _ (by omega)
     have hwd : IntKind.i64.wrap (2 * ((d.ins : Int) + 1 + (kept : Int))) = 2 * ((d.ins : Int) + 1 + (kept : Int)) := IntWalk.i64_in _ (by omega)
     clear hu1
     cases hfl : U.getD (d.ins + 1 + k) false
     ·rw [hfl] at hd1
      have Hlit := Lib.hid (Row.of_own (World.ownsRow_lit (base := wr.heap.size) (e := 3) (size := 1) wr #[.int .i64 (0 : Int)] 1 (Nat.le_refl _) (by unfold maxLen; omega) rfl))
      have HOa := Lib.hid (HBx.out.m.alloc (.cells #[.int .i64 (0 : Int)] 3))
      have hza : (wr.alloc (.cells #[.int .i64 (0 : Int)] 3)).heap.size = wr.heap.size + 1 := by simp
      clear hfl
      go_wp2_with (at_builtin; refine append_ints rfl (.tmp 59) (.tmp 60) rfl B _ m.length _ rfl HOa.out _ 1 [.int .i64 (0 : Int)] rfl Hlit.out (by simp [Value.oneCell']) (by omega) (by omega) ?_; intro v4 w5 hown4 hg4 hat4; have Hown4 := Lib.hid hown4; have Hg4 := Lib.hid hg4; have Hat4 := Lib.hid hat4; have hz5 := hg4.size; clear hown4 hg4 hat4)
      go_roundw
      case rel => exact ⟨_, _, _, ⟨k + 1, kept, rfl, by omega, by omega, rfl, m ++ [0], by simp; omega, Lib.hid (fun x hx => by
        rcases List.mem_append.1 hx with h | h
        ·exact Hm.out x h
        ·rw [List.mem_singleton.1 h]; omega), by omega, Lib.hid (HBx.out.appM (x := 0) Hown4.out Hg4.out Hat4.out), Lib.hid (HBx.out.bm HU.out Hg4.out)⟩, rfl, rfl, by go_num⟩
      case measure => simp [intOf] <;> omega
     ·rw [hfl] at hd1
      have hxb : 2 * (d.ins + 1 + kept) ≤ 2 * 50 + 1 := by omega
      have Hxi : Hid (2 * ((d.ins : Int) + 1 + (kept : Int)) = ((2 * (d.ins + 1 + kept) : Nat) : Int)) := Lib.hid (by omega)
      have Hlit := Lib.hid (Row.of_own (World.ownsRow_lit (base := wr.heap.size) (e := 3) (size := 1) wr #[.int .i64 (2 * ((d.ins : Int) + 1 + (kept : Int)))] 1 (Nat.le_refl _) (by unfold maxLen; omega) rfl))
      have HOa := Lib.hid (HBx.out.m.alloc (.cells #[.int .i64 (2 * ((d.ins : Int) + 1 + (kept : Int)))] 3))
      have hza : (wr.alloc (.cells #[.int .i64 (2 * ((d.ins : Int) + 1 + (kept : Int)))] 3)).heap.size = wr.heap.size + 1 := by simp
      clear hfl
      go_wp2_with (at_builtin; refine append_ints rfl (.tmp 48) (.tmp 55) rfl B _ m.length _ rfl HOa.out _ 1 [.int .i64 (2 * ((d.ins : Int) + 1 + (kept : Int)))] rfl Hlit.out (by simp [Value.oneCell']) (by omega) (by omega) ?_; intro v4 w5 hown4 hg4 hat4; have Hown4 := Lib.hid hown4; have Hg4 := Lib.hid hg4; have Hat4 := Lib.hid hat4; have hz5 := hg4.size; clear hown4 hg4 hat4)
      go_roundw
      case rel => exact ⟨_, _, _, ⟨k + 1, kept + 1, rfl, by omega, by omega, rfl, m ++ [2 * (d.ins + 1 + kept)], by simp; omega, Lib.hid (fun x hx => by
        rcases List.mem_append.1 hx with h | h
        ·exact Hm.out x h
        ·rw [List.mem_singleton.1 h]; exact hxb), by omega, Lib.hid (HBx.out.appM (x := 2 * (d.ins + 1 + kept)) (by rw [← Hxi.out]; exact Hown4.out) Hg4.out Hat4.out), Lib.hid (HBx.out.bm HU.out Hg4.out)⟩, rfl, by go_num, by go_num⟩
      case measure => simp [intOf] <;> omega
    ·obtain rfl : k = d.next.length := by omega
     go_wp2_with fail
     clear z p0 p1 p2 p3
     obtain ⟨W7, hW7⟩ : ∃ W7, W7 = wr := ⟨_, rfl⟩
     subst hW7
     go_loopw [4, 9] (fun vm i wr => ∃ (k : Nat) (vm' : Value), vm' = vm ∧ k ≤ d.gates.length ∧ i = .int .i64 k ∧ Rem3 d w B gC gR gx (.slice An d.next.length cn) (.slice Ag d.gates.length cg) (.slice Ao d.outs.length co) w3.heap.size n (.slice AU n cU) U k vm wr) (fun _ i _ => d.gates.length - (intOf i).toNat)
     case atStart => exact ⟨0, _, rfl, Nat.zero_le _, rfl, ⟨⟨m, .slice none 0 0, [], by omega, Lib.hid rfl, Hm, hzr, HBx, HU⟩⟩⟩
     case round =>
      clear HBx HU Hm hml hzr
      obtain ⟨k, vm2, hvm, hk, rfl, HH⟩ := hrel
      subst hvm
      obtain ⟨m, vG, G, hml, HGl2, Hm, hzr, HBx, HU⟩ := HH.out
      have hGb : G.length ≤ 14 := by have := HGl2.out; omega
      obtain ⟨z, p0, p1, p2, p3⟩ := HBx.out.hC
      by_cases hlt : k < d.gates.length
      ·obtain ⟨bq, o, x, rfl, hbl, hx, hs1, hs2⟩ := cubes_open RG.out (Below.refl _ _) (show d.gates.length = (Cir.toCz d).gates.length from (List.length_map _).symm) (i := k) (by rw [show (Cir.toCz d).gates.length = d.gates.length from List.length_map _]; exact hlt)
       obtain ⟨gt, hgt⟩ := at_some hlt
       have hxe : x = ((gt.1 : Int), (gt.2 : Int)) := by
        have h1 := hx.out
        unfold Cir.toCz at h1
        simp only [List.getElem?_map, hgt] at h1
        exact (Option.some.inj h1).symm
       subst hxe
       obtain ⟨g1, g2⟩ := HGl.out k gt hgt
       obtain ⟨x1, hx1⟩ : ∃ x1, x1 = gt.1 := ⟨_, rfl⟩
       obtain ⟨x2, hx2⟩ : ∃ x2, x2 = gt.2 := ⟨_, rfl⟩
       rw [← hx1] at g1 hs1
       rw [← hx2] at g2 hs2
       have hwa : IntKind.i64.wrap ((d.ins : Int) + 1) = (d.ins : Int) + 1 := IntWalk.i64_in _ (by omega)
       have hwc : IntKind.i64.wrap ((d.ins : Int) + 1 + (kept : Int)) = (d.ins : Int) + 1 + (kept : Int) := IntWalk.i64_in _ (by omega)
       have hwe : IntKind.i64.wrap ((d.ins : Int) + 1 + (kept : Int) + (k : Int)) = (d.ins : Int) + 1 + (kept : Int) + (k : Int) := IntWalk.i64_in _ (by omega)
       have hwd : IntKind.i64.wrap (2 * ((d.ins : Int) + 1 + (kept : Int) + (k : Int))) = 2 * ((d.ins : Int) + 1 + (kept : Int) + (k : Int)) := IntWalk.i64_in _ (by omega)
       have hxb : 2 * (d.ins + 1 + kept + k) ≤ 2 * 50 + 1 := by omega
       have Hxi : Hid (2 * ((d.ins : Int) + 1 + (kept : Int) + (k : Int)) = ((2 * (d.ins + 1 + kept + k) : Nat) : Int)) := Lib.hid (by omega)
       have Hlit := Lib.hid (Row.of_own (World.ownsRow_lit (base := wr.heap.size) (e := 3) (size := 1) wr #[.int .i64 (2 * ((d.ins : Int) + 1 + (kept : Int) + (k : Int)))] 1 (Nat.le_refl _) (by unfold maxLen; omega) rfl))
       have HOa := Lib.hid (HBx.out.m.alloc (.cells #[.int .i64 (2 * ((d.ins : Int) + 1 + (kept : Int) + (k : Int)))] 3))
       have hza : (wr.alloc (.cells #[.int .i64 (2 * ((d.ins : Int) + 1 + (kept : Int) + (k : Int)))] 3)).heap.size = wr.heap.size + 1 := by simp
       clear hx hgt hx1 hx2
       go_wp2_with (at_builtin; refine append_ints rfl (.tmp 69) (.tmp 78) rfl B _ m.length _ rfl HOa.out _ 1 [.int .i64 (2 * ((d.ins : Int) + 1 + (kept : Int) + (k : Int)))] rfl Hlit.out (by simp [Value.oneCell']) (by omega) (by omega) ?_; intro v4 w5 hown4 hg4 hat4; have Hown4 := Lib.hid hown4; have Hg4 := Lib.hid hg4; have Hat4 := Lib.hid hat4; have hz5 := hg4.size; clear hown4 hg4 hat4)
       have HB5 := Lib.hid (HBx.out.appM (x := 2 * (d.ins + 1 + kept + k)) (by rw [← Hxi.out]; exact Hown4.out) Hg4.out Hat4.out)
       have HU5 := Lib.hid (HBx.out.bm HU.out Hg4.out)
       have Hm5 : Hid (∀ x ∈ m ++ [2 * (d.ins + 1 + kept + k)], x ≤ 2 * 50 + 1) := Lib.hid (fun x hx => by
        rcases List.mem_append.1 hx with h | h
        ·exact Hm.out x h
        ·rw [List.mem_singleton.1 h]; exact hxb)
       have hml5 : (m ++ [2 * (d.ins + 1 + kept + k)]).length = d.ins + 1 + d.next.length + (k + 1) := by simp; omega
       generalize m ++ [2 * (d.ins + 1 + kept + k)] = m5 at *
       have hzB5 : B ≤ w5.heap.size := HB5.out.zB
       clear Hlit HOa hza Hown4 Hg4 Hat4 HBx HU Hm hwa hwc hwe hwd hxb Hxi z p0 p1 p2 p3 hml hzr
       have hbqz : bq < w5.heap.size := by omega
       have hneb : vG.ownBlock ≠ some bq := fun e => by have := (HB5.out.g.lt bq e).1; omega
       have hs1 := (HB5.out.below.cell (p := ⟨bq, o + k * 2, none⟩) hbl).trans hs1
       have hs2 := (HB5.out.below.cell (p := ⟨bq, o + k * 2 + 1, none⟩) hbl).trans hs2
       obtain ⟨y1, hy1⟩ : ∃ y, y = Cir.useX m5 x1 := ⟨_, rfl⟩
       obtain ⟨y2, hy2⟩ : ∃ y, y = Cir.useX m5 x2 := ⟨_, rfl⟩
       have hyb1 : y1 ≤ 2 * 50 + 1 := by rw [hy1]; exact useX_le Hm5.out
       have hyb2 : y2 ≤ 2 * 50 + 1 := by rw [hy2]; exact useX_le Hm5.out
       have Hy1 := Lib.hid hy1
       have Hy2 := Lib.hid hy2
       have HMap : Hid (∀ (w' : World) (l : Nat), Only (fun g => vG.ownBlock = some g) w5 w' → l / 2 < d.ins + 1 + d.next.length + (k + 1) → l ≤ 1000000 → Calls Try.prog 125 #[v4, .int .i64 (l : Int)] w' fun e w'' => e = .returned (.int .i64 (Cir.useX m5 l : Nat)) ∧ Below w'.heap.size w' w'') := Lib.hid fun w' l ho h1 h2 => Bx.map (own_only HB5.out.m ho (fun q hq e => own_ne_own HB5.out.m HB5.out.g (by decide) hq e)) (by omega) h2 (fun x hx => by have := Hm5.out x hx; omega)
       have e1' : x1 / 2 < d.ins + 1 + d.next.length + (k + 1) := by omega
       have e2' : x2 / 2 < d.ins + 1 + d.next.length + (k + 1) := by omega
       have hx1b : x1 ≤ 1000000 := by omega
       have hx2b : x2 ≤ 1000000 := by omega
       clear hy1 hy2 g1 g2 hbl
       obtain ⟨i0, hi0, hz0, hz1, hz2⟩ := info_parts info_gate
       have hO := fun ops a => appRS2_ok (Pg := Try.prog) (ops := ops) (a := a) (news := [.int .i64 (y1 : Int), .int .i64 (y2 : Int)]) (d := 20) (HB5.out.g)
       refine wp_region_rsl (appRS2 Try.prog _ w5 _ (B) 64 2 (vG) (G.length) (cubes (gz G)) [.int .i64 (y1 : Int), .int .i64 (y2 : Int)] 20) (hO _ _) (by kernel_rfl) (by kernel_rfl) (by kernel_rfl) 22 _ rfl rfl (by kernel_rfl) (show (20 : Nat) < 22 by decide) trivial HB5.out.g ?_
       apply rs_eq (hO _ _) (.inl (nnb rfl))
       ·intro ρ w' ho hK
        have ho : Only _ w5 w' := ho
        obtain ⟨h0, -⟩ := hK
        have h0' : ρ (.tmp 6) = _ := h0
        go_simp
        try exact rfl
       apply rs_eq (hO _ _) (.inl (nnb rfl))
       ·intro ρ w' ho hK
        have ho : Only _ w5 w' := ho
        obtain ⟨h0, -⟩ := hK
        have h0' : ρ (.tmp 80) = _ := h0
        obtain ⟨hP, -, hXq, -⟩ := HB5.out.rowG ho
        obtain ⟨-, q0, q1, q2, q3⟩ := hP
        have k2 := blk_cell hXq 2
        simp at k2
        have c1 := (World.cell?_of_block (a := ⟨bq, o + k * 2, none⟩) (ho.block bq hbqz (fun e => hneb e))).trans hs1
        have c2 := (World.cell?_of_block (a := ⟨bq, o + k * 2 + 1, none⟩) (ho.block bq hbqz (fun e => hneb e))).trans hs2
        go_simp
        try exact rfl
       refine rs_old (hO _ _) (.inl (nnb rfl)) _ (.inl rfl) _ rfl rfl ?_
       apply rs_eq (hO _ _) (.inl (nnb rfl))
       ·intro ρ w' ho hK
        have ho : Only _ w5 w' := ho
        obtain ⟨h0, -⟩ := hK
        have h0' : ρ (.tmp 1) = _ := h0
        go_simp
        try exact rfl
       apply rs_eq (hO _ _) (.inl (nnb rfl))
       ·intro ρ w' ho hK
        have ho : Only _ w5 w' := ho
        obtain ⟨h0, -⟩ := hK
        have h0' : ρ (.tmp 83) = _ := h0
        obtain ⟨hP, -, hXq, -⟩ := HB5.out.rowG ho
        obtain ⟨-, q0, q1, q2, q3⟩ := hP
        have k2 := blk_cell hXq 2
        simp at k2
        have c1 := (World.cell?_of_block (a := ⟨bq, o + k * 2, none⟩) (ho.block bq hbqz (fun e => hneb e))).trans hs1
        have c2 := (World.cell?_of_block (a := ⟨bq, o + k * 2 + 1, none⟩) (ho.block bq hbqz (fun e => hneb e))).trans hs2
        go_simp
        try exact rfl
       refine rs_old (hO _ _) (.inl (nnb rfl)) _ (.inl rfl) _ rfl rfl ?_
       apply rs_eq (hO _ _) (.inl (nnb rfl))
       ·intro ρ w' ho hK
        have ho : Only _ w5 w' := ho
        obtain ⟨h0, h1, -⟩ := hK
        have h0' : ρ (.tmp 84) = _ := h0
        have h1' : ρ (.tmp 85) = _ := h1
        go_simp
        try exact rfl
       apply rs_eq (hO _ _) (.inl (nnb rfl))
       ·intro ρ w' ho hK
        have ho : Only _ w5 w' := ho
        obtain ⟨h0, -⟩ := hK
        have h0' : ρ (.tmp 86) = _ := h0
        go_simp
        try exact rfl
       apply rs_eq (hO _ _) (.inl (nnb rfl))
       ·intro ρ w' ho hK
        have ho : Only _ w5 w' := ho
        obtain ⟨h0, -⟩ := hK
        have h0' : ρ (.tmp 87) = _ := h0
        obtain ⟨hP, -, hXq, -⟩ := HB5.out.rowG ho
        obtain ⟨-, q0, q1, q2, q3⟩ := hP
        have k2 := blk_cell hXq 2
        simp at k2
        have c1 := (World.cell?_of_block (a := ⟨bq, o + k * 2, none⟩) (ho.block bq hbqz (fun e => hneb e))).trans hs1
        have c2 := (World.cell?_of_block (a := ⟨bq, o + k * 2 + 1, none⟩) (ho.block bq hbqz (fun e => hneb e))).trans hs2
        go_simp
        try exact rfl
       refine rs_call (hO _ _) (.inl (nnb rfl)) (TEq (.int .i64 ((y1 : Nat) : Int))) (stb_eq _ _) 125 _ _ rfl (fun ρ w' ho hK => by
        have ho : Only _ w5 w' := ho
        obtain ⟨h0, h1, h2, -⟩ := hK
        have h0' : ρ (.func 125) = .func (.func 125) #[] #[] := h0
        have h1' : ρ (.tmp 82) = _ := h1
        have h2' : ρ (.tmp 88) = _ := h2
        refine ⟨#[ρ (.tmp 82), ρ (.tmp 88)], ?_, ?_⟩
        ·go_simp
        ·rw [h1', h2']
         refine (HMap.out w' x1 ho e1' hx1b).mono ?_
         rintro e w2 ⟨rfl, hb⟩
         exact ⟨_, rfl, by rw [Hy1.out]; rfl, hb⟩) ?_
       refine rs_old (hO _ _) (.inl (nnb rfl)) _ (.inl rfl) _ rfl rfl ?_
       apply rs_eq (hO _ _) (.inl (nnb rfl))
       ·intro ρ w' ho hK
        have ho : Only _ w5 w' := ho
        obtain ⟨h0, -⟩ := hK
        have h0' : ρ (.tmp 1) = _ := h0
        go_simp
        try exact rfl
       apply rs_eq (hO _ _) (.inl (nnb rfl))
       ·intro ρ w' ho hK
        have ho : Only _ w5 w' := ho
        obtain ⟨h0, -⟩ := hK
        have h0' : ρ (.tmp 91) = _ := h0
        obtain ⟨hP, -, hXq, -⟩ := HB5.out.rowG ho
        obtain ⟨-, q0, q1, q2, q3⟩ := hP
        have k2 := blk_cell hXq 2
        simp at k2
        have c1 := (World.cell?_of_block (a := ⟨bq, o + k * 2, none⟩) (ho.block bq hbqz (fun e => hneb e))).trans hs1
        have c2 := (World.cell?_of_block (a := ⟨bq, o + k * 2 + 1, none⟩) (ho.block bq hbqz (fun e => hneb e))).trans hs2
        go_simp
        try exact rfl
       refine rs_old (hO _ _) (.inl (nnb rfl)) _ (.inl rfl) _ rfl rfl ?_
       apply rs_eq (hO _ _) (.inl (nnb rfl))
       ·intro ρ w' ho hK
        have ho : Only _ w5 w' := ho
        obtain ⟨h0, h1, -⟩ := hK
        have h0' : ρ (.tmp 92) = _ := h0
        have h1' : ρ (.tmp 93) = _ := h1
        go_simp
        try exact rfl
       apply rs_eq (hO _ _) (.inl (nnb rfl))
       ·intro ρ w' ho hK
        have ho : Only _ w5 w' := ho
        obtain ⟨h0, -⟩ := hK
        have h0' : ρ (.tmp 94) = _ := h0
        go_simp
        try exact rfl
       apply rs_eq (hO _ _) (.inl (nnb rfl))
       ·intro ρ w' ho hK
        have ho : Only _ w5 w' := ho
        obtain ⟨h0, -⟩ := hK
        have h0' : ρ (.tmp 95) = _ := h0
        obtain ⟨hP, -, hXq, -⟩ := HB5.out.rowG ho
        obtain ⟨-, q0, q1, q2, q3⟩ := hP
        have k2 := blk_cell hXq 2
        simp at k2
        have c1 := (World.cell?_of_block (a := ⟨bq, o + k * 2, none⟩) (ho.block bq hbqz (fun e => hneb e))).trans hs1
        have c2 := (World.cell?_of_block (a := ⟨bq, o + k * 2 + 1, none⟩) (ho.block bq hbqz (fun e => hneb e))).trans hs2
        go_simp
        try exact rfl
       refine rs_call (hO _ _) (.inl (nnb rfl)) (TEq (.int .i64 ((y2 : Nat) : Int))) (stb_eq _ _) 125 _ _ rfl (fun ρ w' ho hK => by
        have ho : Only _ w5 w' := ho
        obtain ⟨h0, h1, h2, -⟩ := hK
        have h0' : ρ (.func 125) = .func (.func 125) #[] #[] := h0
        have h1' : ρ (.tmp 90) = _ := h1
        have h2' : ρ (.tmp 96) = _ := h2
        refine ⟨#[ρ (.tmp 90), ρ (.tmp 96)], ?_, ?_⟩
        ·go_simp
        ·rw [h1', h2']
         refine (HMap.out w' x2 ho e2' hx2b).mono ?_
         rintro e w2 ⟨rfl, hb⟩
         exact ⟨_, rfl, by rw [Hy2.out]; rfl, hb⟩) ?_
       apply rs_eq (hO _ _) (.inl (nnb rfl))
       ·intro ρ w' ho hK
        have ho : Only _ w5 w' := ho
        obtain ⟨h0, h1, -⟩ := hK
        have h0' : ρ (.tmp 89) = _ := h0
        have h1' : ρ (.tmp 97) = _ := h1
        go_simp
        try exact rfl
       refine rs_build1 (hO _ _) (.inl (nnb rfl)) 2 [.int .i64 (y1 : Int), .int .i64 (y2 : Int)] 64 rfl (fun ρ w' ho hK => by
        have ho : Only _ w5 w' := ho
        obtain ⟨h0, -⟩ := hK
        have h0' : ρ (.tmp 98) = _ := h0
        go_simp) ?_
       refine rs_append2 rfl (B) 64 24 2 (vG) (G.length) (cubes (gz G)) _ rfl rfl (fun g hg => hg) (show B ≤ w5.heap.size by omega) _ _ rfl _ _ rfl rfl rfl rfl i0 _ 16 Try.underlying24 hi0 hz0 hz1 hz2 rfl (by decide) (by omega) (by decide) (by simp [Value.oneCell']) ?_
       apply rs_eq (hO _ _) (.inl (nnb rfl))
       ·intro ρ w' ho hK
        have ho : Only _ w5 w' := ho
        obtain ⟨h0, -⟩ := hK
        have h0' : ρ (.tmp 6) = _ := h0
        go_simp
        try exact rfl
       intro f w9 k9 hk9 hI9 ht9 hcp9
       have E0 : f 0 = _ := ht9 0 (nlb rfl)
       have E1 : f 1 = _ := ht9 1 (nlb rfl)
       have E2 : f 2 = _ := ht9 2 (nlb rfl)
       conv at E2 => rhs; whnf
       have E3 : f 3 = _ := ht9 3 (nlb rfl)
       have E4 : f 4 = _ := ht9 4 (nlb rfl)
       have E5 : f 5 = _ := ht9 5 (nlb rfl)
       conv at E5 => rhs; whnf
       have E6 : f 6 = _ := ht9 6 (nlb rfl)
       have E7 : f 7 = _ := ht9 7 (nlb rfl)
       have E8 : f 8 = _ := ht9 8 (nlb rfl)
       have E9 : f 9 = _ := ht9 9 (nlb rfl)
       have E10 : f 10 = _ := ht9 10 (nlb rfl)
       conv at E10 => rhs; whnf
       have E11 : f 11 = _ := ht9 11 (nlb rfl)
       have E12 : f 12 = _ := ht9 12 (nlb rfl)
       have E13 : f 13 = _ := ht9 13 (nlb rfl)
       conv at E13 => rhs; whnf
       have E14 : f 14 = _ := ht9 14 (nlb rfl)
       have E15 : f 15 = _ := ht9 15 (nlb rfl)
       have E16 : f 16 = _ := ht9 16 (nlb rfl)
       have E17 : f 17 = _ := ht9 17 (nlb rfl)
       have E18 : f 18 = _ := ht9 18 (nlb rfl)
       have E19 : (TNew _ 2 1 [.int .i64 (y1 : Int), .int .i64 (y2 : Int)]) w9 (f 19) := ht9 19 (nlb rfl)
       have E20 : (TAny) w9 (f 20) := ht9 20 (nlb rfl)
       have E21 : f 21 = _ := ht9 21 (nlb rfl)
       have Ho9 : Only _ w5 w9 := hI9.2.1
       have hown9 : w9.ownsRow (B) 64 2 (f 20) (G.length + 1) (cubes (gz G) ++ [.int .i64 (y1 : Int), .int .i64 (y2 : Int)]) := hI9.2.2.1
       have hat9 : ∀ g, (f 20).ownBlock = some g → (vG).ownBlock = some g ∨ w5.heap.size ≤ g := hI9.2.2.2
       simp only [putAll, E0, E1, E2, E3, E4, E5, E6, E7, E8, E9, E10, E11, E12, E13, E14, E15, E16, E17, E18, E21, Nat.zero_add, Nat.reduceAdd, Act.put, List.setIfInBounds_toArray, List.set_cons_succ, List.set_cons_zero, List.take, List.getElem_toArray, List.getElem_cons_succ, List.getElem_cons_zero]
       clear E0 E1 E2 E3 E4 E5 E6 E7 E8 E9 E10 E11 E12 E13 E14 E15 E16 E17 E18 E21
       clear hI9 ht9 hcp9 hk9
       generalize f 19 = r19 at *
       generalize f 20 = r20 at *
       have O9 : Only (fun g => vG.ownBlock = some g) w5 w9 := Ho9
       obtain ⟨A9, c9, hv9⟩ := slice_of_own hown9
       subst hv9
       have hX9 := (HB5.out.rowG O9).2.2.1
       have HB9 := Lib.hid (HB5.out.appG (x := y1) (y := y2) hown9 O9)
       have HU9 := Lib.hid (HB5.out.bg (u := .slice A9 (G.length + 1) c9) HU5.out O9)
       have q1 := blk_cell hX9 2
       have f1 := blk_free hX9 2
       simp at q1
       have hz9 := O9.size
       clear Ho9 O9 hX9 hown9 hat9 HB5 HU5 HMap hs1 hs2 hneb
       go_wp2_with fail
       go_roundw
       case rel => exact ⟨k + 1, by omega, by go_num, ⟨⟨m5, _, G ++ [(y1, y2)], hml5, Lib.hid (by have := HGl2.out; simp; omega), Hm5, HB9.out.zB, HB9, HU9⟩⟩⟩
       case measure => simp [intOf] <;> omega
      ·obtain rfl : k = d.gates.length := by omega
       go_wp2_with fail
       clear z p0 p1 p2 p3
       have HMap : Hid (∀ (w' : World) (l : Nat), w'.ownsRow B 3 1 vm2 m.length (nints m) → l / 2 < n → l ≤ 1000000 → Calls Try.prog 125 #[vm2, .int .i64 (l : Int)] w' fun e w'' => e = .returned (.int .i64 (Cir.useX m l : Nat)) ∧ Below w'.heap.size w' w'') := Lib.hid fun w' l ho h1 h2 => Bx.map ho (by have := HnF.out; omega) h2 (fun x hx => by have := Hm.out x hx; omega)
       obtain ⟨W8, hW8⟩ : ∃ W8, W8 = wr := ⟨_, rfl⟩
       subst hW8
       go_loopw [10] (fun i wr => ∃ (k : Nat), k ≤ d.next.length ∧ i = .int .i64 k ∧ Rem4 d w B gC gR gx (.slice An d.next.length cn) (.slice Ag d.gates.length cg) (.slice Ao d.outs.length co) w3.heap.size n (.slice AU n cU) U vm2 vG m G k wr) (fun i _ => d.next.length - (intOf i).toNat)
       case atStart => exact ⟨0, Nat.zero_le _, rfl, ⟨⟨.slice none 0 0, [], Nat.le_refl _, hzr, HBx, HU⟩⟩⟩
       case round =>
        clear HBx HU hzr
        obtain ⟨k, hk, rfl, HH⟩ := hrel
        obtain ⟨vN, N, hNl, hzr, HBx, HU⟩ := HH.out
        obtain ⟨z, p0, p1, p2, p3⟩ := HBx.out.hC
        by_cases hlt : k < d.next.length
        ·obtain ⟨b, o, x, rfl, hbl, hx, hs⟩ := ints_open RN.out (Below.refl _ _) (show d.next.length = (Cir.toCz d).next.length from (List.length_map _).symm) (i := k) (by rw [show (Cir.toCz d).next.length = d.next.length from List.length_map _]; exact hlt)
         obtain ⟨l, hl⟩ := at_some hlt
         have hxe : x = (l : Int) := by
          have h1 := hx.out
          unfold Cir.toCz at h1
          rw [List.getElem?_map, hl] at h1
          exact (Option.some.inj h1).symm
         subst hxe
         have hlN := HNl.out l (List.mem_of_getElem? hl)
         obtain ⟨gu, cu', hvu, hgu1, hgu2, -, -⟩ := own_open HU.out (by omega)
         injection hvu with hAu _ hcu
         subst hAu hcu
         obtain ⟨u1, hu1, hd1, hf1⟩ := own_slot HU.out (j := d.ins + 1 + k) (by omega)
         obtain rfl := Option.some.inj (hu1.symm.trans (bools_atD (by omega)))
         have hwa : IntKind.i64.wrap ((d.ins : Int) + 1) = ((d.ins + 1 : Nat) : Int) := by rw [IntWalk.i64_in _ (by omega)]; omega
         have hwb : IntKind.i64.wrap (((d.ins + 1 : Nat) : Int) + (k : Int)) = ((d.ins + 1 + k : Nat) : Int) := by rw [IntWalk.i64_in _ (by omega)]; omega
         clear hu1 hx hl
         cases hfl : U.getD (d.ins + 1 + k) false
         ·rw [hfl] at hd1
          clear hfl
          go_wp2_with fail
          go_roundw
          case rel => exact ⟨k + 1, by omega, by go_num, ⟨⟨vN, N, by omega, hzr, HBx, HU⟩⟩⟩
          case measure => simp [intOf] <;> omega
         ·rw [hfl] at hd1
          clear hfl
          go_wp2_with fail
          have hbz : b < wr.heap.size := by omega
          have hnb : vN.ownBlock ≠ some b := fun e => by have := (HBx.out.n.lt b e).1; omega
          have hs' := (HBx.out.below.cell (p := ⟨b, o + k, none⟩) hbl).trans hs
          obtain ⟨y, hy⟩ : ∃ y, y = Cir.useX m l := ⟨_, rfl⟩
          have Hy := Lib.hid hy
          have hl6 : l ≤ 1000000 := by omega
          clear hy
          obtain ⟨i0, hi0, hz0, hz1, hz2⟩ := info_parts info_int
          have hO := fun ops a => appRS2_ok (Pg := Try.prog) (ops := ops) (a := a) (news := [.int .i64 (y : Int)]) (d := 10) (HBx.out.n)
          refine wp_region_rsl (appRS2 Try.prog _ wr _ (B) 3 1 (vN) (N.length) (nints N) [.int .i64 (y : Int)] 10) (hO _ _) (by kernel_rfl) (by kernel_rfl) (by kernel_rfl) 12 _ rfl rfl (by kernel_rfl) (show (10 : Nat) < 12 by decide) trivial HBx.out.n ?_
          apply rs_eq (hO _ _) (.inl (nnb rfl))
          ·intro ρ w' ho hK
           have ho : Only _ wr w' := ho
           obtain ⟨h0, -⟩ := hK
           have h0' : ρ (.tmp 6) = _ := h0
           go_simp
           try exact rfl
          apply rs_eq (hO _ _) (.inl (nnb rfl))
          ·intro ρ w' ho hK
           have ho : Only _ wr w' := ho
           obtain ⟨h0, -⟩ := hK
           have h0' : ρ (.tmp 117) = _ := h0
           obtain ⟨hP, -, hXq, -⟩ := HBx.out.rowN ho
           obtain ⟨-, q0, q1, q2, q3⟩ := hP
           have k1 := blk_cell hXq 1
           simp at k1
           have c1 := (World.cell?_of_block (a := ⟨b, o + k, none⟩) (ho.block b hbz (fun e => hnb e))).trans hs'
           go_simp
           try exact rfl
          refine rs_old (hO _ _) (.inl (nnb rfl)) _ (.inl rfl) _ rfl rfl ?_
          apply rs_eq (hO _ _) (.inl (nnb rfl))
          ·intro ρ w' ho hK
           have ho : Only _ wr w' := ho
           obtain ⟨h0, -⟩ := hK
           have h0' : ρ (.tmp 1) = _ := h0
           go_simp
           try exact rfl
          apply rs_eq (hO _ _) (.inl (nnb rfl))
          ·intro ρ w' ho hK
           have ho : Only _ wr w' := ho
           obtain ⟨h0, -⟩ := hK
           have h0' : ρ (.tmp 120) = _ := h0
           obtain ⟨hP, -, hXq, -⟩ := HBx.out.rowN ho
           obtain ⟨-, q0, q1, q2, q3⟩ := hP
           have k1 := blk_cell hXq 1
           simp at k1
           have c1 := (World.cell?_of_block (a := ⟨b, o + k, none⟩) (ho.block b hbz (fun e => hnb e))).trans hs'
           go_simp
           try exact rfl
          refine rs_old (hO _ _) (.inl (nnb rfl)) _ (.inl rfl) _ rfl rfl ?_
          apply rs_eq (hO _ _) (.inl (nnb rfl))
          ·intro ρ w' ho hK
           have ho : Only _ wr w' := ho
           obtain ⟨h0, h1, -⟩ := hK
           have h0' : ρ (.tmp 121) = _ := h0
           have h1' : ρ (.tmp 122) = _ := h1
           go_simp
           try exact rfl
          apply rs_eq (hO _ _) (.inl (nnb rfl))
          ·intro ρ w' ho hK
           have ho : Only _ wr w' := ho
           obtain ⟨h0, -⟩ := hK
           have h0' : ρ (.tmp 123) = _ := h0
           obtain ⟨hP, -, hXq, -⟩ := HBx.out.rowN ho
           obtain ⟨-, q0, q1, q2, q3⟩ := hP
           have k1 := blk_cell hXq 1
           simp at k1
           have c1 := (World.cell?_of_block (a := ⟨b, o + k, none⟩) (ho.block b hbz (fun e => hnb e))).trans hs'
           go_simp
           try exact rfl
          refine rs_call (hO _ _) (.inl (nnb rfl)) (TEq (.int .i64 ((y : Nat) : Int))) (stb_eq _ _) 125 _ _ rfl (fun ρ w' ho hK => by
           have ho : Only _ wr w' := ho
           obtain ⟨h0, h1, h2, -⟩ := hK
           have h0' : ρ (.func 125) = .func (.func 125) #[] #[] := h0
           have h1' : ρ (.tmp 119) = _ := h1
           have h2' : ρ (.tmp 124) = _ := h2
           refine ⟨#[ρ (.tmp 119), ρ (.tmp 124)], ?_, ?_⟩
           ·go_simp
           ·rw [h1', h2']
            refine (HMap.out w' l (own_only HBx.out.m ho (fun q hq e => HBx.out.mn q hq e)) hlN hl6).mono ?_
            rintro e w2 ⟨rfl, hb⟩
            exact ⟨_, rfl, by rw [Hy.out]; rfl, hb⟩) ?_
          refine rs_build1 (hO _ _) (.inl (nnb rfl)) 1 [.int .i64 (y : Int)] 3 rfl (fun ρ w' ho hK => by
           have ho : Only _ wr w' := ho
           obtain ⟨h0, -⟩ := hK
           have h0' : ρ (.tmp 125) = _ := h0
           go_simp) ?_
          refine rs_append2 rfl (B) 3 23 1 (vN) (N.length) (nints N) _ rfl rfl (fun g hg => hg) (show B ≤ wr.heap.size by omega) _ _ rfl _ _ rfl rfl rfl rfl i0 _ 8 Try.underlying23 hi0 hz0 hz1 hz2 rfl (by decide) (by omega) (by decide) (by simp [Value.oneCell']) ?_
          apply rs_eq (hO _ _) (.inl (nnb rfl))
          ·intro ρ w' ho hK
           have ho : Only _ wr w' := ho
           obtain ⟨h0, -⟩ := hK
           have h0' : ρ (.tmp 6) = _ := h0
           go_simp
           try exact rfl
          intro f w9 k9 hk9 hI9 ht9 hcp9
          have E0 : f 0 = _ := ht9 0 (nlb rfl)
          have E1 : f 1 = _ := ht9 1 (nlb rfl)
          have E2 : f 2 = _ := ht9 2 (nlb rfl)
          conv at E2 => rhs; whnf
          have E3 : f 3 = _ := ht9 3 (nlb rfl)
          have E4 : f 4 = _ := ht9 4 (nlb rfl)
          have E5 : f 5 = _ := ht9 5 (nlb rfl)
          conv at E5 => rhs; whnf
          have E6 : f 6 = _ := ht9 6 (nlb rfl)
          have E7 : f 7 = _ := ht9 7 (nlb rfl)
          have E8 : f 8 = _ := ht9 8 (nlb rfl)
          have E9 : (TNew _ 1 1 [.int .i64 (y : Int)]) w9 (f 9) := ht9 9 (nlb rfl)
          have E10 : (TAny) w9 (f 10) := ht9 10 (nlb rfl)
          have E11 : f 11 = _ := ht9 11 (nlb rfl)
          have Ho9 : Only _ wr w9 := hI9.2.1
          have hown9 : w9.ownsRow (B) 3 1 (f 10) (N.length + 1) (nints N ++ [.int .i64 (y : Int)]) := hI9.2.2.1
          have hat9 : ∀ g, (f 10).ownBlock = some g → (vN).ownBlock = some g ∨ wr.heap.size ≤ g := hI9.2.2.2
          simp only [putAll, E0, E1, E2, E3, E4, E5, E6, E7, E8, E11, Nat.zero_add, Nat.reduceAdd, Act.put, List.setIfInBounds_toArray, List.set_cons_succ, List.set_cons_zero, List.take, List.getElem_toArray, List.getElem_cons_succ, List.getElem_cons_zero]
          clear E0 E1 E2 E3 E4 E5 E6 E7 E8 E11
          clear hI9 ht9 hcp9 hk9
          generalize f 9 = r9 at *
          generalize f 10 = r10 at *
          have O9 : Only (fun g => vN.ownBlock = some g) wr w9 := Ho9
          obtain ⟨A9, c9, hv9⟩ := slice_of_own hown9
          subst hv9
          have hX9 := (HBx.out.rowN O9).2.2.1
          have HB9 := Lib.hid (HBx.out.appN (x := y) hown9 O9 hat9)
          have HU9 := Lib.hid (HBx.out.bn (u := .slice A9 (N.length + 1) c9) HU.out O9)
          have q1 := blk_cell hX9 1
          have f1 := blk_free hX9 1
          simp at q1
          have hz9 := O9.size
          clear Ho9 O9 hX9 hown9 hat9 HBx HU hs hs' hnb z p0 p1 p2 p3 hd1 hf1
          go_wp2_with fail
          go_roundw
          case rel => exact ⟨k + 1, by omega, by go_num, ⟨⟨_, N ++ [y], by simp; omega, HB9.out.zB, HB9, HU9⟩⟩⟩
          case measure => simp [intOf] <;> omega
        ·obtain rfl : k = d.next.length := by omega
         go_wp2_with fail
         clear z p0 p1 p2 p3 HU
         obtain ⟨W9, hW9⟩ : ∃ W9, W9 = wr := ⟨_, rfl⟩
         subst hW9
         go_loopw [11] (fun i wr => ∃ (k : Nat), k ≤ d.outs.length ∧ i = .int .i64 k ∧ Rem5 d w B gC gR gx (.slice An d.next.length cn) (.slice Ag d.gates.length cg) (.slice Ao d.outs.length co) vm2 vN vG m N G k wr) (fun i _ => d.outs.length - (intOf i).toNat)
         case atStart => exact ⟨0, Nat.zero_le _, rfl, ⟨⟨.slice none 0 0, [], Nat.le_refl _, hzr, HBx⟩⟩⟩
         case round =>
          clear HBx hzr
          obtain ⟨k, hk, rfl, HH⟩ := hrel
          obtain ⟨vO, O, hOl, hzr, HBx⟩ := HH.out
          obtain ⟨z, p0, p1, p2, p3⟩ := HBx.out.hC
          by_cases hlt : k < d.outs.length
          ·obtain ⟨b, o, x, rfl, hbl, hx, hs⟩ := ints_open RO.out (Below.refl _ _) (show d.outs.length = (Cir.toCz d).outs.length from (List.length_map _).symm) (i := k) (by rw [show (Cir.toCz d).outs.length = d.outs.length from List.length_map _]; exact hlt)
           obtain ⟨l, hl⟩ := at_some hlt
           have hxe : x = (l : Int) := by
            have h1 := hx.out
            unfold Cir.toCz at h1
            rw [List.getElem?_map, hl] at h1
            exact (Option.some.inj h1).symm
           subst hxe
           have hlN := HOl.out l (List.mem_of_getElem? hl)
           clear hx hl
           go_wp2_with fail
           have hbz : b < wr.heap.size := by have := HBx.out.below.size; omega
           have hwBo : w.heap.size ≤ B := HBx.out.lB
           have hnb : vO.ownBlock ≠ some b := fun e => by have := (HBx.out.o.lt b e).1; omega
           have hs' := (HBx.out.below.cell (p := ⟨b, o + k, none⟩) hbl).trans hs
           obtain ⟨y, hy⟩ : ∃ y, y = Cir.useX m l := ⟨_, rfl⟩
           have Hy := Lib.hid hy
           have hl6 : l ≤ 1000000 := by omega
           clear hy
           obtain ⟨i0, hi0, hz0, hz1, hz2⟩ := info_parts info_int
           have hO := fun ops a => appRS2_ok (Pg := Try.prog) (ops := ops) (a := a) (news := [.int .i64 (y : Int)]) (d := 10) (HBx.out.o)
           refine wp_region_rsl (appRS2 Try.prog _ wr _ (B) 3 1 (vO) (O.length) (nints O) [.int .i64 (y : Int)] 10) (hO _ _) (by kernel_rfl) (by kernel_rfl) (by kernel_rfl) 12 _ rfl rfl (by kernel_rfl) (show (10 : Nat) < 12 by decide) trivial HBx.out.o ?_
           apply rs_eq (hO _ _) (.inl (nnb rfl))
           ·intro ρ w' ho hK
            have ho : Only _ wr w' := ho
            obtain ⟨h0, -⟩ := hK
            have h0' : ρ (.tmp 6) = _ := h0
            go_simp
            try exact rfl
           apply rs_eq (hO _ _) (.inl (nnb rfl))
           ·intro ρ w' ho hK
            have ho : Only _ wr w' := ho
            obtain ⟨h0, -⟩ := hK
            have h0' : ρ (.tmp 136) = _ := h0
            obtain ⟨hP, -, hXq, -⟩ := HBx.out.rowO ho
            obtain ⟨-, q0, q1, q2, q3⟩ := hP
            have k1 := blk_cell hXq 3
            simp at k1
            have c1 := (World.cell?_of_block (a := ⟨b, o + k, none⟩) (ho.block b hbz (fun e => hnb e))).trans hs'
            go_simp
            try exact rfl
           refine rs_old (hO _ _) (.inl (nnb rfl)) _ (.inl rfl) _ rfl rfl ?_
           apply rs_eq (hO _ _) (.inl (nnb rfl))
           ·intro ρ w' ho hK
            have ho : Only _ wr w' := ho
            obtain ⟨h0, -⟩ := hK
            have h0' : ρ (.tmp 1) = _ := h0
            go_simp
            try exact rfl
           apply rs_eq (hO _ _) (.inl (nnb rfl))
           ·intro ρ w' ho hK
            have ho : Only _ wr w' := ho
            obtain ⟨h0, -⟩ := hK
            have h0' : ρ (.tmp 139) = _ := h0
            obtain ⟨hP, -, hXq, -⟩ := HBx.out.rowO ho
            obtain ⟨-, q0, q1, q2, q3⟩ := hP
            have k1 := blk_cell hXq 3
            simp at k1
            have c1 := (World.cell?_of_block (a := ⟨b, o + k, none⟩) (ho.block b hbz (fun e => hnb e))).trans hs'
            go_simp
            try exact rfl
           refine rs_old (hO _ _) (.inl (nnb rfl)) _ (.inl rfl) _ rfl rfl ?_
           apply rs_eq (hO _ _) (.inl (nnb rfl))
           ·intro ρ w' ho hK
            have ho : Only _ wr w' := ho
            obtain ⟨h0, h1, -⟩ := hK
            have h0' : ρ (.tmp 140) = _ := h0
            have h1' : ρ (.tmp 141) = _ := h1
            go_simp
            try exact rfl
           apply rs_eq (hO _ _) (.inl (nnb rfl))
           ·intro ρ w' ho hK
            have ho : Only _ wr w' := ho
            obtain ⟨h0, -⟩ := hK
            have h0' : ρ (.tmp 142) = _ := h0
            obtain ⟨hP, -, hXq, -⟩ := HBx.out.rowO ho
            obtain ⟨-, q0, q1, q2, q3⟩ := hP
            have k1 := blk_cell hXq 3
            simp at k1
            have c1 := (World.cell?_of_block (a := ⟨b, o + k, none⟩) (ho.block b hbz (fun e => hnb e))).trans hs'
            go_simp
            try exact rfl
           refine rs_call (hO _ _) (.inl (nnb rfl)) (TEq (.int .i64 ((y : Nat) : Int))) (stb_eq _ _) 125 _ _ rfl (fun ρ w' ho hK => by
            have ho : Only _ wr w' := ho
            obtain ⟨h0, h1, h2, -⟩ := hK
            have h0' : ρ (.func 125) = .func (.func 125) #[] #[] := h0
            have h1' : ρ (.tmp 138) = _ := h1
            have h2' : ρ (.tmp 143) = _ := h2
            refine ⟨#[ρ (.tmp 138), ρ (.tmp 143)], ?_, ?_⟩
            ·go_simp
            ·rw [h1', h2']
             refine (HMap.out w' l (own_only HBx.out.m ho (fun q hq e => HBx.out.mo q hq e)) hlN hl6).mono ?_
             rintro e w2 ⟨rfl, hb⟩
             exact ⟨_, rfl, by rw [Hy.out]; rfl, hb⟩) ?_
           refine rs_build1 (hO _ _) (.inl (nnb rfl)) 1 [.int .i64 (y : Int)] 3 rfl (fun ρ w' ho hK => by
            have ho : Only _ wr w' := ho
            obtain ⟨h0, -⟩ := hK
            have h0' : ρ (.tmp 144) = _ := h0
            go_simp) ?_
           refine rs_append2 rfl (B) 3 23 1 (vO) (O.length) (nints O) _ rfl rfl (fun g hg => hg) (show B ≤ wr.heap.size by omega) _ _ rfl _ _ rfl rfl rfl rfl i0 _ 8 Try.underlying23 hi0 hz0 hz1 hz2 rfl (by decide) (by omega) (by decide) (by simp [Value.oneCell']) ?_
           apply rs_eq (hO _ _) (.inl (nnb rfl))
           ·intro ρ w' ho hK
            have ho : Only _ wr w' := ho
            obtain ⟨h0, -⟩ := hK
            have h0' : ρ (.tmp 6) = _ := h0
            go_simp
            try exact rfl
           intro f w9 k9 hk9 hI9 ht9 hcp9
           have E0 : f 0 = _ := ht9 0 (nlb rfl)
           have E1 : f 1 = _ := ht9 1 (nlb rfl)
           have E2 : f 2 = _ := ht9 2 (nlb rfl)
           conv at E2 => rhs; whnf
           have E3 : f 3 = _ := ht9 3 (nlb rfl)
           have E4 : f 4 = _ := ht9 4 (nlb rfl)
           have E5 : f 5 = _ := ht9 5 (nlb rfl)
           conv at E5 => rhs; whnf
           have E6 : f 6 = _ := ht9 6 (nlb rfl)
           have E7 : f 7 = _ := ht9 7 (nlb rfl)
           have E8 : f 8 = _ := ht9 8 (nlb rfl)
           have E9 : (TNew _ 1 1 [.int .i64 (y : Int)]) w9 (f 9) := ht9 9 (nlb rfl)
           have E10 : (TAny) w9 (f 10) := ht9 10 (nlb rfl)
           have E11 : f 11 = _ := ht9 11 (nlb rfl)
           have Ho9 : Only _ wr w9 := hI9.2.1
           have hown9 : w9.ownsRow (B) 3 1 (f 10) (O.length + 1) (nints O ++ [.int .i64 (y : Int)]) := hI9.2.2.1
           have hat9 : ∀ g, (f 10).ownBlock = some g → (vO).ownBlock = some g ∨ wr.heap.size ≤ g := hI9.2.2.2
           simp only [putAll, E0, E1, E2, E3, E4, E5, E6, E7, E8, E11, Nat.zero_add, Nat.reduceAdd, Act.put, List.setIfInBounds_toArray, List.set_cons_succ, List.set_cons_zero, List.take, List.getElem_toArray, List.getElem_cons_succ, List.getElem_cons_zero]
           clear E0 E1 E2 E3 E4 E5 E6 E7 E8 E11
           clear hI9 ht9 hcp9 hk9
           generalize f 9 = r9 at *
           generalize f 10 = r10 at *
           have O9 : Only (fun g => vO.ownBlock = some g) wr w9 := Ho9
           obtain ⟨A9, c9, hv9⟩ := slice_of_own hown9
           subst hv9
           have hX9 := (HBx.out.rowO O9).2.2.1
           have HB9 := Lib.hid (HBx.out.appO (x := y) hown9 O9 hat9)
           have q1 := blk_cell hX9 3
           have f1 := blk_free hX9 3
           simp at q1
           have hz9 := O9.size
           clear Ho9 O9 hX9 hown9 hat9 HBx hs hs' hnb z p0 p1 p2 p3
           go_wp2_with fail
           go_roundw
           case rel => exact ⟨k + 1, by omega, by go_num, ⟨⟨_, O ++ [y], by simp; omega, HB9.out.zB, HB9⟩⟩⟩
           case measure => simp [intOf] <;> omega
          ·obtain rfl : k = d.outs.length := by omega
           obtain ⟨AN, cN, hvN⟩ := slice_of_own HBx.out.n
           obtain ⟨AG, cG, hvG⟩ := slice_of_own HBx.out.g
           obtain ⟨AO, cO, hvO⟩ := slice_of_own HBx.out.o
           subst hvN hvG hvO
           have x0 := blk_cell HBx.out.hx 0
           have x1 := blk_cell HBx.out.hx 1
           have x2 := blk_cell HBx.out.hx 2
           have x3 := blk_cell HBx.out.hx 3
           simp at x0 x1 x2 x3
           go_wp2_with fail
           refine (specOpt_any _ _ wr HBx.out.circ).mono ?_
           rintro e w5 ⟨⟨v5, d5, rfl, hC5, -⟩, hb5⟩
           have HR5 := Lib.hid ((hb5.block gR (blk_ltB HBx.out.hR)).trans HBx.out.hR)
           have HB5 := Lib.hid (HBx.out.below.trans (hb5.mono HBx.out.below.size))
           obtain ⟨B1, b1, B2, b2, B4, b4, e7⟩ := hC5.at.shape
           subst e7
           have HC5 := Lib.hid hC5
           have r0 := blk_cell HR5.out 0
           have r1 := blk_cell HR5.out 1
           have r2 := blk_cell HR5.out 2
           have r3 := blk_cell HR5.out 3
           have f0 := blk_free HR5.out 0
           have f1 := blk_free HR5.out 1
           have f2 := blk_free HR5.out 2
           have f3 := blk_free HR5.out 3
           clear hC5 hb5 HBx x0 x1 x2 x3 z p0 p1 p2 p3
           generalize hL1 : d5.next.length = M1 at *
           generalize hL2 : d5.gates.length = M2 at *
           generalize hL3 : d5.outs.length = M3 at *
           generalize hL4 : d5.ins = M4 at *
           clear hL1 hL2 hL3 hL4
           go_wp2_with fail
           refine bodyPost_ret (v := .agg #[.int .i64 M4, .slice B1 M1 b1, .slice B2 M2 b2, .slice B4 M3 b4]) (by simp [results, Try.results100, go_sem, r0, r1, r2, r3]) rfl ⟨⟨_, _, rfl, circOwn_four HC5.out HR5.out⟩, ?_⟩
           exact (((HB5.out.setCell hwR _).setCell hwR _).setCell hwR _).setCell hwR _
theorem specRemove_any (v : Value) (c : Cz) (w : World) (h : CircAt w v c) : Calls Try.prog 100 #[v] w (SomeCirc w) := by
 cases hv : Cir.valid c
 ·exact specRemove_no v c w h hv
 ·obtain ⟨d1, d2⟩ := Cir.nat_ok hv
  exact specRemove_ok v (Cir.nat c) w (by rw [← d1]; exact h) d2 (by rw [← d1]; exact hv)
end Go.Proofs.Ytkkkjbinfdohpaa