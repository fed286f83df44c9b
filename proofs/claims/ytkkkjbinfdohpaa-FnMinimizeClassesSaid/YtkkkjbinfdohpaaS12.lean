import Derived.Test.YtkkkjbinfdohpaaS11
import Derived.Test.YtkkkjbinfdohpaaS08
import Derived.Test.YtkkkjbinfdohpaaS09
import Derived.Test.YtkkkjbinfdohpaaS01
import Derived.Test.YtkkkjbinfdohpaaS02
import Derived.Test.YtkkkjbinfdohpaaS04
set_option linter.unusedVariables false
set_option linter.unusedSimpArgs false
set_option maxRecDepth 100000
set_option maxHeartbeats 16000000
namespace Go.Proofs.Ytkkkjbinfdohpaa
open Go.RowKit
def pz (l : List (Nat × Nat)) : List (Int × Int) := l.map fun s => ((s.1 : Int), (s.2 : Int))
theorem pz_snoc (l : List (Nat × Nat)) (n : Nat × Nat) : cubes (pz (l ++ [n])) = cubes (pz l) ++ [.int .i64 (n.1 : Int), .int .i64 (n.2 : Int)] := by
 unfold pz
 rw [List.map_append, cubes_append]
 rfl
theorem pz_length (l : List (Nat × Nat)) : (pz l).length = l.length := by unfold pz; simp
theorem info_pair : (Try.prog.info? 141).map (fun i => (i.zero, i.size, i.bytes)) = some (some (.agg #[.int .i64 0, .int .i64 0]), 2, 16) := by kernel_rfl
theorem append_pairs {w : World} {ops : Array Oper} {rest : List Oper} {o : Oper} {a : Act} {Q : Exit → Act → World → Prop} (hgd : o.guard = none) (s x : Operand)
  (ho : o.op = .call { callee := .builtin .append, args := #[s, x], argTypes := #[152, 152] })
  (base : Nat) (v : Value) (n : Nat) (xs : List Value) (hs : a.eval s = v) (hown : w.ownsRow base 141 2 v n xs) (sv : Value) (m : Nat) (news : List Value) (hx : a.eval x = sv) (hr : Row w 2 sv m news) (h1 : ∀ u ∈ news, u.oneCell' = true)
  (h63 : n + m ≤ 1000000) (hbase : base ≤ w.heap.size)
  (h : ∀ v' w', w'.ownsRow base 141 2 v' (n + m) (xs ++ news) → w.grownBy w' v.ownBlock → (v'.ownBlock = v.ownBlock ∨ v'.ownBlock = some w.heap.size) → wpList Try.prog ops Q rest (a.put o.dst v') w') : wpList Try.prog ops Q (o :: rest) a w := by
 obtain ⟨i, hi, hz0, hz1, hz2⟩ := info_parts info_pair
 exact wpList_append_at hgd s x 152 ho base 141 i _ 2 16 Try.underlying152 hi hz0 hz1 hz2 rfl (by decide) v n xs hs hown sv m news hx hr h1 (by unfold maxLen; omega) (by omega) hbase h
theorem PSet.congr {w : World} {b n : Nat} {S S' : (Nat × Nat) → Bool} (h : PSet w b n S) (e : ∀ x, S x = S' x) : PSet w b n S' := by
 rw [show S' = S from funext fun x => (e x).symm]; exact h
structure PB (B mb ins N : Nat) (l : List ((Nat × Nat) × List Nat)) (vq vp : Value) (pv : List Value) (F : Nat → Prop) (w : World) : Prop where
  q : w.ownsRow B 141 2 vq l.length (cubes (pz (Cir.psts l)))
  p : w.ownsRow B 88 1 vp l.length pv
  s : PSet w mb N (fun x => Cir.pmem (Cir.psts l) x)
  r : ∀ (i : Nat) (s : Nat × Nat) (x : List Nat) (u : Value), l[i]? = some (s, x) → pv[i]? = some u → SSIn bools F w u (rowsOf ins x)
  f : ∀ g, F g → g < w.heap.size ∧ vq.ownBlock ≠ some g ∧ vp.ownBlock ≠ some g ∧ g ≠ mb
  a : Apart vq vp
  am : vq.ownBlock ≠ some mb ∧ vp.ownBlock ≠ some mb
theorem PB.pl {B mb ins N : Nat} {l : List ((Nat × Nat) × List Nat)} {vq vp : Value} {pv : List Value} {F : Nat → Prop} {w : World} (h : PB B mb ins N l vq vp pv F w) : pv.length = l.length := by
 have := h.p.1; omega
theorem PB.below {B mb ins N : Nat} {l : List ((Nat × Nat) × List Nat)} {vq vp : Value} {pv : List Value} {F : Nat → Prop} {w w' : World} (h : PB B mb ins N l vq vp pv F w) (hb : Below w.heap.size w w') : PB B mb ins N l vq vp pv F w' :=
 ⟨own_below h.q hb, own_below h.p hb, h.s.below hb, fun i s x u hx hu => (h.r i s x u hx hu).below hb, fun g hg => ⟨Nat.lt_of_lt_of_le (h.f g hg).1 hb.size, (h.f g hg).2⟩, h.a, h.am⟩
theorem PB.push {B mb ins N j : Nat} {n : Nat × Nat} {l : List ((Nat × Nat) × List Nat)} {x : List Nat} {vq vp vq' vp' u : Value} {pv : List Value} {F F' : Nat → Prop} {w w1 w3 w5 : World} {o1 o2 : Obj} (h : PB B mb ins N l vq vp pv F w)
  (hu : SSIn bools F' w u (rowsOf ins (x ++ [j]))) (hF : ∀ g, F g → F' g) (hF' : ∀ g, F' g → g < w.heap.size ∧ vq.ownBlock ≠ some g ∧ vp.ownBlock ≠ some g ∧ g ≠ mb)
  (s1 : PSet w1 mb (N + 1) (fun z => Cir.pmem (Cir.psts l) z || decide (z = n))) (g1 : w.grownBy w1 (some mb))
  (own3 : w3.ownsRow B 141 2 vq' (l.length + 1) (cubes (pz (Cir.psts l)) ++ [.int .i64 (n.1 : Int), .int .i64 (n.2 : Int)])) (g3 : (w1.alloc o1).grownBy w3 vq.ownBlock) (at3 : vq'.ownBlock = vq.ownBlock ∨ vq'.ownBlock = some (w1.alloc o1).heap.size)
  (own5 : w5.ownsRow B 88 1 vp' (l.length + 1) (pv ++ [u])) (g5 : (w3.alloc o2).grownBy w5 vp.ownBlock) (at5 : vp'.ownBlock = vp.ownBlock ∨ vp'.ownBlock = some (w3.alloc o2).heap.size) :
  PB B mb ins (N + 1) (l ++ [(n, x ++ [j])]) vq' vp' (pv ++ [u]) F' w5 := by
 have z1 := g1.size
 have z3 := g3.size
 have z5 := g5.size
 rw [World.size_alloc] at z3 z5
 have hvs : Cir.psts (l ++ [(n, x ++ [j])]) = Cir.psts l ++ [n] := by unfold Cir.psts; simp
 have mbl := h.s.lt
 have hq' : ∀ g, vq'.ownBlock = some g → vq.ownBlock = some g ∨ g = w1.heap.size + 1 := fun g hg => by
  rcases at3 with e | e
  ·exact .inl (e.symm.trans hg)
  ·rw [World.size_alloc] at e; exact .inr (Option.some.inj (hg.symm.trans e))
 have hp' : ∀ g, vp'.ownBlock = some g → vp.ownBlock = some g ∨ g = w3.heap.size + 1 := fun g hg => by
  rcases at5 with e | e
  ·exact .inl (e.symm.trans hg)
  ·rw [World.size_alloc] at e; exact .inr (Option.some.inj (hg.symm.trans e))
 have hql : ∀ g, vq.ownBlock = some g → g < w.heap.size := fun g hg => (h.q.lt g hg).2
 have hpl : ∀ g, vp.ownBlock = some g → g < w.heap.size := fun g hg => (h.p.lt g hg).2
 have ho : Only (fun g => g = mb ∨ vq.ownBlock = some g ∨ vp.ownBlock = some g) w w5 := by
  have a1 : Only (fun g => g = mb ∨ vq.ownBlock = some g ∨ vp.ownBlock = some g) w w1 := Only.grown g1 fun k hk => .inl (Option.some.inj hk).symm
  have a2 := Only.of_below (fun g => g = mb ∨ vq.ownBlock = some g ∨ vp.ownBlock = some g) (bel_new w1 o1)
  have a3 : Only (fun g => g = mb ∨ vq.ownBlock = some g ∨ vp.ownBlock = some g) (w1.alloc o1) w3 := Only.grown g3 fun k hk => .inr (.inl hk)
  have a4 := Only.of_below (fun g => g = mb ∨ vq.ownBlock = some g ∨ vp.ownBlock = some g) (bel_new w3 o2)
  have a5 : Only (fun g => g = mb ∨ vq.ownBlock = some g ∨ vp.ownBlock = some g) (w3.alloc o2) w5 := Only.grown g5 fun k hk => .inr (.inr hk)
  exact (((a1.trans a2).trans a3).trans a4).trans a5
 have hE : ∀ g, F' g → ¬ (g = mb ∨ vq.ownBlock = some g ∨ vp.ownBlock = some g) := fun g hg he => by
  have := hF' g hg
  rcases he with he | he | he
  ·exact this.2.2.2 he
  ·exact this.2.1 he
  ·exact this.2.2.1 he
 refine ⟨?_, ?_, ?_, fun i s y z hy hz => ?_, fun g hg => ?_, fun g h1 h2 => ?_, ?_, ?_⟩
 ·rw [List.length_append, List.length_singleton, hvs, pz_snoc]
  refine own_kept (own_below own3 (bel_new _ _)) g5 fun g h1 h2 => ?_
  rcases hq' g h1 with e | e
  ·exact h.a g e h2
  ·have := hpl g h2; omega
 ·rw [List.length_append, List.length_singleton]
  exact own5
 ·have s3 : PSet w3 mb (N + 1) _ := (s1.below (bel_new w1 o1)).only (Only.grown (E := fun g => vq.ownBlock = some g) g3 fun k hk => hk) (h.am.1)
  have s5 := (s3.below (bel_new w3 o2)).only (Only.grown (E := fun g => vp.ownBlock = some g) g5 fun k hk => hk) (h.am.2)
  exact s5.congr fun z => by rw [hvs, Cir.pmem_snoc]
 ·rcases Nat.lt_or_ge i l.length with hi | hi
  ·rw [List.getElem?_append_left hi] at hy
   rw [List.getElem?_append_left (by rw [h.pl]; exact hi)] at hz
   exact ((h.r i s y z hy hz).mono hF).only ho hE
  ·have hil : i = l.length := by
    rcases Nat.lt_or_ge l.length i with hh | hh
    ·rw [List.getElem?_eq_none (by simp; omega)] at hy; cases hy
    ·omega
   subst hil
   rw [List.getElem?_append_right (Nat.le_refl _), Nat.sub_self] at hy
   rw [List.getElem?_append_right (by rw [h.pl]; exact Nat.le_refl _), h.pl, Nat.sub_self] at hz
   obtain ⟨rfl, rfl⟩ := Prod.mk.inj (Option.some.inj hy)
   obtain rfl := Option.some.inj hz
   exact hu.only ho hE
 ·have := hF' g hg
  refine ⟨by omega, fun h1 => ?_, fun h1 => ?_, this.2.2.2⟩
  ·rcases hq' g h1 with e | e
   ·exact this.2.1 e
   ·omega
  ·rcases hp' g h1 with e | e
   ·exact this.2.2.1 e
   ·omega
 ·rcases hq' g h1 with e | e
  ·rcases hp' g h2 with e2 | e2
   ·exact h.a g e e2
   ·have := hql g e; omega
  ·rcases hp' g h2 with e2 | e2
   ·have := hpl g e2; omega
   ·omega
 ·intro h1
  rcases hq' _ h1 with e | e
  ·exact h.am.1 e
  ·omega
 ·intro h1
  rcases hp' _ h1 with e | e
  ·exact h.am.2 e
  ·omega
end Go.Proofs.Ytkkkjbinfdohpaa
namespace Go.Proofs.Ytkkkjbinfdohpaa
open Go.RowKit
theorem diClo_any (g g2 : Nat) (a b : Ci) (s1 s2 x : Nat) (w : World) (h : PCirc w g (Cir.toCz a)) (h2 : PCirc w g2 (Cir.toCz b)) (ha : Cir.Ok a) (hb : Cir.Ok b) (hs1 : s1 ≤ 1000) (hs2 : s2 ≤ 1000) (hx : x ≤ 1000) :
  Calls Try.prog 115 #[.agg #[.int .i64 (s1 : Int), .int .i64 (s2 : Int)], .int .i64 x, .pointer (some ⟨g, 0, none⟩), .pointer (some ⟨g2, 0, none⟩)] w fun e w' => e = .returned (.tuple #[.agg #[.int .i64 (Cir.nextOf a s1 x : Nat), .int .i64 (Cir.nextOf b s2 x : Nat)], .bool (Cir.pbad a b (s1, s2) x)]) ∧ Below w.heap.size w w' := by
 have hne : (((Cir.num (Cir.outsOf a s1 x) : Nat) : Int) != ((Cir.num (Cir.outsOf b s2 x) : Nat) : Int)) = Cir.pbad a b (s1, s2) x := by
  unfold Cir.pbad
  rw [Bool.eq_iff_iff]
  simp only [bne_iff_ne, ne_eq]
  omega
 have H := Lib.hid h
 have H2 := Lib.hid h2
 clear h h2
 generalize Cir.pbad a b (s1, s2) x = bad at *
 go_enter Try.func115, Try.ntmps115
 have B0 : Hid (Below w.heap.size w ((w.alloc (.cells #[.int .i64 s1, .int .i64 s2] 141)).alloc (.cells #[.int .i64 0, .int .i64 0] 141))) := Lib.hid (((Below.refl _ _).alloc (Nat.le_refl _) _).alloc (by simp) _)
 go_wp2_with fail
 refine (cycle_any g a s1 x _ (H.out.below B0.out) ha hs1 hx).mono ?_
 rintro e w1 ⟨rfl, hb1⟩
 have B1 := Lib.hid (B0.out.trans (hb1.mono B0.out.size))
 have c0 : w1.cell? ⟨w.heap.size, 1, none⟩ = some (.int .i64 s2) := (hb1.cell (p := ⟨w.heap.size, 1, none⟩) (by simp only [World.size_alloc]; omega)).trans (by rw [(bel_new _ _).cell (p := ⟨w.heap.size, 1, none⟩) (by simp only [World.size_alloc]; omega), blk_cell (heap_alloc_new w _) 1]; rfl)
 have hr : w1.heap[w.heap.size + 1]? = some (.cells #[.int .i64 0, .int .i64 0] 141 (0, 0)) := by
  have := heap_alloc_new (w.alloc (.cells #[.int .i64 s1, .int .i64 s2] 141)) (.cells #[.int .i64 0, .int .i64 0] 141)
  rw [World.size_alloc] at this
  exact (hb1.block _ (by simp only [World.size_alloc]; omega)).trans this
 have HR := Lib.hid hr
 have hz1 := hb1.size
 rw [World.size_alloc, World.size_alloc] at hz1
 clear hb1 hr B0
 go_wp2_with fail
 refine (cycle_any g2 b s2 x _ (H2.out.below B1.out) hb hs2 hx).mono ?_
 rintro e w2 ⟨rfl, hb2⟩
 have B2 := Lib.hid (B1.out.trans (hb2.mono B1.out.size))
 have hr := (hb2.block (w.heap.size + 1) (by omega)).trans HR.out
 have hz2 := hb2.size
 have o0 := blk_cell hr 0
 have o1 := blk_cell hr 1
 have b0 := blk_free hr 0
 have b1 := blk_free hr 1
 simp at o0 o1
 clear hr hb2 c0 HR
 generalize Cir.num (Cir.outsOf a s1 x) = y1 at *
 generalize Cir.num (Cir.outsOf b s2 x) = y2 at *
 go_wp2_with fail
 refine bodyPost_ret (v := .tuple #[.agg #[.int .i64 (Cir.nextOf a s1 x : Nat), .int .i64 (Cir.nextOf b s2 x : Nat)], .bool bad]) (by simp [results, Try.results115, go_sem, o0, o1]) rfl ⟨rfl, ?_⟩
 exact (B2.out.setCell (by simp only; omega) _).setCell (by simp only; omega) _
end Go.Proofs.Ytkkkjbinfdohpaa
namespace Go.Proofs.Ytkkkjbinfdohpaa
open Go.RowKit
theorem searchP_any (g g2 : Nat) (a b : Ci) (w : World) (h : PCirc w g (Cir.toCz a)) (h2 : PCirc w g2 (Cir.toCz b)) (ha : Cir.Ok a) (hb : Cir.Ok b) :
  Calls Try.prog 116 #[.int .i64 a.ins, .agg #[.int .i64 0, .int .i64 0], .func (.func 115) #[] #[.pointer (some ⟨g, 0, none⟩), .pointer (some ⟨g2, 0, none⟩)]] w (Searched a.ins (Cir.pdist a b) w) := by
 have l1 := ha.ins
 have HP := Lib.hid h
 have HP2 := Lib.hid h2
 have Ha := Lib.hid ha
 have Hb0 := Lib.hid hb
 obtain ⟨M, e, hM⟩ : ∃ M : Nat, (2 : Int) ^ a.ins = (M : Int) ∧ M = 2 ^ a.ins := ⟨2 ^ a.ins, two_pow a.ins, rfl⟩
 have hM16 : M ≤ 16 := by rw [hM]; exact Nat.pow_le_pow_right (show 0 < 2 by decide) l1
 have hwM := IntWalk.i64_in (M : Int) (by omega)
 have HM := Lib.hid hM
 have hmm := @run_makeMap Try.prog
 have hwins := IntWalk.i64_in (a.ins : Int) (by omega)
 clear h h2 ha hb hM
 have Hset0 : Hid (PSet ((((w.alloc (.cells #[.int .i64 0, .int .i64 0] 141)).alloc (.cells #[.int .i64 0, .int .i64 0] 141)).alloc (.cells #[.slice none 0 0] 88)).alloc (.map #[] 0)) (w.heap.size + 1 + 1 + 1) 0 (fun _ => false)) := Lib.hid (by have := pSet_made (((w.alloc (.cells #[.int .i64 0, .int .i64 0] 141)).alloc (.cells #[.int .i64 0, .int .i64 0] 141)).alloc (.cells #[.slice none 0 0] 88)); rwa [World.size_alloc, World.size_alloc, World.size_alloc] at this)
 have Hq0 : Hid (((((w.alloc (.cells #[.int .i64 0, .int .i64 0] 141)).alloc (.cells #[.int .i64 0, .int .i64 0] 141)).alloc (.cells #[.slice none 0 0] 88)).alloc (.map #[] 0)).ownsRow w.heap.size 141 2 (.slice (some ⟨w.heap.size + 1, 0, none⟩) 1 1) 1 [.int .i64 0, .int .i64 0]) := Lib.hid (by
  have := (((World.ownsRow_lit (base := w.heap.size) (e := 141) (size := 2) (w.alloc (.cells #[.int .i64 0, .int .i64 0] 141)) #[.int .i64 0, .int .i64 0] 1 (by simp) (by unfold maxLen; omega) rfl).alloc (.cells #[.slice none 0 0] 88)).alloc (.map #[] 0))
  rwa [World.size_alloc] at this)
 have Hp0 : Hid (((((w.alloc (.cells #[.int .i64 0, .int .i64 0] 141)).alloc (.cells #[.int .i64 0, .int .i64 0] 141)).alloc (.cells #[.slice none 0 0] 88)).alloc (.map #[] 0)).ownsRow w.heap.size 88 1 (.slice (some ⟨w.heap.size + 1 + 1, 0, none⟩) 1 1) 1 [.slice none 0 0]) := Lib.hid (by
  have := (World.ownsRow_lit (base := w.heap.size) (e := 88) (size := 1) ((w.alloc (.cells #[.int .i64 0, .int .i64 0] 141)).alloc (.cells #[.int .i64 0, .int .i64 0] 141)) #[.slice none 0 0] 1 (by simp; omega) (by unfold maxLen; omega) rfl).alloc (.map #[] 0)
  rwa [World.size_alloc, World.size_alloc] at this)
 have hsz : ((((w.alloc (.cells #[.int .i64 0, .int .i64 0] 141)).alloc (.cells #[.int .i64 0, .int .i64 0] 141)).alloc (.cells #[.slice none 0 0] 88)).alloc (.map #[] 0)).heap.size = w.heap.size + 4 := by simp
 have Bm : Hid (Below w.heap.size w ((((w.alloc (.cells #[.int .i64 0, .int .i64 0] 141)).alloc (.cells #[.int .i64 0, .int .i64 0] 141)).alloc (.cells #[.slice none 0 0] 88)).alloc (.map #[] 0))) := Lib.hid (((((Below.refl _ _).alloc (Nat.le_refl _) _).alloc (by simp) _).alloc (by simp; omega) _).alloc (by simp; omega) _)
 go_enter Try.func116, Try.ntmps116
 obtain ⟨w2, hmu, hset2, hg2⟩ := Hset0.out.set (by omega) (x := (0, 0)) ⟨by simp, by simp⟩
 have hmu : (Instr.mapUpdate 153 (.map (some (w.heap.size + 1 + 1 + 1))) (.agg #[.int .i64 0, .int .i64 0]) (.bool true)).run Try.prog ((((w.alloc (.cells #[.int .i64 0, .int .i64 0] 141)).alloc (.cells #[.int .i64 0, .int .i64 0] 141)).alloc (.cells #[.slice none 0 0] 88)).alloc (.map #[] 0)) = .ok () w2 := hmu
 go_wp2_with fail
 have HV0 : Hid (PB w.heap.size (w.heap.size + 1 + 1 + 1) a.ins 1 [((0, 0), [])] (.slice (some ⟨w.heap.size + 1, 0, none⟩) 1 1) (.slice (some ⟨w.heap.size + 1 + 1, 0, none⟩) 1 1) [.slice none 0 0] (fun _ => False) w2) := Lib.hid (by
  have hz2 := hg2.size
  refine ⟨own_kept Hq0.out hg2 (fun g h1 h2 => ?_), own_kept Hp0.out hg2 (fun g h1 h2 => ?_), hset2.congr (fun x => by rw [show Cir.psts [((0, 0), [])] = [(0, 0)] from rfl, Cir.pmem_zero, Bool.false_or]), fun i s x u h1 h2 => ?_, fun g hg => hg.elim, fun g h1 h2 => ?_, ?_, ?_⟩
  ·have := Option.some.inj h1; have := Option.some.inj h2; simp only at *; omega
  ·have := Option.some.inj h1; have := Option.some.inj h2; simp only at *; omega
  ·cases i with
   | zero =>
    obtain ⟨rfl, rfl⟩ := Prod.mk.inj (Option.some.inj h1)
    obtain rfl := Option.some.inj h2
    exact SSIn.nil _ _ _
   | succ i => simp at h1
  ·have := Option.some.inj h1; have := Option.some.inj h2; simp only at *; omega
  ·intro h1; have := Option.some.inj h1; simp only at *; omega
  ·intro h1; have := Option.some.inj h1; simp only at *; omega)
 have B2 := Lib.hid (Bm.out.grown hg2 Bm.out.size (fun q hq => by have := Option.some.inj hq; omega))
 have z2 := hg2.size
 rw [hsz] at z2
 clear hset2 hg2 Hset0 Hq0 Hp0 Bm hmm hsz
 have hR0 : Hid (Cir.pdist a b = Cir.pbfs a b (65 - 0) 0 [((0, 0), [])]) := Lib.hid rfl
 generalize Cir.pdist a b = res at *
 go_loopw [8, 9, 11] (fun vq vp i wr => ∃ (q p : Value) (k m : Nat) (l : List ((Nat × Nat) × List Nat)) (pv : List Value) (F : Nat → Prop), q = vq ∧ p = vp ∧ i = .int .i64 k ∧ k ≤ l.length ∧ 1 ≤ l.length ∧ l.length ≤ 64 ∧ m ≤ 1 + k * 16 ∧ Hid (Cir.Ps a b l) ∧ Hid (res = Cir.pbfs a b (65 - k) k l) ∧ Hid (PB w.heap.size (w.heap.size + 1 + 1 + 1) a.ins m l vq vp pv F wr) ∧ Below w.heap.size w wr) (fun _ _ i _ => 64 - (intOf i).toNat)
 case atStart => exact ⟨_, _, 0, 1, [((0, 0), [])], _, _, rfl, rfl, rfl, by simp, by simp, by simp, by omega, Lib.hid (Cir.Ps.zero a b), hR0, HV0, B2.out⟩
 case round =>
  obtain ⟨vq, vp, k, m, l, pv, F, hq, hp, rfl, hk, hpos, hl8, hm16, Hvs, hres, HV, hb⟩ := hrel
  subst hq hp
  clear HV0 B2 hR0
  have Hb := Lib.hid hb
  have hzb := hb.size
  clear hb
  by_cases hlt2 : k < l.length
  ·obtain ⟨⟨⟨s1, s2⟩, p⟩, hs⟩ := at_some hlt2
   have Hgs := Lib.hid hs
   have hf : 65 - k = 65 - (k + 1) + 1 := by omega
   rw [hf] at hres
   have hdl : decide (k < l.length) = true := decide_eq_true hlt2
   obtain ⟨gq, cq, hvq, hgq, hgq2, hcq, hcqm⟩ := own_open HV.out.q (by omega)
   subst hvq
   unfold maxLen at hcqm
   clear hs hf
   go_wp2_with fail
   obtain ⟨Wk, hWk⟩ : ∃ Wk, Wk = wr := ⟨_, rfl⟩
   subst hWk
   go_loopw [8, 9, 33] (fun vq2 vp2 i2 wr2 => ∃ (q2 p2 : Value) (j m2 : Nat) (pv2 : List Value) (F2 : Nat → Prop), q2 = vq2 ∧ p2 = vp2 ∧ i2 = .int .i64 j ∧ j ≤ M ∧ m2 ≤ m + j ∧ Hid (∀ y, y < j → Cir.pbad a b (s1, s2) y = false) ∧ Hid (PB w.heap.size (w.heap.size + 1 + 1 + 1) a.ins m2 (Cir.ppushes a b (s1, s2) p j l) vq2 vp2 pv2 F2 wr2) ∧ Below w.heap.size w wr2) (fun _ _ i _ => M - (intOf i).toNat)
   case atStart => exact ⟨_, _, 0, m, pv, F, rfl, rfl, rfl, Nat.zero_le _, by omega, Lib.hid (fun y hy => by omega), HV, Hb.out⟩
   case round =>
    obtain ⟨q2, p2, j, m2, pv2, F2, hq2, hp2, rfl, hj, hm2, Hnb, HV2, hb2⟩ := hrel
    subst hq2 hp2
    have Hb2 := Lib.hid hb2
    have hzb2 := hb2.size
    clear HV hb2
    have Hvs2 := Lib.hid (Hvs.out.pushes Ha.out Hb0.out Hgs.out j (by rw [← HM.out]; exact hj))
    have hL64 := Hvs2.out.size
    have Hgj := Lib.hid (Cir.ppushes_get (a := a) (b := b) (s := (s1, s2)) (p := p) (j := j) Hgs.out)
    have Hsu := Lib.hid (Cir.ppushes_succ a b (s1, s2) p j l)
    have hkL := (List.getElem?_eq_some_iff.1 Hgj.out).1
    by_cases hlj : j < M
    ·obtain ⟨L2, hL2⟩ : ∃ L2, Cir.ppushes a b (s1, s2) p (j + 1) l = L2 := ⟨_, rfl⟩
     rw [hL2] at Hsu
     have HL2 := Lib.hid hL2
     clear hL2
     generalize Cir.ppushes a b (s1, s2) p j l = L at *
     obtain ⟨gq, cq, hvq, hgq, hgq2, hcq, hcqm⟩ := own_open HV2.out.q (by omega)
     subst hvq
     obtain ⟨gp, cp, hvp, hgp, hgp2, hcp, hcpm⟩ := own_open HV2.out.p (by omega)
     subst hvp
     unfold maxLen at hcqm hcpm
     have hlq : (cubes (pz (Cir.psts L))).length = L.length * 2 := by rw [cubes_length, pz_length, Cir.psts_length]
     obtain ⟨v0, hv0, hd0, hf0⟩ := own_slot HV2.out.q (j := k * 2) (by omega)
     obtain ⟨v1, hv1, hd1q, hf1q⟩ := own_slot HV2.out.q (j := k * 2 + 1) (by omega)
     have hcg : (pz (Cir.psts L))[k]? = some ((s1 : Int), (s2 : Int)) := by
      have h1 := Cir.psts_get Hgj.out
      unfold pz; rw [List.getElem?_map, h1]; rfl
     obtain ⟨cg1, cg2⟩ := cubes_get hcg
     obtain rfl := Option.some.inj (hv0.symm.trans cg1)
     obtain rfl := Option.some.inj (hv1.symm.trans cg2)
     obtain ⟨u1, hu1, hd1, hf1⟩ := own_slot HV2.out.p (j := k) (by omega)
     have HS := Lib.hid (HV2.out.r k (s1, s2) p u1 Hgj.out hu1)
     have hs8 := Hvs2.out.lt (s1, s2) (List.mem_of_getElem? (Cir.psts_get Hgj.out))
     simp only at hs8
     have hN1 : Cir.nextOf a s1 j < 8 := Cir.nx8 Ha.out _ _
     have hN2 : Cir.nextOf b s2 j < 8 := Cir.nx8 Hb0.out _ _
     have hp8 := Hvs2.out.len k (s1, s2) p Hgj.out
     clear hv0 hv1 hu1 hf0 hf1 hf1q hcg cg1 cg2
     go_wp2_with fail
     refine (diClo_any g g2 a b s1 s2 j _ (HP.out.below Hb2.out) (HP2.out.below Hb2.out) Ha.out Hb0.out (by omega) (by omega) (by omega)).mono ?_
     rintro e w4 ⟨rfl, hb4⟩
     have hnx : Cir.pnx a b (s1, s2) j = (Cir.nextOf a s1 j, Cir.nextOf b s2 j) := rfl
     rw [hnx] at Hsu
     clear hnx
     generalize Cir.nextOf a s1 j = N1 at *
     generalize Cir.nextOf b s2 j = N2 at *
     have hb5 := hb4.trans ((bel_new w4 (.cells #[.int .i64 N1, .int .i64 N2] 141)).mono hb4.size)
     have HB5 := Lib.hid (heap_alloc_new w4 (.cells #[.int .i64 N1, .int .i64 N2] 141))
     have hz45 : w4.heap.size < (w4.alloc (.cells #[.int .i64 N1, .int .i64 N2] 141)).heap.size := by rw [World.size_alloc]; omega
     have hz4 := hb4.size
     have hmb4 := HV2.out.s.lt
     clear hb4
     have HV5 := Lib.hid (HV2.out.below hb5)
     have HS5 := Lib.hid (HS.out.below hb5)
     have Hb5 := Lib.hid (Hb2.out.trans (hb5.mono hzb2))
     have hz5 := hb5.size
     have c5 := (hb5.cell (p := ⟨gp, k, none⟩) hgp2).trans hd1
     obtain ⟨Ap, np, hvu, hcu, hcum⟩ := HS5.out.at.shape
     subst hvu
     rw [rowsOf_length] at hcu
     unfold maxLen at hcum
     obtain ⟨vs5, hvl5, hrow5, hel5⟩ := HS5.out
     rw [rowsOf_length] at hvl5
     have One5 := Lib.hid (SSIn.one (by rw [rowsOf_length]; exact hvl5) hel5)
     have Row5 : Hid (Row (w4.alloc (.cells #[.int .i64 N1, .int .i64 N2] 141)) 1 (.slice Ap (rowsOf a.ins p).length np) p.length vs5) := Lib.hid (by have := hrow5.1; rwa [rowsOf_length] at this ⊢)
     have Hrow5 := Lib.hid hrow5
     have Hel5 := Lib.hid hel5
     clear hrow5 hel5
     cases hbad : Cir.pbad a b (s1, s2) j
     ·have Hnb2 : Hid (∀ y, y < j + 1 → Cir.pbad a b (s1, s2) y = false) := Lib.hid (fun y hy => by
       rcases Nat.lt_or_ge y j with h | h
       ·exact Hnb.out y h
       ·obtain rfl : y = j := by omega
        exact hbad)
      clear hbad Hnb
      cases hc : Cir.pmem (Cir.psts L) (N1, N2)
      ·have HPu := Lib.hid (Cir.ppush_no (p := p ++ [j]) hc)
       have hlk : (Instr.lookup 153 (.map (some (w.heap.size + 1 + 1 + 1))) (.agg #[.int .i64 N1, .int .i64 N2]) false).run Try.prog (w4.alloc (.cells #[.int .i64 N1, .int .i64 N2] 141)) = .ok (.bool (Cir.pmem (Cir.psts L) (N1, N2))) _ := HV5.out.s.look (x := (N1, N2)) ⟨by simp only; omega, by simp only; omega⟩
       rw [hc] at hlk
       go_wp2_with fail
       generalize w4.alloc (.cells #[.int .i64 N1, .int .i64 N2] 141) = w5 at *
       refine (cloneSS_any _ p.length _ _ (by have := Row5.out; exact this) One5.out (by omega)).mono ?_
       rintro e w6 ⟨v6, rfl, ho6, hb6⟩
       have hz6 := hb6.size
       have Ho6 := Lib.hid ho6
       have Hb6 := Lib.hid hb6
       clear ho6 hb6
       go_wp2_with fail
       refine (bitsOf_any j a.ins _ (by omega) (by omega)).mono ?_
       rintro e w7 ⟨v7, rfl, ho7, hb7⟩
       have hz7 := hb7.size
       have Ho6b := Lib.hid (own_below Ho6.out hb7)
       have Hb7 := Lib.hid (Hb6.out.trans (hb7.mono hz6))
       have Ho7 := Lib.hid (own_mono ho7 hz6)
       have Hge7 := Lib.hid (own_ge0 ho7)
       obtain ⟨A7, c7, hv7⟩ := slice_of_own Ho7.out
       subst hv7
       have Hlit := Lib.hid (Row.of_own (World.ownsRow_lit (base := w7.heap.size) (e := 69) (size := 1) w7 #[.slice A7 (Cir.bits j a.ins).length c7] 1 (Nat.le_refl _) (by unfold maxLen; omega) rfl))
       clear ho7 hb7
       go_wp2_with (first | (at_builtin; refine append_rows rfl (.tmp 57) (.tmp 61) rfl w5.heap.size _ p.length _ rfl (Ho6b.out.alloc _) _ 1 [.slice A7 (Cir.bits j a.ins).length c7] rfl Hlit.out (by simp [Value.oneCell']) (by omega) (by simp; omega) ?_; intro v8 w8 hown8 hg8 hat8; obtain ⟨A8, c8, hv8⟩ := slice_of_own hown8; subst hv8; have Hp8 := Lib.hid hown8; have Hg8 := Lib.hid hg8; have hz8 := hg8.size; rw [World.size_alloc] at hz8; have Ho8 := Lib.hid (own_kept (Ho7.out.alloc (.cells #[.slice A7 (Cir.bits j a.ins).length c7] 69)) hg8 (fun g h1 h2 => by have h3 := Hge7.out g h1; have h4 := (Ho6.out.lt g h2).2; omega)); have Hb8 := Lib.hid ((Hb7.out.alloc (Nat.le_trans hz6 hz7) _).grown hg8 (by simp; omega) (own_ge0 Ho6b.out)); have n8 := (Hb8.out.block _ hz45).trans HB5.out; have n8a := blk_cell n8 0; have n8b := blk_cell n8 1; clear hown8 hg8 hat8) | (at_mapUpdate; refine Stop.out ?_))
       have HS8 : Hid (SSIn bools (fun g => F2 g ∨ (w5.heap.size ≤ g ∧ g < w8.heap.size)) w8 (.slice A8 (p.length + 1) c8) (rowsOf a.ins (p ++ [j]))) := Lib.hid (by
        rw [rowsOf_snoc]
        exact SSIn.snoc (by rw [rowsOf_length]; exact hvl5) (fun i x u hx hu => (Hel5.out i x u hx hu).below Hb8.out) Ho8.out (by rw [rowsOf_length]; exact Hp8.out))
       have HV8 := Lib.hid (HV5.out.below Hb8.out)
       have HF8 : Hid (∀ g, (F2 g ∨ (w5.heap.size ≤ g ∧ g < w8.heap.size)) → g < w8.heap.size ∧ (Value.slice (some ⟨gq, 0, none⟩) L.length cq).ownBlock ≠ some g ∧ (Value.slice (some ⟨gp, 0, none⟩) L.length cp).ownBlock ≠ some g ∧ g ≠ w.heap.size + 1 + 1 + 1) := Lib.hid (fun g hg => by
        rcases hg with hg | hg
        ·exact HV8.out.f g hg
        ·have h3 := HV5.out.s.lt
         refine ⟨hg.2, fun h => ?_, fun h => ?_, by omega⟩
         ·have h2 := (HV5.out.q.lt g h).2; omega
         ·have h2 := (HV5.out.p.lt g h).2; omega)
       have Hb58 := Lib.hid (Hb5.out.trans (Hb8.out.mono (by omega)))
       have hz58 := Hb8.out.size
       obtain ⟨w9, hmu, hset9, hg9⟩ := HV8.out.s.set (by omega) (x := (N1, N2)) ⟨by simp only; omega, by simp only; omega⟩
       have hmu : (Instr.mapUpdate 153 (.map (some (w.heap.size + 1 + 1 + 1))) (.agg #[.int .i64 N1, .int .i64 N2]) (.bool true)).run Try.prog w8 = .ok () w9 := hmu
       have Hset9 := Lib.hid hset9
       have Hg9 := Lib.hid hg9
       have hz9 := hg9.size
       have n9 := (hg9.block w4.heap.size (by omega) (fun e => by have := Option.some.inj e; omega)).trans n8
       have n9a := blk_cell n9 0
       have n9b := blk_cell n9 1
       simp at n9a n9b
       have Hq9 := Lib.hid (own_kept HV8.out.q hg9 (fun g h1 h2 => HV8.out.am.1 (h1.trans h2.symm)))
       have Hp9 := Lib.hid (own_kept HV8.out.p hg9 (fun g h1 h2 => HV8.out.am.2 (h1.trans h2.symm)))
       have Hl9 := Lib.hid (Row.of_own (World.ownsRow_lit (base := w9.heap.size) (e := 141) (size := 2) w9 #[.int .i64 N1, .int .i64 N2] 1 (Nat.le_refl _) (by unfold maxLen; omega) rfl))
       clear hset9 hg9 n9 n8 n8a n8b
       refine ⟨?_⟩
       clear Ho6 Ho6b Ho7 Hge7 Hlit Hp8 Ho8 Hg8 HV5 HS5 Row5 Hrow5 Hel5 One5 Hb6 Hb7 hz6 hz7
       go_wp2_with (first
        | (at_builtin; refine append_pairs rfl (.tmp 79) (.tmp 81) rfl w.heap.size _ L.length (cubes (pz (Cir.psts L))) rfl (Hq9.out.alloc _) _ 1 [.int .i64 N1, .int .i64 N2] rfl Hl9.out (by simp [Value.oneCell']) (by omega) (by simp; omega) ?_; intro va wa howna hga hata; obtain ⟨Aa, ca, hva⟩ := slice_of_own howna; subst hva; have Hqa := Lib.hid howna; have Hga := Lib.hid hga; have Hata := Lib.hid hata; have hza := hga.size; rw [World.size_alloc] at hza; have Hpa := Lib.hid (own_kept (Hp9.out.alloc (.cells #[.int .i64 N1, .int .i64 N2] 141)) hga (fun g h1 h2 => HV8.out.a g h2 h1)); have Hla := Lib.hid (Row.of_own (World.ownsRow_lit (base := wa.heap.size) (e := 88) (size := 1) wa #[.slice A8 (p.length + 1) c8] 1 (Nat.le_refl _) (by unfold maxLen; omega) rfl)); clear howna hga hata)
        | (at_builtin; refine append_paths rfl (.tmp 83) (.tmp 85) rfl w.heap.size _ L.length pv2 rfl (Hpa.out.alloc _) _ 1 [.slice A8 (p.length + 1) c8] rfl Hla.out (by simp [Value.oneCell']) (by omega) (by simp; omega) ?_; intro vb wb hownb hgb hatb; obtain ⟨Ab, cb, hvb⟩ := slice_of_own hownb; subst hvb; have Hpb := Lib.hid hownb; have Hgb := Lib.hid hgb; have Hatb := Lib.hid hatb; clear hownb hgb hatb))
       go_roundw
       case rel => exact ⟨_, _, j + 1, m2 + 1, pv2 ++ [.slice A8 (p.length + 1) c8], _, rfl, rfl, by go_num, by omega, by omega, Hnb2, Lib.hid (by rw [HL2.out, Hsu.out, HPu.out]; exact HV8.out.push HS8.out (fun g h => .inl h) HF8.out Hset9.out Hg9.out Hqa.out Hga.out Hata.out Hpb.out Hgb.out Hatb.out), by
        have b1 := Hb58.out.grown Hg9.out Hb58.out.size (fun q hq => by have := Option.some.inj hq; omega)
        have b2 := (b1.alloc b1.size (.cells #[.int .i64 N1, .int .i64 N2] 141)).grown Hga.out (b1.alloc b1.size _).size (own_ge0 Hq9.out)
        exact (b2.alloc b2.size (.cells #[.slice A8 (p.length + 1) c8] 88)).grown Hgb.out (b2.alloc b2.size _).size (own_ge0 Hpa.out)⟩
       case measure => simp [intOf] <;> omega
      ·have HPu := Lib.hid (Cir.ppush_yes (p := p ++ [j]) hc)
       have hlk : (Instr.lookup 153 (.map (some (w.heap.size + 1 + 1 + 1))) (.agg #[.int .i64 N1, .int .i64 N2]) false).run Try.prog (w4.alloc (.cells #[.int .i64 N1, .int .i64 N2] 141)) = .ok (.bool (Cir.pmem (Cir.psts L) (N1, N2))) _ := HV5.out.s.look (x := (N1, N2)) ⟨by simp only; omega, by simp only; omega⟩
       rw [hc] at hlk
       go_wp2_with fail
       go_roundw
       case rel => exact ⟨_, _, j + 1, m2, pv2, F2, rfl, rfl, by go_num, by omega, by omega, Hnb2, Lib.hid (by rw [HL2.out, Hsu.out, HPu.out]; exact HV5.out), Hb5.out⟩
       case measure => simp [intOf] <;> omega
     ·have Hf := Lib.hid (Cir.pfind_some (M := 2 ^ a.ins) (by rw [← HM.out]; exact hlj) hbad Hnb.out)
      clear hbad Hnb
      have Hr : res = some (p ++ [j]) := by rw [hres.out]; exact Cir.pbfs_hit Hgs.out Hf.out
      clear hres
      subst Hr
      go_wp2_with fail
      generalize w4.alloc (.cells #[.int .i64 N1, .int .i64 N2] 141) = w5 at *
      refine (cloneSS_any _ p.length _ _ (by have := Row5.out; exact this) One5.out (by omega)).mono ?_
      rintro e w6 ⟨v6, rfl, ho6, hb6⟩
      have hz6 := hb6.size
      have Ho6 := Lib.hid ho6
      have Hb6 := Lib.hid hb6
      clear ho6 hb6
      go_wp2_with fail
      refine (bitsOf_any j a.ins _ (by omega) (by omega)).mono ?_
      rintro e w7 ⟨v7, rfl, ho7, hb7⟩
      have hz7 := hb7.size
      have Ho6b := Lib.hid (own_below Ho6.out hb7)
      have Hb7 := Lib.hid (Hb6.out.trans (hb7.mono hz6))
      have Ho7 := Lib.hid (own_mono ho7 hz6)
      have Hge7 := Lib.hid (own_ge0 ho7)
      obtain ⟨A7, c7, hv7⟩ := slice_of_own Ho7.out
      subst hv7
      have Hlit := Lib.hid (Row.of_own (World.ownsRow_lit (base := w7.heap.size) (e := 69) (size := 1) w7 #[.slice A7 (Cir.bits j a.ins).length c7] 1 (Nat.le_refl _) (by unfold maxLen; omega) rfl))
      clear ho7 hb7
      go_wp2_with (at_builtin; refine append_rows rfl (.tmp 57) (.tmp 61) rfl w5.heap.size _ p.length _ rfl (Ho6b.out.alloc _) _ 1 [.slice A7 (Cir.bits j a.ins).length c7] rfl Hlit.out (by simp [Value.oneCell']) (by omega) (by simp; omega) ?_; intro v8 w8 hown8 hg8 hat8; obtain ⟨A8, c8, hv8⟩ := slice_of_own hown8; subst hv8; have Hp8 := Lib.hid hown8; have Hg8 := Lib.hid hg8; have hz8 := hg8.size; rw [World.size_alloc] at hz8; have Ho8 := Lib.hid (own_kept (Ho7.out.alloc (.cells #[.slice A7 (Cir.bits j a.ins).length c7] 69)) hg8 (fun g h1 h2 => by have h3 := Hge7.out g h1; have h4 := (Ho6.out.lt g h2).2; omega)); have Hb8 := Lib.hid ((Hb7.out.alloc (Nat.le_trans hz6 hz7) _).grown hg8 (by simp; omega) (own_ge0 Ho6b.out)); clear hown8 hg8 hat8)
      have HS8 : Hid (SSIn bools (fun g => F2 g ∨ (w5.heap.size ≤ g ∧ g < w8.heap.size)) w8 (.slice A8 (p.length + 1) c8) (rowsOf a.ins (p ++ [j]))) := Lib.hid (by
       rw [rowsOf_snoc]
       exact SSIn.snoc (by rw [rowsOf_length]; exact hvl5) (fun i x u hx hu => (Hel5.out i x u hx hu).below Hb8.out) Ho8.out (by rw [rowsOf_length]; exact Hp8.out))
      have HV8 := Lib.hid (HV5.out.below Hb8.out)
      have HF8 : Hid (∀ g, (F2 g ∨ (w5.heap.size ≤ g ∧ g < w8.heap.size)) → g < w8.heap.size ∧ (Value.slice (some ⟨gq, 0, none⟩) L.length cq).ownBlock ≠ some g ∧ (Value.slice (some ⟨gp, 0, none⟩) L.length cp).ownBlock ≠ some g ∧ g ≠ w.heap.size + 1 + 1 + 1) := Lib.hid (fun g hg => by
       rcases hg with hg | hg
       ·exact HV8.out.f g hg
       ·have h3 := HV5.out.s.lt
        refine ⟨hg.2, fun h => ?_, fun h => ?_, by omega⟩
        ·have h2 := (HV5.out.q.lt g h).2; omega
        ·have h2 := (HV5.out.p.lt g h).2; omega)
      have Hb58 := Lib.hid (Hb5.out.trans (Hb8.out.mono (by omega)))
      have hz58 := Hb8.out.size
      have hlp : (rowsOf a.ins (p ++ [j])).length = p.length + 1 := by rw [rowsOf_length, List.length_append, List.length_singleton]
      have HSS : Hid (SSAt bools w8 (.slice A8 (p.length + 1) c8) (rowsOf a.ins (p ++ [j]))) := Lib.hid HS8.out.at
      have Hbits : Hid (∀ x ∈ rowsOf a.ins (p ++ [j]), x.length = a.ins) := Lib.hid (fun x hx => by
       unfold rowsOf at hx
       obtain ⟨y, _, rfl⟩ := List.mem_map.1 hx
       exact Cir.bits_length _ _)
      generalize hRe : rowsOf a.ins (p ++ [j]) = R at *
      have HRe := Lib.hid hRe
      clear hRe
      clear Ho6 Ho6b Ho7 Hge7 Hlit Hp8 Ho8 Hg8 HV5 HS5 Row5 Hrow5 Hel5 One5 Hb6 Hb7 hz6 hz7 HS8 HV8 HF8 Hf
      obtain ⟨Wz, hWz⟩ : ∃ Wz, Wz = w8 := ⟨_, rfl⟩
      subst hWz
      go_loopw [16, 66] (fun v i wr3 => ∃ (vv : Value) (q : Nat), vv = v ∧ i = .int .i64 q ∧ q ≤ p.length + 1 ∧ Hid (OwnSE bools 69 4 Wz.heap.size (fun g => g < wr3.heap.size) wr3 v (R.take q)) ∧ Below Wz.heap.size Wz wr3) (fun _ i _ => p.length + 1 - (intOf i).toNat)
      case atStart => exact ⟨_, 0, rfl, rfl, Nat.zero_le _, Lib.hid (OwnSE.nil _ _ _ _ _ _), Below.refl _ _⟩
      case round =>
       obtain ⟨vv, q, hvv, rfl, hq, HO, hb3⟩ := hrel
       subst hvv
       have Hb3 := Lib.hid hb3
       have hz3 := hb3.size
       by_cases hlq : q < p.length + 1
       ·obtain ⟨x, hx⟩ := at_some (show q < R.length by omega)
        obtain ⟨b, o', Bx, mx, hAx, hbl, hc1, hm1, hm2, hrx⟩ := ss_open HSS.out hb3 hx
        cases hAx
        have hxl : x.length ≤ 1000 := by have := Hbits.out x (List.mem_of_getElem? hx); omega
        have HSn : Hid (R.take (q + 1) = R.take q ++ [x]) := Lib.hid (take_snoc hx)
        have Hrx := Lib.hid hrx
        have HtL : Hid ((R.take q).length = q) := Lib.hid (by rw [List.length_take]; omega)
        clear hb3 hrx hx
        generalize R.take q = Rq at *
        go_wp2_with fail
        refine (cloneB_any _ x.length _ _ Hrx.out (bools_one x) (by omega)).mono ?_
        rintro e wc ⟨vc, rfl, hoc, hbc⟩
        have hzc := hbc.size
        have HOc := Lib.hid (OwnSE.below HO.out hbc)
        have Hoc := Lib.hid (own_mono hoc hz3)
        have Hgec := Lib.hid (own_ge0 hoc)
        have Hbc := Lib.hid (Hb3.out.trans (hbc.mono hz3))
        obtain ⟨Ac, cc, hvc⟩ := slice_of_own hoc
        subst hvc
        have Hlc := Lib.hid (Row.of_own (World.ownsRow_lit (base := wc.heap.size) (e := 69) (size := 1) wc #[.slice Ac x.length cc] 1 (Nat.le_refl _) (by unfold maxLen; omega) rfl))
        have hHOl := HOc.out.below (bel_new wc (.cells #[.slice Ac x.length cc] 69))
        obtain ⟨us, q1, q2, q3, q4, q5, q6, q7⟩ := hHOl
        rw [HtL.out] at q2
        have Q2 := Lib.hid q2
        have Q := Lib.hid (And.intro q1 (And.intro q3 (And.intro q4 (And.intro q5 (And.intro q6 q7)))))
        have Hol := Lib.hid (Hoc.out.alloc (.cells #[.slice Ac x.length cc] 69))
        clear hoc hbc HO HOc q1 q2 q3 q4 q5 q6 q7
        go_wp2_with (at_builtin; refine append_rows rfl (.tmp 70) (.tmp 73) rfl Wz.heap.size _ q us rfl Q2.out _ 1 [.slice Ac x.length cc] rfl Hlc.out (by simp [Value.oneCell']) (by omega) (by simp; omega) ?_; intro v9 w9 hown9 hg9 hat9; have HSE := Lib.hid (se_append Q.out.1 Q.out.2.1 Q.out.2.2.1 Q.out.2.2.2.1 Q.out.2.2.2.2.1 Q.out.2.2.2.2.2 Hol.out (fun g h1 h2 => by have := Hgec.out g h1; omega) (by rw [HtL.out]; exact hown9) hg9 hat9); have Hg9 := Lib.hid hg9; have hz9 := hg9.size; rw [World.size_alloc] at hz9; have Hol9 := Lib.hid (fun g h => (Hol.out.lt g h).2); have Hown9 := Lib.hid hown9; clear hown9 hg9 hat9)
        go_roundw
        case rel => exact ⟨_, q + 1, rfl, by go_num, by omega, Lib.hid (by
         rw [HSn.out]
         refine HSE.out.mono (Nat.le_refl _) (fun g hg => ?_)
         rcases hg with hg | hg | hg
         ·omega
         ·have h := Hol9.out g hg; rw [World.size_alloc] at h; omega
         ·exact (Hown9.out.lt g hg).2), (Hbc.out.alloc Hbc.out.size _).grown Hg9.out (Hbc.out.alloc Hbc.out.size _).size (own_ge0 Q2.out)⟩
        case measure => simp [intOf] <;> omega
       ·obtain rfl : q = p.length + 1 := by omega
        have HOf : Hid (OwnSE bools 69 4 w.heap.size (fun g => g < wr.heap.size) wr vv R) := Lib.hid (by
         have := HO.out
         rw [List.take_of_length_le (by omega)] at this
         exact this.mono (by omega) (fun g h => h))
        clear hb3
        go_wp2_with fail
        exact bodyPost_ret (v := .tuple #[vv, .bool true]) (by simp [results, Try.results116, go_sem]) rfl ⟨_, rfl, by rw [HRe.out]; exact HOf.out, Hb58.out.trans (Hb3.out.mono (by omega))⟩
    ·obtain rfl : j = M := by omega
     have Hf := Lib.hid (Cir.pfind_none (M := 2 ^ a.ins) (by rw [← HM.out]; exact Hnb.out))
     have HMr : Hid (res = Cir.pbfs a b (65 - (k + 1)) (k + 1) (Cir.ppushes a b (s1, s2) p j l)) := Lib.hid (by rw [hres.out, Cir.pbfs_step Hgs.out Hf.out, HM.out])
     clear Hnb
     generalize Cir.ppushes a b (s1, s2) p j l = L at *
     go_wp2_with fail
     go_roundw
     case rel => exact ⟨_, _, k + 1, m2, L, pv2, F2, rfl, rfl, by go_num, by omega, by omega, hL64, by omega, Hvs2, HMr, HV2, Hb2.out⟩
     case measure => simp [intOf] <;> omega
  ·obtain rfl : k = l.length := by omega
   have hr : res = none := by rw [hres.out, Cir.pbfs_end]
   obtain ⟨gq, cq, hvq, hgq, hgq2, hcq, hcqm⟩ := own_open HV.out.q (by have := hpos; omega)
   subst hvq
   unfold maxLen at hcqm
   subst hr
   go_wp2_with fail
   exact bodyPost_ret (v := .tuple #[.slice none 0 0, .bool false]) (by simp [results, Try.results116, go_sem]) rfl ⟨rfl, Hb.out⟩
end Go.Proofs.Ytkkkjbinfdohpaa
namespace Go.Proofs.Ytkkkjbinfdohpaa
open Go.RowKit
theorem distinguish_ok (va vb : Value) (a b : Ci) (w : World) (h : CircAt w va (Cir.toCz a)) (h2 : CircAt w vb (Cir.toCz b)) (ha : Cir.Ok a) (hb : Cir.Ok b) (hva : Cir.valid (Cir.toCz a) = true) (hvb : Cir.valid (Cir.toCz b) = true) (hi : a.ins = b.ins) (ho : a.outs.length = b.outs.length) :
  Calls Try.prog 79 #[va, vb] w fun e w' => (∃ (A : Option Addr) (n c : Nat), e = .returned (.agg #[.bool (Cir.pdist a b).isSome, .slice A n c])) ∧ Below w.heap.size w w' := by
 have HA := Lib.hid h
 have HB := Lib.hid h2
 obtain ⟨vn, vg, vo, rfl, r1, r2, r3⟩ := h
 obtain ⟨un, ug, uo, rfl, s1, s2, s3⟩ := h2
 obtain ⟨Ao, co, rfl, hco, hcom⟩ := NatsAt.shape (xs := a.outs) r3
 obtain ⟨Bo, do_, rfl, hdo, hdom⟩ := NatsAt.shape (xs := b.outs) s3
 unfold maxLen at hcom hdom
 have hins : (Cir.toCz a).ins = (a.ins : Int) := rfl
 have hins2 : (Cir.toCz b).ins = (b.ins : Int) := rfl
 have hb0 := bel_new w (.cells #[.int .i64 a.ins, vn, vg, .slice Ao a.outs.length co] 26)
 have hP1 := PCirc.boxed (c := Cir.toCz a) 26 r1 r2 r3
 have hP2 := PCirc.boxed (c := Cir.toCz b) 26 (Row.alloc s1 (.cells #[.int .i64 a.ins, vn, vg, .slice Ao a.outs.length co] 26)) (Row.alloc s2 (.cells #[.int .i64 a.ins, vn, vg, .slice Ao a.outs.length co] 26)) (Row.alloc s3 (.cells #[.int .i64 a.ins, vn, vg, .slice Ao a.outs.length co] 26))
 rw [hins] at HA hP1 ⊢
 rw [hins2] at HB hP2 ⊢
 rw [World.size_alloc] at hP2
 have hb1 := bel_new (w.alloc (.cells #[.int .i64 a.ins, vn, vg, .slice Ao a.outs.length co] 26)) (.cells #[.int .i64 b.ins, un, ug, .slice Bo b.outs.length do_] 26)
 have hb2 := bel_new ((w.alloc (.cells #[.int .i64 a.ins, vn, vg, .slice Ao a.outs.length co] 26)).alloc (.cells #[.int .i64 b.ins, un, ug, .slice Bo b.outs.length do_] 26)) (.cells #[.bool false, .slice none 0 0] 112)
 have hB := (hb0.trans (hb1.mono hb0.size)).trans (hb2.mono (Nat.le_trans hb0.size hb1.size))
 have P1 := Lib.hid ((hP1.below hb1).below hb2)
 have P2 := Lib.hid (hP2.below hb2)
 have C1 := Lib.hid (((PCells.boxed w a.ins vn vg (.slice Ao a.outs.length co) 26).below hb1).below hb2)
 have C2 := Lib.hid (PCells.below (PCells.boxed (w.alloc (.cells #[.int .i64 a.ins, vn, vg, .slice Ao a.outs.length co] 26)) b.ins un ug (.slice Bo b.outs.length do_) 26) hb2)
 have hR := heap_alloc_new ((w.alloc (.cells #[.int .i64 a.ins, vn, vg, .slice Ao a.outs.length co] 26)).alloc (.cells #[.int .i64 b.ins, un, ug, .slice Bo b.outs.length do_] 26)) (.cells #[.bool false, .slice none 0 0] 112)
 rw [World.size_alloc] at C2
 rw [World.size_alloc, World.size_alloc] at hR
 have HR := Lib.hid hR
 have HBw := Lib.hid hB
 have HA0 := Lib.hid (HA.out.below hB)
 have HB0 := Lib.hid (HB.out.below hB)
 obtain ⟨z, p0, p1, p2, p3⟩ := C1.out
 obtain ⟨y, q0, q1, q2, q3⟩ := C2.out
 have HV := Lib.hid (implValid_any _ _ _ HA0.out)
 rw [hva] at HV
 have Ha := Lib.hid ha
 have Hb := Lib.hid hb
 have Hvb := Lib.hid hvb
 have hne : ((a.ins : Int) != (b.ins : Int)) = false := by rw [hi]; simp
 have hne2 : ((a.outs.length : Int) != (b.outs.length : Int)) = false := by rw [ho]; simp
 have hsz : (((w.alloc (.cells #[.int .i64 a.ins, vn, vg, .slice Ao a.outs.length co] 26)).alloc (.cells #[.int .i64 b.ins, un, ug, .slice Bo b.outs.length do_] 26)).alloc (.cells #[.bool false, .slice none 0 0] 112)).heap.size = w.heap.size + 3 := by simp
 clear r1 r2 r3 s1 s2 s3 hins hins2 hb0 hb1 hb2 hP1 hP2 hB hR HA HB ha hb hvb hva hi ho
 go_enter Try.func79, Try.ntmps79
 go_wp2_with fail
 generalize ((w.alloc (.cells #[.int .i64 a.ins, vn, vg, .slice Ao a.outs.length co] 26)).alloc (.cells #[.int .i64 b.ins, un, ug, .slice Bo b.outs.length do_] 26)).alloc (.cells #[.bool false, .slice none 0 0] 112) = W at *
 refine HV.out.mono ?_
 rintro e w1 ⟨rfl, hb1⟩
 clear p0 p1 p2 p3 q0 q1 q2 q3 z y HV
 have B1 := Lib.hid (HBw.out.trans (hb1.mono HBw.out.size))
 have P11 := Lib.hid (P1.out.below hb1)
 have P21 := Lib.hid (P2.out.below hb1)
 have C11 := Lib.hid (C1.out.below hb1)
 have C21 := Lib.hid (C2.out.below hb1)
 have HB1 := Lib.hid (HB0.out.below hb1)
 have HR1 := Lib.hid ((hb1.block _ (by omega)).trans HR.out)
 have z1 := hb1.size
 obtain ⟨y, q0, q1, q2, q3⟩ := C21.out
 clear hb1 P1 P2 C1 C2 HB0 HA0 HR HBw
 go_wp2_with fail
 have HV := Lib.hid (implValid_any _ _ _ HB1.out)
 rw [Hvb.out] at HV
 refine HV.out.mono ?_
 rintro e w2 ⟨rfl, hb2⟩
 clear q0 q1 q2 q3 y HV HB1
 have B2 := Lib.hid (B1.out.trans (hb2.mono B1.out.size))
 have P12 := Lib.hid (P11.out.below hb2)
 have P22 := Lib.hid (P21.out.below hb2)
 have C12 := Lib.hid (C11.out.below hb2)
 have C22 := Lib.hid (C21.out.below hb2)
 have HR2 := Lib.hid ((hb2.block _ (by omega)).trans HR1.out)
 have z2 := hb2.size
 obtain ⟨z, p0, p1, p2, p3⟩ := C12.out
 obtain ⟨y, q0, q1, q2, q3⟩ := C22.out
 clear hb2 P11 P21 C11 C21 HR1 B1
 go_wp2_with fail
 refine (searchP_any w.heap.size (w.heap.size + 1) a b _ P12.out P22.out Ha.out Hb.out).mono ?_
 rintro e w3 hs
 have key : ∃ (A : Option Addr) (n c : Nat) , e = .returned (.tuple #[.slice A n c, .bool (Cir.pdist a b).isSome]) ∧ Below w2.heap.size w2 w3 := by
  unfold Searched at hs
  cases hp : Cir.pdist a b with
  | none =>
   rw [hp] at hs
   exact ⟨none, 0, 0, hs.1, hs.2⟩
  | some p =>
   rw [hp] at hs
   obtain ⟨v, e1, e2, e3⟩ := hs
   obtain ⟨A, c, hv, -⟩ := SSAt.shape (OwnSE.at e2)
   subst hv
   exact ⟨A, _, c, e1, e3⟩
 clear hs p0 p1 p2 p3 q0 q1 q2 q3
 obtain ⟨A, n, c, rfl, hb3⟩ := key
 have B3 := Lib.hid (B2.out.trans (hb3.mono B2.out.size))
 have hr := (hb3.block (w.heap.size + 1 + 1) (by omega)).trans HR2.out
 have z3 := hb3.size
 have o0 := blk_cell hr 0
 have o1 := blk_cell hr 1
 have b0 := blk_free hr 0
 have b1 := blk_free hr 1
 simp at o0 o1
 clear hr hb3 HR2
 go_wp2_with fail
 refine bodyPost_ret (v := .agg #[.bool (Cir.pdist a b).isSome, .slice A n c]) (by simp [results, Try.results79, go_sem, o0, o1]) rfl ⟨⟨_, _, _, rfl⟩, ?_⟩
 exact (B3.out.setCell (by simp only; omega) _).setCell (by simp only; omega) _
theorem dist_field0 (b : Bool) (A : Option Addr) (n c : Nat) (w : World) : (Instr.field 112 (.agg #[.bool b, .slice A n c]) 0).run Try.prog w = .ok (.bool b) w := by kernel_rfl
theorem seqEquiv_ok (va vb : Value) (a b : Ci) (w : World) (h : CircAt w va (Cir.toCz a)) (h2 : CircAt w vb (Cir.toCz b)) (ha : Cir.Ok a) (hb : Cir.Ok b) (hva : Cir.valid (Cir.toCz a) = true) (hvb : Cir.valid (Cir.toCz b) = true) (hi : a.ins = b.ins) (ho : a.outs.length = b.outs.length) :
  Calls Try.prog 33 #[va, vb] w fun e w' => e = .returned (.bool (Cir.pdist a b).isNone) ∧ Below w.heap.size w w' := by
 have HA := Lib.hid h
 have HB := Lib.hid h2
 obtain ⟨vn, vg, vo, rfl, r1, r2, r3⟩ := h
 obtain ⟨un, ug, uo, rfl, s1, s2, s3⟩ := h2
 obtain ⟨Ao, co, rfl, hco, hcom⟩ := NatsAt.shape (xs := a.outs) r3
 obtain ⟨Bo, do_, rfl, hdo, hdom⟩ := NatsAt.shape (xs := b.outs) s3
 unfold maxLen at hcom hdom
 have hins : (Cir.toCz a).ins = (a.ins : Int) := rfl
 have hins2 : (Cir.toCz b).ins = (b.ins : Int) := rfl
 have hb0 := bel_new w (.cells #[.int .i64 a.ins, vn, vg, .slice Ao a.outs.length co] 26)
 have hP1 := PCirc.boxed (c := Cir.toCz a) 26 r1 r2 r3
 have hP2 := PCirc.boxed (c := Cir.toCz b) 26 (Row.alloc s1 (.cells #[.int .i64 a.ins, vn, vg, .slice Ao a.outs.length co] 26)) (Row.alloc s2 (.cells #[.int .i64 a.ins, vn, vg, .slice Ao a.outs.length co] 26)) (Row.alloc s3 (.cells #[.int .i64 a.ins, vn, vg, .slice Ao a.outs.length co] 26))
 rw [hins] at HA hP1 ⊢
 rw [hins2] at HB hP2 ⊢
 rw [World.size_alloc] at hP2
 have hb1 := bel_new (w.alloc (.cells #[.int .i64 a.ins, vn, vg, .slice Ao a.outs.length co] 26)) (.cells #[.int .i64 b.ins, un, ug, .slice Bo b.outs.length do_] 26)
 have hB := hb0.trans (hb1.mono hb0.size)
 have P1 := Lib.hid (hP1.below hb1)
 have P2 := Lib.hid hP2
 have C1 := Lib.hid ((PCells.boxed w a.ins vn vg (.slice Ao a.outs.length co) 26).below hb1)
 have C2 := Lib.hid (PCells.boxed (w.alloc (.cells #[.int .i64 a.ins, vn, vg, .slice Ao a.outs.length co] 26)) b.ins un ug (.slice Bo b.outs.length do_) 26)
 rw [World.size_alloc] at C2
 have HBw := Lib.hid hB
 have HA0 := Lib.hid (HA.out.below hB)
 have HB0 := Lib.hid (HB.out.below hB)
 obtain ⟨z, p0, p1, p2, p3⟩ := C1.out
 obtain ⟨y, q0, q1, q2, q3⟩ := C2.out
 have HV := Lib.hid (implValid_any _ _ _ HA0.out)
 rw [hva] at HV
 have Ha := Lib.hid ha
 have Hb := Lib.hid hb
 have Hvb := Lib.hid hvb
 have hne : ((a.ins : Int) == (b.ins : Int)) = true := by rw [hi]; simp
 have hne2 : ((a.outs.length : Int) == (b.outs.length : Int)) = true := by rw [ho]; simp
 have Hva := Lib.hid hva
 have Hi := Lib.hid hi
 have Ho := Lib.hid ho
 clear r1 r2 r3 s1 s2 s3 hins hins2 hb0 hb1 hP1 hP2 hB HA HB ha hb hvb hva hi ho
 go_enter Try.func33, Try.ntmps33
 go_wp2_with fail
 generalize (w.alloc (.cells #[.int .i64 a.ins, vn, vg, .slice Ao a.outs.length co] 26)).alloc (.cells #[.int .i64 b.ins, un, ug, .slice Bo b.outs.length do_] 26) = W at *
 refine HV.out.mono ?_
 rintro e w1 ⟨rfl, hb1⟩
 clear p0 p1 p2 p3 q0 q1 q2 q3 z y HV
 have B1 := Lib.hid (HBw.out.trans (hb1.mono HBw.out.size))
 have P11 := Lib.hid (P1.out.below hb1)
 have P21 := Lib.hid (P2.out.below hb1)
 have C11 := Lib.hid (C1.out.below hb1)
 have C21 := Lib.hid (C2.out.below hb1)
 have HB1 := Lib.hid (HB0.out.below hb1)
 have HA1 := Lib.hid (HA0.out.below hb1)
 have z1 := hb1.size
 obtain ⟨y, q0, q1, q2, q3⟩ := C21.out
 clear hb1 P1 P2 C1 C2 HB0 HA0 HBw
 go_wp2_with fail
 have HV := Lib.hid (implValid_any _ _ _ HB1.out)
 rw [Hvb.out] at HV
 refine HV.out.mono ?_
 rintro e w2 ⟨rfl, hb2⟩
 clear q0 q1 q2 q3 y HV
 have B2 := Lib.hid (B1.out.trans (hb2.mono B1.out.size))
 have HA2 := Lib.hid (HA1.out.below hb2)
 have HB2 := Lib.hid (HB1.out.below hb2)
 have P12 := Lib.hid (P11.out.below hb2)
 have P22 := Lib.hid (P21.out.below hb2)
 have C12 := Lib.hid (C11.out.below hb2)
 have C22 := Lib.hid (C21.out.below hb2)
 have z2 := hb2.size
 obtain ⟨z, p0, p1, p2, p3⟩ := C12.out
 obtain ⟨y, q0, q1, q2, q3⟩ := C22.out
 clear hb2 P11 P21 C11 C21 B1
 go_wp2_with fail
 have HD := Lib.hid (distinguish_ok _ _ a b w2 HA2.out HB2.out Ha.out Hb.out Hva.out Hvb.out Hi.out Ho.out)
 refine HD.out.mono ?_
 rintro e w3 ⟨⟨A, n, c, rfl⟩, hb3⟩
 have B3 := Lib.hid (B2.out.trans (hb3.mono B2.out.size))
 have hf := dist_field0 (Cir.pdist a b).isSome A n c w3
 clear hb3 HD p0 p1 p2 p3 q0 q1 q2 q3
 go_wp2_with fail
 go_ret
 exact ⟨rfl, B3.out⟩
end Go.Proofs.Ytkkkjbinfdohpaa
namespace Go.Proofs.Ytkkkjbinfdohpaa
open Go.RowKit
end Go.Proofs.Ytkkkjbinfdohpaa
namespace Go.Proofs.Ytkkkjbinfdohpaa
open Go.RowKit
def OwnMachE (B T : Nat) (v : Value) (m : Mz) (w : World) : Prop :=
  ∃ vn vo E1 E2, v = .agg #[.int .i64 m.ins, vn, vo] ∧ (∀ g, E1 g → g < T) ∧ (∀ g, E2 g → g < T) ∧ (∀ g, E1 g → ¬ E2 g) ∧ OwnIntSE B E1 w vn m.next ∧ OwnIntSE B E2 w vo m.out
theorem OwnMachE.at {B T : Nat} {v : Value} {m : Mz} {w : World} (h : OwnMachE B T v m w) : MachAt w v m := by
 obtain ⟨vn, vo, E1, E2, hv, _, _, _, h1, h2⟩ := h
 exact ⟨vn, vo, hv, OwnSE.at h1, OwnSE.at h2⟩
def RunMach (B T : Nat) (i : Int) (v : Value) (ns os : List Nat) (k : Nat) (w : World) : Prop :=
  ∃ vn vo E1 E2, v = .agg #[.int .i64 i, vn, vo] ∧ (∀ g, E1 g → g < T) ∧ (∀ g, E2 g → g < T) ∧ OwnVS B E1 w vn (runs k ns) ∧ OwnVS B E2 w vo (runs (k + ns.sum) os)
end Go.Proofs.Ytkkkjbinfdohpaa
namespace Go.Proofs.Ytkkkjbinfdohpaa
open Go.RowKit
def SzMach (m : Mz) (w : World) (e : Ending) (w' : World) : Prop :=
  ∃ r : Int, e = .returned (.int .i64 r) ∧ (r = -1 ∨ (0 ≤ r ∧ r ≤ 1048576 ∧ m.next.length + total m.next + m.out.length + total m.out ≤ 1048576)) ∧ Below w.heap.size w w'
def OwnMach (B T : Nat) (v : Value) (m : Mz) (w : World) : Prop :=
  ∃ vn vo M, v = .agg #[.int .i64 m.ins, vn, vo] ∧ B ≤ M ∧ M ≤ T ∧ OwnIntSS B M w vn m.next ∧ OwnIntSS M T w vo m.out
def ToMach (m : Mz) (w : World) (e : Ending) (w' : World) : Prop := ∃ v, e = .returned v ∧ OwnMach w.heap.size w'.heap.size v m w' ∧ Below w.heap.size w w'
end Go.Proofs.Ytkkkjbinfdohpaa
namespace Go.Proofs.Ytkkkjbinfdohpaa
open Go.RowKit
theorem ints_row {w : World} {B : Option Addr} {n m : Nat} {x : List Int} (h : Row w 1 (.slice B n m) n (ints x)) (hn : n = x.length) {i : Nat} {y : Int} (hy : x[i]? = some y) : ∃ b o, B = some ⟨b, o, none⟩ ∧ b < w.heap.size ∧ w.cell? ⟨b, o + i, none⟩ = some (.int .i64 y) := by
 subst hn
 obtain ⟨hi, _⟩ := List.getElem?_eq_some_iff.1 hy
 obtain ⟨b, o, c', hv, _, _, hbl, hcell⟩ := h.open (by omega)
 injection hv with hv1
 exact ⟨b, o, hv1, hbl, hcell i _ (by unfold ints; rw [List.getElem?_map, hy]; rfl)⟩
theorem rowsWithin_any (v : Value) (xss : List (List Int)) (N L : Nat) (w : World) (h : SSAt ints w v xss) (hN : N ≤ 4) (hL : L ≤ 8) :
  Calls Try.prog 104 #[v, .int .i64 N, .int .i64 L] w fun e w' => e = .returned (.bool (xss.all (Mac.rowOk N L))) ∧ w = w' := by
 obtain ⟨A, c, hv, hc, hcm⟩ := h.shape
 subst hv
 unfold maxLen at hcm
 have H := Lib.hid h
 obtain ⟨M, e, hM⟩ : ∃ M : Nat, (2 : Int) ^ N = (M : Int) ∧ M = 2 ^ N := ⟨2 ^ N, two_pow N, rfl⟩
 have hM16 : M ≤ 16 := by rw [hM]; exact Nat.pow_le_pow_right (show 0 < 2 by decide) hN
 have hwM := IntWalk.i64_in (M : Int) (by omega)
 have HLen : Hid (∀ r : List Int, Mac.rowOk N L r = (decide ((r.length : Int) = (M : Int)) && r.all (Mac.inOk L))) := Lib.hid fun r => by
  unfold Mac.rowOk Mac.lenOk
  rw [Int.toNat_natCast, ← hM]
 have h0 : Hid (xss.all (Mac.rowOk N L) = (xss.drop 0).all (Mac.rowOk N L)) := Lib.hid rfl
 generalize xss.all (Mac.rowOk N L) = res at h0 ⊢
 clear h hM
 go_enter Try.func104, Try.ntmps104
 go_wp2_with fail
 go_loop [13] (fun i => ∃ k : Nat, k ≤ xss.length ∧ i = .int .i64 k ∧ Hid (res = (xss.drop k).all (Mac.rowOk N L))) (fun i => xss.length - (intOf i).toNat)
 case atStart => exact ⟨0, Nat.zero_le _, rfl, h0⟩
 case round =>
  obtain ⟨k, hk, rfl, hres⟩ := hrel
  clear h0
  by_cases hlt : k < xss.length
  ·obtain ⟨x, hx⟩ := at_some hlt
   obtain ⟨b, o, Bx, m, rfl, hbl, hc1, hm1, hm2, hr⟩ := ss_open H.out (Below.refl _ _) hx
   have Hr := Lib.hid hr
   have Hstep := Lib.hid (Mac.all_dropG (p := Mac.rowOk N L) hx)
   unfold maxLen at hm2
   clear hr hx
   by_cases hle : (x.length : Int) = (M : Int)
   ·have hle2 : ((x.length : Int) != (M : Int)) = false := by rw [hle]; simp
    have Hn : Hid (res = ((x.drop 0).all (Mac.inOk L) && (xss.drop (k + 1)).all (Mac.rowOk N L))) := Lib.hid (by rw [hres.out, Hstep.out, HLen.out x, decide_eq_true hle]; rfl)
    clear hle
    go_wp2_with fail
    go_loop [24] (fun i => ∃ j : Nat, j ≤ x.length ∧ i = .int .i64 j ∧ Hid (res = ((x.drop j).all (Mac.inOk L) && (xss.drop (k + 1)).all (Mac.rowOk N L)))) (fun i => x.length - (intOf i).toNat)
    case atStart => exact ⟨0, Nat.zero_le _, rfl, Hn⟩
    case round =>
     obtain ⟨j, hj, rfl, hres2⟩ := hrel
     clear Hn
     by_cases hlj : j < x.length
     ·obtain ⟨y, hy⟩ := at_some hlj
      obtain ⟨b2, o2, rfl, hbl2, hc2⟩ := ints_row Hr.out rfl hy
      have Hs2 := Lib.hid (Mac.all_dropG (p := Mac.inOk L) hy)
      clear hy
      by_cases hy0 : y < 0
      ·obtain rfl : res = false := by rw [hres2.out, Hs2.out, show Mac.inOk L y = false from decide_eq_false (by omega)]; rfl
       go_wp2_with fail
       go_ret
       exact ⟨rfl, rfl⟩
      ·by_cases hyL : (L : Int) ≤ y
       ·obtain rfl : res = false := by rw [hres2.out, Hs2.out, show Mac.inOk L y = false from decide_eq_false (by omega)]; rfl
        go_wp2_with fail
        go_ret
        exact ⟨rfl, rfl⟩
       ·have Hn3 : Hid (res = ((x.drop (j + 1)).all (Mac.inOk L) && (xss.drop (k + 1)).all (Mac.rowOk N L))) := Lib.hid (by rw [hres2.out, Hs2.out, show Mac.inOk L y = true from decide_eq_true (by omega)]; rfl)
        go_wp2_with fail
        go_round
        case rel => exact ⟨j + 1, by omega, by go_num, Hn3⟩
        case measure => simp [intOf] <;> omega
     ·have Hn3 : Hid (res = (xss.drop (k + 1)).all (Mac.rowOk N L)) := Lib.hid (by rw [hres2.out, List.drop_eq_nil_of_le (by omega : x.length ≤ j)]; rfl)
      go_wp2_with fail
      go_round
      case rel => exact ⟨k + 1, by omega, by go_num, Hn3⟩
      case measure => simp [intOf] <;> omega
   ·have hle2 : ((x.length : Int) != (M : Int)) = true := by simp; omega
    obtain rfl : res = false := by rw [hres.out, Hstep.out, HLen.out x, decide_eq_false hle]; rfl
    go_wp2_with fail
    go_ret
    exact ⟨rfl, rfl⟩
  ·obtain rfl : res = true := by rw [hres.out, List.drop_eq_nil_of_le (by omega : xss.length ≤ k)]; rfl
   go_wp2_with fail
   go_ret
   exact ⟨rfl, rfl⟩
theorem mach_sizes {m : Mz} (h : Mac.sizes m = true) : 0 ≤ m.ins ∧ m.ins ≤ 4 ∧ 1 ≤ m.next.length ∧ m.next.length ≤ 8 ∧ m.out.length = m.next.length := by
 unfold Mac.sizes at h
 simpa using h
theorem implMValid_any (v : Value) (m : Mz) (w : World) (h : MachAt w v m) :
  Calls Try.prog 65 #[v] w fun e w' => e = .returned (.bool (Mac.valid m)) ∧ Below w.heap.size w w' := by
 obtain ⟨An, cn, Ao, co, rfl, lcn, lco, lcn2, lco2⟩ := h.shape
 obtain ⟨vn, vo, hv, r1, r2⟩ := h
 simp only [Value.agg.injEq, Array.mk.injEq, List.cons.injEq, and_true, true_and] at hv
 obtain ⟨rfl, rfl⟩ := hv
 unfold maxLen at lcn lco
 have B0 := Lib.hid (bel_alloc w (.cells #[.int .i64 m.ins, .slice An m.next.length cn, .slice Ao m.out.length co] 53))
 obtain ⟨z, p0, p1, p2⟩ := MCells.boxed w m.ins (.slice An m.next.length cn) (.slice Ao m.out.length co) 53
 have R1 := Lib.hid (r1.below B0.out)
 have R2 := Lib.hid (r2.below B0.out)
 generalize hW : w.alloc (.cells #[.int .i64 m.ins, .slice An m.next.length cn, .slice Ao m.out.length co] 53) = W at *
 clear r1 r2
 cases hs : Mac.sizes m
 ·have hv : Mac.valid m = false := by unfold Mac.valid; rw [hs]; rfl
  rw [hv]
  rcases Mac.sizes_cases hs with g | ⟨g0, g1⟩ | ⟨g0, g1, g2⟩ | ⟨g0, g1, g2, g3⟩ | ⟨g0, g1, g2, g3, g4⟩
  case inr.inr.inr.inr =>
   have g5 : ((m.out.length : Int) != m.next.length) = true := by simpa using g4
   clear hs hv g4
   go_enter Try.func65, Try.ntmps65
   go_wp2_with fail
   go_ret
   exact ⟨rfl, B0.out⟩
  all_goals
   clear hs hv
   go_enter Try.func65, Try.ntmps65
   go_wp2_with fail
   go_ret
   exact ⟨rfl, B0.out⟩
 ·obtain ⟨s1, s2, s3, s4, s5⟩ := mach_sizes hs
  have hv : Mac.valid m = (m.next.all (Mac.rowOk m.ins m.next.length) && m.out.all (Mac.rowOk m.ins 8)) := by unfold Mac.valid; rw [hs]; rfl
  rw [hv]
  obtain ⟨N, hN⟩ := Int.eq_ofNat_of_zero_le s1
  have hN4 : N ≤ 4 := by omega
  have C1 : Hid (∀ w, SSAt ints w (.slice An m.next.length cn) m.next → Calls Try.prog 104 #[.slice An m.next.length cn, .int .i64 m.ins, .int .i64 m.next.length] w fun e w' => e = .returned (.bool (m.next.all (Mac.rowOk m.ins m.next.length))) ∧ w = w') := Lib.hid fun w h => by rw [hN]; exact rowsWithin_any _ _ N _ w h hN4 s4
  have C2 : Hid (∀ w, SSAt ints w (.slice Ao m.out.length co) m.out → Calls Try.prog 104 #[.slice Ao m.out.length co, .int .i64 m.ins, .int .i64 8] w fun e w' => e = .returned (.bool (m.out.all (Mac.rowOk m.ins 8))) ∧ w = w') := Lib.hid fun w h => by rw [hN]; exact rowsWithin_any _ _ N 8 w h hN4 (Nat.le_refl _)
  have g5 : ((m.out.length : Int) != m.next.length) = false := by simp; omega
  have t1 : ¬ (m.ins < 0) := by omega
  have t2 : ¬ (4 < m.ins) := by omega
  have t3 : ¬ ((m.next.length : Int) < 1) := by omega
  have t4 : ¬ (8 < (m.next.length : Int)) := by omega
  have S5 := Lib.hid s5
  generalize m.next.all (Mac.rowOk m.ins m.next.length) = a1 at *
  generalize m.out.all (Mac.rowOk m.ins 8) = a2 at *
  clear hs hv hN s5 s1 s2 s3 s4
  cases a1
  ·go_enter Try.func65, Try.ntmps65
   go_wp2_with fail
   refine (C1.out _ R1.out).mono ?_
   rintro e w' ⟨rfl, rfl⟩
   go_wp2_with fail
   go_ret
   exact ⟨rfl, B0.out⟩
  ·go_enter Try.func65, Try.ntmps65
   go_wp2_with fail
   refine (C1.out _ R1.out).mono ?_
   rintro e w' ⟨rfl, rfl⟩
   go_wp2_with fail
   refine (C2.out _ R2.out).mono ?_
   rintro e w' ⟨rfl, rfl⟩
   go_wp2_with fail
   go_ret
   exact ⟨rfl, B0.out⟩
end Go.Proofs.Ytkkkjbinfdohpaa
namespace Go.Proofs.Ytkkkjbinfdohpaa
open Go.RowKit
theorem in_le (n x : Int) : decide (0 ≤ x ∧ x ≤ n - 1) = Mac.inOk n x := by
 unfold Mac.inOk
 exact decide_eq_decide.2 ⟨fun h => by omega, fun h => by omega⟩
theorem in_le8 (x : Int) : decide (0 ≤ x ∧ x ≤ 7) = Mac.inOk 8 x := in_le 8 x
theorem specMValid_any (v : Value) (m : Mz) (w : World) (h : MachAt w v m) :
  Calls Try.prog 71 #[v] w fun e w' => e = .returned (.bool (Mac.valid m)) ∧ Below w.heap.size w w' := by
 obtain ⟨An, cn, Ao, co, rfl, lcn, lco, lcn2, lco2⟩ := h.shape
 obtain ⟨vn, vo, hv, r1, r2⟩ := h
 simp only [Value.agg.injEq, Array.mk.injEq, List.cons.injEq, and_true, true_and] at hv
 obtain ⟨rfl, rfl⟩ := hv
 unfold maxLen at lcn lco
 have B0 := Lib.hid (bel_alloc w (.cells #[.int .i64 m.ins, .slice An m.next.length cn, .slice Ao m.out.length co] 53))
 have PC := Lib.hid (MCells.boxed w m.ins (.slice An m.next.length cn) (.slice Ao m.out.length co) 53)
 obtain ⟨z, p0, p1, p2⟩ := PC.out
 have R1 := Lib.hid (r1.below B0.out)
 have R2 := Lib.hid (r2.below B0.out)
 generalize hW : w.alloc (.cells #[.int .i64 m.ins, .slice An m.next.length cn, .slice Ao m.out.length co] 53) = W at *
 clear r1 r2
 cases hs : Mac.sizes m
 ·have hv : Mac.valid m = false := by unfold Mac.valid; rw [hs]; rfl
  rw [hv]
  have hsc : (decide (0 ≤ m.ins ∧ m.ins ≤ 4) = false) ∨ (decide (0 ≤ m.ins ∧ m.ins ≤ 4) = true ∧ decide ((1 : Int) ≤ m.next.length ∧ (m.next.length : Int) ≤ 8) = false) ∨ (decide (0 ≤ m.ins ∧ m.ins ≤ 4) = true ∧ decide ((1 : Int) ≤ m.next.length ∧ (m.next.length : Int) ≤ 8) = true ∧ ((m.out.length : Int) != m.next.length) = true) := by
   rcases Mac.sizes_cases hs with g | ⟨g0, g1⟩ | ⟨g0, g1, g2⟩ | ⟨g0, g1, g2, g3⟩ | ⟨g0, g1, g2, g3, g4⟩
   ·exact .inl (decide_eq_false (by omega))
   ·exact .inl (decide_eq_false (by omega))
   ·exact .inr (.inl ⟨decide_eq_true ⟨g0, g1⟩, decide_eq_false (by omega)⟩)
   ·exact .inr (.inl ⟨decide_eq_true ⟨g0, g1⟩, decide_eq_false (by omega)⟩)
   ·exact .inr (.inr ⟨decide_eq_true ⟨g0, g1⟩, decide_eq_true ⟨g2, g3⟩, by simpa using g4⟩)
  clear hs hv
  rcases hsc with h1 | ⟨h1, h2⟩ | ⟨h1, h2, h3⟩
  ·have H1 := Lib.hid h1
   clear h1
   go_enter Try.func71, Try.ntmps71
   go_wp2_with fail
   refine (l1In_any _ _ _ _).mono ?_
   rintro e w' ⟨rfl, rfl⟩
   rw [H1.out]
   go_wp2_with fail
   go_ret
   exact ⟨rfl, B0.out⟩
  ·have H1 := Lib.hid h1
   have H2 := Lib.hid h2
   clear h1 h2
   go_enter Try.func71, Try.ntmps71
   go_wp2_with fail
   refine (l1In_any _ _ _ _).mono ?_
   rintro e w' ⟨rfl, rfl⟩
   rw [H1.out]
   go_wp2_with fail
   refine (l1In_any _ _ _ _).mono ?_
   rintro e w' ⟨rfl, rfl⟩
   rw [H2.out]
   go_wp2_with fail
   go_ret
   exact ⟨rfl, B0.out⟩
  ·have H1 := Lib.hid h1
   have H2 := Lib.hid h2
   clear h1 h2
   go_enter Try.func71, Try.ntmps71
   go_wp2_with fail
   refine (l1In_any _ _ _ _).mono ?_
   rintro e w' ⟨rfl, rfl⟩
   rw [H1.out]
   go_wp2_with fail
   refine (l1In_any _ _ _ _).mono ?_
   rintro e w' ⟨rfl, rfl⟩
   rw [H2.out]
   go_wp2_with fail
   go_ret
   exact ⟨rfl, B0.out⟩
 ·obtain ⟨s1, s2, s3, s4, s5⟩ := mach_sizes hs
  have hv : Mac.valid m = ((m.next.zip m.out).drop 0).all (Mac.pairOk m.ins m.next.length) := by rw [Mac.valid_zip, hs]; rfl
  have H0 := Lib.hid hv
  have H1 : Hid (decide (0 ≤ m.ins ∧ m.ins ≤ 4) = true) := Lib.hid (decide_eq_true ⟨s1, s2⟩)
  have H2 : Hid (decide ((1 : Int) ≤ m.next.length ∧ (m.next.length : Int) ≤ 8) = true) := Lib.hid (decide_eq_true ⟨by omega, by omega⟩)
  have g5 : ((m.out.length : Int) != m.next.length) = false := by simp; omega
  have S5 := Lib.hid s5
  generalize Mac.valid m = res at *
  obtain ⟨N, hN⟩ := Int.eq_ofNat_of_zero_le s1
  have hN4 : N ≤ 4 := by omega
  obtain ⟨M, e, hM⟩ : ∃ M : Nat, (2 : Int) ^ N = (M : Int) ∧ M = 2 ^ N := ⟨2 ^ N, two_pow N, rfl⟩
  have hM16 : M ≤ 16 := by rw [hM]; exact Nat.pow_le_pow_right (show 0 < 2 by decide) hN4
  have hwM := IntWalk.i64_in (M : Int) (by omega)
  have HLen : Hid (∀ p : List Int × List Int, Mac.pairOk m.ins m.next.length p = (decide ((p.1.length : Int) = (M : Int)) && decide ((p.2.length : Int) = (M : Int)) && (p.1.zip p.2).all (Mac.entOk m.next.length))) := Lib.hid fun p => by
   unfold Mac.pairOk Mac.lenOk
   rw [hN, Int.toNat_natCast, ← hM]
  have HI1 := Lib.hid fun x : Int => in_le (m.next.length : Int) x
  have HI2 := Lib.hid in_le8
  rw [hN] at p0 PC H1 hW
  rw [hN]
  clear hs hv hM s5 s1 s2 hN
  go_enter Try.func71, Try.ntmps71
  go_wp2_with fail
  refine (l1In_any _ _ _ _).mono ?_
  rintro e w' ⟨rfl, rfl⟩
  rw [H1.out]
  go_wp2_with fail
  refine (l1In_any _ _ _ _).mono ?_
  rintro e w' ⟨rfl, rfl⟩
  rw [H2.out]
  go_wp2_with fail
  clear hW
  go_loopw [4] (fun i wr => ∃ k : Nat, k ≤ m.next.length ∧ i = .int .i64 k ∧ Hid (res = ((m.next.zip m.out).drop k).all (Mac.pairOk m.ins m.next.length)) ∧ Below W.heap.size W wr) (fun i _ => m.next.length - (intOf i).toNat)
  case atStart => exact ⟨0, Nat.zero_le _, rfl, H0, Below.refl _ _⟩
  case round =>
   obtain ⟨k, hk, rfl, hres, hb⟩ := hrel
   clear H0 p0 p1 p2
   by_cases hlt : k < m.next.length
   ·obtain ⟨x, hx⟩ := at_some hlt
    obtain ⟨y, hy⟩ := at_some (show k < m.out.length by rw [S5.out]; exact hlt)
    have hko : k < m.out.length := by rw [S5.out]; exact hlt
    obtain ⟨b, o, Bx, mx, rfl, hbl, hc1, hm1, hm2, hr⟩ := ss_open R1.out hb hx
    obtain ⟨b', o', By, my, rfl, hbl', hc1', hm1', hm2', hr'⟩ := ss_open R2.out hb hy
    have Hr := Lib.hid hr
    have Hr' := Lib.hid hr'
    have Hstep := Lib.hid (Mac.all_dropG (p := Mac.pairOk m.ins m.next.length) (Mac.zip_get hx hy))
    obtain ⟨zr, p0, p1, p2⟩ := PC.out.below hb
    have g0 := gw_cell p0 zr
    have g1 := gw_cell p1 zr
    have g2 := gw_cell p2 zr
    have g3 := gw_cell hc1 (show b < wr.heap.size by have := hb.size; omega)
    have g4 := gw_cell hc1' (show b' < wr.heap.size by have := hb.size; omega)
    have Hb := Lib.hid hb
    have hz := hb.size
    unfold maxLen at hm2 hm2'
    have hko2 : k < co := by omega
    have hkn2 : k < cn := by omega
    clear hr hr' hx hy hb p0 p1 p2 hc1 hc1'
    by_cases hle : (x.length : Int) = (M : Int)
    ·by_cases hle' : (y.length : Int) = (M : Int)
     ·have hx2 : ((x.length : Int) != (M : Int)) = false := by rw [hle]; simp
      have hy2 : ((y.length : Int) != (M : Int)) = false := by rw [hle']; simp
      have Hn : Hid (res = (((x.zip y).drop 0).all (Mac.entOk m.next.length) && ((m.next.zip m.out).drop (k + 1)).all (Mac.pairOk m.ins m.next.length))) := Lib.hid (by rw [hres.out, Hstep.out, HLen.out (x, y), decide_eq_true hle, decide_eq_true hle']; rfl)
      have HMx : Hid (x.length = M) := Lib.hid (by omega)
      have HMy : Hid (y.length = M) := Lib.hid (by omega)
      clear hle hle'
      go_wp2_with fail
      refine wp_region_grow (by kernel_rfl) (by kernel_rfl) ?_
      repeat (go_big_quiet_step ((fail)))
      refine wpQuiet_nil ?_
      intro _ hw'
      obtain ⟨nq, hw''⟩ := hw'
      subst hw''
      have hgq := gw_below nq
      generalize gw nq = wq at *
      clear nq
      obtain ⟨W1, hW1⟩ : ∃ W1, W1 = wq := ⟨_, rfl⟩
      subst hW1
      have Hb1 := Lib.hid (Hb.out.trans (hgq.mono hz))
      have Hrq := Lib.hid (Hr.out.below hgq)
      have Hrq' := Lib.hid (Hr'.out.below hgq)
      obtain ⟨-, p0, p1, p2⟩ := PC.out.below Hb1.out
      have q3 := (hgq.cell (p := ⟨b, o + k, none⟩) (show b < wr.heap.size by omega)).trans (g3 ⟨wr, Below.refl _ _⟩)
      have q4 := (hgq.cell (p := ⟨b', o' + k, none⟩) (show b' < wr.heap.size by omega)).trans (g4 ⟨wr, Below.refl _ _⟩)
      clear hgq g0 g1 g2 g3 g4
      go_wp2_with fail
      go_loop [5] (fun i => ∃ j : Nat, j ≤ M ∧ i = .int .i64 j ∧ Hid (res = (((x.zip y).drop j).all (Mac.entOk m.next.length) && ((m.next.zip m.out).drop (k + 1)).all (Mac.pairOk m.ins m.next.length)))) (fun i => M - (intOf i).toNat)
      case atStart => exact ⟨0, Nat.zero_le _, rfl, Hn⟩
      case round =>
       obtain ⟨j, hj, rfl, hres2⟩ := hrel
       clear Hn
       by_cases hlj : j < M
       ·obtain ⟨xe, hxe⟩ := at_some (show j < x.length by rw [HMx.out]; exact hlj)
        obtain ⟨ye, hye⟩ := at_some (show j < y.length by rw [HMy.out]; exact hlj)
        have hjx : j < x.length := by rw [HMx.out]; exact hlj
        have hjy : j < y.length := by rw [HMy.out]; exact hlj
        have hjx2 : j < mx := by omega
        have hjy2 : j < my := by omega
        obtain ⟨b2, o2, rfl, hbl2, hc2⟩ := ints_row Hrq.out rfl hxe
        obtain ⟨b3, o3, rfl, hbl3, hc3⟩ := ints_row Hrq'.out rfl hye
        have Hs2 := Lib.hid (Mac.all_dropG (p := Mac.entOk m.next.length) (Mac.zip_get hxe hye))
        have HE : Hid (Mac.entOk m.next.length (xe, ye) = (Mac.inOk m.next.length xe && Mac.inOk 8 ye)) := Lib.hid rfl
        clear hxe hye
        cases h1 : Mac.inOk m.next.length xe
        ·have HH1 := Lib.hid h1
         obtain rfl : res = false := by rw [hres2.out, Hs2.out, HE.out, h1]; rfl
         clear h1
         go_wp2_with fail
         refine (l1In_any _ _ _ _).mono ?_
         rintro e w' ⟨rfl, rfl⟩
         rw [HI1.out, HH1.out]
         go_wp2_with fail
         go_ret
         exact ⟨rfl, B0.out.trans (Hb1.out.mono B0.out.size)⟩
        ·have HH1 := Lib.hid h1
         cases h2 : Mac.inOk 8 ye
         ·have HH2 := Lib.hid h2
          obtain rfl : res = false := by rw [hres2.out, Hs2.out, HE.out, h1, h2]; rfl
          clear h1 h2
          go_wp2_with fail
          refine (l1In_any _ _ _ _).mono ?_
          rintro e w' ⟨rfl, rfl⟩
          rw [HI1.out, HH1.out]
          go_wp2_with fail
          refine (l1In_any _ _ _ _).mono ?_
          rintro e w' ⟨rfl, rfl⟩
          rw [HI2.out, HH2.out]
          go_wp2_with fail
          go_ret
          exact ⟨rfl, B0.out.trans (Hb1.out.mono B0.out.size)⟩
         ·have HH2 := Lib.hid h2
          have Hn3 : Hid (res = (((x.zip y).drop (j + 1)).all (Mac.entOk m.next.length) && ((m.next.zip m.out).drop (k + 1)).all (Mac.pairOk m.ins m.next.length))) := Lib.hid (by rw [hres2.out, Hs2.out, HE.out, h1, h2]; rfl)
          clear h1 h2
          go_wp2_with fail
          refine (l1In_any _ _ _ _).mono ?_
          rintro e w' ⟨rfl, rfl⟩
          rw [HI1.out, HH1.out]
          go_wp2_with fail
          refine (l1In_any _ _ _ _).mono ?_
          rintro e w' ⟨rfl, rfl⟩
          rw [HI2.out, HH2.out]
          go_wp2_with fail
          go_round
          case rel => exact ⟨j + 1, by omega, by go_num, Hn3⟩
          case measure => simp [intOf] <;> omega
       ·have Hn3 : Hid (res = ((m.next.zip m.out).drop (k + 1)).all (Mac.pairOk m.ins m.next.length)) := Lib.hid (by rw [hres2.out, List.drop_eq_nil_of_le (by rw [List.length_zip, HMx.out]; omega)]; rfl)
        go_wp2_with fail
        go_roundw
        case rel => exact ⟨k + 1, by omega, by go_num, Hn3, Hb1.out⟩
        case measure => simp [intOf] <;> omega
     ·have hx2 : ((x.length : Int) != (M : Int)) = false := by rw [hle]; simp
      have hy2 : ((y.length : Int) != (M : Int)) = true := by simp; omega
      obtain rfl : res = false := by rw [hres.out, Hstep.out, HLen.out (x, y), decide_eq_true hle, decide_eq_false hle']; rfl
      clear hle hle'
      go_wp2_with fail
      refine wp_region_grow (by kernel_rfl) (by kernel_rfl) ?_
      repeat (go_big_quiet_step ((fail)))
      refine wpQuiet_nil ?_
      intro _ hw'
      obtain ⟨nq, hw''⟩ := hw'
      subst hw''
      have hgq := gw_below nq
      generalize gw nq = wq at *
      clear nq
      have Hb1 := Lib.hid (Hb.out.trans (hgq.mono hz))
      clear hgq g0 g1 g2 g3 g4
      go_wp2_with fail
      go_ret
      exact ⟨rfl, B0.out.trans (Hb1.out.mono B0.out.size)⟩
    ·have hx2 : ((x.length : Int) != (M : Int)) = true := by simp; omega
     obtain rfl : res = false := by rw [hres.out, Hstep.out, HLen.out (x, y), decide_eq_false hle]; rfl
     clear hle
     go_wp2_with fail
     refine wp_region_grow (by kernel_rfl) (by kernel_rfl) ?_
     repeat (go_big_quiet_step ((fail)))
     refine wpQuiet_nil ?_
     intro _ hw'
     obtain ⟨nq, hw''⟩ := hw'
     subst hw''
     have hgq := gw_below nq
     generalize gw nq = wq at *
     clear nq
     have Hb1 := Lib.hid (Hb.out.trans (hgq.mono hz))
     clear hgq g0 g1 g2 g3 g4
     go_wp2_with fail
     go_ret
     exact ⟨rfl, B0.out.trans (Hb1.out.mono B0.out.size)⟩
   ·obtain rfl : res = true := by rw [hres.out, List.drop_eq_nil_of_le (by rw [List.length_zip]; omega)]; rfl
    go_wp2_with fail
    go_ret
    exact ⟨rfl, B0.out.trans (hb.mono B0.out.size)⟩
end Go.Proofs.Ytkkkjbinfdohpaa
namespace Go.Proofs.Ytkkkjbinfdohpaa
open Go.RowKit
theorem sliceEq_any (v v2 : Value) (xs ys : List Int) (w : World) (h : IntsAt w v xs) (h2 : IntsAt w v2 ys) :
    Calls Try.prog 107 #[v, v2] w fun e w' => e = .returned (.bool (decide (xs = ys))) ∧ Drew w w' := by
  obtain ⟨A, c, hv, hc, hcm⟩ := h.shape
  obtain ⟨A2, c2, hv2, hc2, hcm2⟩ := h2.shape
  subst hv hv2
  unfold maxLen at hcm hcm2
  by_cases he : xs.length = ys.length
  · have hb := Lib.hid he
    have he1 : ((xs.length : Int) != (ys.length : Int)) = false := by rw [he]; simp
    have he2 : xs.length ≤ ys.length := by omega
    clear he
    go_enter Try.func107, Try.ntmps107
    go_wp2_with fail
    go_loopw [13] (fun i wr => ∃ (k : Nat), k ≤ xs.length ∧ i = .int .i64 k ∧ xs.take k = ys.take k ∧ Drew w wr) (fun i _ => xs.length - (intOf i).toNat)
    case atStart => exact ⟨0, Nat.zero_le _, rfl, rfl, Drew.refl _⟩
    case round =>
      obtain ⟨k, hk, rfl, htk, hd⟩ := hrel
      by_cases hlt : k < xs.length
      · obtain ⟨b, o, c', hv, _, _, hbl, hcell⟩ := h.open (by omega)
        obtain ⟨rfl, _⟩ : A = some ⟨b, o, none⟩ ∧ True := by injection hv with e1; exact ⟨e1, trivial⟩
        obtain ⟨b2, o2, c2', hv2, _, _, hbl2, hcell2⟩ := h2.open (by omega)
        obtain ⟨rfl, _⟩ : A2 = some ⟨b2, o2, none⟩ ∧ True := by injection hv2 with e1; exact ⟨e1, trivial⟩
        obtain ⟨x, hx, hs⟩ := ints_at hlt
        obtain ⟨y, hy, hs2⟩ := ints_at (xs := ys) (i := k) (by omega)
        have hsrc : wr.cell? ⟨b, o + k, none⟩ = some (.int .i64 x) := (hd.cell _).trans (hcell k _ hs)
        have hsrc2 : wr.cell? ⟨b2, o2 + k, none⟩ = some (.int .i64 y) := (hd.cell _).trans (hcell2 k _ hs2)
        have Hx := Lib.hid hx
        have Hy := Lib.hid hy
        have Ht := Lib.hid htk
        clear hcell hcell2 hv hv2 hs hs2 hx hy htk h h2
        go_wp2_with fail
        go_quiet (fail)
        go_wp2_with fail
        · go_ret
          have hn : x ≠ y := bne_iff_ne.1 (by assumption)
          exact ⟨ret_bool (decide_eq_false (take_ne Hx.out Hy.out hn)).symm, hd.more _⟩
        · go_roundw
          case rel =>
            have hn : x = y := by have hz : (x != y) = false := by assumption
                                  simpa using hz
            exact ⟨k + 1, by omega, by go_num, by rw [take_snoc Hx.out, take_snoc Hy.out, Ht.out, hn], hd.more _⟩
          case measure => simp [intOf]; omega
      · go_wp2_with fail
        go_ret
        have e : xs = ys := by
          rw [List.take_of_length_le (by omega), List.take_of_length_le (by have := hb.out; omega)] at htk
          exact htk
        exact ⟨ret_bool (decide_eq_true e).symm, hd⟩
  · have hn : xs ≠ ys := fun e => he (by rw [e])
    have Hn := Lib.hid hn
    have he1 : ((xs.length : Int) != (ys.length : Int)) = true := by rw [bne_iff_ne]; omega
    clear he hn
    go_enter Try.func107, Try.ntmps107
    go_wp2_with fail
    go_ret
    exact ⟨ret_bool (decide_eq_false Hn.out).symm, Drew.refl _⟩
theorem key0_get {out : List (List Int)} {s : Nat} {r : List Int} (h : out[s]? = some r) : Mac.key0 out s = r := by
 unfold Mac.key0
 rw [List.getD_eq_getElem?_getD, h, Option.getD_some]
theorem nrow_get {next : List (List Int)} {s : Nat} {r : List Int} (h : next[s]? = some r) : Mac.nrow next s = r := by
 unfold Mac.nrow
 rw [List.getD_eq_getElem?_getD, h, Option.getD_some]
theorem sameRow_any (v vo : Value) (x : List Int) (out : List (List Int)) (s g3 g6 : Nat) (w : World) (h : IntsAt w v x) (ho : SSAt ints w vo out) (c3 : w.cell? ⟨g3, 0, none⟩ = some vo) (z3 : g3 < w.heap.size) (c6 : w.cell? ⟨g6, 0, none⟩ = some (.int .i64 s)) (z6 : g6 < w.heap.size) (hs : s < out.length) :
  Calls Try.prog 106 #[v, .pointer (some ⟨g3, 0, none⟩), .pointer (some ⟨g6, 0, none⟩)] w fun e w' => e = .returned (.bool (decide (x = Mac.key0 out s))) ∧ Drew w w' := by
 obtain ⟨A, c, rfl, hc, hcm⟩ := ho.shape
 unfold maxLen at hcm
 obtain ⟨y, hy⟩ := at_some hs
 obtain ⟨b, o, Bx, m, rfl, hbl, hc1, hm1, hm2, hr⟩ := ss_open ho (Below.refl _ _) hy
 have HE := Lib.hid (sliceEq_any v (.slice Bx y.length m) x y w h hr)
 have HK := Lib.hid (key0_get hy)
 clear hr hy ho h
 go_enter Try.func106, Try.ntmps106
 go_wp2_with fail
 refine HE.out.mono ?_
 rintro e w' ⟨rfl, hd⟩
 go_wp2_with fail
 go_ret
 exact ⟨by rw [HK.out]; rfl, hd⟩
theorem idxRow_any (vo : Value) (out : List (List Int)) (s g3 g6 : Nat) (w : World) (ho : SSAt ints w vo out) (c3 : w.cell? ⟨g3, 0, none⟩ = some vo) (z3 : g3 < w.heap.size) (c6 : w.cell? ⟨g6, 0, none⟩ = some (.int .i64 s)) (z6 : g6 < w.heap.size) (hs : s < out.length) (hl : out.length ≤ 1000) :
  Calls Try.prog 105 #[vo, .func (.func 106) #[] #[.pointer (some ⟨g3, 0, none⟩), .pointer (some ⟨g6, 0, none⟩)]] w fun e w' => e = .returned (.int .i64 (Mac.least (fun t => decide (Mac.key0 out t = Mac.key0 out s)) s 0 : Nat)) ∧ Drew w w' := by
 have C3 := Lib.hid c3
 have C6 := Lib.hid c6
 have HO := Lib.hid ho
 obtain ⟨A, c, rfl, hc, hcm⟩ := ho.shape
 unfold maxLen at hcm
 have HL : Hid (∀ j, j ≤ s → (∀ t, t < j → Mac.key0 out t ≠ Mac.key0 out s) → Mac.key0 out j = Mac.key0 out s → Mac.least (fun t => decide (Mac.key0 out t = Mac.key0 out s)) s 0 = j) := Lib.hid fun j hj hn he => Mac.least_eq hj (fun t ht => decide_eq_false (hn t ht)) (.inr (decide_eq_true he))
 generalize Mac.least (fun t => decide (Mac.key0 out t = Mac.key0 out s)) s 0 = L at *
 clear ho c3 c6
 go_enter Try.func105, Try.ntmps105
 go_wp2_with fail
 go_loopw [8] (fun i wr => ∃ k : Nat, k ≤ s ∧ i = .int .i64 k ∧ Hid (∀ t, t < k → Mac.key0 out t ≠ Mac.key0 out s) ∧ Drew w wr) (fun i _ => out.length - (intOf i).toNat)
 case atStart => exact ⟨0, Nat.zero_le _, rfl, Lib.hid (fun t h => absurd h (Nat.not_lt_zero t)), Drew.refl _⟩
 case round =>
  obtain ⟨k, hk, rfl, Hn, hd⟩ := hrel
  have hlt : k < out.length := by omega
  obtain ⟨y, hy⟩ := at_some hlt
  obtain ⟨b, o, Bx, m, rfl, hbl, hc1, hm1, hm2, hr⟩ := ss_open HO.out (hd.below _) hy
  have hd3 := (hd.cell ⟨g3, 0, none⟩).trans C3.out
  have hd6 := (hd.cell ⟨g6, 0, none⟩).trans C6.out
  have HS := Lib.hid (sameRow_any (.slice Bx y.length m) _ y out s g3 g6 wr hr (HO.out.below (hd.below _)) hd3 (Nat.lt_of_lt_of_le z3 (hd.below 0).size) hd6 (Nat.lt_of_lt_of_le z6 (hd.below 0).size) hs)
  have HK := Lib.hid (key0_get hy)
  have Hd := Lib.hid hd
  unfold maxLen at hm2
  clear hr hy hd hd3 hd6
  by_cases he : y = Mac.key0 out s
  ·rw [decide_eq_true he] at HS
   have hL := HL.out k hk Hn.out (HK.out.trans he)
   subst hL
   clear he
   go_wp2_with fail
   refine HS.out.mono ?_
   rintro e w' ⟨rfl, hd'⟩
   go_wp2_with fail
   go_ret
   exact ⟨rfl, Hd.out.trans hd'⟩
  ·rw [decide_eq_false he] at HS
   have hks : k ≠ s := fun e => he (by rw [← HK.out, e])
   have Hn2 : Hid (∀ t, t < k + 1 → Mac.key0 out t ≠ Mac.key0 out s) := Lib.hid fun t ht e => by
    by_cases h : t = k
    ·subst h; exact he (HK.out.symm.trans e)
    ·exact Hn.out t (by omega) e
   clear he
   go_wp2_with fail
   refine HS.out.mono ?_
   rintro e w' ⟨rfl, hd'⟩
   go_wp2_with fail
   go_roundw
   case rel => exact ⟨k + 1, by omega, by go_num, Hn2, Hd.out.trans hd'⟩
   case measure => simp [intOf] <;> omega
theorem cg_get {C : List Nat} {s x : Nat} (h : C[s]? = some x) : Mac.cg C s = x := by
 unfold Mac.cg
 rw [List.getD_eq_getElem?_getD, h, Option.getD_some]
def NRows (next : List (List Int)) (n M : Nat) : Prop := next.length = n ∧ ∀ s, s < n → ∃ r, next[s]? = some r ∧ r.length = M ∧ ∀ x, x < M → ∃ y : Nat, r[x]? = some ((y : Nat) : Int) ∧ y < n
theorem map_get {r : List Int} {C : List Nat} {x : Nat} {y : Nat} (h : r[x]? = some ((y : Nat) : Int)) : (r.map fun y => Mac.cg C y.toNat)[x]? = some (Mac.cg C y) := by
 rw [List.getElem?_map, h]
 rfl
/-- The second closure: states alike. -/
theorem alike_any (vc vn : Value) (next : List (List Int)) (C : List Nat) (n M a b gc gn : Nat) (w : World) (hN : SSAt ints w vn next) (hC : NatsAt w vc C) (hR : NRows next n M) (hl : C.length = n) (hn : n ≤ 8) (hM : M ≤ 16) (ha : a < n) (hb : b < n)
    (c1 : w.cell? ⟨gc, 0, none⟩ = some vc) (z1 : gc < w.heap.size) (c2 : w.cell? ⟨gn, 0, none⟩ = some vn) (z2 : gn < w.heap.size) :
    Calls Try.prog 108 #[.int .i64 a, .int .i64 b, .pointer (some ⟨gc, 0, none⟩), .pointer (some ⟨gn, 0, none⟩)] w fun e w' => e = .returned (.bool (decide (Mac.keyI next C a = Mac.keyI next C b))) ∧ Drew w w' := by
  obtain ⟨hRn, hR⟩ := hR
  obtain ⟨ra, ea, la, va⟩ := hR a ha
  obtain ⟨rb, eb, lb, vb⟩ := hR b hb
  obtain ⟨Ac, cc, rfl, hcc, hccm⟩ := hC.shape
  obtain ⟨An, cn, rfl, hcn, hcnm⟩ := hN.shape
  unfold maxLen at hccm hcnm
  obtain ⟨bn, on, Ba, ma, hAn, hbn, da, ma1, ma2, hra⟩ := ss_open hN (Below.refl _ _) ea
  subst hAn
  obtain ⟨bn', on', Bb, mb, hAn, -, db, mb1, mb2, hrb⟩ := ss_open hN (Below.refl _ _) eb
  obtain ⟨rfl, rfl⟩ : bn = bn' ∧ on = on' := by have := Option.some.inj hAn; injection this with h1 h2; exact ⟨h1, h2⟩
  obtain ⟨bc, oc, xa, hAc, hbc, hxa, da2⟩ := nats_cell (nats_row hC) rfl (show a < C.length by omega)
  subst hAc
  obtain ⟨bc', oc', xb, hAc, -, hxb, db2⟩ := nats_cell (nats_row hC) rfl (show b < C.length by omega)
  obtain ⟨rfl, rfl⟩ : bc = bc' ∧ oc = oc' := by have := Option.some.inj hAc; injection this with h1 h2; exact ⟨h1, h2⟩
  have HK : Hid (Mac.keyI next C a = Mac.keyI next C b ↔ xa = xb ∧ (ra.map fun y => Mac.cg C y.toNat) = rb.map fun y => Mac.cg C y.toNat) := Lib.hid (by
    unfold Mac.keyI
    rw [Prod.mk.injEq, cg_get hxa.out, cg_get hxb.out, nrow_get ea, nrow_get eb])
  have HCell : Hid (∀ x, x < C.length → ∃ y, Mac.cg C x = y ∧ w.cell? ⟨bc, oc + x, none⟩ = some (.int .i64 (y : Nat))) := Lib.hid fun x hx => by
    obtain ⟨b', o', y, hA, -, hy, hcell⟩ := nats_cell (nats_row hC) rfl hx
    obtain ⟨rfl, rfl⟩ : bc = b' ∧ oc = o' := by have := Option.some.inj hA; injection this with h1 h2; exact ⟨h1, h2⟩
    exact ⟨y, cg_get hy.out, hcell⟩
  have HVa := Lib.hid va
  have HVb := Lib.hid vb
  have Hra := Lib.hid hra
  have Hrb := Lib.hid hrb
  have Hla := Lib.hid la
  have Hlb := Lib.hid lb
  rw [la] at da ma1
  rw [lb] at db mb1
  have K : ∀ w', Drew w w' → w'.cell? ⟨gc, 0, none⟩ = some (.slice (some ⟨bc, oc, none⟩) C.length cc) ∧ w'.cell? ⟨gn, 0, none⟩ = some (.slice (some ⟨bn, on, none⟩) next.length cn) ∧ w'.cell? ⟨bn, on + a, none⟩ = some (.slice Ba M ma) ∧ w'.cell? ⟨bn, on + b, none⟩ = some (.slice Bb M mb) ∧ w'.cell? ⟨bc, oc + a, none⟩ = some (.int .i64 xa) ∧ w'.cell? ⟨bc, oc + b, none⟩ = some (.int .i64 xb) := fun w' hd =>
    ⟨(hd.cell _).trans c1, (hd.cell _).trans c2, (hd.cell _).trans da, (hd.cell _).trans db, (hd.cell _).trans da2, (hd.cell _).trans db2⟩
  have HKK := Lib.hid K
  obtain ⟨k1, k2, k3, k4, k5, k6⟩ := K w (Drew.refl _)
  have ha2 : a < C.length := by omega
  have hb2 : b < C.length := by omega
  have ha3 : a < next.length := by omega
  have hb3 : b < next.length := by omega
  unfold maxLen at ma2 mb2
  clear K hR va vb hN hC ea eb hra hrb da db da2 db2 c1 c2 hAn hAc hxa hxb
  by_cases hx : xa = xb
  · have hxx : ((xa : Int) != (xb : Int)) = false := by rw [hx]; simp
    have HK2 : Hid (Mac.keyI next C a = Mac.keyI next C b ↔ (ra.map fun y => Mac.cg C y.toNat) = rb.map fun y => Mac.cg C y.toNat) := Lib.hid (by rw [HK.out]; exact ⟨fun h => h.2, fun h => ⟨hx, h⟩⟩)
    clear hx HK la lb
    go_enter Try.func108, Try.ntmps108
    go_wp2_with fail
    go_quiet (fail)
    go_wp2_with fail
    have Hd0 := Lib.hid (Drew.by w nq)
    go_loopw [22] (fun i wr => ∃ (k : Nat), k ≤ M ∧ i = .int .i64 k ∧ Hid ((ra.take k).map (fun y => Mac.cg C y.toNat) = (rb.take k).map fun y => Mac.cg C y.toNat) ∧ Drew w wr) (fun i _ => M - (intOf i).toNat)
    case atStart => exact ⟨0, Nat.zero_le _, rfl, Lib.hid rfl, Hd0.out⟩
    case round =>
      obtain ⟨k, hk, rfl, htk, hd⟩ := hrel
      obtain ⟨k1, k2, k3, k4, -, -⟩ := HKK.out wr hd
      have Hd := Lib.hid hd
      clear Hd0
      by_cases hlt : k < M
      · obtain ⟨ya, hya, hyan⟩ := HVa.out k hlt
        obtain ⟨yb, hyb, hybn⟩ := HVb.out k hlt
        obtain ⟨b1, o1, rfl, hb1, hs1⟩ := ints_row Hra.out rfl hya
        obtain ⟨b2, o2, rfl, hb2', hs2⟩ := ints_row Hrb.out rfl hyb
        obtain ⟨ca, hca, hcella⟩ := HCell.out ya (by omega)
        obtain ⟨cb, hcb, hcellb⟩ := HCell.out yb (by omega)
        have j1 := (hd.cell _).trans hs1
        have j2 := (hd.cell _).trans hs2
        have j3 := (hd.cell _).trans hcella
        have j4 := (hd.cell _).trans hcellb
        have Hya := Lib.hid hya
        have Hyb := Lib.hid hyb
        have Hca := Lib.hid hca
        have Hcb := Lib.hid hcb
        have hdk : decide (k < M) = true := decide_eq_true hlt
        clear hya hyb hca hcb hs1 hs2 hcella hcellb hd
        by_cases hcc2 : ca = cb
        · have hcx : ((ca : Int) != (cb : Int)) = false := by rw [hcc2]; simp
          have Hn : Hid ((ra.take (k + 1)).map (fun y => Mac.cg C y.toNat) = (rb.take (k + 1)).map fun y => Mac.cg C y.toNat) := Lib.hid (by
            rw [take_snoc Hya.out, take_snoc Hyb.out, List.map_append, List.map_append, htk.out, List.map_singleton, List.map_singleton, Int.toNat_natCast, Int.toNat_natCast, Hca.out, Hcb.out, hcc2])
          clear hcc2
          go_wp2_with fail
          go_quiet (fail)
          go_wp2_with fail
          go_roundw
          case rel => exact ⟨k + 1, by omega, by go_num, Hn, Hd.out.more _⟩
          case measure => simp [intOf] <;> omega
        · have hcx : ((ca : Int) != (cb : Int)) = true := by simp; omega
          have Hn : Hid (decide (Mac.keyI next C a = Mac.keyI next C b) = false) := Lib.hid (decide_eq_false (by
            rw [HK2.out]
            intro e
            have := congrArg (fun l => l[k]?) e
            rw [map_get Hya.out, map_get Hyb.out, Hca.out, Hcb.out] at this
            exact hcc2 (Option.some.inj this)))
          clear hcc2
          go_wp2_with fail
          go_quiet (fail)
          go_wp2_with fail
          go_ret
          exact ⟨by rw [Hn.out]; rfl, Hd.out.more _⟩
      · obtain rfl : k = M := by omega
        have hdk : decide (k < k) = false := decide_eq_false (by omega)
        have Hn : Hid (decide (Mac.keyI next C a = Mac.keyI next C b) = true) := Lib.hid (decide_eq_true (by
          rw [HK2.out]
          have := htk.out
          rwa [List.take_of_length_le (by have := Hla.out; omega), List.take_of_length_le (by have := Hlb.out; omega)] at this))
        go_wp2_with fail
        go_ret
        exact ⟨by rw [Hn.out]; rfl, hd⟩
  · have hxx : ((xa : Int) != (xb : Int)) = true := by simp; omega
    have Hn : Hid (decide (Mac.keyI next C a = Mac.keyI next C b) = false) := Lib.hid (decide_eq_false (by rw [HK.out]; exact fun h => hx h.1))
    clear hx HK la lb
    go_enter Try.func108, Try.ntmps108
    go_wp2_with fail
    go_quiet (fail)
    go_wp2_with fail
    go_ret
    exact ⟨by rw [Hn.out]; rfl, Drew.by _ _⟩
end Go.Proofs.Ytkkkjbinfdohpaa
namespace Go.Proofs.Ytkkkjbinfdohpaa
open Go.RowKit
theorem blkO {E : Nat → Prop} {w w' : World} {k : Nat} {o : Obj} (h : w.heap[k]? = some o) (ho : Only E w w') (hE : ¬ E k) : w'.heap[k]? = some o := (ho.block k (heap_lt h) hE).trans h
def celln (w : World) (b i : Nat) : Nat := match w.cell? ⟨b, i, none⟩ with | some (.int _ x) => x.toNat | _ => 0
def clsAt (w : World) (g n : Nat) : List Nat := match w.cell? ⟨g, 0, none⟩ with | some (.slice (some ⟨b, o, _⟩) _ _) => (List.range n).map fun i => celln w b (o + i) | _ => []
theorem celln_own {w : World} {B g n c : Nat} {C : List Nat} (h : w.ownsRow B 3 1 (.slice (some ⟨g, 0, none⟩) n c) n (nints C)) {i x : Nat} (hx : C[i]? = some x) : celln w g i = x := by
 have hl : C.length = n := by have := h.1; rw [nints_length] at this; omega
 obtain ⟨hi, -⟩ := List.getElem?_eq_some_iff.1 hx
 obtain ⟨u, hu, hcell, -⟩ := own_slot h (j := i) (by omega)
 have : u = .int .i64 (x : Nat) := by
  unfold nints ints nats at hu
  rw [List.getElem?_map, List.getElem?_map, hx] at hu
  exact (Option.some.inj hu).symm
 unfold celln
 rw [hcell, this]
 simp
theorem clsAt_own {w : World} {B g b n c : Nat} {C : List Nat} (hg : w.cell? ⟨g, 0, none⟩ = some (.slice (some ⟨b, 0, none⟩) n c)) (h : w.ownsRow B 3 1 (.slice (some ⟨b, 0, none⟩) n c) n (nints C)) : clsAt w g n = C := by
 have hl : C.length = n := by have := h.1; rw [nints_length] at this; omega
 unfold clsAt
 rw [hg]
 apply List.ext_getElem
 ·simp [hl]
 ·intro i h1 h2
  rw [List.getElem_map, List.getElem_range, Nat.zero_add, celln_own h (List.getElem?_eq_getElem h2)]
theorem classes_any (vn vo : Value) (next out : List (List Int)) (M : Nat) (w : World) (hN : SSAt ints w vn next) (hO : SSAt ints w vo out) (hR : NRows next next.length M) (ho : out.length = next.length) (h1 : 1 ≤ next.length) (hn : next.length ≤ 8) (hM : M ≤ 16) :
  Calls Try.prog 66 #[vn, vo] w (OwnInts (nats (Mac.classI next out)) w) := by
 obtain ⟨An, cn, rfl, hcn, hcnm⟩ := hN.shape
 obtain ⟨Ao, co, rfl, hco, hcom⟩ := hO.shape
 unfold maxLen at hcnm hcom
 have HN := Lib.hid hN
 have HO := Lib.hid hO
 have HR := Lib.hid hR
 have Ho := Lib.hid ho
 have hmk := run_make_row' (P := Try.prog) 23 3 (.int .i64 0) 8 Try.underlying23 info_int rfl .i64 .i64 next.length (by omega) (by omega)
 clear hN hO hR ho
 have b1 := bel_new w (.cells #[.slice An next.length cn] 51)
 have b2 := bel_new (w.alloc (.cells #[.slice An next.length cn] 51)) (.cells #[.slice Ao out.length co] 51)
 have b3 := bel_new ((w.alloc (.cells #[.slice An next.length cn] 51)).alloc (.cells #[.slice Ao out.length co] 51)) (.cells (madeCells #[Value.int .i64 0] next.length) 3)
 have b4 := bel_new (((w.alloc (.cells #[.slice An next.length cn] 51)).alloc (.cells #[.slice Ao out.length co] 51)).alloc (.cells (madeCells #[Value.int .i64 0] next.length) 3)) (.cells #[.slice (some ⟨w.heap.size + 1 + 1, 0, none⟩) next.length next.length] 23)
 have s1 : (w.alloc (.cells #[.slice An next.length cn] 51)).heap.size = w.heap.size + 1 := by simp
 have s2 : ((w.alloc (.cells #[.slice An next.length cn] 51)).alloc (.cells #[.slice Ao out.length co] 51)).heap.size = w.heap.size + 1 + 1 := by simp
 have s3 : (((w.alloc (.cells #[.slice An next.length cn] 51)).alloc (.cells #[.slice Ao out.length co] 51)).alloc (.cells (madeCells #[Value.int .i64 0] next.length) 3)).heap.size = w.heap.size + 1 + 1 + 1 := by simp
 have s4 : ((((w.alloc (.cells #[.slice An next.length cn] 51)).alloc (.cells #[.slice Ao out.length co] 51)).alloc (.cells (madeCells #[Value.int .i64 0] next.length) 3)).alloc (.cells #[.slice (some ⟨w.heap.size + 1 + 1, 0, none⟩) next.length next.length] 23)).heap.size = w.heap.size + 1 + 1 + 1 + 1 := by simp
 have B4 := Lib.hid ((((b1.trans (b2.mono b1.size))).trans (b3.mono (by omega))).trans (b4.mono (by omega)))
 have q2 : Hid (((((w.alloc (.cells #[.slice An next.length cn] 51)).alloc (.cells #[.slice Ao out.length co] 51)).alloc (.cells (madeCells #[Value.int .i64 0] next.length) 3)).alloc (.cells #[.slice (some ⟨w.heap.size + 1 + 1, 0, none⟩) next.length next.length] 23)).cell? ⟨w.heap.size, 0, none⟩ = some (.slice An next.length cn)) := Lib.hid (((b4.cell (p := ⟨w.heap.size, 0, none⟩) (by simp only; omega)).trans ((b3.cell (p := ⟨w.heap.size, 0, none⟩) (by simp only; omega)).trans (b2.cell (p := ⟨w.heap.size, 0, none⟩) (by simp only; omega)))).trans (World.cell?_alloc_new w _ _ 0))
 have q3 : Hid (((((w.alloc (.cells #[.slice An next.length cn] 51)).alloc (.cells #[.slice Ao out.length co] 51)).alloc (.cells (madeCells #[Value.int .i64 0] next.length) 3)).alloc (.cells #[.slice (some ⟨w.heap.size + 1 + 1, 0, none⟩) next.length next.length] 23)).cell? ⟨w.heap.size + 1, 0, none⟩ = some (.slice Ao out.length co)) := Lib.hid (((b4.cell (p := ⟨w.heap.size + 1, 0, none⟩) (by simp only; omega)).trans (b3.cell (p := ⟨w.heap.size + 1, 0, none⟩) (by simp only; omega))).trans (by have := World.cell?_alloc_new (w.alloc (.cells #[.slice An next.length cn] 51)) #[.slice Ao out.length co] 51 0; rw [s1] at this; exact this))
 have q5 : Hid (((((w.alloc (.cells #[.slice An next.length cn] 51)).alloc (.cells #[.slice Ao out.length co] 51)).alloc (.cells (madeCells #[Value.int .i64 0] next.length) 3)).alloc (.cells #[.slice (some ⟨w.heap.size + 1 + 1, 0, none⟩) next.length next.length] 23)).heap[w.heap.size + 1 + 1 + 1]? = some (.cells #[.slice (some ⟨w.heap.size + 1 + 1, 0, none⟩) next.length next.length] 23 (0, 0))) := Lib.hid (by have := heap_alloc_new (((w.alloc (.cells #[.slice An next.length cn] 51)).alloc (.cells #[.slice Ao out.length co] 51)).alloc (.cells (madeCells #[Value.int .i64 0] next.length) 3)) (.cells #[.slice (some ⟨w.heap.size + 1 + 1, 0, none⟩) next.length next.length] 23); rw [s3] at this; exact this)
 have hown0 : Hid (((((w.alloc (.cells #[.slice An next.length cn] 51)).alloc (.cells #[.slice Ao out.length co] 51)).alloc (.cells (madeCells #[Value.int .i64 0] next.length) 3)).alloc (.cells #[.slice (some ⟨w.heap.size + 1 + 1, 0, none⟩) next.length next.length] 23)).ownsRow w.heap.size 3 1 (.slice (some ⟨w.heap.size + 1 + 1, 0, none⟩) next.length next.length) next.length (nints ((Mac.seqI next out 0).take 0 ++ List.replicate (next.length - 0) 0))) := Lib.hid (own_below (by
  have := World.ownsRow_lit (base := w.heap.size) (e := 3) (size := 1) ((w.alloc (.cells #[.slice An next.length cn] 51)).alloc (.cells #[.slice Ao out.length co] 51)) (madeCells #[Value.int .i64 0] next.length) next.length (by omega) (by unfold maxLen; omega) (by simp [madeCells])
  rw [made_one, s2] at this
  rw [made_one, List.take_zero, List.nil_append, nints_rep, Nat.sub_zero]
  simpa using this) b4)
 clear b1 b2 b3 b4 s1 s2 s3
 have S4 := Lib.hid s4
 clear s4
 go_enter Try.func66, Try.ntmps66
 go_wp2_with fail
 clear hmk
 generalize ((((w.alloc (.cells #[.slice An next.length cn] 51)).alloc (.cells #[.slice Ao out.length co] 51)).alloc (.cells (madeCells #[Value.int .i64 0] next.length) 3)).alloc (.cells #[.slice (some ⟨w.heap.size + 1 + 1, 0, none⟩) next.length next.length] 23)) = W at *
 have s4 := S4.out
 go_loopw [15] (fun i wr => ∃ k : Nat, k ≤ next.length ∧ i = .int .i64 k ∧ Hid (wr.ownsRow w.heap.size 3 1 (.slice (some ⟨w.heap.size + 1 + 1, 0, none⟩) next.length next.length) next.length (nints ((Mac.seqI next out 0).take k ++ List.replicate (next.length - k) 0))) ∧ Hid (Only (· = w.heap.size + 1 + 1) W wr)) (fun i _ => next.length - (intOf i).toNat)
 case atStart => exact ⟨0, Nat.zero_le _, rfl, hown0, Lib.hid (Only.refl _ _)⟩
 case round =>
  obtain ⟨k, hk, rfl, Hw, HO1⟩ := hrel
  clear hown0
  have hz := HO1.out.size
  by_cases hlt : k < next.length
  ·have hdk : decide (k < next.length) = true := decide_eq_true hlt
   have hL : (Mac.seqI next out 0)[k]? = some (Mac.least (fun t => decide (Mac.key0 out t = Mac.key0 out k)) k 0) := Mac.mkK_get (Mac.key0 out) hlt
   have hLe : Mac.least (fun t => decide (Mac.key0 out t = Mac.key0 out k)) k 0 ≤ k := by have := (Mac.least_spec (fun t => decide (Mac.key0 out t = Mac.key0 out k)) k 0).2.1; omega
   have HI := fun w' a b c d => idxRow_any (.slice Ao out.length co) out k (w.heap.size + 1) wr.heap.size w' a b c d
   obtain ⟨L, hLL⟩ : ∃ L, Mac.least (fun t => decide (Mac.key0 out t = Mac.key0 out k)) k 0 = L := ⟨_, rfl⟩
   rw [hLL] at hL hLe HI
   have HI := Lib.hid HI
   clear hLL
   have hlen0 : ((Mac.seqI next out 0).take k).length = k := by rw [List.length_take, (Mac.seqI_cl next out 0).len]; omega
   have HS : Hid ((nints ((Mac.seqI next out 0).take k ++ List.replicate (next.length - k) 0)).set k (.int .i64 (L : Nat)) = nints ((Mac.seqI next out 0).take (k + 1) ++ List.replicate (next.length - (k + 1)) 0)) := Lib.hid (by
    rw [nints_append, nints_append, nints_rep, nints_rep, set_mid_at _ _ _ _ _ (by rw [nints_length]; exact hlen0.symm) (by omega), show next.length - k - 1 = next.length - (k + 1) from by omega, take_snoc hL, nints_snoc])
   have hb4 := bel_new wr (.cells #[.int .i64 k] 3)
   have Hw4 := Lib.hid (own_below Hw.out hb4)
   have O4 := Lib.hid (HO1.out.trans (Only.of_below _ hb4))
   have c6 : Hid ((wr.alloc (.cells #[.int .i64 k] 3)).cell? ⟨wr.heap.size, 0, none⟩ = some (.int .i64 k)) := Lib.hid (World.cell?_alloc_new wr _ _ 0)
   have z6 : wr.heap.size < (wr.alloc (.cells #[.int .i64 k] 3)).heap.size := by simp
   clear hb4 hL hlen0
   go_wp2_with fail
   generalize hw4 : wr.alloc (.cells #[.int .i64 k] 3) = w4 at *
   clear hw4
   have p5 := blk_cell (blkO q5.out O4.out (by omega)) 0
   have p3 := cell_on O4.out (show ¬ (w.heap.size + 1 = w.heap.size + 1 + 1) by omega) (by omega) q3.out
   have P3 := Lib.hid p3
   simp at p5
   have hOk := fun ops a => stepRS_ok (Pg := Try.prog) (ops := ops) (w := w4) (a := a) (E := (· = w.heap.size + 1 + 1)) (R0 := fun w' => w'.ownsRow w.heap.size 3 1 (.slice (some ⟨w.heap.size + 1 + 1, 0, none⟩) next.length next.length) next.length (nints ((Mac.seqI next out 0).take k ++ List.replicate (next.length - k) 0))) (R1 := fun w' => w'.ownsRow w.heap.size 3 1 (.slice (some ⟨w.heap.size + 1 + 1, 0, none⟩) next.length next.length) next.length (nints ((Mac.seqI next out 0).take (k + 1) ++ List.replicate (next.length - (k + 1)) 0))) (d := 6) (fun g hg => by subst hg; omega) (fun w1 w2 h hb => own_below h hb) (fun w1 w2 h hb => own_below h hb)
   have Bw4 := Lib.hid (Only.below B4.out O4.out (by omega) (fun g hg => by omega))
   refine wp_region_rs (stepRS Try.prog _ w4 _ (· = w.heap.size + 1 + 1) _ _ 6) (hOk _ _) (by kernel_rfl) (by kernel_rfl) (by kernel_rfl) (nlb rfl) trivial Hw4.out ?_
   apply rs_eq (hOk _ _) (.inl (nnb rfl))
   ·intro ρ w' ho hK
    have ho : Only _ w4 w' := ho
    obtain ⟨h0, -⟩ := hK
    have h0' : ρ (.tmp 5) = _ := h0
    have r5 := cell_on ho (show ¬ (w.heap.size + 1 + 1 + 1 = w.heap.size + 1 + 1) by omega) (by omega) p5
    have r6 := cell_on ho (show ¬ (wr.heap.size = w.heap.size + 1 + 1) by omega) z6 c6.out
    have r3 := cell_on ho (show ¬ (w.heap.size + 1 = w.heap.size + 1 + 1) by omega) (by omega) p3
    go_simp
    try exact rfl
   apply rs_eq (hOk _ _) (.inl (nnb rfl))
   ·intro ρ w' ho hK
    have ho : Only _ w4 w' := ho
    obtain ⟨h0, -⟩ := hK
    have h0' : ρ (.tmp 6) = _ := h0
    have r5 := cell_on ho (show ¬ (w.heap.size + 1 + 1 + 1 = w.heap.size + 1 + 1) by omega) (by omega) p5
    have r6 := cell_on ho (show ¬ (wr.heap.size = w.heap.size + 1 + 1) by omega) z6 c6.out
    have r3 := cell_on ho (show ¬ (w.heap.size + 1 = w.heap.size + 1 + 1) by omega) (by omega) p3
    go_simp
    try exact rfl
   apply rs_eq (hOk _ _) (.inl (nnb rfl))
   ·intro ρ w' ho hK
    have ho : Only _ w4 w' := ho
    obtain ⟨h0, -⟩ := hK
    have h0' : ρ (.tmp 3) = _ := h0
    have r5 := cell_on ho (show ¬ (w.heap.size + 1 + 1 + 1 = w.heap.size + 1 + 1) by omega) (by omega) p5
    have r6 := cell_on ho (show ¬ (wr.heap.size = w.heap.size + 1 + 1) by omega) z6 c6.out
    have r3 := cell_on ho (show ¬ (w.heap.size + 1 = w.heap.size + 1 + 1) by omega) (by omega) p3
    go_simp
    try exact rfl
   apply rs_eq (hOk _ _) (.inl (nnb rfl))
   ·intro ρ w' ho hK
    have ho : Only _ w4 w' := ho
    obtain ⟨h0, h1, -⟩ := hK
    have h0' : ρ (.tmp 3) = _ := h0
    have h1' : ρ (.tmp 6) = _ := h1
    go_simp
    try exact rfl
   refine rs_call (hOk _ _) (.inl (nnb rfl)) (TEq (.int .i64 (L : Nat))) (stb_eq _ _) 105 _ _ rfl (fun ρ w' ho hK => by
    have ho : Only _ w4 w' := ho
    obtain ⟨h0, h1, h2, -⟩ := hK
    have h0' : ρ (.func 105) = .func (.func 105) #[] #[] := h0
    have h1' : ρ (.tmp 20) = _ := h1
    have h2' : ρ (.tmp 21) = _ := h2
    refine ⟨#[ρ (.tmp 20), ρ (.tmp 21)], ?_, ?_⟩
    ·go_simp
    ·rw [h1', h2']
     refine (HI.out w' (HO.out.below (Only.below Bw4.out ho (by omega) (fun g hg => by omega))) (cell_on ho (show ¬ (w.heap.size + 1 = w.heap.size + 1 + 1) by omega) (by omega) P3.out) (by have := ho.size; omega) (cell_on ho (show ¬ (wr.heap.size = w.heap.size + 1 + 1) by omega) z6 c6.out) (by have := ho.size; omega) (by rw [Ho.out]; exact hlt) (by rw [Ho.out]; omega)).mono ?_
     rintro e w2 ⟨rfl, hd⟩
     exact ⟨_, rfl, rfl, hd.below _⟩) ?_
   apply rs_eq (hOk _ _) (.inl (nnb rfl))
   ·intro ρ w' ho hK
    have ho : Only _ w4 w' := ho
    obtain ⟨h0, h1, -⟩ := hK
    have h0' : ρ (.tmp 18) = _ := h0
    have h1' : ρ (.tmp 19) = _ := h1
    go_simp
    try exact rfl
   refine rs_do rfl rfl rfl (fun ρ w' ho h0 hK => by
    obtain ⟨h1, h2, -⟩ := hK
    have h1' : ρ (.tmp 23) = .pointer (some ⟨w.heap.size + 1 + 1, k, none⟩) := h1
    have h2' : ρ (.tmp 22) = .int .i64 L := h2
    have h0' : w'.ownsRow w.heap.size 3 1 (.slice (some ⟨w.heap.size + 1 + 1, 0, none⟩) next.length next.length) next.length (nints ((Mac.seqI next out 0).take k ++ List.replicate (next.length - k) 0)) := h0
    obtain ⟨u0, _, hcell, hfr⟩ := own_slot h0' (j := k) (by omega)
    have hst := h0'.stored k (.int .i64 L)
    rw [HS.out] at hst
    refine ⟨w'.setCell ⟨w.heap.size + 1 + 1, k, none⟩ (.int .i64 L), ?_, hst.1, Only.grown hst.2 (fun g hg => (Option.some.inj hg).symm)⟩
    clear hst h0'
    go_simp) ?_
   intro f w9 k9 hk9 hI9 ht9 hcp9
   have E0 : f 0 = _ := ht9 0 (nlb rfl)
   have E1 : f 1 = _ := ht9 1 (nlb rfl)
   have E2 : f 2 = _ := ht9 2 (nlb rfl)
   have E3 : f 3 = _ := ht9 3 (nlb rfl)
   have E4 : f 4 = _ := ht9 4 (nlb rfl)
   have E5 : f 5 = _ := ht9 5 (nlb rfl)
   have E6 : (TAny) w9 (f 6) := ht9 6 (nlb rfl)
   have Ho9 : Only _ w4 w9 := hI9.2.1
   have HJ9 := hI9.2.2
   simp only [putAll, E0, E1, E2, E3, E4, E5, Nat.zero_add, Nat.reduceAdd, Act.put, List.setIfInBounds_toArray, List.set_cons_succ, List.set_cons_zero]
   clear E0 E1 E2 E3 E4 E5
   clear hI9 ht9 hcp9 hk9
   generalize f 6 = r6 at *
   have Hw9 := Lib.hid (show w9.ownsRow w.heap.size 3 1 (.slice (some ⟨w.heap.size + 1 + 1, 0, none⟩) next.length next.length) next.length (nints ((Mac.seqI next out 0).take (k + 1) ++ List.replicate (next.length - (k + 1)) 0)) from HJ9)
   have HO9 := Lib.hid (O4.out.trans Ho9)
   clear hOk HJ9 Ho9 p5 p3
   go_wp2_with fail
   go_roundw
   case rel => exact ⟨k + 1, by omega, by go_num, Hw9, HO9⟩
   case measure => simp [intOf] <;> omega
  ·obtain rfl : k = next.length := by omega
   have hdk : decide (next.length < next.length) = false := decide_eq_false (by omega)
   have Hw1 : Hid (wr.ownsRow w.heap.size 3 1 (.slice (some ⟨w.heap.size + 1 + 1, 0, none⟩) next.length next.length) next.length (nints (Mac.seqI next out 0))) := Lib.hid (by
    have := Hw.out
    rwa [Nat.sub_self, List.replicate_zero, List.append_nil, List.take_of_length_le (by rw [(Mac.seqI_cl next out 0).len]; omega)] at this)
   have hq5 := Lib.hid (blkO q5.out HO1.out (show ¬ (w.heap.size + 1 + 1 + 1 = w.heap.size + 1 + 1) by omega))
   have hq2 := Lib.hid (cell_on HO1.out (show ¬ (w.heap.size = w.heap.size + 1 + 1) by omega) (by omega) q2.out)
   have hB := Lib.hid (Only.below B4.out HO1.out (by omega) (fun g hg => by omega))
   have hzw : w.heap.size + 1 + 1 + 1 < wr.heap.size := by omega
   obtain ⟨G, hG⟩ : ∃ G, w.heap.size + 1 + 1 + 1 = G := ⟨_, rfl⟩
   have hGw : w.heap.size < G := by omega
   have hG2 : w.heap.size + 1 + 1 ≠ G := by omega
   go_wp2_with fail
   rw [hG] at hq5 hzw ⊢
   clear Hw HO1 q2 q3 q5 hG hz S4 B4 s4
   obtain ⟨W5, hW5⟩ : ∃ W5, W5 = wr := ⟨_, rfl⟩
   subst hW5
   go_loopw [] (fun wo => ∃ (r gC : Nat), Hid (∀ j, j < r → Mac.seqI next out (j + 1) ≠ Mac.seqI next out j) ∧ Hid (wo.ownsRow w.heap.size 3 1 (.slice (some ⟨gC, 0, none⟩) next.length next.length) next.length (nints (Mac.seqI next out r))) ∧ Hid (wo.heap[G]? = some (.cells #[.slice (some ⟨gC, 0, none⟩) next.length next.length] 23 (0, 0))) ∧ Hid (wo.cell? ⟨w.heap.size, 0, none⟩ = some (.slice An next.length cn)) ∧ gC ≠ G ∧ gC ≠ w.heap.size ∧ G < wo.heap.size ∧ Hid (Below w.heap.size w wo)) (fun wo => 9 - Mac.roots next.length (clsAt wo G next.length))
   case atStart => exact ⟨0, _, Lib.hid (fun j h => absurd h (Nat.not_lt_zero j)), Hw1, hq5, hq2, hG2, by omega, hzw, hB⟩
   case round =>
    obtain ⟨r, gC, Hne, HC, H5, H2, hg1, hg2, hzo, Hb⟩ := hrel
    clear Hw1 hq5 hq2 hB hzw
    have hlr := (Mac.seqI_cl next out r).len
    have hlr1 := (Mac.seqI_cl next out (r + 1)).len
    have Hlr := Lib.hid hlr
    have Hlr1 := Lib.hid hlr1
    have HMe := Lib.hid (clsAt_own (blk_cell H5.out 0) HC.out)
    have hbo := Hb.out.size
    obtain ⟨Wo, hWo⟩ : ∃ Wo, Wo = wr := ⟨_, rfl⟩
    subst hWo
    have p5 := blk_cell H5.out 0
    simp at p5
    have hmk := run_make_row' (P := Try.prog) 23 3 (.int .i64 0) 8 Try.underlying23 info_int rfl .i64 .i64 next.length (by omega) (by omega)
    have hbF := bel_new Wo (.cells (madeCells #[Value.int .i64 0] next.length) 3)
    have HF0 : Hid ((Wo.alloc (.cells (madeCells #[Value.int .i64 0] next.length) 3)).ownsRow w.heap.size 3 1 (.slice (some ⟨Wo.heap.size, 0, none⟩) next.length next.length) next.length (nints ((Mac.seqI next out (r + 1)).take 0 ++ List.replicate (next.length - 0) 0))) := Lib.hid (by
     have := World.ownsRow_lit (base := w.heap.size) (e := 3) (size := 1) Wo (madeCells #[Value.int .i64 0] next.length) next.length hbo (by unfold maxLen; omega) (by simp [madeCells])
     rw [made_one] at this
     rw [made_one, List.take_zero, List.nil_append, nints_rep, Nat.sub_zero]
     simpa using this)
    have HCk := Lib.hid (own_below HC.out hbF)
    have H5k := Lib.hid ((hbF.block _ hzo).trans H5.out)
    have H2k := Lib.hid ((hbF.cell (p := ⟨w.heap.size, 0, none⟩) (by simp only; omega)).trans H2.out)
    have Hbk := Lib.hid (Hb.out.trans (hbF.mono hbo))
    have hsk : (Wo.alloc (.cells (madeCells #[Value.int .i64 0] next.length) 3)).heap.size = Wo.heap.size + 1 := by simp
    have hgCo := (HC.out.lt gC rfl).2
    clear hbF hlr hlr1
    go_wp2_with fail
    clear hmk p5
    generalize Wo.alloc (.cells (madeCells #[Value.int .i64 0] next.length) 3) = Wk at *
    obtain ⟨gF, hgF⟩ : ∃ gF, Wo.heap.size = gF := ⟨_, rfl⟩
    rw [hgF] at HF0 hsk hzo hgCo hbo ⊢
    have HgF := Lib.hid hgF
    clear hgF HC H5 H2
    have hFG : ¬ (G = gF) := by omega
    have hFw : ¬ (w.heap.size = gF) := by omega
    have hFC : gC ≠ gF := by omega
    go_loopw [31] (fun i wi => ∃ k : Nat, k ≤ next.length ∧ i = .int .i64 k ∧ Hid (wi.ownsRow w.heap.size 3 1 (.slice (some ⟨gF, 0, none⟩) next.length next.length) next.length (nints ((Mac.seqI next out (r + 1)).take k ++ List.replicate (next.length - k) 0))) ∧ Hid (Only (· = gF) Wk wi)) (fun i _ => next.length - (intOf i).toNat)
    case atStart => exact ⟨0, Nat.zero_le _, rfl, HF0, Lib.hid (Only.refl _ _)⟩
    case round =>
     obtain ⟨k, hk, rfl, HF, HOk⟩ := hrel
     clear HF0
     have HCr := Lib.hid (own_only HCk.out HOk.out (fun g hg e => by have := Option.some.inj hg; simp only at this; omega))
     have H5r := Lib.hid (blkO H5k.out HOk.out hFG)
     have H2r := Lib.hid (cell_on HOk.out hFw (by omega) H2k.out)
     have Hbr := Lib.hid (Only.below Hbk.out HOk.out (by omega) (fun g hg => by omega))
     have hzr := HOk.out.size
     by_cases hlt : k < next.length
     ·have hdk : decide (k < next.length) = true := decide_eq_true hlt
      have HF' : Hid (wr.ownsRow w.heap.size 3 1 (.slice (some ⟨gF, 0, none⟩) next.length next.length) next.length (nints ((Mac.seqI next out (r + 1)).take k ++ 0 :: List.replicate (next.length - (k + 1)) 0))) := Lib.hid (by
       have := HF.out
       rwa [show next.length - k = (next.length - (k + 1)) + 1 by omega, List.replicate_succ] at this)
      have hltk : ((Mac.seqI next out (r + 1)).take k).length = k := by rw [List.length_take, Hlr1.out]; omega
      have Hltk := Lib.hid hltk
      clear hltk
      have HSet : Hid (∀ j j' : Nat, (nints ((Mac.seqI next out (r + 1)).take k ++ j :: List.replicate (next.length - (k + 1)) 0)).set k (.int .i64 (j' : Nat)) = nints ((Mac.seqI next out (r + 1)).take k ++ j' :: List.replicate (next.length - (k + 1)) 0)) := Lib.hid fun j j' => by
       rw [nints_append, nints_append, List.set_append_right _ _ (by rw [nints_length, Hltk.out]; omega), nints_length, Hltk.out, Nat.sub_self]
       rfl
      have HGet : Hid (∀ j : Nat, (nints ((Mac.seqI next out (r + 1)).take k ++ j :: List.replicate (next.length - (k + 1)) 0))[k]? = some (.int .i64 (j : Nat))) := Lib.hid fun j => by
       rw [nints_append, List.getElem?_append_right (by rw [nints_length, Hltk.out]; omega), nints_length, Hltk.out, Nat.sub_self]
       rfl
      have HEnd : Hid (∀ j : Nat, j ≤ k → (∀ t, t < j → Mac.keyI next (Mac.seqI next out r) t ≠ Mac.keyI next (Mac.seqI next out r) k) → (j = k ∨ Mac.keyI next (Mac.seqI next out r) j = Mac.keyI next (Mac.seqI next out r) k) → nints ((Mac.seqI next out (r + 1)).take k ++ j :: List.replicate (next.length - (k + 1)) 0) = nints ((Mac.seqI next out (r + 1)).take (k + 1) ++ List.replicate (next.length - (k + 1)) 0)) := Lib.hid fun j hj hn he => by
       have h1 : (Mac.seqI next out (r + 1))[k]? = some j := by
        have h2 := Mac.mkK_get (Mac.keyI next (Mac.seqI next out r)) hlt
        rw [Mac.least_eq hj (fun t ht => decide_eq_false (hn t ht)) (he.elim .inl fun e => .inr (decide_eq_true e))] at h2
        exact h2
       rw [take_snoc h1, List.append_assoc]
       rfl
      clear hdk
      have hdk : decide (k < next.length) = true := decide_eq_true hlt
      go_wp2_with fail
      obtain ⟨Wl, hWl⟩ : ∃ Wl, Wl = wr := ⟨_, rfl⟩
      subst hWl
      go_loopw [] (fun wj => ∃ j : Nat, j ≤ k ∧ Hid (wj.ownsRow w.heap.size 3 1 (.slice (some ⟨gF, 0, none⟩) next.length next.length) next.length (nints ((Mac.seqI next out (r + 1)).take k ++ j :: List.replicate (next.length - (k + 1)) 0))) ∧ Hid (∀ t, t < j → Mac.keyI next (Mac.seqI next out r) t ≠ Mac.keyI next (Mac.seqI next out r) k) ∧ Hid (Only (· = gF) Wk wj)) (fun wj => k - celln wj gF k)
      case atStart => exact ⟨0, Nat.zero_le _, HF', Lib.hid (fun t h => absurd h (Nat.not_lt_zero t)), HOk⟩
      case round =>
       obtain ⟨j, hj, Hj, Hnj, HOj⟩ := hrel
       clear HF' HF HOk HCr H5r H2r Hbr
       have HCr := Lib.hid (own_only HCk.out HOj.out (fun g hg e => by have := Option.some.inj hg; simp only at this; omega))
       have H5r := Lib.hid (blkO H5k.out HOj.out hFG)
       have H2r := Lib.hid (cell_on HOj.out hFw (by omega) H2k.out)
       have Hbr := Lib.hid (Only.below Hbk.out HOj.out (by omega) (fun g hg => by omega))
       have hzj := HOj.out.size
       obtain ⟨u0, hu0, hcell, hfr⟩ := own_slot Hj.out (j := k) (by omega)
       rw [HGet.out] at hu0
       obtain rfl := Option.some.inj hu0
       have Hcn : Hid (celln wr gF k = j) := Lib.hid (by unfold celln; rw [hcell]; simp)
       clear hu0
       by_cases hlj : j < k
       ·have hdj : decide (j < k) = true := decide_eq_true hlj
        have hA := alike_any (.slice (some ⟨gC, 0, none⟩) next.length next.length) (.slice An next.length cn) next (Mac.seqI next out r) next.length M j k G w.heap.size wr (HN.out.below Hbr.out) (nats_own HCr.out Hlr.out) HR.out Hlr.out hn hM (by omega) hlt (blk_cell H5r.out 0) (by omega) H2r.out (by omega)
        by_cases hkey : Mac.keyI next (Mac.seqI next out r) j = Mac.keyI next (Mac.seqI next out r) k
        ·rw [decide_eq_true hkey] at hA
         have HA := Lib.hid hA
         have HE := Lib.hid (HEnd.out j hj Hnj.out (.inr hkey))
         clear hA hkey
         go_wp2_with fail
         refine HA.out.mono ?_
         rintro e w' ⟨rfl, hdr⟩
         have hOw := Only.of_below (fun g => g = gF) (hdr.below wr.heap.size)
         have HFn := Lib.hid (by have := own_below Hj.out (hdr.below wr.heap.size); rw [HE.out] at this; exact this)
         have HOn := Lib.hid (HOj.out.trans hOw)
         clear hdr hOw hcell hfr
         go_wp2_with fail
         go_roundw
         case rel => exact ⟨k + 1, by omega, by go_num, HFn, HOn⟩
         case measure => simp [intOf] <;> omega
        ·rw [decide_eq_false hkey] at hA
         have HA := Lib.hid hA
         have Hn2 : Hid (∀ t, t < j + 1 → Mac.keyI next (Mac.seqI next out r) t ≠ Mac.keyI next (Mac.seqI next out r) k) := Lib.hid fun t ht e => by
          by_cases h : t = j
          ·subst h; exact hkey e
          ·exact Hnj.out t (by omega) e
         clear hA hkey
         go_wp2_with fail
         refine HA.out.mono ?_
         rintro e w' ⟨rfl, hdr⟩
         have hOw := Only.of_below (fun g => g = gF) (hdr.below wr.heap.size)
         have Hj2 := Lib.hid (own_below Hj.out (hdr.below wr.heap.size))
         have HO2 := Lib.hid (HOj.out.trans hOw)
         clear hdr hOw hcell hfr Hj HOj
         obtain ⟨u0, hu0, hcell, hfr⟩ := own_slot Hj2.out (j := k) (by omega)
         rw [HGet.out] at hu0
         obtain rfl := Option.some.inj hu0
         have hst := Hj2.out.stored k (.int .i64 ((j + 1 : Nat)))
         rw [HSet.out] at hst
         have HO3 := Lib.hid (HO2.out.trans (Only.grown hst.2 (fun g hg => (Option.some.inj hg).symm)))
         have Hj3 := Lib.hid hst.1
         clear hst hu0
         go_wp2_with fail
         go_roundw
         case rel => exact ⟨j + 1, by omega, Hj3, Hn2, HO3⟩
         case measure =>
          have := celln_own Hj3.out (i := k) (x := j + 1) (by rw [List.getElem?_append_right (by rw [Hltk.out]; omega), Hltk.out, Nat.sub_self]; rfl)
          have h2 := Hcn.out
          first | omega | (simp only [Int.natCast_add, Int.natCast_one] at this ⊢; omega)
       ·obtain rfl : j = k := by omega
        have hdj : decide (j < j) = false := decide_eq_false (by omega)
        have HE := Lib.hid (HEnd.out j hj Hnj.out (.inl rfl))
        have HFn := Lib.hid (by have := Hj.out; rw [HE.out] at this; exact this)
        go_wp2_with fail
        go_roundw
        case rel => exact ⟨j + 1, by omega, by go_num, HFn, HOj⟩
        case measure => simp [intOf] <;> omega
     ·obtain rfl : k = next.length := by omega
      have hdk : decide (next.length < next.length) = false := decide_eq_false (by omega)
      have HF1 : Hid (wr.ownsRow w.heap.size 3 1 (.slice (some ⟨gF, 0, none⟩) next.length next.length) next.length (nints (Mac.seqI next out (r + 1)))) := Lib.hid (by
       have := HF.out
       rwa [Nat.sub_self, List.replicate_zero, List.append_nil, List.take_of_length_le (by rw [Hlr1.out]; omega)] at this)
      have hS := sliceEq_any _ _ (nats (Mac.seqI next out (r + 1))) (nats (Mac.seqI next out r)) wr (nats_own HF1.out Hlr1.out) (nats_own HCr.out Hlr.out)
      have p5 := blk_cell H5r.out 0
      simp at p5
      by_cases he : Mac.seqI next out (r + 1) = Mac.seqI next out r
      ·rw [decide_eq_true (congrArg nats he)] at hS
       have HS := Lib.hid hS
       have HE := Lib.hid ((Mac.seqI_end next out (by omega)).2 r he)
       clear he hS
       go_wp2_with fail
       refine HS.out.mono ?_
       rintro e w' ⟨rfl, hdr⟩
       have q5 := (hdr.cell _).trans p5
       have HCf := Lib.hid (own_below HCr.out (hdr.below wr.heap.size))
       have HBf := Lib.hid (Hbr.out.trans (hdr.below w.heap.size))
       clear hdr p5
       go_wp2_with fail
       go_ret
       refine ⟨_, rfl, ?_, HBf.out⟩
       rw [nats_length, ← HE.out, Hlr.out]
       exact HCf.out
      ·rw [decide_eq_false (fun e => he (by
        have := congrArg (fun l => l.map Int.toNat) e
        simpa [nats, Function.comp_def] using this))] at hS
       have HS := Lib.hid hS
       have HNe := Lib.hid he
       clear he hS
       go_wp2_with fail
       refine HS.out.mono ?_
       rintro e w' ⟨rfl, hdr⟩
       have HFf := Lib.hid (own_below HF1.out (hdr.below wr.heap.size))
       have H5f := Lib.hid (((hdr.below wr.heap.size).block G (by omega)).trans H5r.out)
       have H2f := Lib.hid ((hdr.cell _).trans H2r.out)
       have HBf := Lib.hid (Hbr.out.trans (hdr.below w.heap.size))
       have zf := hdr.size
       have p5f := blk_cell H5f.out 0
       have f5f := blk_free H5f.out 0
       simp at p5f
       have hox : Only (· = G) w' (w'.setCell ⟨G, 0, none⟩ (.slice (some ⟨gF, 0, none⟩) next.length next.length)) := Only.grown (set_grown w' G 0 _) (fun g hg => (Option.some.inj hg).symm)
       have hset5 := Lib.hid (heap_setCell_same w' G 0 _ _ (.slice (some ⟨gF, 0, none⟩) next.length next.length) H5f.out)
       have HFs := Lib.hid (own_only HFf.out hox (fun g hg e => by have := Option.some.inj hg; simp only at this; omega))
       have H2s := Lib.hid (cell_on hox (show ¬ (w.heap.size = G) by omega) (by omega) H2f.out)
       have HBs := Lib.hid (Only.below HBf.out hox (by omega) (fun g hg => by omega))
       have hzs : G < (w'.setCell ⟨G, 0, none⟩ (.slice (some ⟨gF, 0, none⟩) next.length next.length)).heap.size := by have := hox.size; omega
       have Hcl := Lib.hid (clsAt_own (blk_cell hset5.out 0) HFs.out)
       have HNe2 : Hid (∀ j, j < r + 1 → Mac.seqI next out (j + 1) ≠ Mac.seqI next out j) := Lib.hid fun j hj => by
        by_cases h : j = r
        ·subst h; exact HNe.out
        ·exact Hne.out j (by omega)
       have hrt := Mac.roots_lt (Mac.seqI_cl next out r) (Mac.seqI_cl next out (r + 1)) (Mac.seqI_finer next out r) HNe.out
       have hrl := Mac.roots_le next.length (Mac.seqI next out (r + 1))
       have Hrt := Lib.hid (And.intro hrt hrl)
       clear hdr p5 hox H5f H2f HBf HFf hrt hrl
       go_wp2_with fail
       go_roundw
       case rel => exact ⟨r + 1, gF, HNe2, HFs, hset5, H2s, by omega, by omega, hzs, HBs⟩
       case measure =>
        have h1 := Hcl.out
        have h2 := HMe.out
        have h3 := Hrt.out
        rw [h1, h2]
        omega
end Go.Proofs.Ytkkkjbinfdohpaa
namespace Go.Proofs.Ytkkkjbinfdohpaa
open Go.RowKit
structure TL (B : Nat) (xss yss : List (List Int)) (v u : Value) (vs us : List Value) (F : Nat → Prop) (w : World) : Prop where
  p : w.ownsRow B 23 1 v xss.length vs
  q : w.ownsRow B 23 1 u yss.length us
  r1 : ∀ (i : Nat) (x : List Int) (z : Value), xss[i]? = some x → vs[i]? = some z → RowIn F w 1 z x.length (ints x)
  r2 : ∀ (i : Nat) (x : List Int) (z : Value), yss[i]? = some x → us[i]? = some z → RowIn F w 1 z x.length (ints x)
  f : ∀ g, F g → g < w.heap.size ∧ v.ownBlock ≠ some g ∧ u.ownBlock ≠ some g
  a : Apart v u
theorem TL.vl {B : Nat} {xss yss : List (List Int)} {v u : Value} {vs us : List Value} {F : Nat → Prop} {w : World} (h : TL B xss yss v u vs us F w) : vs.length = xss.length ∧ us.length = yss.length := by
 have := h.p.1
 have := h.q.1
 omega
theorem TL.below {B : Nat} {xss yss : List (List Int)} {v u : Value} {vs us : List Value} {F : Nat → Prop} {w w' : World} (h : TL B xss yss v u vs us F w) (hb : Below w.heap.size w w') : TL B xss yss v u vs us F w' :=
 ⟨own_below h.p hb, own_below h.q hb, fun i x z hx hz => (h.r1 i x z hx hz).below hb, fun i x z hx hz => (h.r2 i x z hx hz).below hb, fun g hg => ⟨Nat.lt_of_lt_of_le (h.f g hg).1 hb.size, (h.f g hg).2⟩, h.a⟩
theorem TL.at1 {B : Nat} {xss yss : List (List Int)} {v u : Value} {vs us : List Value} {F : Nat → Prop} {w : World} (h : TL B xss yss v u vs us F w) : SSAt ints w v xss :=
 ⟨vs, h.vl.1, Row.of_own h.p, fun i x z hx hz => (h.r1 i x z hx hz).1⟩
theorem TL.at2 {B : Nat} {xss yss : List (List Int)} {v u : Value} {vs us : List Value} {F : Nat → Prop} {w : World} (h : TL B xss yss v u vs us F w) : SSAt ints w u yss :=
 ⟨us, h.vl.2, Row.of_own h.q, fun i x z hx hz => (h.r2 i x z hx hz).1⟩
theorem snoc_get {α β : Type} {xs : List α} {vs : List β} {x : α} {z : β} {P : α → β → Prop} (hl : vs.length = xs.length) (h : ∀ (i : Nat) x z, xs[i]? = some x → vs[i]? = some z → P x z) (hn : P x z) : ∀ (i : Nat) y t, (xs ++ [x])[i]? = some y → (vs ++ [z])[i]? = some t → P y t := fun i y t hy ht => by
 rcases Nat.lt_or_ge i xs.length with hi | hi
 ·rw [List.getElem?_append_left hi] at hy
  rw [List.getElem?_append_left (by omega)] at ht
  exact h i y t hy ht
 ·have hil : i = xs.length := by
   rcases Nat.lt_or_ge xs.length i with hh | hh
   ·rw [List.getElem?_eq_none (by simp; omega)] at hy; cases hy
   ·omega
  subst hil
  rw [List.getElem?_append_right (Nat.le_refl _), Nat.sub_self] at hy
  rw [List.getElem?_append_right (by omega), show xs.length - vs.length = 0 by omega] at ht
  obtain rfl := Option.some.inj hy
  obtain rfl := Option.some.inj ht
  exact hn
theorem TL.push {B : Nat} {xss yss : List (List Int)} {v u v' u' z t : Value} {vs us : List Value} {x y : List Int} {F F' : Nat → Prop} {w w3 w5 : World} {o1 o2 : Obj} (h : TL B xss yss v u vs us F w)
  (hz : RowIn F' w 1 z x.length (ints x)) (ht : RowIn F' w 1 t y.length (ints y)) (hF : ∀ g, F g → F' g) (hF' : ∀ g, F' g → g < w.heap.size ∧ v.ownBlock ≠ some g ∧ u.ownBlock ≠ some g)
  (own3 : w3.ownsRow B 23 1 v' (xss.length + 1) (vs ++ [z])) (g3 : (w.alloc o1).grownBy w3 v.ownBlock) (at3 : v'.ownBlock = v.ownBlock ∨ v'.ownBlock = some (w.alloc o1).heap.size)
  (own5 : w5.ownsRow B 23 1 u' (yss.length + 1) (us ++ [t])) (g5 : (w3.alloc o2).grownBy w5 u.ownBlock) (at5 : u'.ownBlock = u.ownBlock ∨ u'.ownBlock = some (w3.alloc o2).heap.size) :
  TL B (xss ++ [x]) (yss ++ [y]) v' u' (vs ++ [z]) (us ++ [t]) F' w5 := by
 have z3 := g3.size
 have z5 := g5.size
 rw [World.size_alloc] at z3 z5
 have hv' : ∀ g, v'.ownBlock = some g → v.ownBlock = some g ∨ g = w.heap.size + 1 := fun g hg => by
  rcases at3 with e | e
  ·exact .inl (e.symm.trans hg)
  ·rw [World.size_alloc] at e; exact .inr (Option.some.inj (hg.symm.trans e))
 have hu' : ∀ g, u'.ownBlock = some g → u.ownBlock = some g ∨ g = w3.heap.size + 1 := fun g hg => by
  rcases at5 with e | e
  ·exact .inl (e.symm.trans hg)
  ·rw [World.size_alloc] at e; exact .inr (Option.some.inj (hg.symm.trans e))
 have hvl : ∀ g, v.ownBlock = some g → g < w.heap.size := fun g hg => (h.p.lt g hg).2
 have hul : ∀ g, u.ownBlock = some g → g < w.heap.size := fun g hg => (h.q.lt g hg).2
 have ho : Only (fun g => v.ownBlock = some g ∨ u.ownBlock = some g) w w5 := by
  have a2 := Only.of_below (fun g => v.ownBlock = some g ∨ u.ownBlock = some g) (bel_new w o1)
  have a3 : Only (fun g => v.ownBlock = some g ∨ u.ownBlock = some g) (w.alloc o1) w3 := Only.grown g3 fun k hk => .inl hk
  have a4 := Only.of_below (fun g => v.ownBlock = some g ∨ u.ownBlock = some g) (bel_new w3 o2)
  have a5 : Only (fun g => v.ownBlock = some g ∨ u.ownBlock = some g) (w3.alloc o2) w5 := Only.grown g5 fun k hk => .inr hk
  exact ((a2.trans a3).trans a4).trans a5
 have hE : ∀ g, F' g → ¬ (v.ownBlock = some g ∨ u.ownBlock = some g) := fun g hg he => by
  have := hF' g hg
  rcases he with he | he
  ·exact this.2.1 he
  ·exact this.2.2 he
 refine ⟨?_, ?_, ?_, ?_, fun g hg => ?_, fun g h1 h2 => ?_⟩
 ·rw [List.length_append, List.length_singleton]
  refine own_kept (own_below own3 (bel_new _ _)) g5 fun g h1 h2 => ?_
  rcases hv' g h1 with e | e
  ·exact h.a g e h2
  ·have := hul g h2; omega
 ·rw [List.length_append, List.length_singleton]
  exact own5
 ·exact snoc_get h.vl.1 (fun i x z hx hz => ((h.r1 i x z hx hz).mono hF).only ho hE) (hz.only ho hE)
 ·exact snoc_get h.vl.2 (fun i x z hx hz => ((h.r2 i x z hx hz).mono hF).only ho hE) (ht.only ho hE)
 ·have := hF' g hg
  refine ⟨by omega, fun h1 => ?_, fun h1 => ?_⟩
  ·rcases hv' g h1 with e | e
   ·exact this.2.1 e
   ·omega
  ·rcases hu' g h1 with e | e
   ·exact this.2.2 e
   ·omega
 ·rcases hv' g h1 with e | e
  ·rcases hu' g h2 with e2 | e2
   ·exact h.a g e e2
   ·have := hvl g e; omega
  ·rcases hu' g h2 with e2 | e2
   ·have := hul g e2; omega
   ·omega
namespace Cir
theorem nrows_all {d : Ci} (hd : Ok d) : NRows (allN d) (allN d).length (2 ^ d.ins) ∧ (allO d).length = (allN d).length ∧ 1 ≤ (allN d).length ∧ (allN d).length ≤ 8 := by
 have hn8 : 2 ^ d.next.length ≤ 2 ^ 3 := Nat.pow_le_pow_right (show 0 < 2 by decide) hd.nexts
 have hpos : 0 < 2 ^ d.next.length := Nat.pow_pos (by decide)
 have hl : (allN d).length = 2 ^ d.next.length := by unfold allN; simp
 have hl2 : (allO d).length = 2 ^ d.next.length := by unfold allO; simp
 refine ⟨⟨rfl, fun s hs => ?_⟩, by omega, by omega, by omega⟩
 rw [hl] at hs ⊢
 refine ⟨nats (rowN d s), by unfold allN; rw [List.getElem?_map, List.getElem?_range hs]; rfl, by rw [nats_length]; unfold rowN; simp, fun x hx => ⟨nextOf d s x, ?_, nextOf_lt d s x⟩⟩
 unfold nats rowN
 rw [List.getElem?_map, List.getElem?_map, List.getElem?_range hx]
 rfl
end Cir
theorem stateClasses_any (v : Value) (d : Ci) (w : World) (h : CircAt w v (Cir.toCz d)) (hd : Cir.Ok d) (hv : Cir.valid (Cir.toCz d) = true) :
  Calls Try.prog 30 #[v] w (OwnInts (nats (Cir.clsC d)) w) := by
 have l1 := hd.ins
 have l2 := hd.nexts
 have HC := Lib.hid h
 obtain ⟨vn, vg, vo, rfl, r1, r2, r3⟩ := h
 obtain ⟨An, cn, rfl, hcn, hcmn⟩ := NatsAt.shape (xs := d.next) r1
 have hins : (Cir.toCz d).ins = (d.ins : Int) := rfl
 have HP := Lib.hid (PCirc.boxed (c := Cir.toCz d) 26 r1 r2 r3)
 rw [hins] at HC HP ⊢
 have B0 := Lib.hid (bel_new w (.cells #[.int .i64 d.ins, .slice An d.next.length cn, vg, vo] 26))
 have PC := Lib.hid (PCells.boxed w d.ins (.slice An d.next.length cn) vg vo 26)
 obtain ⟨z, p0, p1, p2, p3⟩ := PC.out
 have HC0 := Lib.hid (HC.out.below B0.out)
 have HV := Lib.hid (implValid_any _ _ _ HC0.out)
 rw [hv] at HV
 have Hd := Lib.hid hd
 obtain ⟨M, e, hM⟩ : ∃ M : Nat, (2 : Int) ^ d.next.length = (M : Int) ∧ M = 2 ^ d.next.length := ⟨2 ^ d.next.length, two_pow d.next.length, rfl⟩
 have hM8 : M ≤ 8 := by rw [hM]; exact Nat.pow_le_pow_right (show 0 < 2 by decide) l2
 have hwM := IntWalk.i64_in (M : Int) (by omega)
 have HM := Lib.hid hM
 have HN := Lib.hid (Cir.nrows_all hd)
 unfold maxLen at hcmn
 clear r1 r2 r3 hd hins hM hv HC
 go_enter Try.func30, Try.ntmps30
 go_wp2_with fail
 generalize w.alloc (.cells #[.int .i64 d.ins, .slice An d.next.length cn, vg, vo] 26) = W at *
 refine HV.out.mono ?_
 rintro e1 w1 ⟨rfl, hb1⟩
 have B1 := Lib.hid (B0.out.trans (hb1.mono B0.out.size))
 have HP1 := Lib.hid (HP.out.below hb1)
 have PC1 := Lib.hid (PC.out.below hb1)
 have z1 := hb1.size
 clear hb1 p0 p1 p2 p3 z HV HP HC0 PC
 obtain ⟨z, p0, p1, p2, p3⟩ := PC1.out
 go_wp2_with fail
 clear z p0 p1 p2 p3
 go_loopw [3, 4, 15] (fun v u i wr => ∃ (v' u' : Value) (k : Nat) (vs us : List Value) (F : Nat → Prop), v' = v ∧ u' = u ∧ k ≤ M ∧ i = .int .i64 k ∧ Hid (TL w1.heap.size ((Cir.allN d).take k) ((Cir.allO d).take k) v u vs us F wr) ∧ Below w1.heap.size w1 wr) (fun _ _ i _ => M - (intOf i).toNat)
 case atStart => exact ⟨_, _, 0, [], [], fun _ => False, rfl, rfl, Nat.zero_le _, rfl, Lib.hid ⟨World.ownsRow_nil _ _ _ _, World.ownsRow_nil _ _ _ _, fun i x z hx => by simp at hx, fun i x z hx => by simp at hx, fun g hg => hg.elim, fun g h => by simp [Value.ownBlock] at h⟩, Below.refl _ _⟩
 case round =>
  obtain ⟨v', u', k, vs, us, F, hvv, huu, hk, rfl, HT, hb⟩ := hrel
  subst hvv huu
  have Hb := Lib.hid hb
  have hzb := hb.size
  clear hb
  by_cases hlt : k < M
  ·have HX1 : Hid ((Cir.allN d).take (k + 1) = (Cir.allN d).take k ++ [nats (Cir.rowN d k)]) := Lib.hid (take_snoc (by unfold Cir.allN; rw [List.getElem?_map, List.getElem?_range (by rw [← HM.out]; exact hlt)]; rfl))
   have HX2 : Hid ((Cir.allO d).take (k + 1) = (Cir.allO d).take k ++ [nats (Cir.rowO d k)]) := Lib.hid (take_snoc (by unfold Cir.allO; rw [List.getElem?_map, List.getElem?_range (by rw [← HM.out]; exact hlt)]; rfl))
   have hL1 : ((Cir.allN d).take k).length = k := by rw [List.length_take]; unfold Cir.allN; rw [List.length_map, List.length_range, ← HM.out]; omega
   have hL2 : ((Cir.allO d).take k).length = k := by rw [List.length_take]; unfold Cir.allO; rw [List.length_map, List.length_range, ← HM.out]; omega
   have HL1 := Lib.hid hL1
   have HL2 := Lib.hid hL2
   clear hL1 hL2
   go_wp2_with fail
   refine (stateRows_any _ d k _ (HP1.out.below Hb.out) Hd.out (by omega)).mono ?_
   rintro e4 w4 ⟨va, vb, rfl, oa, ob, hab, hb4⟩
   have Hb4 := Lib.hid (Hb.out.trans (hb4.mono hzb))
   have HT4 := Lib.hid (HT.out.below hb4)
   have hz4 := hb4.size
   obtain ⟨Aa, ca, hva⟩ := slice_of_own oa
   obtain ⟨Ab, cb, hvb⟩ := slice_of_own ob
   subst hva hvb
   have Oa := Lib.hid oa
   have Ob := Lib.hid ob
   have Hf := Lib.hid HT.out.f
   have HTq : Hid (∀ g, (F g ∨ (wr.heap.size ≤ g ∧ g < w4.heap.size)) → g < w4.heap.size ∧ v'.ownBlock ≠ some g ∧ u'.ownBlock ≠ some g) := Lib.hid (fun g hg => by
    rcases hg with hg | hg
    ·exact HT4.out.f g hg
    ·refine ⟨hg.2, fun h => ?_, fun h => ?_⟩
     ·have := (HT.out.p.lt g h).2; omega
     ·have := (HT.out.q.lt g h).2; omega)
   have hp4 := HT4.out.p
   have hq4 := HT4.out.q
   rw [HL1.out] at hp4
   rw [HL2.out] at hq4
   have Hp4 := Lib.hid hp4
   have Hq4 := Lib.hid hq4
   clear hb4 oa ob hab hp4 hq4
   have Ra := Lib.hid (RowIn.of_own Oa.out)
   have Rb := Lib.hid (RowIn.of_own Ob.out)
   have hm1 : (nats (Cir.rowN d k)).length ≤ 16 := by rw [nats_length]; unfold Cir.rowN; rw [List.length_map, List.length_range]; exact Nat.pow_le_pow_right (show 0 < 2 by decide) l1
   have hm2 : (nats (Cir.rowO d k)).length ≤ 16 := by rw [nats_length]; unfold Cir.rowO; rw [List.length_map, List.length_range]; exact Nat.pow_le_pow_right (show 0 < 2 by decide) l1
   have Hlit := Lib.hid (Row.of_own (World.ownsRow_lit (base := w4.heap.size) (e := 23) (size := 1) w4 #[.slice Aa (nats (Cir.rowN d k)).length ca] 1 (Nat.le_refl _) (by unfold maxLen; omega) rfl))
   obtain ⟨xa, hxa⟩ : ∃ xa, nats (Cir.rowN d k) = xa := ⟨_, rfl⟩
   obtain ⟨xb, hxb⟩ : ∃ xb, nats (Cir.rowO d k) = xb := ⟨_, rfl⟩
   rw [hxa] at HX1 Ra hm1 Hlit
   rw [hxb] at HX2 Rb hm2
   rw [hxa, hxb]
   clear hxa hxb Oa Ob
   go_wp2_with (first
    | (at_builtin; refine append_intss rfl (.tmp 23) (.tmp 25) rfl w1.heap.size v' k vs rfl (Hp4.out.alloc _) _ 1 [.slice Aa xa.length ca] rfl Hlit.out (by simp [Value.oneCell']) (by omega) (by simp; omega) ?_; intro v7 w7 hown7 hg7 hat7; have Ho7 := Lib.hid hown7; have Hg7 := Lib.hid hg7; have Hat7 := Lib.hid hat7; have hz7 := hg7.size; rw [World.size_alloc] at hz7; have Hq7 := Lib.hid (own_kept (Hq4.out.alloc (.cells #[.slice Aa xa.length ca] 23)) hg7 (fun g h1 h2 => HT4.out.a g h2 h1)); have Hlit2 := Lib.hid (Row.of_own (World.ownsRow_lit (base := w7.heap.size) (e := 23) (size := 1) w7 #[.slice Ab xb.length cb] 1 (Nat.le_refl _) (by unfold maxLen; omega) rfl)); clear hown7 hg7 hat7)
    | (at_builtin; refine append_intss rfl (.tmp 27) (.tmp 29) rfl w1.heap.size u' k us rfl (Hq7.out.alloc _) _ 1 [.slice Ab xb.length cb] rfl Hlit2.out (by simp [Value.oneCell']) (by omega) (by simp; omega) ?_; intro v8 w8 hown8 hg8 hat8; have Ho8 := Lib.hid hown8; have Hg8 := Lib.hid hg8; have Hat8 := Lib.hid hat8; clear hown8 hg8 hat8))
   go_roundw
   case rel => exact ⟨_, _, k + 1, _, _, _, rfl, rfl, by omega, by go_num, Lib.hid (by
     rw [HX1.out, HX2.out]
     exact HT4.out.push (Ra.out.mono fun g hg => .inr hg) (Rb.out.mono fun g hg => .inr hg) (fun g h => .inl h) HTq.out (by rw [HL1.out]; exact Ho7.out) Hg7.out Hat7.out (by rw [HL2.out]; exact Ho8.out) Hg8.out Hat8.out), by
     have b1 := (Hb4.out.alloc Hb4.out.size (.cells #[.slice Aa xa.length ca] 23)).grown Hg7.out (Hb4.out.alloc Hb4.out.size _).size (own_ge0 Hp4.out)
     exact (b1.alloc b1.size (.cells #[.slice Ab xb.length cb] 23)).grown Hg8.out (b1.alloc b1.size _).size (own_ge0 Hq7.out)⟩
   case measure => simp [intOf] <;> omega
  ·obtain rfl : k = M := by omega
   have HTf : Hid (TL w1.heap.size (Cir.allN d) (Cir.allO d) v' u' vs us F wr) := Lib.hid (by
    have := HT.out
    rwa [List.take_of_length_le (by unfold Cir.allN; rw [List.length_map, List.length_range, ← HM.out]; omega), List.take_of_length_le (by unfold Cir.allO; rw [List.length_map, List.length_range, ← HM.out]; omega)] at this)
   have hM16 : 2 ^ d.ins ≤ 16 := Nat.pow_le_pow_right (show 0 < 2 by decide) l1
   go_wp2_with fail
   refine (classes_any _ _ (Cir.allN d) (Cir.allO d) (2 ^ d.ins) _ HTf.out.at1 HTf.out.at2 HN.out.1 HN.out.2.1 HN.out.2.2.1 HN.out.2.2.2 hM16).mono ?_
   rintro e9 w9 ⟨v9, rfl, ho9, hb9⟩
   have H9 := Lib.hid (own_mono ho9 (show w.heap.size ≤ wr.heap.size by have := B1.out.size; omega))
   have B9 := Lib.hid (B1.out.trans ((Hb.out.trans (hb9.mono hzb)).mono B1.out.size))
   clear ho9 hb9
   go_wp2_with fail
   go_ret
   exact ⟨_, rfl, H9.out, B9.out⟩
end Go.Proofs.Ytkkkjbinfdohpaa