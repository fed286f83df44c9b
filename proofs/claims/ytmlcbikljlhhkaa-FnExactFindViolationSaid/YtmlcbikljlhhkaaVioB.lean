import Derived.Test.YtmlcbikljlhhkaaVioA
import Derived.Test.YtmlcbikljlhhkaaReaE
namespace Go.Proofs.Ytmlcbikljlhhkaa
open Go.RowKit
set_option maxRecDepth 100000
/-! A breadth-first search under way: its queue, its paths, its set of seen states. -/
def rowsOf (ins : Nat) (p : List Nat) : List (List Bool) := p.map fun x => Cir.bits x ins
theorem rowsOf_snoc (ins : Nat) (p : List Nat) (x : Nat) : rowsOf ins (p ++ [x]) = rowsOf ins p ++ [Cir.bits x ins] := by unfold rowsOf; simp
theorem rowsOf_length (ins : Nat) (p : List Nat) : (rowsOf ins p).length = p.length := by unfold rowsOf; simp
structure VB (B mb ins N : Nat) (l : List (Nat × List Nat)) (vq vp : Value) (pv : List Value) (F : Nat → Prop) (w : World) : Prop where
  q : w.ownsRow B 3 1 vq l.length (nints (Cir.vsts l))
  p : w.ownsRow B 39 1 vp l.length pv
  s : SetAt w mb N (fun x => Cir.memB (Cir.vsts l) x)
  r : ∀ (i s : Nat) (x : List Nat) (u : Value), l[i]? = some (s, x) → pv[i]? = some u → SSIn bools F w u (rowsOf ins x)
  f : ∀ g, F g → g < w.heap.size ∧ vq.ownBlock ≠ some g ∧ vp.ownBlock ≠ some g ∧ g ≠ mb
  a : Apart vq vp
  am : vq.ownBlock ≠ some mb ∧ vp.ownBlock ≠ some mb
theorem VB.pl {B mb ins N : Nat} {l : List (Nat × List Nat)} {vq vp : Value} {pv : List Value} {F : Nat → Prop} {w : World} (h : VB B mb ins N l vq vp pv F w) : pv.length = l.length := by
  have := h.p.1; omega
theorem VB.below {B mb ins N : Nat} {l : List (Nat × List Nat)} {vq vp : Value} {pv : List Value} {F : Nat → Prop} {w w' : World} (h : VB B mb ins N l vq vp pv F w) (hb : Below w.heap.size w w') : VB B mb ins N l vq vp pv F w' :=
  ⟨own_below h.q hb, own_below h.p hb, h.s.below hb, fun i s x u hx hu => (h.r i s x u hx hu).below hb, fun g hg => ⟨Nat.lt_of_lt_of_le (h.f g hg).1 hb.size, (h.f g hg).2⟩, h.a, h.am⟩
theorem VB.mono {B mb ins N N' : Nat} {l : List (Nat × List Nat)} {vq vp : Value} {pv : List Value} {F : Nat → Prop} {w : World} (h : VB B mb ins N l vq vp pv F w) (hN : N ≤ N') : VB B mb ins N' l vq vp pv F w :=
  ⟨h.q, h.p, h.s.mono hN, h.r, h.f, h.a, h.am⟩
/-- A state more. -/
theorem VB.push {B mb ins N n j : Nat} {l : List (Nat × List Nat)} {x : List Nat} {vq vp vq' vp' u : Value} {pv : List Value} {F F' : Nat → Prop} {w w1 w3 w5 : World} {o1 o2 : Obj} (h : VB B mb ins N l vq vp pv F w)
    (hu : SSIn bools F' w u (rowsOf ins (x ++ [j]))) (hF : ∀ g, F g → F' g) (hF' : ∀ g, F' g → g < w.heap.size ∧ vq.ownBlock ≠ some g ∧ vp.ownBlock ≠ some g ∧ g ≠ mb)
    (s1 : SetAt w1 mb (N + 1) (fun z => Cir.memB (Cir.vsts l) z || z == n)) (g1 : w.grownBy w1 (some mb))
    (own3 : w3.ownsRow B 3 1 vq' (l.length + 1) (nints (Cir.vsts l) ++ [.int .i64 (n : Int)])) (g3 : (w1.alloc o1).grownBy w3 vq.ownBlock) (at3 : vq'.ownBlock = vq.ownBlock ∨ vq'.ownBlock = some (w1.alloc o1).heap.size)
    (own5 : w5.ownsRow B 39 1 vp' (l.length + 1) (pv ++ [u])) (g5 : (w3.alloc o2).grownBy w5 vp.ownBlock) (at5 : vp'.ownBlock = vp.ownBlock ∨ vp'.ownBlock = some (w3.alloc o2).heap.size) :
    VB B mb ins (N + 1) (l ++ [(n, x ++ [j])]) vq' vp' (pv ++ [u]) F' w5 := by
  have z1 := g1.size
  have z3 := g3.size
  have z5 := g5.size
  rw [World.size_alloc] at z3 z5
  have hvs : Cir.vsts (l ++ [(n, x ++ [j])]) = Cir.vsts l ++ [n] := by unfold Cir.vsts; simp
  have mbl := h.s.lt
  have hq' : ∀ g, vq'.ownBlock = some g → vq.ownBlock = some g ∨ g = w1.heap.size + 1 := fun g hg => by
    rcases at3 with e | e
    · exact .inl (e.symm.trans hg)
    · rw [World.size_alloc] at e; exact .inr (Option.some.inj (hg.symm.trans e))
  have hp' : ∀ g, vp'.ownBlock = some g → vp.ownBlock = some g ∨ g = w3.heap.size + 1 := fun g hg => by
    rcases at5 with e | e
    · exact .inl (e.symm.trans hg)
    · rw [World.size_alloc] at e; exact .inr (Option.some.inj (hg.symm.trans e))
  have hql : ∀ g, vq.ownBlock = some g → g < w.heap.size := fun g hg => (h.q.lt g hg).2
  have hpl : ∀ g, vp.ownBlock = some g → g < w.heap.size := fun g hg => (h.p.lt g hg).2
  have ho : Only (fun g => g = mb ∨ vq.ownBlock = some g ∨ vp.ownBlock = some g) w w5 := by
    have a1 : Only (fun g => g = mb ∨ vq.ownBlock = some g ∨ vp.ownBlock = some g) w w1 := Only.grown g1 fun k hk => .inl (Option.some.inj hk).symm
    have a2 := Only.of_below (fun g => g = mb ∨ vq.ownBlock = some g ∨ vp.ownBlock = some g) (bel_new w1 o1)
    have a3 : Only (fun g => g = mb ∨ vq.ownBlock = some g ∨ vp.ownBlock = some g) (w1.alloc o1) w3 := Only.grown g3 fun k hk => .inr (.inl hk)
    have a4 := Only.of_below (fun g => g = mb ∨ vq.ownBlock = some g ∨ vp.ownBlock = some g) (bel_new w3 o2)
    have a5 : Only (fun g => g = mb ∨ vq.ownBlock = some g ∨ vp.ownBlock = some g) (w3.alloc o2) w5 := Only.grown g5 fun k hk => .inr (.inr hk)
    exact (((a1.trans a2).trans a3).trans a4).trans a5
  have hE : ∀ g, F' g → ¬ (g = mb ∨ vq.ownBlock = some g ∨ vp.ownBlock = some g) := fun g hg he => by
    have := hF' g hg
    rcases he with he | he | he
    · exact this.2.2.2 he
    · exact this.2.1 he
    · exact this.2.2.1 he
  refine ⟨?_, ?_, ?_, fun i s y z hy hz => ?_, fun g hg => ?_, fun g h1 h2 => ?_, ?_, ?_⟩
  · rw [List.length_append, List.length_singleton, hvs, nints_snoc]
    refine own_kept (own_below own3 (bel_new _ _)) g5 fun g h1 h2 => ?_
    rcases hq' g h1 with e | e
    · exact h.a g e h2
    · have := hpl g h2; omega
  · rw [List.length_append, List.length_singleton]
    exact own5
  · have s3 : SetAt w3 mb (N + 1) _ := (s1.below (bel_new w1 o1)).only (Only.grown (E := fun g => vq.ownBlock = some g) g3 fun k hk => hk) (h.am.1)
    have s5 := (s3.below (bel_new w3 o2)).only (Only.grown (E := fun g => vp.ownBlock = some g) g5 fun k hk => hk) (h.am.2)
    exact s5.congr fun z => by rw [hvs, Cir.memB_snoc]
  · rcases Nat.lt_or_ge i l.length with hi | hi
    · rw [List.getElem?_append_left hi] at hy
      rw [List.getElem?_append_left (by rw [h.pl]; exact hi)] at hz
      exact ((h.r i s y z hy hz).mono hF).only ho hE
    · have hil : i = l.length := by
        rcases Nat.lt_or_ge l.length i with hh | hh
        · rw [List.getElem?_eq_none (by simp; omega)] at hy; cases hy
        · omega
      subst hil
      rw [List.getElem?_append_right (Nat.le_refl _), Nat.sub_self] at hy
      rw [List.getElem?_append_right (by rw [h.pl]; exact Nat.le_refl _), h.pl, Nat.sub_self] at hz
      obtain ⟨rfl, rfl⟩ := Prod.mk.inj (Option.some.inj hy)
      obtain rfl := Option.some.inj hz
      exact hu.only ho hE
  · have := hF' g hg
    refine ⟨by omega, fun h1 => ?_, fun h1 => ?_, this.2.2.2⟩
    · rcases hq' g h1 with e | e
      · exact this.2.1 e
      · omega
    · rcases hp' g h1 with e | e
      · exact this.2.2.1 e
      · omega
  · rcases hq' g h1 with e | e
    · rcases hp' g h2 with e2 | e2
      · exact h.a g e e2
      · have := hql g e; omega
    · rcases hp' g h2 with e2 | e2
      · have := hpl g e2; omega
      · omega
  · intro h1
    rcases hq' _ h1 with e | e
    · exact h.am.1 e
    · omega
  · intro h1
    rcases hp' _ h1 with e | e
    · exact h.am.2 e
    · omega
open Go.Maps in
theorem run_look_set {w : World} {b n : Nat} {S : Nat → Bool} (h : SetAt w b n S) (k : Nat) (hk : (k : Int) ≤ 9223372036854775807) : (Instr.lookup 108 (.map (some b)) (.int .i64 (k : Int)) false).run Try.prog w = .ok (.bool (S k)) w := by
  obtain ⟨D, h1, h2, h3, -⟩ := h
  obtain ⟨v, ps, hrun, hv⟩ := h1.lookup set_keyed Try.underlying108 (zero_bool w) (plainElem_bool Try.underlying4 false) (keyOf_int_mk Try.underlying3 (i64_wf hk))
  rw [h3 k] at hv
  have hvb : v = .bool (S k) := by
    unfold plainElem at hv
    rw [Try.underlying4] at hv
    cases v <;> simp at hv
    rw [hv.1]
  subst hvb
  exact hrun
/-! The closure of FindViolation. -/
theorem num_bit : ∀ (l : List Bool) (o : Nat), (Cir.num l).testBit o = l.getD o false
  | [], o => by simp [Cir.num]
  | b :: l, 0 => by
    rw [Cir.num, Nat.testBit_zero]
    cases b <;> simp <;> omega
  | b :: l, o + 1 => by
    rw [Cir.num, Nat.testBit_succ]
    have : ((if b then 1 else 0) + 2 * Cir.num l) / 2 = Cir.num l := by split <;> omega
    rw [this, num_bit l o]
    simp
theorem outsOf_length (d : Ci) (s x : Nat) : (Cir.outsOf d s x).length = d.outs.length := by unfold Cir.outsOf; rw [lits_length]
theorem viClo_any (g go : Nat) (d : Ci) (o s x : Nat) (w : World) (h : PCirc w g (Cir.toCz d)) (hgo : w.cell? ⟨go, 0, none⟩ = some (.int .i64 o)) (hlt : go < w.heap.size) (hd : Cir.Ok d) (hs : s ≤ 1000) (hx : x ≤ 1000) (ho : o < d.outs.length) :
    Calls Try.prog 102 #[.int .i64 s, .int .i64 x, .pointer (some ⟨g, 0, none⟩), .pointer (some ⟨go, 0, none⟩)] w fun e w' => e = .returned (.tuple #[.int .i64 (Cir.nextOf d s x : Nat), .bool (Cir.bad d o s x)]) ∧ Below w.heap.size w w' := by
  have hC := Lib.hid (cycle_any g d s x w h hd hs hx)
  have l4 := hd.outss
  have hnb := num_bit (Cir.outsOf d s x) o
  have hnl := Cir.num_lt (Cir.outsOf d s x)
  rw [outsOf_length] at hnl
  have hn8 : 2 ^ d.outs.length ≤ 2 ^ 3 := Nat.pow_le_pow_right (show 0 < 2 by decide) l4
  have hN : Cir.num (Cir.outsOf d s x) ≤ 1000000 := by omega
  have hB : (Cir.outsOf d s x).getD o false = Cir.bad d o s x := rfl
  rw [hB] at hnb
  clear hn8 hnl hB h
  generalize Cir.num (Cir.outsOf d s x) = y at *
  generalize Cir.bad d o s x = b at *
  generalize Cir.nextOf d s x = n at *
  have hq : (y : Int) / 2 ^ o = ((y / 2 ^ o : Nat) : Int) := by rw [Int.natCast_ediv, two_pow]
  have hy : y / 2 ^ o ≤ 1000000 := Nat.le_trans (Nat.div_le_self _ _) hN
  have hm : bits .and .i64 ((y / 2 ^ o : Nat) : Int) 1 = ((y / 2 ^ o % 2 : Nat) : Int) := by
    have := i64_and_nat (y / 2 ^ o) 1 (by omega) (by omega)
    rw [Nat.and_one_is_mod] at this
    exact this
  have he : (((y / 2 ^ o % 2 : Nat) : Int) == 1) = b := by
    rw [← hnb, Nat.testBit_eq_decide_div_mod_eq, Bool.eq_iff_iff, beq_iff_eq, decide_eq_true_iff]
    omega
  generalize y / 2 ^ o = y' at hq hm he hy
  generalize y' % 2 = r at hm he
  clear hnb
  go_enter Try.func102, Try.ntmps102
  go_wp2_with fail
  refine hC.out.mono ?_
  rintro e w1 ⟨rfl, hb1⟩
  have c1 := (hb1.cell (p := ⟨go, 0, none⟩) hlt).trans hgo
  have Hb := Lib.hid hb1
  clear hb1 hgo hC
  go_wp2_with fail
  go_region
  go_wp2_with fail
  exact bodyPost_ret (v := .tuple #[.int .i64 n, .bool b]) (by simp [results, Try.results102, go_sem]) rfl ⟨rfl, Hb.out.os, Hb.out.tape, Hb.out.output, Hb.out.size, Hb.out.block⟩
end Go.Proofs.Ytmlcbikljlhhkaa
