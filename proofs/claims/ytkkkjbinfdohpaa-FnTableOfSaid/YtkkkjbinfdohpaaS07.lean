import Derived.Test.YtkkkjbinfdohpaaS06
import Derived.Test.YtkkkjbinfdohpaaS02
import Derived.Test.YtkkkjbinfdohpaaS03
import Derived.Test.YtkkkjbinfdohpaaS01
import Derived.Test.YtkkkjbinfdohpaaProg
import Derived.Lib.SmallJoins
import Derived.ProofKit
import Derived.Deep.Slices
import Derived.Deep.Fields
import Derived.ChangeSame
set_option linter.unusedVariables false
set_option linter.unusedSimpArgs false
namespace Go.Proofs.Ytkkkjbinfdohpaa
open Go.RowKit
set_option maxRecDepth 100000
/-! What laws do with machines. -/
def MachAt (w : World) (v : Value) (m : Mz) : Prop := ∃ vn vo, v = .agg #[.int .i64 m.ins, vn, vo] ∧ SSAt ints w vn m.next ∧ SSAt ints w vo m.out
theorem MachAt.below {w w' : World} {v : Value} {m : Mz} (h : MachAt w v m) (hb : Below w.heap.size w w') : MachAt w' v m := by
  obtain ⟨vn, vo, hv, h1, h2⟩ := h
  exact ⟨vn, vo, hv, h1.below hb, h2.below hb⟩
theorem MachAt.shape {w : World} {v : Value} {m : Mz} (h : MachAt w v m) : ∃ An cn Ao co, v = .agg #[.int .i64 m.ins, .slice An m.next.length cn, .slice Ao m.out.length co] ∧ cn ≤ maxLen ∧ co ≤ maxLen ∧ m.next.length ≤ cn ∧ m.out.length ≤ co := by
  obtain ⟨vn, vo, rfl, h1, h2⟩ := h
  obtain ⟨An, cn, rfl, h3, h4⟩ := h1.shape
  obtain ⟨Ao, co, rfl, h5, h6⟩ := h2.shape
  exact ⟨An, cn, Ao, co, rfl, h4, h6, h3, h5⟩
/-- The cells of a machine in memory. -/
def MCells (w : World) (g : Nat) (i : Int) (vn vo : Value) : Prop := g < w.heap.size ∧ w.cell? ⟨g, 0, none⟩ = some (.int .i64 i) ∧ w.cell? ⟨g, 1, none⟩ = some vn ∧ w.cell? ⟨g, 2, none⟩ = some vo
theorem MCells.below {w w' : World} {g : Nat} {i : Int} {vn vo : Value} (h : MCells w g i vn vo) (hb : Below w.heap.size w w') : MCells w' g i vn vo := by
  obtain ⟨hg, c0, c1, c2⟩ := h
  exact ⟨Nat.lt_of_lt_of_le hg hb.size, (hb.cell (p := ⟨g, 0, none⟩) hg).trans c0, (hb.cell (p := ⟨g, 1, none⟩) hg).trans c1, (hb.cell (p := ⟨g, 2, none⟩) hg).trans c2⟩
theorem MCells.boxed (w : World) (i : Int) (vn vo : Value) (t : TypeId) : MCells (w.alloc (.cells #[.int .i64 i, vn, vo] t)) w.heap.size i vn vo :=
  ⟨by simp, World.cell?_alloc_new _ _ _ 0, World.cell?_alloc_new _ _ _ 1, World.cell?_alloc_new _ _ _ 2⟩
theorem bel_alloc (w : World) (o : Obj) : Below w.heap.size w (w.alloc o) := (Below.refl _ _).alloc (Nat.le_refl _) o
theorem set_grownM (w : World) (g i : Nat) (v : Value) : w.grownBy (w.setCell ⟨g, i, none⟩ v) (some g) :=
  ⟨rfl, rfl, rfl, by simp [World.setCell], fun k _ hk => heap_setCell_other w ⟨g, i, none⟩ k _ (fun e => hk (by simp [e]))⟩
theorem own_setSS {α : Type} {enc : List α → List Value} {tO ti : TypeId} {B T : Nat} {w : World} {v : Value} {xss : List (List α)} {g i : Nat} {u : Value} (h : OwnSS enc tO ti B T w v xss) (hg : g < B) : OwnSS enc tO ti B T (w.setCell ⟨g, i, none⟩ u) v xss :=
  OwnSS.only h (Only.grown (E := fun k => k = g) (set_grownM w g i u) (fun k hk => (Option.some.inj hk).symm)) (fun k hk _ e => by omega)
end Go.Proofs.Ytkkkjbinfdohpaa

namespace Go.Proofs.Ytkkkjbinfdohpaa
open Go.RowKit
set_option maxRecDepth 100000
/-! A machine under construction: its box, its rows. -/
theorem append_intss {w : World} {ops : Array Oper} {rest : List Oper} {o : Oper} {a : Act} {Q : Exit → Act → World → Prop} (hgd : o.guard = none) (s x : Operand)
    (ho : o.op = .call { callee := .builtin .append, args := #[s, x], argTypes := #[51, 51] })
    (base : Nat) (v : Value) (n : Nat) (xs : List Value) (hs : a.eval s = v) (hown : w.ownsRow base 23 1 v n xs) (sv : Value) (m : Nat) (news : List Value) (hx : a.eval x = sv) (hr : Row w 1 sv m news) (h1 : ∀ u ∈ news, u.oneCell' = true)
    (h63 : n + m ≤ 1000000) (hbase : base ≤ w.heap.size)
    (h : ∀ v' w', w'.ownsRow base 23 1 v' (n + m) (xs ++ news) → w.grownBy w' v.ownBlock → (v'.ownBlock = v.ownBlock ∨ v'.ownBlock = some w.heap.size) → wpList Try.prog ops Q rest (a.put o.dst v') w') : wpList Try.prog ops Q (o :: rest) a w := by
  obtain ⟨i, hi, hz0, hz1, hz2⟩ := info_parts info_ints
  exact wpList_append_at hgd s x 51 ho base 23 i _ 1 24 Try.underlying51 hi hz0 hz1 hz2 rfl (by decide) v n xs hs hown sv m news hx hr h1 (by unfold maxLen; omega) (by omega) hbase h
section
variable {α : Type} {enc : List α → List Value} {tO ti : TypeId} {B : Nat} {E : Nat → Prop} {w w' : World} {v : Value} {xss : List (List α)}
theorem OwnSE.grown (h : OwnSE enc tO ti B E w v xss) {r : Option Nat} (hg : w.grownBy w' r) (hr : ∀ g, r = some g → ¬ E g) : OwnSE enc tO ti B E w' v xss :=
  OwnSE.only (X := fun g => r = some g) h (Only.grown hg fun k hk => hk) fun g _ he hx => hr g hx he
theorem OwnSE.set (h : OwnSE enc tO ti B E w v xss) {g i : Nat} {u : Value} (hg : g < B) : OwnSE enc tO ti B E (w.setCell ⟨g, i, none⟩ u) v xss :=
  OwnSE.only (X := fun k => k = g) h (Only.grown (set_grown w g i u) fun k hk => (Option.some.inj hk).symm) fun k hk _ e => by omega
end
structure MB (gm : Nat) (ins : Int) (E1 E2 : Nat → Prop) (vN vO : Value) (xs ys : List (List Int)) (w : World) : Prop where
  box : w.heap[gm]? = some (.cells #[.int .i64 ins, vN, vO] 53 (0, 0))
  n : OwnIntSE (gm + 1) E1 w vN xs
  o : OwnIntSE (gm + 1) E2 w vO ys
  d : ∀ g, E1 g → ¬ E2 g
  l1 : ∀ g, E1 g → g < w.heap.size
  l2 : ∀ g, E2 g → g < w.heap.size
theorem mb_lt {gm : Nat} {ins : Int} {E1 E2 : Nat → Prop} {vN vO : Value} {xs ys : List (List Int)} {w : World} (h : MB gm ins E1 E2 vN vO xs ys w) : gm < w.heap.size := by
  rcases Nat.lt_or_ge gm w.heap.size with hl | hl
  · exact hl
  · have := h.box
    rw [Array.getElem?_eq_none hl] at this
    cases this
theorem MB.start {ins : Int} {w : World} (_ : True) : MB w.heap.size ins (fun _ => False) (fun _ => False) (.slice none 0 0) (.slice none 0 0) [] [] (w.alloc (.cells #[.int .i64 ins, .slice none 0 0, .slice none 0 0] 53)) :=
  ⟨heap_alloc_new _ _, OwnSE.nil _ _ _ _ _ _, OwnSE.nil _ _ _ _ _ _, fun _ h => h.elim, fun _ h => h.elim, fun _ h => h.elim⟩
section
variable {gm : Nat} {ins : Int} {E1 E2 : Nat → Prop} {vN vO : Value} {xs ys : List (List Int)} {w w' : World}
theorem MB.grown (h : MB gm ins E1 E2 vN vO xs ys w) {r : Option Nat} (hg : w.grownBy w' r) (h0 : r ≠ some gm) (h1 : ∀ g, r = some g → ¬ E1 g) (h2 : ∀ g, r = some g → ¬ E2 g) : MB gm ins E1 E2 vN vO xs ys w' :=
  ⟨(hg.block gm (mb_lt h) (fun e => h0 e.symm)).trans h.box, h.n.grown hg h1, h.o.grown hg h2, h.d, fun g he => Nat.lt_of_lt_of_le (h.l1 g he) hg.size, fun g he => Nat.lt_of_lt_of_le (h.l2 g he) hg.size⟩
theorem MB.below (h : MB gm ins E1 E2 vN vO xs ys w) (hb : Below w.heap.size w w') : MB gm ins E1 E2 vN vO xs ys w' :=
  h.grown (r := none) ⟨hb.os, hb.tape, hb.output, hb.size, fun k hk _ => hb.block k hk⟩ (by simp) (by simp) (by simp)
theorem MB.cells (h : MB gm ins E1 E2 vN vO xs ys w) : w.cell? ⟨gm, 0, none⟩ = some (.int .i64 ins) ∧ w.cell? ⟨gm, 1, none⟩ = some vN ∧ w.cell? ⟨gm, 2, none⟩ = some vO ∧ w.frozen? ⟨gm, 1, none⟩ = false ∧ w.frozen? ⟨gm, 2, none⟩ = false :=
  ⟨blk_cell h.box 0, blk_cell h.box 1, blk_cell h.box 2, blk_free h.box 1, blk_free h.box 2⟩
/-- A row more of next states. -/
theorem MB.addN {u v' : Value} {x : List Int} {vs : List Value} (h : MB gm ins E1 E2 vN vO xs ys w) (q1 : vs.length = xs.length) (q3 : ∀ (i : Nat) (x : List Int) (u : Value), xs[i]? = some x → vs[i]? = some u → w.ownsRow (gm + 1) 3 1 u x.length (ints x)) (q4 : vs.Pairwise Apart) (q5 : ∀ u ∈ vs, Apart u vN) (q6 : ∀ g, vN.ownBlock = some g → E1 g) (q7 : ∀ u ∈ vs, ∀ g, u.ownBlock = some g → E1 g)
    (hu : w.ownsRow (gm + 1) 3 1 u x.length (ints x)) (n1 : ∀ g, u.ownBlock = some g → ¬ E1 g) (n2 : ∀ g, u.ownBlock = some g → ¬ E2 g) (hown : w'.ownsRow (gm + 1) 23 1 v' (xs.length + 1) (vs ++ [u])) (hg : w.grownBy w' vN.ownBlock) (hat : v'.ownBlock = vN.ownBlock ∨ v'.ownBlock = some w.heap.size) :
    MB gm ins (fun g => E1 g ∨ u.ownBlock = some g ∨ v'.ownBlock = some g) E2 v' vO (xs ++ [x]) ys (w'.setCell ⟨gm, 1, none⟩ v') := by
  have hgm : vN.ownBlock ≠ some gm := fun e => by
    obtain ⟨vs', _, p2, _⟩ := h.n
    have := (p2.lt gm e).1
    omega
  have hbox := (hg.block gm (mb_lt h) (fun e => hgm e.symm)).trans h.box
  have hv2 : ∀ g, v'.ownBlock = some g → ¬ E2 g := fun g hv => by
    rcases hat with e | e
    · rw [e] at hv
      exact h.d g (q6 g hv)
    · rw [e] at hv
      intro he
      have h3 := h.l2 g he
      have h4 := Option.some.inj hv
      omega
  refine ⟨heap_setCell_same w' gm 1 _ _ v' hbox, OwnSE.set (se_append q1 q3 q4 q5 q6 q7 hu n1 hown hg hat) (Nat.lt_succ_self _), (h.o.grown hg fun g hv => h.d g (q6 g hv)).set (Nat.lt_succ_self _), ?_, ?_, ?_⟩
  · rintro g (he | he | he)
    · exact h.d g he
    · exact n2 g he
    · exact hv2 g he
  · rintro g (he | he | he)
    · have h1 := h.l1 g he; have h2 := hg.size; have h3 := (set_grown w' gm 1 v').size; omega
    · have h1 := (hu.lt g he).2; have h2 := hg.size; have h3 := (set_grown w' gm 1 v').size; omega
    · have h1 := (hown.lt g he).2; have h3 := (set_grown w' gm 1 v').size; omega
  · intro g he
    have h1 := h.l2 g he; have h2 := hg.size; have h3 := (set_grown w' gm 1 v').size; omega
/-- A row more of outputs. -/
theorem MB.addO {u v' : Value} {x : List Int} {vs : List Value} (h : MB gm ins E1 E2 vN vO xs ys w) (q1 : vs.length = ys.length) (q3 : ∀ (i : Nat) (x : List Int) (u : Value), ys[i]? = some x → vs[i]? = some u → w.ownsRow (gm + 1) 3 1 u x.length (ints x)) (q4 : vs.Pairwise Apart) (q5 : ∀ u ∈ vs, Apart u vO) (q6 : ∀ g, vO.ownBlock = some g → E2 g) (q7 : ∀ u ∈ vs, ∀ g, u.ownBlock = some g → E2 g)
    (hu : w.ownsRow (gm + 1) 3 1 u x.length (ints x)) (n1 : ∀ g, u.ownBlock = some g → ¬ E1 g) (n2 : ∀ g, u.ownBlock = some g → ¬ E2 g) (hown : w'.ownsRow (gm + 1) 23 1 v' (ys.length + 1) (vs ++ [u])) (hg : w.grownBy w' vO.ownBlock) (hat : v'.ownBlock = vO.ownBlock ∨ v'.ownBlock = some w.heap.size) :
    MB gm ins E1 (fun g => E2 g ∨ u.ownBlock = some g ∨ v'.ownBlock = some g) vN v' xs (ys ++ [x]) (w'.setCell ⟨gm, 2, none⟩ v') := by
  have hgm : vO.ownBlock ≠ some gm := fun e => by
    obtain ⟨vs', _, p2, _⟩ := h.o
    have := (p2.lt gm e).1
    omega
  have hbox := (hg.block gm (mb_lt h) (fun e => hgm e.symm)).trans h.box
  have hv1 : ∀ g, v'.ownBlock = some g → ¬ E1 g := fun g hv => by
    rcases hat with e | e
    · rw [e] at hv
      exact fun he => h.d g he (q6 g hv)
    · rw [e] at hv
      intro he
      have h3 := h.l1 g he
      have h4 := Option.some.inj hv
      omega
  refine ⟨heap_setCell_same w' gm 2 _ _ v' hbox, (h.n.grown hg fun g hv he => h.d g he (q6 g hv)).set (Nat.lt_succ_self _), OwnSE.set (se_append q1 q3 q4 q5 q6 q7 hu n2 hown hg hat) (Nat.lt_succ_self _), ?_, ?_, ?_⟩
  · rintro g h1 (he | he | he)
    · exact h.d g h1 he
    · exact n1 g he h1
    · exact hv1 g he h1
  · intro g he
    have h1 := h.l1 g he; have h2 := hg.size; have h3 := (set_grown w' gm 2 v').size; omega
  · rintro g (he | he | he)
    · have h1 := h.l2 g he; have h2 := hg.size; have h3 := (set_grown w' gm 2 v').size; omega
    · have h1 := (hu.lt g he).2; have h2 := hg.size; have h3 := (set_grown w' gm 2 v').size; omega
    · have h1 := (hown.lt g he).2; have h3 := (set_grown w' gm 2 v').size; omega
end
end Go.Proofs.Ytkkkjbinfdohpaa

namespace Go.Proofs.Ytkkkjbinfdohpaa
open Go.RowKit Go.Maps
set_option maxRecDepth 100000
/-! The builder of gates: what it knows and what a conjunction does to it, as plain functions; its memory. -/
namespace Cir
/-- The literal of a known gate. -/
def knownG (F : Nat) : List (Nat × Nat) → Nat → Nat → Option Nat
  | [], _, _ => none
  | g :: G, x, y => match knownG F G x y with
    | some l => some l
    | none => if x = g.1 ∧ y = g.2 then some (2 * (F + G.length)) else none
/-- The gates of a builder, the last one first. A conjunction of literals x ≤ y. -/
def andS (F : Nat) (G : List (Nat × Nat)) (x y : Nat) : Nat × List (Nat × Nat) :=
  if x = 0 ∨ x = y ^^^ 1 then (0, G) else if x = 1 ∨ x = y then (y, G) else match knownG F G x y with
    | some l => (l, G)
    | none => (2 * (F + G.length), (x, y) :: G)
def andB (F : Nat) (G : List (Nat × Nat)) (x y : Nat) : Nat × List (Nat × Nat) := if y < x then andS F G y x else andS F G x y
def xorB (F : Nat) (G : List (Nat × Nat)) (x y : Nat) : Nat × List (Nat × Nat) :=
  andB F (andB F (andB F G x y).2 (x ^^^ 1) (y ^^^ 1)).2 ((andB F G x y).1 ^^^ 1) ((andB F (andB F G x y).2 (x ^^^ 1) (y ^^^ 1)).1 ^^^ 1)
def gatesOf (G : List (Nat × Nat)) : List (Int × Int) := G.reverse.map fun g => ((g.1 : Int), (g.2 : Int))
theorem gatesOf_length (G : List (Nat × Nat)) : (gatesOf G).length = G.length := by simp [gatesOf]
theorem gatesOf_cons (g : Nat × Nat) (G : List (Nat × Nat)) : gatesOf (g :: G) = gatesOf G ++ [((g.1 : Int), (g.2 : Int))] := by simp [gatesOf]
theorem knownG_lt {F : Nat} : ∀ {G : List (Nat × Nat)} {x y l : Nat}, knownG F G x y = some l → l < 2 * (F + G.length)
  | [], _, _, _, h => by cases h
  | g :: G, x, y, l, h => by
    unfold knownG at h
    cases hk : knownG F G x y with
    | some l' =>
      rw [hk] at h
      injection h with h
      have := knownG_lt hk
      simp only [List.length_cons]
      omega
    | none =>
      rw [hk] at h
      simp only at h
      split at h
      · injection h with h
        simp only [List.length_cons]
        omega
      · cases h
theorem xor1_lt {x N : Nat} (h : x < 2 * N) : x ^^^ 1 < 2 * N := by
  have h2 : (x ^^^ 1) / 2 = x / 2 := by rw [Nat.xor_div_two]; simp
  omega
theorem andS_len (F : Nat) (G : List (Nat × Nat)) (x y : Nat) : (andS F G x y).2.length ≤ G.length + 1 ∧ G.length ≤ (andS F G x y).2.length := by
  unfold andS
  split
  · simp
  · split
    · simp
    · split <;> simp
theorem andS_lt {F : Nat} {G : List (Nat × Nat)} {x y : Nat} (hF : 0 < F) (hy : y < 2 * (F + G.length)) : (andS F G x y).1 < 2 * (F + (andS F G x y).2.length) := by
  unfold andS
  split
  · simp only; omega
  · split
    · simp only; omega
    · split
      · rename_i l hl
        exact knownG_lt hl
      · simp only [List.length_cons]; omega
theorem andB_len (F : Nat) (G : List (Nat × Nat)) (x y : Nat) : (andB F G x y).2.length ≤ G.length + 1 ∧ G.length ≤ (andB F G x y).2.length := by
  unfold andB
  split <;> exact andS_len ..
theorem andB_lt {F : Nat} {G : List (Nat × Nat)} {x y : Nat} (hF : 0 < F) (hx : x < 2 * (F + G.length)) (hy : y < 2 * (F + G.length)) : (andB F G x y).1 < 2 * (F + (andB F G x y).2.length) := by
  unfold andB
  split
  · exact andS_lt hF hx
  · exact andS_lt hF hy
end Cir
theorem GAt.below {w w' : World} {b n : Nat} {f : Nat → Nat → Option Nat} (h : GAt w b n f) (hb : Below w.heap.size w w') : GAt w' b n f :=
  h.only (E := fun _ => False) ⟨hb.os, hb.tape, hb.output, hb.size, fun k hk _ => hb.block k hk⟩ id
end Go.Proofs.Ytkkkjbinfdohpaa

namespace Go.Proofs.Ytkkkjbinfdohpaa
/-! Optimizing a circuit, plainly: gates that nothing reaches, the builder's conjunctions, and that the values stay. -/
namespace Cir
theorem getD_set' {α : Type} (l : List α) (i j : Nat) (a d : α) : (l.set i a).getD j d = if i = j ∧ i < l.length then a else l.getD j d := by
  rw [List.getD_eq_getElem?_getD, List.getD_eq_getElem?_getD, List.getElem?_set]
  by_cases h : i = j
  · subst h
    by_cases h2 : i < l.length
    · simp [h2]
    · simp [h2]
  · simp [h]
theorem evalG_append (a b : List (Nat × Nat)) (v : List Bool) : evalG (a ++ b) v = evalG b (evalG a v) := by unfold evalG; rw [List.foldl_append]
theorem evalG_snoc (a : List (Nat × Nat)) (g : Nat × Nat) (v : List Bool) : evalG (a ++ [g]) v = evalG a v ++ [gval (evalG a v) g] := by rw [evalG_append]; rfl
theorem getD_append_lt {α : Type} {l l' : List α} {i : Nat} (d : α) (h : i < l.length) : (l ++ l').getD i d = l.getD i d := by
  rw [List.getD_eq_getElem?_getD, List.getD_eq_getElem?_getD, List.getElem?_append_left h]
theorem getD_append_at {α : Type} {l : List α} {a : α} {i : Nat} (d : α) (h : i = l.length) : (l ++ [a]).getD i d = a := by
  subst h
  simp [List.getD_eq_getElem?_getD]
theorem evalG_getD : ∀ (gs : List (Nat × Nat)) {v : List Bool} {i : Nat}, i < v.length → (evalG gs v).getD i false = v.getD i false
  | [], _, _, _ => rfl
  | g :: gs, v, i, h => by
    have e : evalG (g :: gs) v = evalG gs (v ++ [gval v g]) := rfl
    rw [e, evalG_getD gs (by simp; omega), getD_append_lt false h]
theorem lit_evalG (gs : List (Nat × Nat)) {v : List Bool} {l : Nat} (h : l / 2 < v.length) : lit (evalG gs v) l = lit v l := by
  unfold lit
  rw [evalG_getD gs h]
theorem lit_snoc {v : List Bool} {l : Nat} (b : Bool) (h : l / 2 < v.length) : lit (v ++ [b]) l = lit v l := by
  unfold lit
  rw [getD_append_lt false h]
theorem vals_gate (c : Ci) {st inp : List Bool} (l1 : inp.length = c.ins) (l2 : st.length = c.next.length) (hc : Ok c) {k : Nat} {g : Nat × Nat} (hk : c.gates[k]? = some g) : (vals c st inp).getD (nfirst c + k) false = gval (vals c st inp) g := by
  obtain ⟨hl, -⟩ := List.getElem?_eq_some_iff.1 hk
  have e0 : c.gates = c.gates.take (k + 1) ++ c.gates.drop (k + 1) := (List.take_append_drop _ _).symm
  have hg := hc.gate k g hk
  have len : (evalG (c.gates.take k) (false :: (inp ++ st))).length = nfirst c + k := by
    rw [evalG_length]
    simp [nfirst, l1, l2, List.length_take]
    omega
  have e1 : vals c st inp = evalG (c.gates.drop (k + 1)) (evalG (c.gates.take k) (false :: (inp ++ st)) ++ [gval (evalG (c.gates.take k) (false :: (inp ++ st))) g]) := by
    rw [vals]
    conv => lhs; rw [e0]
    rw [evalG_append, evalG_take_snoc hk]
  rw [e1]
  generalize evalG (c.gates.take k) (false :: (inp ++ st)) = V at len
  have l3 : (V ++ [gval V g]).length = nfirst c + k + 1 := by rw [List.length_append, len]; rfl
  rw [evalG_getD _ (by omega), getD_append_at false len.symm]
  show gval V g = gval (evalG (c.gates.drop (k + 1)) (V ++ [gval V g])) g
  obtain ⟨b, hb⟩ : ∃ b, b = gval V g := ⟨_, rfl⟩
  rw [← hb] at l3 ⊢
  unfold gval
  rw [lit_evalG _ (by omega), lit_evalG _ (by omega), lit_snoc _ (by omega), lit_snoc _ (by omega), hb]
  rfl
theorem vals_first (c : Ci) {st inp : List Bool} (l1 : inp.length = c.ins) (l2 : st.length = c.next.length) {i : Nat} (h : i < nfirst c) : (vals c st inp).getD i false = (false :: (inp ++ st)).getD i false :=
  evalG_getD _ (by simp only [List.length_cons, List.length_append, l1, l2]; unfold nfirst at h; omega)
theorem xor_half (a b : Nat) (hb : b < 2) : (a ^^^ b) / 2 = a / 2 := by
  rw [Nat.xor_div_two, Nat.div_eq_of_lt hb, Nat.xor_zero]
theorem xor_odd (a b : Nat) : ((a ^^^ b) % 2 == 1) = ((a % 2 == 1) != (b % 2 == 1)) := by
  have h : (a ^^^ b) % 2 = (a % 2) ^^^ (b % 2) := by
    have := Nat.xor_mod_two_pow (a := a) (b := b) (n := 1)
    simpa using this
  rw [h]
  rcases Nat.mod_two_eq_zero_or_one a with h1 | h1 <;> rcases Nat.mod_two_eq_zero_or_one b with h2 | h2 <;> rw [h1, h2] <;> rfl
theorem lit_xor (v : List Bool) (a b : Nat) (hb : b < 2) : lit v (a ^^^ b) = (lit v a != (b % 2 == 1)) := by
  unfold lit
  rw [xor_half a b hb, xor_odd]
  cases v.getD (a / 2) false <;> cases (a % 2 == 1) <;> cases (b % 2 == 1) <;> rfl
theorem xor_lt {a b N : Nat} (hb : b < 2) (h : a < 2 * N) : a ^^^ b < 2 * N := by
  have := xor_half a b hb
  omega
/-! ### The builder -/
/-- The values of a builder's variables. -/
def bv (G : List (Nat × Nat)) (v0 : List Bool) : List Bool := evalG G.reverse v0
theorem bv_cons (g : Nat × Nat) (G : List (Nat × Nat)) (v0 : List Bool) : bv (g :: G) v0 = bv G v0 ++ [gval (bv G v0) g] := by
  unfold bv
  rw [List.reverse_cons, evalG_snoc]
theorem bv_length (G : List (Nat × Nat)) (v0 : List Bool) : (bv G v0).length = v0.length + G.length := by
  unfold bv
  rw [evalG_length, List.length_reverse]
def GOk (F : Nat) : List (Nat × Nat) → Prop
  | [] => True
  | g :: G => g.1 < 2 * (F + G.length) ∧ g.2 < 2 * (F + G.length) ∧ GOk F G
theorem known_ok {F : Nat} : ∀ {G : List (Nat × Nat)} {x y l : Nat}, GOk F G → knownG F G x y = some l → x < 2 * (F + G.length) ∧ y < 2 * (F + G.length)
  | [], _, _, _, _, h => by cases h
  | g :: G, x, y, l, hG, h => by
    unfold knownG at h
    simp only [List.length_cons]
    cases hk : knownG F G x y with
    | some l' =>
      have := known_ok hG.2.2 hk
      omega
    | none =>
      rw [hk] at h
      simp only at h
      split at h
      · rename_i hxy
        have h1 := hG.1
        have h2 := hG.2.1
        rw [hxy.1, hxy.2]
        omega
      · cases h
theorem known_val {F : Nat} {v0 : List Bool} (hv : v0.length = F) : ∀ {G : List (Nat × Nat)} {x y l : Nat}, GOk F G → knownG F G x y = some l → lit (bv G v0) l = (lit (bv G v0) x && lit (bv G v0) y)
  | [], _, _, _, _, h => by cases h
  | g :: G, x, y, l, hG, h => by
    have hlen := bv_length G v0
    unfold knownG at h
    cases hk : knownG F G x y with
    | some l' =>
      rw [hk] at h
      injection h with h
      subst h
      have h1 := known_ok hG.2.2 hk
      have h2 := knownG_lt hk
      rw [bv_cons, lit_snoc _ (by omega), lit_snoc _ (by omega), lit_snoc _ (by omega)]
      exact known_val hv hG.2.2 hk
    | none =>
      rw [hk] at h
      simp only at h
      split at h
      · rename_i hxy
        injection h with h
        subst h
        have h1 := hG.1
        have h2 := hG.2.1
        rw [← hxy.1] at h1
        rw [← hxy.2] at h2
        have hg : g = (x, y) := by rw [hxy.1, hxy.2]
        rw [bv_cons, lit_snoc _ (show x / 2 < _ by omega), lit_snoc _ (show y / 2 < _ by omega), hg]
        unfold lit
        rw [getD_append_at false (by omega), show (2 * (F + G.length)) % 2 = 0 from by omega]
        simp [gval, lit]
      · cases h
theorem andS_val {F : Nat} {v0 : List Bool} (hv : v0.length = F) (hF : 0 < F) (h0 : v0.getD 0 false = false) {G : List (Nat × Nat)} (hG : GOk F G) {x y : Nat} (hx : x < 2 * (F + G.length)) (hy : y < 2 * (F + G.length)) :
    lit (bv (andS F G x y).2 v0) (andS F G x y).1 = (lit (bv G v0) x && lit (bv G v0) y) := by
  have hlen := bv_length G v0
  have z0 : lit (bv G v0) 0 = false := by
    unfold lit bv
    rw [evalG_getD _ (by omega)]
    rw [h0]
    rfl
  have z1 : lit (bv G v0) 1 = true := by
    unfold lit bv
    rw [evalG_getD _ (by omega), show 1 / 2 = 0 from rfl]
    rw [h0]
    rfl
  unfold andS
  split
  · rename_i h
    rw [z0]
    rcases h with rfl | rfl
    · rw [z0, Bool.false_and]
    · rw [lit_xor _ _ _ (by omega)]
      cases lit (bv G v0) y <;> rfl
  · split
    · rename_i h
      rcases h with rfl | rfl
      · rw [z1, Bool.true_and]
      · rw [Bool.and_self]
    · split
      · rename_i l hl
        exact known_val hv hG hl
      · rw [bv_cons]
        unfold lit
        rw [getD_append_at false (by omega), show (2 * (F + G.length)) % 2 = 0 from by omega]
        simp [gval, lit]
theorem andS_ok {F : Nat} {G : List (Nat × Nat)} (hG : GOk F G) {x y : Nat} (hx : x < 2 * (F + G.length)) (hy : y < 2 * (F + G.length)) : GOk F (andS F G x y).2 := by
  unfold andS
  split
  · exact hG
  · split
    · exact hG
    · split
      · exact hG
      · exact ⟨hx, hy, hG⟩
/-- A conjunction's gates only grow. -/
theorem andS_grow (F : Nat) (G : List (Nat × Nat)) (x y : Nat) : (andS F G x y).2 = G ∨ ∃ g, (andS F G x y).2 = g :: G := by
  unfold andS
  split
  · exact .inl rfl
  · split
    · exact .inl rfl
    · split
      · exact .inl rfl
      · exact .inr ⟨_, rfl⟩
theorem andB_val {F : Nat} {v0 : List Bool} (hv : v0.length = F) (hF : 0 < F) (h0 : v0.getD 0 false = false) {G : List (Nat × Nat)} (hG : GOk F G) {x y : Nat} (hx : x < 2 * (F + G.length)) (hy : y < 2 * (F + G.length)) :
    lit (bv (andB F G x y).2 v0) (andB F G x y).1 = (lit (bv G v0) x && lit (bv G v0) y) := by
  unfold andB
  split
  · rw [andS_val hv hF h0 hG hy hx, Bool.and_comm]
  · exact andS_val hv hF h0 hG hx hy
theorem andB_ok {F : Nat} {G : List (Nat × Nat)} (hG : GOk F G) {x y : Nat} (hx : x < 2 * (F + G.length)) (hy : y < 2 * (F + G.length)) : GOk F (andB F G x y).2 := by
  unfold andB
  split
  · exact andS_ok hG hy hx
  · exact andS_ok hG hx hy
theorem andB_grow (F : Nat) (G : List (Nat × Nat)) (x y : Nat) : (andB F G x y).2 = G ∨ ∃ g, (andB F G x y).2 = g :: G := by
  unfold andB
  split <;> exact andS_grow ..
theorem andB_lit {F : Nat} {v0 : List Bool} (hv : v0.length = F) {G : List (Nat × Nat)} {x y l : Nat} (hl : l < 2 * (F + G.length)) : lit (bv (andB F G x y).2 v0) l = lit (bv G v0) l := by
  have hlen := bv_length G v0
  rcases andB_grow F G x y with h | ⟨g, h⟩
  · rw [h]
  · rw [h, bv_cons, lit_snoc _ (by omega)]
/-! ### The variables that outputs or next states reach -/
def rootMark (n : Nat) (ls : List Nat) : List Bool := ls.foldl (fun v l => v.set (l / 2) true) (List.replicate n false)
def reachStep (F : Nat) (gs : List (Nat × Nat)) (k : Nat) (v : List Bool) : List Bool :=
  if v.getD (F + k) false then (v.set ((gs.getD k (0, 0)).1 / 2) true).set ((gs.getD k (0, 0)).2 / 2) true else v
/-- The gates k - 1, .., 0 hand the mark on. -/
def reachK (F : Nat) (gs : List (Nat × Nat)) : Nat → List Bool → List Bool
  | 0, v => v
  | k + 1, v => reachK F gs k (reachStep F gs k v)
def reached (c : Ci) : List Bool := reachK (nfirst c) c.gates c.gates.length (rootMark (nvars c) (c.next ++ c.outs))
theorem rootMark_length (n : Nat) (ls : List Nat) : (rootMark n ls).length = n := by
  unfold rootMark
  have : ∀ (ls : List Nat) (v : List Bool), (ls.foldl (fun v l => v.set (l / 2) true) v).length = v.length := fun ls => by
    induction ls with
    | nil => intro v; rfl
    | cons l ls ih => intro v; rw [List.foldl_cons, ih, List.length_set]
  rw [this, List.length_replicate]
theorem reachStep_length (F : Nat) (gs : List (Nat × Nat)) (k : Nat) (v : List Bool) : (reachStep F gs k v).length = v.length := by
  unfold reachStep
  split <;> simp
theorem reachK_length (F : Nat) (gs : List (Nat × Nat)) : ∀ (k : Nat) (v : List Bool), (reachK F gs k v).length = v.length
  | 0, _ => rfl
  | k + 1, v => by rw [reachK, reachK_length F gs k, reachStep_length]
theorem reached_length (c : Ci) : (reached c).length = nvars c := by rw [reached, reachK_length, rootMark_length]
theorem reachStep_mono (F : Nat) (gs : List (Nat × Nat)) (k : Nat) (v : List Bool) {i : Nat} (h : v.getD i false = true) : (reachStep F gs k v).getD i false = true := by
  unfold reachStep
  split
  · rw [getD_set', getD_set', h]
    split
    · rfl
    · split <;> rfl
  · exact h
theorem reachK_mono (F : Nat) (gs : List (Nat × Nat)) : ∀ (k : Nat) (v : List Bool) {i : Nat}, v.getD i false = true → (reachK F gs k v).getD i false = true
  | 0, _, _, h => h
  | k + 1, v, i, h => reachK_mono F gs k _ (reachStep_mono F gs k v h)
theorem reachStep_keep {F : Nat} {gs : List (Nat × Nat)} {k : Nat} (hg : (gs.getD k (0, 0)).1 < 2 * (F + k) ∧ (gs.getD k (0, 0)).2 < 2 * (F + k)) (v : List Bool) {i : Nat} (h : F + k ≤ i) : (reachStep F gs k v).getD i false = v.getD i false := by
  unfold reachStep
  split
  · rw [getD_set', getD_set', if_neg (by omega), if_neg (by omega)]
  · rfl
theorem reachK_keep {F : Nat} {gs : List (Nat × Nat)} : ∀ {k : Nat} (_ : ∀ j, j < k → (gs.getD j (0, 0)).1 < 2 * (F + j) ∧ (gs.getD j (0, 0)).2 < 2 * (F + j)) (v : List Bool) {i : Nat}, F + k ≤ i + 1 → (reachK F gs k v).getD i false = v.getD i false
  | 0, _, _, _, _ => rfl
  | k + 1, hg, v, i, h => by
    rw [reachK, reachK_keep (fun j hj => hg j (by omega)) _ (by omega), reachStep_keep (hg k (by omega)) _ (by omega)]
theorem reachK_closed {F : Nat} {gs : List (Nat × Nat)} : ∀ {k : Nat} (_ : ∀ j, j < k → (gs.getD j (0, 0)).1 < 2 * (F + j) ∧ (gs.getD j (0, 0)).2 < 2 * (F + j)) (v : List Bool) (_ : F + k ≤ v.length) {j : Nat}, j < k → (reachK F gs k v).getD (F + j) false = true → (reachK F gs k v).getD ((gs.getD j (0, 0)).1 / 2) false = true ∧ (reachK F gs k v).getD ((gs.getD j (0, 0)).2 / 2) false = true
  | 0, _, _, _, _, hj, _ => absurd hj (Nat.not_lt_zero _)
  | k + 1, hg, v, hl, j, hj, h => by
    rw [reachK] at h ⊢
    by_cases e : j < k
    · exact reachK_closed (fun j hj => hg j (by omega)) _ (by rw [reachStep_length]; omega) e h
    · obtain rfl : j = k := by omega
      rw [reachK_keep (fun j hj => hg j (by omega)) _ (by omega), reachStep_keep (hg j (by omega)) _ (by omega)] at h
      have hgj := hg j (by omega)
      have hs : (reachStep F gs j v).getD ((gs.getD j (0, 0)).1 / 2) false = true ∧ (reachStep F gs j v).getD ((gs.getD j (0, 0)).2 / 2) false = true := by
        unfold reachStep
        rw [if_pos h]
        refine ⟨?_, ?_⟩
        · rw [getD_set', getD_set']
          split
          · rfl
          · rw [if_pos ⟨rfl, by omega⟩]
        · rw [getD_set', if_pos ⟨rfl, by simp only [List.length_set]; omega⟩]
      exact ⟨reachK_mono _ _ _ _ hs.1, reachK_mono _ _ _ _ hs.2⟩
theorem rootMark_root (n : Nat) (ls : List Nat) {l : Nat} (hl : l ∈ ls) (hn : l / 2 < n) : (rootMark n ls).getD (l / 2) false = true := by
  unfold rootMark
  have mono : ∀ (ls : List Nat) (v : List Bool) (i : Nat), v.getD i false = true → (ls.foldl (fun v l => v.set (l / 2) true) v).getD i false = true := fun ls => by
    induction ls with
    | nil => intro v i h; exact h
    | cons l ls ih =>
      intro v i h
      rw [List.foldl_cons]
      refine ih _ _ ?_
      rw [getD_set', h]
      split <;> rfl
  have all : ∀ (ls : List Nat) (v : List Bool), l ∈ ls → l / 2 < v.length → (ls.foldl (fun v l => v.set (l / 2) true) v).getD (l / 2) false = true := fun ls => by
    induction ls with
    | nil => intro v h; cases h
    | cons a ls ih =>
      intro v h hv
      rw [List.foldl_cons]
      rcases List.mem_cons.1 h with rfl | h
      · refine mono _ _ _ ?_
        rw [getD_set', if_pos ⟨rfl, hv⟩]
      · exact ih _ h (by simpa using hv)
  exact all ls _ hl (by simpa using hn)
theorem ok_getD {c : Ci} (hc : Ok c) {j : Nat} (hj : j < c.gates.length) : (c.gates.getD j (0, 0)).1 < 2 * (nfirst c + j) ∧ (c.gates.getD j (0, 0)).2 < 2 * (nfirst c + j) := by
  have : c.gates[j]? = some (c.gates.getD j (0, 0)) := by
    rw [List.getD_eq_getElem?_getD, List.getElem?_eq_getElem hj, Option.getD_some]
  exact hc.gate j _ this
/-- What is closed: the roots are marked, and with a gate its operands. -/
structure Closed (c : Ci) (keep : List Bool) : Prop where
  root : ∀ l, l ∈ c.next ++ c.outs → keep.getD (l / 2) false = true
  gate : ∀ j, j < c.gates.length → keep.getD (nfirst c + j) false = true → keep.getD ((c.gates.getD j (0, 0)).1 / 2) false = true ∧ keep.getD ((c.gates.getD j (0, 0)).2 / 2) false = true
theorem reached_closed {c : Ci} (hc : Ok c) : Closed c (reached c) where
  root := fun l hl => reachK_mono _ _ _ _ (rootMark_root _ _ hl (by
    rcases List.mem_append.1 hl with h | h
    · have := hc.next l h; omega
    · have := hc.out l h; omega))
  gate := fun j hj h => reachK_closed (fun j hj => ok_getD hc hj) _ (by rw [rootMark_length]; exact Nat.le_refl _) hj h
end Cir
end Go.Proofs.Ytkkkjbinfdohpaa

namespace Go.Proofs.Ytkkkjbinfdohpaa
/-! Optimizing a circuit, plainly: the optimized circuit is valid and steps as the circuit does. -/
namespace Cir
/-- Two circuits whose outputs and next states are the same for every state and all inputs. -/
structure SameStep (c d : Ci) : Prop where
  ins : d.ins = c.ins
  nexts : d.next.length = c.next.length
  outss : d.outs.length = c.outs.length
  step : ∀ st inp : List Bool, inp.length = c.ins → st.length = c.next.length → lits (vals d st inp) d.next = lits (vals c st inp) c.next ∧ lits (vals d st inp) d.outs = lits (vals c st inp) c.outs
theorem SameStep.refl (c : Ci) : SameStep c c := ⟨rfl, rfl, rfl, fun _ _ _ _ => ⟨rfl, rfl⟩⟩
theorem SameStep.trans {c d e : Ci} (h : SameStep c d) (h' : SameStep d e) : SameStep c e :=
  ⟨h'.ins.trans h.ins, h'.nexts.trans h.nexts, h'.outss.trans h.outss, fun st inp l1 l2 =>
    ⟨(h'.step st inp (l1.trans h.ins.symm) (l2.trans h.nexts.symm)).1.trans (h.step st inp l1 l2).1, (h'.step st inp (l1.trans h.ins.symm) (l2.trans h.nexts.symm)).2.trans (h.step st inp l1 l2).2⟩⟩
theorem SameStep.nextOf {c d : Ci} (h : SameStep c d) (s x : Nat) : nextOf d s x = nextOf c s x := by
  unfold Cir.nextOf
  rw [h.ins, h.nexts, (h.step _ _ (bits_length _ _) (bits_length _ _)).1]
theorem SameStep.outsOf {c d : Ci} (h : SameStep c d) (s x : Nat) : outsOf d s x = outsOf c s x := by
  unfold Cir.outsOf
  rw [h.ins, h.nexts, (h.step _ _ (bits_length _ _) (bits_length _ _)).2]
/-! ### The builder's circuit -/
def useX (m : List Nat) (l : Nat) : Nat := m.getD (l / 2) 0 ^^^ (l % 2)
def optStep (F : Nat) (keep : List Bool) (gs : List (Nat × Nat)) (k : Nat) (p : List (Nat × Nat) × List Nat) : List (Nat × Nat) × List Nat :=
  if keep.getD (F + k) false then
    ((andB F p.1 (useX p.2 (gs.getD k (0, 0)).1) (useX p.2 (gs.getD k (0, 0)).2)).2, p.2 ++ [(andB F p.1 (useX p.2 (gs.getD k (0, 0)).1) (useX p.2 (gs.getD k (0, 0)).2)).1])
  else (p.1, p.2 ++ [0])
def ownL (F : Nat) : List Nat := (List.range F).map (2 * ·)
def optGo (F : Nat) (keep : List Bool) (gs : List (Nat × Nat)) : Nat → List (Nat × Nat) × List Nat
  | 0 => ([], ownL F)
  | k + 1 => optStep F keep gs k (optGo F keep gs k)
structure OptInv (c : Ci) (keep : List Bool) (k : Nat) (p : List (Nat × Nat) × List Nat) : Prop where
  len : p.2.length = nfirst c + k
  glen : p.1.length ≤ k
  ok : GOk (nfirst c) p.1
  lt : ∀ l ∈ p.2, l < 2 * (nfirst c + p.1.length)
  val : ∀ (st inp : List Bool), inp.length = c.ins → st.length = c.next.length → ∀ v, v < nfirst c + k → (v < nfirst c ∨ keep.getD v false = true) → lit (bv p.1 (false :: (inp ++ st))) (p.2.getD v 0) = (vals c st inp).getD v false
theorem nfirst_pos (c : Ci) : 0 < nfirst c := by unfold nfirst; omega
theorem useX_lt {m : List Nat} {N : Nat} (hN : 0 < N) (h : ∀ l ∈ m, l < 2 * N) (l : Nat) : useX m l < 2 * N := by
  unfold useX
  refine xor_lt (Nat.mod_lt _ (by omega)) ?_
  rw [List.getD_eq_getElem?_getD]
  cases hi : m[l / 2]? with
  | none => simp; omega
  | some a => exact h a (List.mem_of_getElem? hi)
theorem OptInv.useX {c : Ci} {keep : List Bool} {k : Nat} {p : List (Nat × Nat) × List Nat} (h : OptInv c keep k p) {st inp : List Bool} (l1 : inp.length = c.ins) (l2 : st.length = c.next.length) {l : Nat} (hl : l / 2 < nfirst c + k) (hk : l / 2 < nfirst c ∨ keep.getD (l / 2) false = true) :
    lit (bv p.1 (false :: (inp ++ st))) (useX p.2 l) = lit (vals c st inp) l := by
  unfold Cir.useX
  rw [lit_xor _ _ _ (Nat.mod_lt _ (by omega)), h.val st inp l1 l2 _ hl hk, Nat.mod_mod]
  rfl
theorem first_len {c : Ci} {st inp : List Bool} (l1 : inp.length = c.ins) (l2 : st.length = c.next.length) : (false :: (inp ++ st)).length = nfirst c := by
  simp [nfirst, l1, l2]; omega
theorem opt_inv {c : Ci} {keep : List Bool} (hc : Ok c) (hk : Closed c keep) : ∀ k, k ≤ c.gates.length → OptInv c keep k (optGo (nfirst c) keep c.gates k)
  | 0, _ => by
    refine ⟨by simp [optGo, ownL], Nat.le_refl _, trivial, fun l hl => ?_, fun st inp l1 l2 v hv _ => ?_⟩
    · simp only [optGo, ownL, List.mem_map, List.mem_range] at hl
      obtain ⟨a, ha, rfl⟩ := hl
      simp only [optGo, List.length_nil]
      omega
    · have e : (optGo (nfirst c) keep c.gates 0).2.getD v 0 = 2 * v := by
        simp only [optGo, ownL]
        rw [List.getD_eq_getElem?_getD, List.getElem?_map, List.getElem?_range (by omega)]
        rfl
      rw [e]
      unfold lit
      rw [show 2 * v / 2 = v from by omega, show 2 * v % 2 = 0 from by omega, vals_first c l1 l2 (by omega)]
      simp [optGo, bv, evalG]
  | k + 1, hkl => by
    have ih := opt_inv hc hk k (by omega)
    have hg := ok_getD hc (show k < c.gates.length by omega)
    have hgk : c.gates[k]? = some (c.gates.getD k (0, 0)) := by rw [List.getD_eq_getElem?_getD, List.getElem?_eq_getElem (by omega), Option.getD_some]
    have hp := nfirst_pos c
    rw [optGo]
    generalize optGo (nfirst c) keep c.gates k = p at ih ⊢
    generalize hgg : c.gates.getD k (0, 0) = g at hg hgk
    unfold optStep
    rw [hgg]
    by_cases hkp : keep.getD (nfirst c + k) false = true
    · rw [if_pos hkp]
      have hcl := hk.gate k (by omega) hkp
      rw [hgg] at hcl
      have t1 := useX_lt (by omega) ih.lt g.1
      have t2 := useX_lt (by omega) ih.lt g.2
      have hln := andB_len (nfirst c) p.1 (useX p.2 g.1) (useX p.2 g.2)
      have hlt := andB_lt hp t1 t2
      refine ⟨by simp [ih.len]; omega, by have := ih.glen; simp only; omega, andB_ok ih.ok t1 t2, fun l hl => ?_, fun st inp l1 l2 v hv hkv => ?_⟩
      · simp only at hl ⊢
        rcases List.mem_append.1 hl with h | h
        · have := ih.lt l h; omega
        · rw [List.mem_singleton.1 h]; exact hlt
      · simp only
        have hv0 := first_len (c := c) l1 l2
        by_cases e : v < nfirst c + k
        · rw [getD_append_lt 0 (by rw [ih.len]; omega), andB_lit hv0]
          · exact ih.val st inp l1 l2 v e hkv
          · refine ih.lt _ ?_
            rw [List.getD_eq_getElem?_getD, List.getElem?_eq_getElem (by rw [ih.len]; omega), Option.getD_some]
            exact List.getElem_mem _
        · obtain rfl : v = nfirst c + k := by omega
          rw [getD_append_at 0 ih.len.symm, andB_val hv0 hp rfl ih.ok t1 t2, vals_gate c l1 l2 hc hgk]
          unfold gval
          rw [ih.useX l1 l2 (by omega) (.inr hcl.1), ih.useX l1 l2 (by omega) (.inr hcl.2)]
    · rw [if_neg hkp]
      refine ⟨by simp [ih.len]; omega, by have := ih.glen; simp only; omega, ih.ok, fun l hl => ?_, fun st inp l1 l2 v hv hkv => ?_⟩
      · simp only at hl ⊢
        rcases List.mem_append.1 hl with h | h
        · exact ih.lt l h
        · rw [List.mem_singleton.1 h]; omega
      · have e : v < nfirst c + k := by
          rcases hkv with h | h
          · omega
          · rcases Nat.lt_or_ge v (nfirst c + k) with h2 | h2
            · exact h2
            · obtain rfl : v = nfirst c + k := by omega
              exact absurd h hkp
        simp only
        rw [getD_append_lt 0 (by rw [ih.len]; omega)]
        exact ih.val st inp l1 l2 v e hkv
def built (c : Ci) (keep : List Bool) : Ci :=
  { ins := c.ins, next := c.next.map (useX (optGo (nfirst c) keep c.gates c.gates.length).2), gates := (optGo (nfirst c) keep c.gates c.gates.length).1.reverse, outs := c.outs.map (useX (optGo (nfirst c) keep c.gates c.gates.length).2) }
theorem gok_get {F : Nat} : ∀ {G : List (Nat × Nat)}, GOk F G → ∀ (k : Nat) (g : Nat × Nat), G.reverse[k]? = some g → g.1 < 2 * (F + k) ∧ g.2 < 2 * (F + k)
  | [], _, k, g, h => by simp at h
  | a :: G, hG, k, g, h => by
    rw [List.reverse_cons] at h
    by_cases e : k < G.length
    · rw [List.getElem?_append_left (by simpa using e)] at h
      exact gok_get hG.2.2 k g h
    · rw [List.getElem?_append_right (by simp; omega), List.length_reverse] at h
      by_cases e2 : k = G.length
      · subst e2
        simp at h
        subst h
        exact ⟨hG.1, hG.2.1⟩
      · rw [List.getElem?_eq_none (by simp; omega)] at h
        cases h
theorem built_ok {c : Ci} {keep : List Bool} (hc : Ok c) (hk : Closed c keep) : Ok (built c keep) := by
  have hi := opt_inv hc hk c.gates.length (Nat.le_refl _)
  have hp := nfirst_pos c
  have hn : nfirst (built c keep) = nfirst c := by simp [nfirst, built]
  have hv : nvars (built c keep) = nfirst c + (optGo (nfirst c) keep c.gates c.gates.length).1.length := by unfold nvars; rw [hn]; simp [built]
  refine ⟨hc.ins, by simpa [built] using hc.nexts, ?_, by simpa [built] using hc.outss, fun k g hg => ?_, fun l hl => ?_, fun l hl => ?_⟩
  · have := hi.glen
    have := hc.gatess
    simp only [built, List.length_reverse]
    omega
  · rw [hn]
    exact gok_get hi.ok k g hg
  · simp only [built, List.mem_map] at hl
    obtain ⟨a, _, rfl⟩ := hl
    rw [hv]
    exact useX_lt (by omega) hi.lt a
  · simp only [built, List.mem_map] at hl
    obtain ⟨a, _, rfl⟩ := hl
    rw [hv]
    exact useX_lt (by omega) hi.lt a
theorem built_same {c : Ci} {keep : List Bool} (hc : Ok c) (hk : Closed c keep) : SameStep c (built c keep) := by
  have hi := opt_inv hc hk c.gates.length (Nat.le_refl _)
  refine ⟨rfl, by simp [built], by simp [built], fun st inp l1 l2 => ?_⟩
  have e : ∀ l, l ∈ c.next ++ c.outs → lit (vals (built c keep) st inp) (useX (optGo (nfirst c) keep c.gates c.gates.length).2 l) = lit (vals c st inp) l := fun l hl =>
    hi.useX l1 l2 (by
      rcases List.mem_append.1 hl with h | h
      · have := hc.next l h; unfold nvars at this; omega
      · have := hc.out l h; unfold nvars at this; omega) (.inr (hk.root l hl))
  refine ⟨?_, ?_⟩
  · unfold lits
    rw [show (built c keep).next = c.next.map (useX (optGo (nfirst c) keep c.gates c.gates.length).2) from rfl, List.map_map]
    exact List.map_congr_left fun l hl => e l (List.mem_append_left _ hl)
  · unfold lits
    rw [show (built c keep).outs = c.outs.map (useX (optGo (nfirst c) keep c.gates c.gates.length).2) from rfl, List.map_map]
    exact List.map_congr_left fun l hl => e l (List.mem_append_right _ hl)
/-! ### Without the gates that nothing reaches -/
def keptI (F : Nat) (keep : List Bool) (k : Nat) : List Nat := (List.range k).filter fun i => keep.getD (F + i) false
def plc (F : Nat) (keep : List Bool) (v : Nat) : Nat := if v < F then v else if keep.getD v false then F + (keptI F keep (v - F)).length else 0
def useP (F : Nat) (keep : List Bool) (l : Nat) : Nat := 2 * plc F keep (l / 2) + l % 2
def keptG (F : Nat) (keep : List Bool) (gs : List (Nat × Nat)) (k : Nat) : List (Nat × Nat) := (keptI F keep k).map fun i => (useP F keep (gs.getD i (0, 0)).1, useP F keep (gs.getD i (0, 0)).2)
def prune (c : Ci) (keep : List Bool) : Ci :=
  { ins := c.ins, next := c.next.map (useP (nfirst c) keep), gates := keptG (nfirst c) keep c.gates c.gates.length, outs := c.outs.map (useP (nfirst c) keep) }
theorem keptI_succ (F : Nat) (keep : List Bool) (k : Nat) : keptI F keep (k + 1) = keptI F keep k ++ (if keep.getD (F + k) false then [k] else []) := by
  unfold keptI
  rw [List.range_succ, List.filter_append]
  congr 1
  rw [List.filter_cons]
  rfl
theorem keptI_le (F : Nat) (keep : List Bool) (k : Nat) : (keptI F keep k).length ≤ k := by
  have := List.length_filter_le (fun i => keep.getD (F + i) false) (List.range k)
  simpa [keptI] using this
structure PrInv (c : Ci) (keep : List Bool) (k : Nat) : Prop where
  len : (keptG (nfirst c) keep c.gates k).length = (keptI (nfirst c) keep k).length
  lt : ∀ v, v < nfirst c + k → plc (nfirst c) keep v < nfirst c + (keptI (nfirst c) keep k).length
  gok : ∀ (j : Nat) (g : Nat × Nat), (keptG (nfirst c) keep c.gates k)[j]? = some g → g.1 < 2 * (nfirst c + j) ∧ g.2 < 2 * (nfirst c + j)
  val : ∀ (st inp : List Bool), inp.length = c.ins → st.length = c.next.length → ∀ v, v < nfirst c + k → (v < nfirst c ∨ keep.getD v false = true) → (evalG (keptG (nfirst c) keep c.gates k) (false :: (inp ++ st))).getD (plc (nfirst c) keep v) false = (vals c st inp).getD v false
theorem PrInv.use {c : Ci} {keep : List Bool} {k : Nat} (h : PrInv c keep k) {st inp : List Bool} (l1 : inp.length = c.ins) (l2 : st.length = c.next.length) {l : Nat} (hl : l / 2 < nfirst c + k) (hk : l / 2 < nfirst c ∨ keep.getD (l / 2) false = true) :
    lit (evalG (keptG (nfirst c) keep c.gates k) (false :: (inp ++ st))) (useP (nfirst c) keep l) = lit (vals c st inp) l := by
  unfold useP lit
  rw [show (2 * plc (nfirst c) keep (l / 2) + l % 2) / 2 = plc (nfirst c) keep (l / 2) from by omega, show (2 * plc (nfirst c) keep (l / 2) + l % 2) % 2 = l % 2 from by omega, h.val st inp l1 l2 _ hl hk]
theorem PrInv.ult {c : Ci} {keep : List Bool} {k : Nat} (h : PrInv c keep k) {l : Nat} (hl : l / 2 < nfirst c + k) : useP (nfirst c) keep l < 2 * (nfirst c + (keptI (nfirst c) keep k).length) := by
  have := h.lt _ hl
  unfold useP
  omega
theorem keptG_len (F : Nat) (keep : List Bool) (gs : List (Nat × Nat)) (k : Nat) : (keptG F keep gs k).length = (keptI F keep k).length := by unfold keptG; rw [List.length_map]
theorem pr_inv {c : Ci} {keep : List Bool} (hc : Ok c) (hk : Closed c keep) : ∀ k, k ≤ c.gates.length → PrInv c keep k
  | 0, _ => by
    have hp := nfirst_pos c
    refine ⟨rfl, fun v hv => ?_, fun j g hj => by simp [keptG, keptI] at hj, fun st inp l1 l2 v hv _ => ?_⟩
    · unfold plc
      rw [if_pos (by omega)]
      omega
    · unfold plc
      rw [if_pos (by omega), vals_first c l1 l2 (by omega)]
      simp [keptG, keptI, evalG]
  | k + 1, hkl => by
    have ih := pr_inv hc hk k (by omega)
    have hg := ok_getD hc (show k < c.gates.length by omega)
    have hgk : c.gates[k]? = some (c.gates.getD k (0, 0)) := by rw [List.getD_eq_getElem?_getD, List.getElem?_eq_getElem (by omega), Option.getD_some]
    have hp := nfirst_pos c
    have hs := keptI_succ (nfirst c) keep k
    by_cases hkp : keep.getD (nfirst c + k) false = true
    · rw [if_pos hkp] at hs
      have hcl := hk.gate k (by omega) hkp
      have hpl : plc (nfirst c) keep (nfirst c + k) = nfirst c + (keptI (nfirst c) keep k).length := by
        unfold plc
        rw [if_neg (by omega), if_pos hkp, show nfirst c + k - nfirst c = k from by omega]
      have hG : keptG (nfirst c) keep c.gates (k + 1) = keptG (nfirst c) keep c.gates k ++ [(useP (nfirst c) keep (c.gates.getD k (0, 0)).1, useP (nfirst c) keep (c.gates.getD k (0, 0)).2)] := by
        unfold keptG
        rw [hs, List.map_append]
        rfl
      have hl1 : (keptI (nfirst c) keep (k + 1)).length = (keptI (nfirst c) keep k).length + 1 := by rw [hs]; simp
      refine ⟨keptG_len _ _ _ _, fun v hv => ?_, fun j g hj => ?_, fun st inp l1 l2 v hv hkv => ?_⟩
      · rw [hl1]
        by_cases e : v < nfirst c + k
        · have := ih.lt v e; omega
        · obtain rfl : v = nfirst c + k := by omega
          rw [hpl]; omega
      · rw [hG] at hj
        by_cases e : j < (keptI (nfirst c) keep k).length
        · rw [List.getElem?_append_left (by rw [keptG_len]; exact e)] at hj
          exact ih.gok j g hj
        · rw [List.getElem?_append_right (by rw [keptG_len]; omega), keptG_len] at hj
          by_cases e2 : j = (keptI (nfirst c) keep k).length
          · subst e2
            simp only [Nat.sub_self, List.getElem?_cons_zero, Option.some.injEq] at hj
            subst hj
            exact ⟨ih.ult (by omega), ih.ult (by omega)⟩
          · rw [List.getElem?_eq_none (by simp; omega)] at hj
            cases hj
      · rw [hG, evalG_snoc]
        have hlen : (evalG (keptG (nfirst c) keep c.gates k) (false :: (inp ++ st))).length = nfirst c + (keptI (nfirst c) keep k).length := by rw [evalG_length, keptG_len, first_len l1 l2]
        by_cases e : v < nfirst c + k
        · rw [getD_append_lt false (by rw [hlen]; exact ih.lt v e)]
          exact ih.val st inp l1 l2 v e hkv
        · obtain rfl : v = nfirst c + k := by omega
          rw [hpl, getD_append_at false hlen.symm, vals_gate c l1 l2 hc hgk]
          unfold gval
          rw [ih.use l1 l2 (by omega) (.inr hcl.1), ih.use l1 l2 (by omega) (.inr hcl.2)]
    · rw [if_neg hkp, List.append_nil] at hs
      have hG : keptG (nfirst c) keep c.gates (k + 1) = keptG (nfirst c) keep c.gates k := by
        unfold keptG
        rw [hs]
      refine ⟨keptG_len _ _ _ _, fun v hv => ?_, fun j g hj => ?_, fun st inp l1 l2 v hv hkv => ?_⟩
      · rw [hs]
        by_cases e : v < nfirst c + k
        · exact ih.lt v e
        · obtain rfl : v = nfirst c + k := by omega
          unfold plc
          rw [if_neg (by omega), if_neg hkp]
          omega
      · rw [hG] at hj
        exact ih.gok j g hj
      · have e : v < nfirst c + k := by
          rcases hkv with h | h
          · omega
          · rcases Nat.lt_or_ge v (nfirst c + k) with h2 | h2
            · exact h2
            · obtain rfl : v = nfirst c + k := by omega
              exact absurd h hkp
        rw [hG]
        exact ih.val st inp l1 l2 v e hkv
theorem prune_ok {c : Ci} {keep : List Bool} (hc : Ok c) (hk : Closed c keep) : Ok (prune c keep) := by
  have hi := pr_inv hc hk c.gates.length (Nat.le_refl _)
  have hn : nfirst (prune c keep) = nfirst c := by simp [nfirst, prune]
  have hv : nvars (prune c keep) = nfirst c + (keptI (nfirst c) keep c.gates.length).length := by unfold nvars; rw [hn]; simp [prune, keptG_len]
  refine ⟨hc.ins, by simpa [prune] using hc.nexts, ?_, by simpa [prune] using hc.outss, fun k g hg => ?_, fun l hl => ?_, fun l hl => ?_⟩
  · have := keptI_le (nfirst c) keep c.gates.length
    have := hc.gatess
    simp only [prune, keptG_len]
    omega
  · rw [hn]
    exact hi.gok k g hg
  · simp only [prune, List.mem_map] at hl
    obtain ⟨a, ha, rfl⟩ := hl
    rw [hv]
    exact hi.ult (by have := hc.next a ha; unfold nvars at this; omega)
  · simp only [prune, List.mem_map] at hl
    obtain ⟨a, ha, rfl⟩ := hl
    rw [hv]
    exact hi.ult (by have := hc.out a ha; unfold nvars at this; omega)
theorem prune_same {c : Ci} {keep : List Bool} (hc : Ok c) (hk : Closed c keep) : SameStep c (prune c keep) := by
  have hi := pr_inv hc hk c.gates.length (Nat.le_refl _)
  refine ⟨rfl, by simp [prune], by simp [prune], fun st inp l1 l2 => ?_⟩
  have e : ∀ l, l ∈ c.next ++ c.outs → lit (vals (prune c keep) st inp) (useP (nfirst c) keep l) = lit (vals c st inp) l := fun l hl =>
    hi.use l1 l2 (by
      rcases List.mem_append.1 hl with h | h
      · have := hc.next l h; unfold nvars at this; omega
      · have := hc.out l h; unfold nvars at this; omega) (.inr (hk.root l hl))
  refine ⟨?_, ?_⟩
  · unfold lits
    rw [show (prune c keep).next = c.next.map (useP (nfirst c) keep) from rfl, List.map_map]
    exact List.map_congr_left fun l hl => e l (List.mem_append_left _ hl)
  · unfold lits
    rw [show (prune c keep).outs = c.outs.map (useP (nfirst c) keep) from rfl, List.map_map]
    exact List.map_congr_left fun l hl => e l (List.mem_append_right _ hl)
/-- The optimized circuit. -/
def optI (c : Ci) : Ci := prune (built c (reached c)) (reached (built c (reached c)))
theorem optI_ok {c : Ci} (hc : Ok c) : Ok (optI c) := by
  have h := built_ok hc (reached_closed hc)
  exact prune_ok h (reached_closed h)
theorem optI_same {c : Ci} (hc : Ok c) : SameStep c (optI c) := by
  have h := built_ok hc (reached_closed hc)
  exact (built_same hc (reached_closed hc)).trans (prune_same h (reached_closed h))
end Cir
end Go.Proofs.Ytkkkjbinfdohpaa

namespace Go.Proofs.Ytkkkjbinfdohpaa
open Go.RowKit
set_option maxRecDepth 100000
set_option maxHeartbeats 8000000
/-! The variables that something reaches, by the program. -/
theorem tdiv_two (l : Nat) : (l : Int).tdiv 2 = ((l / 2 : Nat) : Int) := by rw [Int.tdiv_eq_ediv_of_nonneg (by omega)]; omega
theorem bools_set (V : List Bool) (i : Nat) (b : Bool) : (bools V).set i (.bool b) = bools (V.set i b) := by
  unfold bools
  rw [List.map_set]
theorem rootMark_snoc {n : Nat} {ls : List Nat} {k l : Nat} (h : ls[k]? = some l) : Cir.rootMark n (ls.take (k + 1)) = (Cir.rootMark n (ls.take k)).set (l / 2) true := by
  unfold Cir.rootMark
  rw [List.take_add_one, h, List.foldl_append]
  rfl
end Go.Proofs.Ytkkkjbinfdohpaa

namespace Go.Proofs.Ytkkkjbinfdohpaa
open Go.RowKit
/-! An append in a drawn region, with the place of the new row. -/
def JApp2 (T B : Nat) (e : TypeId) (size : Nat) (v : Value) (n : Nat) (cs news : List Value) : Option Value → World → Prop
  | none, w => w.ownsRow B e size v n cs
  | some v', w => w.ownsRow B e size v' (n + 1) (cs ++ news) ∧ ∀ g, v'.ownBlock = some g → v.ownBlock = some g ∨ T ≤ g
@[reducible] def appRS2 (Pg : Program) (ops : Array Oper) (w : World) (a : Act) (B : Nat) (e : TypeId) (size : Nat) (v : Value) (n : Nat) (cs news : List Value) (d : Nat) : RS :=
  { P := Pg, ops := ops, E := fun g => v.ownBlock = some g, F := fun _ => False, rd := none, w0 := w, J := JApp2 w.heap.size B e size v n cs news, d := d, a0 := a }
theorem appRS2_ok {Pg : Program} {ops : Array Oper} {w : World} {a : Act} {B : Nat} {e : TypeId} {size : Nat} {v : Value} {n : Nat} {cs news : List Value} {d : Nat} (hown : w.ownsRow B e size v n cs) : (appRS2 Pg ops w a B e size v n cs news d).Ok :=
  ⟨fun _ h => h.elim, fun ov w1 w2 hj ho => by
    cases ov with
    | none => exact own_below hj (only_below ho)
    | some v' => exact ⟨own_below hj.1 (only_below ho), hj.2⟩,
    fun _ _ e => (by cases e), fun g hg => (hown.lt g hg).2⟩
section
variable {S : RS} {Fin : List Ty → Prop} {o : Oper} {l : List Oper} {i : Nat} {τs : List Ty}
theorem rs_append2 (hd : i = S.d) (B : Nat) (e t : TypeId) (size : Nat) (v : Value) (n : Nat) (cs news : List Value) (hJ : S.J = JApp2 S.w0.heap.size B e size v n cs news) (hrd : S.rd = none) (hE : ∀ g, v.ownBlock = some g → S.E g) (hB : B ≤ S.w0.heap.size)
    (x y : Nat) (ho : o.op = .call { callee := .builtin .append, args := #[.tmp x, .tmp y], argTypes := #[t, t] }) (jx jy : Nat) (hx : writer S.ops i x = some jx) (hy : writer S.ops i y = some jy) (hTx : tys τs jx = TEq v) (hTy : tys τs jy = TNew S.E size 1 news)
    (inf : TypeInfo) (z : Value) (bytes : Nat) (ht : S.P.underlying t = some (.slice e)) (hi : S.P.info? e = some inf) (hz : inf.zero = some z) (hsize : inf.size = size) (hby : inf.bytes = bytes) (hzs : z.cells.size = size) (hsz : 0 < size) (h63 : n ≤ 1000000) (hbb : bytes ≤ 1000) (hone : ∀ u ∈ news, u.oneCell' = true)
    (rest : RSeq S Fin l (i + 1) (TAny :: τs)) : RSeq S Fin (o :: l) i τs := by
  intro _
  refine ⟨TAny, stb_any _, fun k ov ρ w hk hI hov hK => ?_, rest⟩
  obtain rfl := hov (by rw [hd]; exact ancB_self _ _ _)
  rw [ho] at hK
  have h1 := hK.1
  have h2 := hK.2.1
  rw [hx] at h1
  rw [hy] at h2
  simp only [hTx] at h1
  simp only [hTy] at h2
  have h1' : ρ (.tmp x) = v := h1
  have h2' : Row w size (ρ (.tmp y)) 1 news := h2.1
  have hown : w.ownsRow B e size v n cs := by have := hI.2.2; rw [hJ] at this; exact this
  obtain ⟨v', w', hrun, hown', hgr, hat⟩ := run_append_row_at (P := S.P) w B t o.type e inf z size bytes ht hi hz hsize hby hzs hsz v n cs hown _ 1 news h2' hone (by unfold maxLen; omega) (Nat.le_trans (Nat.mul_le_mul (show n + 1 ≤ 1000001 by omega) hbb) (by decide)) (Nat.le_trans hB hI.2.1.size)
  have hre : (execOp ρ o).run S.P w = .ok (.value v') w' := by
    unfold execOp
    simp only [ho, resolve, invoke, builtin, Sem.run_bind, Sem.run_pure, Result.andThen_ok, List.map_toArray, List.map_cons, List.map_nil, h1', hrun]
  unfold Good
  rw [hre]
  have hon : Only S.E w w' := Only.grown hgr hE
  refine ⟨trivial, ⟨?_, hI.2.1.trans hon, ?_⟩, hon⟩
  · rw [hrd]; trivial
  · rw [if_pos hd, hJ]
    refine ⟨hown', fun g hg => ?_⟩
    rcases hat with h | h
    · exact .inl (h.symm.trans hg)
    · have := Option.some.inj (h.symm.trans hg)
      have h5 := hI.2.1.size
      exact .inr (by omega)
end
theorem apart_loc {T : Nat} {v v' u : Value} (h : Apart v u) (hl : ∀ g, v'.ownBlock = some g → v.ownBlock = some g ∨ T ≤ g) (hu : ∀ g, u.ownBlock = some g → g < T) : Apart v' u := fun g h1 h2 => by
  rcases hl g h1 with h3 | h3
  · exact h g h3 h2
  · have := hu g h2; omega
end Go.Proofs.Ytkkkjbinfdohpaa

namespace Go.Proofs.Ytkkkjbinfdohpaa
open Go.RowKit
set_option maxRecDepth 100000
/-! Drawn regions: a call of a function value. -/
section
variable {S : RS} {Fin : List Ty → Prop} {o : Oper} {l : List Oper} {i : Nat} {τs : List Ty}
theorem rs_callV (hO : S.Ok) (hid : i ≠ S.d ∨ ∀ ov w, S.J ov w) (T : Ty) (hT : Stb S.E T) (x : Operand) (args : Array Operand) (at_ : Array TypeId) (ho : o.op = .call { callee := .value x, args := args, argTypes := at_ })
    (h : ∀ ρ w, Only S.E S.w0 w → Known S.ops (tys τs) S.a0 ρ w i (x :: args.toList) → ∃ f vs, (execOp ρ o).run S.P w = .ok (.enter f vs) w ∧ Calls S.P f vs w fun e w' => ∃ v, e = .returned v ∧ T w' v ∧ Below w.heap.size w w')
    (rest : RSeq S Fin l (i + 1) (T :: τs)) : RSeq S Fin (o :: l) i τs := by
  refine rs_plain hO hid T hT (fun k ρ w hk hr hon hK => ?_) rest
  have he : o.op.operands.toList = x :: args.toList := by rw [ho]; simp [Op.operands, Call.operands]
  rw [he] at hK
  obtain ⟨f, vs, h1, h2⟩ := h ρ w hon hK
  unfold Good
  rw [h1]
  refine h2.mono ?_
  rintro e w' ⟨v, rfl, h3, h4⟩
  refine ⟨h3, ?_, Only.of_below _ h4⟩
  have hr' := rdO_more hr
  cases hrd : S.rd with
  | none => trivial
  | some x =>
    rw [hrd] at hr'
    exact Rd.below hr' h4 (Rd.lt hr')
end
end Go.Proofs.Ytkkkjbinfdohpaa

namespace Go.Proofs.Ytkkkjbinfdohpaa
open Go.RowKit Go.Maps
set_option maxRecDepth 100000
/-! newBuilder. -/
end Go.Proofs.Ytkkkjbinfdohpaa

namespace Go.Proofs.Ytkkkjbinfdohpaa
open Go.RowKit Go.Maps
set_option maxRecDepth 100000
/-! and: the cases that make no gate. (gen/bldb.py prints this text.) -/
theorem beq_ff {a b : Nat} (h : a ≠ b) : ((a : Int) == (b : Int)) = false := by rw [beq_eq_false_iff_ne]; omega
theorem beq_tt {a b : Nat} (h : a = b) : ((a : Int) == (b : Int)) = true := by rw [beq_iff_eq]; omega
end Go.Proofs.Ytkkkjbinfdohpaa

namespace Go.Proofs.Ytkkkjbinfdohpaa
open Go.RowKit Go.Maps
set_option maxRecDepth 100000
/-! and: a new gate. -/
theorem rs_eq_before {S : RS} {Fin : List Ty → Prop} {o : Oper} {l : List Oper} {i : Nat} {τs : List Ty} (hO : S.Ok) (hid : i ≠ S.d) (hanc : ancB S.ops 8 i S.d = true) {c : Value}
    (h : ∀ ρ w, Only S.E S.w0 w → S.J none w → Known S.ops (tys τs) S.a0 ρ w i o.op.operands.toList → (execOp ρ o).run S.P w = .ok (.value c) w)
    (rest : RSeq S Fin l (i + 1) (TEq c :: τs)) : RSeq S Fin (o :: l) i τs :=
  rs_before hO hid hanc (TEq c) (stb_eq _ _) (fun k ρ w hr ho hJ hK => by
    unfold Good
    rw [h ρ w ho hJ hK]
    exact ⟨rfl, rdO_more hr, Only.refl _ _⟩) rest
theorem cubes_snoc2 (ks : List (Int × Int)) (x y : Int) : cubes (ks ++ [(x, y)]) = cubes ks ++ [.int .i64 x, .int .i64 y] := by
  unfold cubes
  rw [List.flatMap_append]
  rfl
theorem knownG_cons {F : Nat} {G : List (Nat × Nat)} {x y V : Nat} (hk : Cir.knownG F G x y = none) (hV : V = 2 * (F + G.length)) : (fun x' y' => if x' = x ∧ y' = y then some V else Cir.knownG F G x' y') = Cir.knownG F ((x, y) :: G) := by
  funext x' y'
  show _ = (match Cir.knownG F G x' y' with
    | some l => some l
    | none => if x' = x ∧ y' = y then some (2 * (F + G.length)) else none)
  by_cases e : x' = x ∧ y' = y
  · obtain ⟨rfl, rfl⟩ := e
    rw [hk]
    simp [hV]
  · rw [if_neg e]
    cases Cir.knownG F G x' y' with
    | some l => rfl
    | none => simp [e]
end Go.Proofs.Ytkkkjbinfdohpaa

namespace Go.Proofs.Ytkkkjbinfdohpaa
open Go.RowKit
set_option maxRecDepth 100000
set_option maxHeartbeats 8000000
/-! A circuit with other literals, by the program. -/
theorem blk_ltB {w : World} {g : Nat} {o : Obj} (h : w.heap[g]? = some o) : g < w.heap.size := (Array.getElem?_eq_some_iff.1 h).1
theorem own_setB {w : World} {B n size k i : Nat} {e : TypeId} {v u : Value} {cs : List Value} (h : w.ownsRow B e size v n cs) (hk : k < B) : (w.setCell ⟨k, i, none⟩ u).ownsRow B e size v n cs :=
  own_only h (Only.grown (E := fun g => g = k) (set_grown w k i u) (fun x hx => (Option.some.inj hx).symm)) (fun g hg e => by have := (h.lt g hg).1; omega)
theorem heap_setCell_other' (w : World) (b i : Nat) (u : Value) (g : Nat) (h : g ≠ b) : (w.setCell ⟨b, i, none⟩ u).heap[g]? = w.heap[g]? := by
  by_cases hg : g < w.heap.size
  · exact (set_grown w b i u).block g hg (fun e => h (Option.some.inj e))
  · have hz : (w.setCell ⟨b, i, none⟩ u).heap.size = w.heap.size := by simp
    rw [Array.getElem?_eq_none (by omega), Array.getElem?_eq_none (by omega)]
/-- A circuit with other literals. -/
def mapC (u : Nat → Nat) (c : Ci) : Ci := { ins := c.ins, next := c.next.map u, gates := c.gates.map fun g => (u g.1, u g.2), outs := c.outs.map u }
def nints' (l : List Nat) : List Value := ints (l.map Int.ofNat)
def ngates (l : List (Nat × Nat)) : List Value := cubes (l.map fun g => ((g.1 : Int), (g.2 : Int)))
theorem nints'_snoc {l : List Nat} {k x : Nat} (h : l[k]? = some x) (u : Nat → Nat) : nints' ((l.take (k + 1)).map u) = nints' ((l.take k).map u) ++ [.int .i64 (u x : Nat)] := by
  unfold nints' ints
  rw [take_snoc h]
  simp
theorem ngates_snoc {l : List (Nat × Nat)} {k : Nat} {x : Nat × Nat} (h : l[k]? = some x) (u : Nat → Nat) : ngates ((l.take (k + 1)).map fun g => (u g.1, u g.2)) = ngates ((l.take k).map fun g => (u g.1, u g.2)) ++ [.int .i64 (u x.1 : Nat), .int .i64 (u x.2 : Nat)] := by
  unfold ngates cubes
  rw [take_snoc h]
  simp
/-- A circuit whose rows are the call's own. -/
def CircOwn (B : Nat) (w : World) (v : Value) (c : Cz) : Prop := ∃ vn vg vo, v = .agg #[.int .i64 c.ins, vn, vg, vo] ∧ w.ownsRow B 3 1 vn c.next.length (ints c.next) ∧ w.ownsRow B 64 2 vg c.gates.length (cubes c.gates) ∧ w.ownsRow B 3 1 vo c.outs.length (ints c.outs)
theorem CircOwn.at {B : Nat} {w : World} {v : Value} {c : Cz} (h : CircOwn B w v c) : CircAt w v c := by
  obtain ⟨vn, vg, vo, e, h1, h2, h3⟩ := h
  exact ⟨vn, vg, vo, e, Row.of_own h1, Row.of_own h2, Row.of_own h3⟩
theorem CircOwn.below {B : Nat} {w w' : World} {v : Value} {c : Cz} (h : CircOwn B w v c) (hb : Below w.heap.size w w') : CircOwn B w' v c := by
  obtain ⟨vn, vg, vo, e, h1, h2, h3⟩ := h
  exact ⟨vn, vg, vo, e, own_below h1 hb, own_below h2 hb, own_below h3 hb⟩
theorem CircOwn.mono {B B' : Nat} {w : World} {v : Value} {c : Cz} (h : CircOwn B w v c) (hB : B' ≤ B) : CircOwn B' w v c := by
  obtain ⟨vn, vg, vo, e, h1, h2, h3⟩ := h
  exact ⟨vn, vg, vo, e, own_mono h1 hB, own_mono h2 hB, own_mono h3 hB⟩
/-- A row of one type lies in no block of another. -/
theorem own_ne_tag {w : World} {base size n g : Nat} {e t : TypeId} {v : Value} {cs : List Value} {old : Array Value} {fr : Nat × Nat} (h : w.ownsRow base e size v n cs) (hk : w.heap[g]? = some (.cells old t fr)) (hne : e ≠ t) : v.ownBlock ≠ some g := by
  rcases h.2 with h2 | ⟨g', cap, cur, rfl, hb, hh, h3⟩
  · rw [h2.1]; intro e'; cases e'
  · intro e'
    have e'' := Option.some.inj e'
    simp only at e''
    subst e''
    rw [hh] at hk
    have h4 := Option.some.inj hk
    injection h4 with h5 h6
    exact hne h6
end Go.Proofs.Ytkkkjbinfdohpaa

namespace Go.Proofs.Ytkkkjbinfdohpaa
set_option maxRecDepth 100000
open Go.RowKit Go.Joins Go.ChangeShapes Go.WideShapes Go.ChangeAt Go.Deep
/-! Arguments that are slices, whatever their elements. -/
theorem flat_at {α : Type} {size : Nat} : ∀ {els : List (List α)}, (∀ e ∈ els, e.length = size) → ∀ {j : Nat} {u : α}, els.flatten[j]? = some u → ∃ (i r : Nat) (e : List α), j = i * size + r ∧ r < size ∧ els[i]? = some e ∧ e[r]? = some u
  | [], _, j, u, h => by simp at h
  | e :: els, hl, j, u, h => by
    have he := hl e (by simp)
    rw [List.flatten_cons, List.getElem?_append] at h
    split at h
    · rename_i hlt
      exact ⟨0, j, e, by omega, by omega, rfl, h⟩
    · rename_i hge
      obtain ⟨i, r, e', hj, hr, hi, hu⟩ := flat_at (fun e' h' => hl e' (List.mem_cons_of_mem _ h')) h
      refine ⟨i + 1, r, e', ?_, hr, by simpa using hi, hu⟩
      rw [Nat.add_mul]
      omega
theorem flat_length {α : Type} {size : Nat} : ∀ {els : List (List α)}, (∀ e ∈ els, e.length = size) → els.flatten.length = els.length * size
  | [], _ => by simp
  | e :: els, h => by
    rw [List.flatten_cons, List.length_append, flat_length (fun e' h' => h e' (List.mem_cons_of_mem _ h')), h e (by simp), List.length_cons, Nat.add_mul]
    omega
section
variable {H : Type} {enc : TypeId × Value → H} {P : Program} {w : World} {base : Nat} {spare : Nat → Bool} {held : Bool}
theorem slice_rd {t e : TypeId} {size fuel : Nat} {cs : List Value} {x : DataW H × List MemPlace} (ht : P.underlying t = some (.slice e)) (hc : P.cellsOf e = size) (hs : 0 < size) (G : List Value → Prop)
    (hG : ∀ n cs' y, cs'.length = size → DataW.trod enc P w base spare held n e cs' = some y → G cs') (h : DataW.trod enc P w base spare held fuel t cs = some x) :
    ∃ (A : Option Addr) (n c : Nat) (els : List (List Value)), cs = [.slice A n c] ∧ Row w size (.slice A n c) n els.flatten ∧ els.length = n ∧ (∀ e ∈ els, e.length = size) ∧ ∀ e ∈ els, G e := by
  rcases open_slice ht h with ⟨rfl, _⟩ | ⟨a, len, cap, m, n, D, Pl, rfl, hb, hl, hm, hmm, _, hx⟩
  · exact ⟨none, 0, 0, [], rfl, Row.nil w size, rfl, by simp, by simp⟩
  · have hx' : ∀ i, i < len → ∃ cs', cs'.length = size ∧ (∀ j, j < size → w.cell? (a.add (i * size + j)) = cs'[j]?) ∧ G cs' := by
      intro i hi
      have him : i < m := by rw [hmm]; split <;> omega
      obtain ⟨cs', h1, h2⟩ := hx i him
      rw [hc] at h1
      obtain ⟨_, h3, h4⟩ := World.cells?_some h1
      refine ⟨cs', h3, fun j hj => ?_, hG _ _ _ h3 h2⟩
      rw [← Go.Deep.add_add]
      exact h4 j hj
    let f : Nat → List Value := fun i => if h : i < len then (hx' i h).choose else []
    have hf : ∀ i, i < len → (f i).length = size ∧ (∀ j, j < size → w.cell? (a.add (i * size + j)) = (f i)[j]?) ∧ G (f i) := by
      intro i hi
      have := (hx' i hi).choose_spec
      simp only [f, hi, dite_true]
      exact this
    have hel : ∀ e ∈ (List.range len).map f, e.length = size := by
      intro e he
      obtain ⟨i, hi, rfl⟩ := List.mem_map.1 he
      exact (hf i (List.mem_range.1 hi)).1
    refine ⟨some a, len, cap, (List.range len).map f, rfl, ⟨by rw [flat_length hel]; simp, some a, cap, rfl, hl, hm, fun hn => ?_⟩, by simp, hel, fun e he => ?_⟩
    · obtain ⟨b, off, spot⟩ := a
      obtain ⟨h5, h6, _⟩ := hf 0 hn
      have h0 := h6 0 hs
      rw [List.getElem?_eq_getElem (by omega)] at h0
      have hspot : spot = none := by simpa [Addr.add] using World.cell?_spot h0
      subst hspot
      refine ⟨b, off, rfl, ?_, fun j u hu => ?_⟩
      · rcases Nat.lt_or_ge b w.heap.size with hl | hl
        · exact hl
        · simp [World.cell?, Addr.add, Array.getElem?_eq_none hl] at h0
      · obtain ⟨i, r, e', rfl, hr, hi, hu'⟩ := flat_at hel hu
        have hil : i < len := by
          obtain ⟨hi', _⟩ := List.getElem?_eq_some_iff.1 hi
          simpa using hi'
        have : e' = f i := by simpa [hil] using hi.symm
        subst this
        rw [← Go.WideShapes.add_plain, (hf i hil).2.1 r hr]
        exact hu'
    · obtain ⟨i, hi, rfl⟩ := List.mem_map.1 he
      exact (hf i (List.mem_range.1 hi)).2.2
end
def WfI (x : Int) : Prop := -9223372036854775808 ≤ x ∧ x ≤ 9223372036854775807
theorem wf_i {x : Int} (h : (Lit.int .i64 x).wf = true) : WfI x := by
  have := Go.bounds_i64 h
  unfold WfI
  omega
/-- What the cells of the elements come to. -/
theorem els_of {α : Type} (f : α → List Value) (G : α → Prop) : ∀ {els : List (List Value)}, (∀ e ∈ els, ∃ x, e = f x ∧ G x) → ∃ xs : List α, els.flatten = xs.flatMap f ∧ xs.length = els.length ∧ ∀ x ∈ xs, G x
  | [], _ => ⟨[], rfl, rfl, by simp⟩
  | e :: els, h => by
    obtain ⟨xs, h1, h2, h3⟩ := els_of f G (fun e' h' => h e' (List.mem_cons_of_mem _ h'))
    obtain ⟨x, rfl, hx⟩ := h e (by simp)
    refine ⟨x :: xs, by simp [h1], by simp [h2], ?_⟩
    intro y hy
    rcases List.mem_cons.1 hy with e | hy
    · exact e ▸ hx
    · exact h3 y hy
theorem flatMap_one {α : Type} (f : α → Value) : ∀ xs : List α, (xs.flatMap fun x => [f x]) = xs.map f
  | [] => rfl
  | x :: xs => by rw [List.flatMap_cons, flatMap_one f xs]; rfl
/-- What is known of an argument's cells. -/
def GInts (w : World) (cs : List Value) : Prop := ∃ (A : Option Addr) (n c : Nat) (xs : List Int), cs = [.slice A n c] ∧ IntsAt w (.slice A n c) xs ∧ xs.length = n ∧ ∀ x ∈ xs, WfI x
def GBools (w : World) (cs : List Value) : Prop := ∃ (A : Option Addr) (n c : Nat) (xs : List Bool), cs = [.slice A n c] ∧ BoolsAt w (.slice A n c) xs ∧ xs.length = n
def GPairs (w : World) (cs : List Value) : Prop := ∃ (A : Option Addr) (n c : Nat) (xs : List (Int × Int)), cs = [.slice A n c] ∧ CubesAt w (.slice A n c) xs ∧ xs.length = n ∧ ∀ x ∈ xs, WfI x.1 ∧ WfI x.2
section
variable {H : Type} {enc : TypeId × Value → H} {w : World} {base : Nat} {spare : Nat → Bool} {held : Bool}
theorem rd_int {n : Nat} {cs : List Value} {y : DataW H × List MemPlace} (h : DataW.trod enc Try.prog w base spare held n 3 cs = some y) : ∃ x, cs = [.int .i64 x] ∧ WfI x := by
  obtain ⟨x, e, _, hw⟩ := DataW.trod_int Try.underlying3 h
  exact ⟨x, e, wf_i hw⟩
theorem rd_bool {n : Nat} {cs : List Value} {y : DataW H × List MemPlace} (h : DataW.trod enc Try.prog w base spare held n 4 cs = some y) : ∃ x, cs = [.bool x] := by
  obtain ⟨x, e, _⟩ := DataW.trod_bool Try.underlying4 h
  exact ⟨x, e⟩
theorem rd_ints {n : Nat} {cs : List Value} {y : DataW H × List MemPlace} (h : DataW.trod enc Try.prog w base spare held n 23 cs = some y) : GInts w cs := by
  obtain ⟨A, n, c, els, rfl, hr, rfl, _, hg⟩ := slice_rd (size := 1) Try.underlying23 (by kernel_rfl) (by decide) (fun cs => ∃ x, cs = [.int .i64 x] ∧ WfI x) (fun _ _ _ _ h => rd_int h) h
  obtain ⟨xs, h1, h2, h3⟩ := els_of (fun x : Int => [Value.int .i64 x]) WfI hg
  rw [flatMap_one] at h1
  exact ⟨A, _, c, xs, rfl, by rw [h1, ← h2] at hr; rw [← h2]; exact hr, h2, h3⟩
theorem rd_bools {n : Nat} {cs : List Value} {y : DataW H × List MemPlace} (h : DataW.trod enc Try.prog w base spare held n 69 cs = some y) : GBools w cs := by
  obtain ⟨A, n, c, els, rfl, hr, rfl, _, hg⟩ := slice_rd (size := 1) Try.underlying69 (by kernel_rfl) (by decide) (fun cs => ∃ x, cs = [.bool x]) (fun _ _ _ _ h => rd_bool h) h
  obtain ⟨xs, h1, h2, _⟩ := els_of (fun x : Bool => [Value.bool x]) (fun _ => True) (fun e he => by obtain ⟨x, hx⟩ := hg e he; exact ⟨x, hx, trivial⟩)
  rw [flatMap_one] at h1
  exact ⟨A, _, c, xs, rfl, by rw [h1, ← h2] at hr; rw [← h2]; exact hr, h2⟩
theorem rd_pair {t : TypeId} {f0 f1 : Field} (hs : Try.prog.underlying t = some (.struct #[f0, f1])) (h0 : f0.type = 3) (h1 : f1.type = 3) (hone : oneCellFields Try.prog #[f0, f1] = true) (hC : Try.prog.cellsOf t = 2) {n : Nat} {cs : List Value} {y : DataW H × List MemPlace} (hl : cs.length = 2) (h : DataW.trod enc Try.prog w base spare held n t cs = some y) : ∃ x : Int × Int, cs = [.int .i64 x.1, .int .i64 x.2] ∧ WfI x.1 ∧ WfI x.2 := by
  match cs, hl with
  | [c0, c1], _ =>
    obtain ⟨xs, n, _, hx, _, hlen, hg⟩ := DataW.trod_struct hs h
    obtain ⟨o0, k0⟩ := hone_of hone 0 f0 rfl
    obtain ⟨o1, k1⟩ := hone_of hone 1 f1 rfl
    match xs, hlen with
    | [y0, y1], _ =>
      have g0 : DataW.trod enc Try.prog w base spare held n f0.type [c0] = some y0 := by simpa [Value.cells, o0, k0] using hg 0 f0 rfl
      have g1 : DataW.trod enc Try.prog w base spare held n f1.type [c1] = some y1 := by simpa [Value.cells, o1, k1] using hg 1 f1 rfl
      rw [h0] at g0
      rw [h1] at g1
      obtain ⟨a, e0, w0⟩ := rd_int g0
      obtain ⟨b, e1, w1⟩ := rd_int g1
      injection e0 with e0
      injection e1 with e1
      subst e0 e1
      exact ⟨(a, b), rfl, w0, w1⟩
theorem rd_pairs {t e : TypeId} {f0 f1 : Field} (ht : Try.prog.underlying t = some (.slice e)) (hs : Try.prog.underlying e = some (.struct #[f0, f1])) (h0 : f0.type = 3) (h1 : f1.type = 3) (hone : oneCellFields Try.prog #[f0, f1] = true) (hC : Try.prog.cellsOf e = 2) {n : Nat} {cs : List Value} {y : DataW H × List MemPlace} (h : DataW.trod enc Try.prog w base spare held n t cs = some y) : GPairs w cs := by
  obtain ⟨A, n, c, els, rfl, hr, rfl, _, hg⟩ := slice_rd (size := 2) ht hC (by decide) (fun cs => ∃ x : Int × Int, cs = [.int .i64 x.1, .int .i64 x.2] ∧ WfI x.1 ∧ WfI x.2) (fun _ _ _ hl h => rd_pair hs h0 h1 hone hC hl h) h
  obtain ⟨xs, g1, g2, g3⟩ := els_of (fun x : Int × Int => [Value.int .i64 x.1, Value.int .i64 x.2]) (fun x => WfI x.1 ∧ WfI x.2) hg
  exact ⟨A, _, c, xs, rfl, by rw [g1, ← g2] at hr; rw [← g2]; exact hr, g2, g3⟩
end
theorem slice_val {P : Program} {w : World} {r : Reach} {b0 : Nat} {t e : TypeId} {v : Value} (ht : P.underlying t = some (.slice e)) (hv : Value.okWide P w r b0 t v) : ∃ A n c, v = .slice A n c := by
  simp only [Value.okWide, ht, Cell.okWide] at hv
  cases v <;> simp_all [Cell.ok]
section
variable {H : Type} {enc : TypeId × Value → H} {w : World} {r : Reach} {b0 base : Nat} {spare : Nat → Bool} {held : Bool} {v : Value} {d : DataW H} {p : List MemPlace}
/-- Arguments: an int, a slice of ints, of booleans, of pairs of ints. -/
def AInt (_ : World) (v : Value) : Prop := ∃ x : Int, v = .int .i64 x ∧ WfI x
theorem open_aint (hv : Value.okWide Try.prog w r b0 3 v) (h : DataW.Trod enc Try.prog w base spare held 3 v d p) : AInt w v := by
  obtain ⟨x, rfl, rfl, rfl, hw⟩ := open_int Try.underlying3 hv h
  exact ⟨x, rfl, wf_i hw⟩
def AInts (w : World) (v : Value) : Prop := ∃ xs : List Int, IntsAt w v xs ∧ ∀ x ∈ xs, WfI x
theorem open_aints (hv : Value.okWide Try.prog w r b0 23 v) (h : DataW.Trod enc Try.prog w base spare held 23 v d p) : AInts w v := by
  obtain ⟨A, n, c, rfl⟩ := slice_val Try.underlying23 hv
  obtain ⟨m, hm⟩ := h
  obtain ⟨A', n', c', xs, e, h1, h2, h3⟩ := rd_ints hm
  simp [Value.cells] at e
  obtain ⟨rfl, rfl, rfl⟩ := e
  exact ⟨xs, h1, h3⟩
def ABools (w : World) (v : Value) : Prop := ∃ xs : List Bool, BoolsAt w v xs
theorem open_abools (hv : Value.okWide Try.prog w r b0 69 v) (h : DataW.Trod enc Try.prog w base spare held 69 v d p) : ABools w v := by
  obtain ⟨A, n, c, rfl⟩ := slice_val Try.underlying69 hv
  obtain ⟨m, hm⟩ := h
  obtain ⟨A', n', c', xs, e, h1, h2⟩ := rd_bools hm
  simp [Value.cells] at e
  obtain ⟨rfl, rfl, rfl⟩ := e
  exact ⟨xs, h1⟩
def APairs (w : World) (v : Value) : Prop := ∃ xs : List (Int × Int), CubesAt w v xs ∧ ∀ x ∈ xs, WfI x.1 ∧ WfI x.2
end
end Go.Proofs.Ytkkkjbinfdohpaa

namespace Go.Proofs.Ytkkkjbinfdohpaa
set_option maxRecDepth 100000
open Go.RowKit Go.Joins Go.ChangeShapes Go.WideShapes Go.ChangeAt Go.Deep
section
variable {H : Type} {enc : TypeId × Value → H} {w : World} {r : Reach} {b0 base : Nat} {spare : Nat → Bool} {held : Bool} {v : Value} {d : DataW H} {p : List MemPlace}
/-- A circuit, as an argument. -/
def ACirc (w : World) (v : Value) : Prop := ∃ c : Cz, CircAt w v c ∧ WfI c.ins ∧ (∀ x ∈ c.next, WfI x) ∧ (∀ x ∈ c.gates, WfI x.1 ∧ WfI x.2) ∧ (∀ x ∈ c.outs, WfI x)
end
theorem CircAt.shape {w : World} {v : Value} {c : Cz} (h : CircAt w v c) : ∃ An cn Ag cg Ao co, v = .agg #[.int .i64 c.ins, .slice An c.next.length cn, .slice Ag c.gates.length cg, .slice Ao c.outs.length co] := by
  obtain ⟨vn, vg, vo, rfl, r1, r2, r3⟩ := h
  obtain ⟨An, cn, rfl, -⟩ := Row.shape r1
  obtain ⟨Ag, cg, rfl, -⟩ := Row.shape r2
  obtain ⟨Ao, co, rfl, -⟩ := Row.shape r3
  exact ⟨An, cn, Ag, cg, Ao, co, rfl⟩
def TCirc (c : Cz) : Ty := fun w v => CircAt w v c
theorem stb_circ (c : Cz) : Stb (fun _ => False) (TCirc c) := fun _ _ _ h ho => h.below (only_below ho)
/-- A circuit in a box of the law's. -/
structure BoxC (w : World) (g : Nat) (c : Cz) (vn vg vo : Value) : Prop where
  pc : PCells w g c.ins vn vg vo
  at_ : CircAt w (.agg #[.int .i64 c.ins, vn, vg, vo]) c
theorem BoxC.below {w w' : World} {g : Nat} {c : Cz} {vn vg vo : Value} (h : BoxC w g c vn vg vo) (hb : Below w.heap.size w w') : BoxC w' g c vn vg vo := ⟨h.pc.below hb, h.at_.below hb⟩
theorem BoxC.made {w : World} {c : Cz} {vn vg vo : Value} (t : TypeId) (h : CircAt w (.agg #[.int .i64 c.ins, vn, vg, vo]) c) : BoxC (w.alloc (.cells #[.int .i64 c.ins, vn, vg, vo] t)) w.heap.size c vn vg vo :=
  ⟨PCells.boxed _ _ _ _ _ _, h.below ((Below.refl _ _).alloc (Nat.le_refl _) _)⟩
end Go.Proofs.Ytkkkjbinfdohpaa
