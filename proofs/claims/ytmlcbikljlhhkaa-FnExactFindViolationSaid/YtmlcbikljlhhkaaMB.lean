import Derived.Test.YtmlcbikljlhhkaaGb
namespace Go.Proofs.Ytmlcbikljlhhkaa
open Go.RowKit
set_option maxRecDepth 100000
/-! A machine under construction: its box, its rows. -/
theorem append_intss {w : World} {ops : Array Oper} {rest : List Oper} {o : Oper} {a : Act} {Q : Exit → Act → World → Prop} (hgd : o.guard = none) (s x : Operand)
    (ho : o.op = .call { callee := .builtin .append, args := #[s, x], argTypes := #[59, 59] })
    (base : Nat) (v : Value) (n : Nat) (xs : List Value) (hs : a.eval s = v) (hown : w.ownsRow base 22 1 v n xs) (sv : Value) (m : Nat) (news : List Value) (hx : a.eval x = sv) (hr : Row w 1 sv m news) (h1 : ∀ u ∈ news, u.oneCell' = true)
    (h63 : n + m ≤ 1000000) (hbase : base ≤ w.heap.size)
    (h : ∀ v' w', w'.ownsRow base 22 1 v' (n + m) (xs ++ news) → w.grownBy w' v.ownBlock → (v'.ownBlock = v.ownBlock ∨ v'.ownBlock = some w.heap.size) → wpList Try.prog ops Q rest (a.put o.dst v') w') : wpList Try.prog ops Q (o :: rest) a w := by
  obtain ⟨i, hi, hz0, hz1, hz2⟩ := info_parts info_ints
  exact wpList_append_at hgd s x 59 ho base 22 i _ 1 24 Try.underlying59 hi hz0 hz1 hz2 rfl (by decide) v n xs hs hown sv m news hx hr h1 (by unfold maxLen; omega) (by omega) hbase h
section
variable {α : Type} {enc : List α → List Value} {to ti : TypeId} {B : Nat} {E : Nat → Prop} {w w' : World} {v : Value} {xss : List (List α)}
theorem OwnSE.grown (h : OwnSE enc to ti B E w v xss) {r : Option Nat} (hg : w.grownBy w' r) (hr : ∀ g, r = some g → ¬ E g) : OwnSE enc to ti B E w' v xss :=
  OwnSE.only (X := fun g => r = some g) h (Only.grown hg fun k hk => hk) fun g _ he hx => hr g hx he
theorem OwnSE.set (h : OwnSE enc to ti B E w v xss) {g i : Nat} {u : Value} (hg : g < B) : OwnSE enc to ti B E (w.setCell ⟨g, i, none⟩ u) v xss :=
  OwnSE.only (X := fun k => k = g) h (Only.grown (set_grown w g i u) fun k hk => (Option.some.inj hk).symm) fun k hk _ e => by omega
end
structure MB (gm : Nat) (ins : Int) (E1 E2 : Nat → Prop) (vN vO : Value) (xs ys : List (List Int)) (w : World) : Prop where
  box : w.heap[gm]? = some (.cells #[.int .i64 ins, vN, vO] 61 (0, 0))
  n : OwnIntSE (gm + 1) E1 w vN xs
  o : OwnIntSE (gm + 1) E2 w vO ys
  d : ∀ g, E1 g → ¬ E2 g
  l1 : ∀ g, E1 g → g < w.heap.size
  l2 : ∀ g, E2 g → g < w.heap.size
theorem mb_lt {gm : Nat} {ins : Int} {E1 E2 : Nat → Prop} {vN vO : Value} {xs ys : List (List Int)} {w : World} (h : MB gm ins E1 E2 vN vO xs ys w) : gm < w.heap.size := by
  rcases Nat.lt_or_ge gm w.heap.size with hl | hl
  · exact hl
  · have := h.box
    rw [Array.getElem?_eq_none hl] at this
    cases this
theorem MB.start {ins : Int} {w : World} (_ : True) : MB w.heap.size ins (fun _ => False) (fun _ => False) (.slice none 0 0) (.slice none 0 0) [] [] (w.alloc (.cells #[.int .i64 ins, .slice none 0 0, .slice none 0 0] 61)) :=
  ⟨heap_alloc_new _ _, OwnSE.nil _ _ _ _ _ _, OwnSE.nil _ _ _ _ _ _, fun _ h => h.elim, fun _ h => h.elim, fun _ h => h.elim⟩
section
variable {gm : Nat} {ins : Int} {E1 E2 : Nat → Prop} {vN vO : Value} {xs ys : List (List Int)} {w w' : World}
theorem MB.grown (h : MB gm ins E1 E2 vN vO xs ys w) {r : Option Nat} (hg : w.grownBy w' r) (h0 : r ≠ some gm) (h1 : ∀ g, r = some g → ¬ E1 g) (h2 : ∀ g, r = some g → ¬ E2 g) : MB gm ins E1 E2 vN vO xs ys w' :=
  ⟨(hg.block gm (mb_lt h) (fun e => h0 e.symm)).trans h.box, h.n.grown hg h1, h.o.grown hg h2, h.d, fun g he => Nat.lt_of_lt_of_le (h.l1 g he) hg.size, fun g he => Nat.lt_of_lt_of_le (h.l2 g he) hg.size⟩
theorem MB.below (h : MB gm ins E1 E2 vN vO xs ys w) (hb : Below w.heap.size w w') : MB gm ins E1 E2 vN vO xs ys w' :=
  h.grown (r := none) ⟨hb.os, hb.tape, hb.output, hb.size, fun k hk _ => hb.block k hk⟩ (by simp) (by simp) (by simp)
theorem MB.cells (h : MB gm ins E1 E2 vN vO xs ys w) : w.cell? ⟨gm, 0, none⟩ = some (.int .i64 ins) ∧ w.cell? ⟨gm, 1, none⟩ = some vN ∧ w.cell? ⟨gm, 2, none⟩ = some vO ∧ w.frozen? ⟨gm, 1, none⟩ = false ∧ w.frozen? ⟨gm, 2, none⟩ = false :=
  ⟨blk_cell h.box 0, blk_cell h.box 1, blk_cell h.box 2, blk_free h.box 1, blk_free h.box 2⟩
/-- A row more of next states. -/
theorem MB.addN {u v' : Value} {x : List Int} {vs : List Value} (h : MB gm ins E1 E2 vN vO xs ys w) (q1 : vs.length = xs.length) (q3 : ∀ (i : Nat) (x : List Int) (u : Value), xs[i]? = some x → vs[i]? = some u → w.ownsRow (gm + 1) 3 1 u x.length (ints x)) (q4 : vs.Pairwise Apart) (q5 : ∀ u ∈ vs, Apart u vN) (q6 : ∀ g, vN.ownBlock = some g → E1 g) (q7 : ∀ u ∈ vs, ∀ g, u.ownBlock = some g → E1 g)
    (hu : w.ownsRow (gm + 1) 3 1 u x.length (ints x)) (n1 : ∀ g, u.ownBlock = some g → ¬ E1 g) (n2 : ∀ g, u.ownBlock = some g → ¬ E2 g) (hown : w'.ownsRow (gm + 1) 22 1 v' (xs.length + 1) (vs ++ [u])) (hg : w.grownBy w' vN.ownBlock) (hat : v'.ownBlock = vN.ownBlock ∨ v'.ownBlock = some w.heap.size) :
    MB gm ins (fun g => E1 g ∨ u.ownBlock = some g ∨ v'.ownBlock = some g) E2 v' vO (xs ++ [x]) ys (w'.setCell ⟨gm, 1, none⟩ v') := by
  have hgm : vN.ownBlock ≠ some gm := fun e => by
    obtain ⟨vs', _, p2, _⟩ := h.n
    have := (p2.lt gm e).1
    omega
  have hbox := (hg.block gm (mb_lt h) (fun e => hgm e.symm)).trans h.box
  have hv2 : ∀ g, v'.ownBlock = some g → ¬ E2 g := fun g hv => by
    rcases hat with e | e
    · rw [e] at hv
      exact h.d g (q6 g hv)
    · rw [e] at hv
      intro he
      have h3 := h.l2 g he
      have h4 := Option.some.inj hv
      omega
  refine ⟨heap_setCell_same w' gm 1 _ _ v' hbox, OwnSE.set (se_append q1 q3 q4 q5 q6 q7 hu n1 hown hg hat) (Nat.lt_succ_self _), (h.o.grown hg fun g hv => h.d g (q6 g hv)).set (Nat.lt_succ_self _), ?_, ?_, ?_⟩
  · rintro g (he | he | he)
    · exact h.d g he
    · exact n2 g he
    · exact hv2 g he
  · rintro g (he | he | he)
    · have h1 := h.l1 g he; have h2 := hg.size; have h3 := (set_grown w' gm 1 v').size; omega
    · have h1 := (hu.lt g he).2; have h2 := hg.size; have h3 := (set_grown w' gm 1 v').size; omega
    · have h1 := (hown.lt g he).2; have h3 := (set_grown w' gm 1 v').size; omega
  · intro g he
    have h1 := h.l2 g he; have h2 := hg.size; have h3 := (set_grown w' gm 1 v').size; omega
/-- A row more of outputs. -/
theorem MB.addO {u v' : Value} {x : List Int} {vs : List Value} (h : MB gm ins E1 E2 vN vO xs ys w) (q1 : vs.length = ys.length) (q3 : ∀ (i : Nat) (x : List Int) (u : Value), ys[i]? = some x → vs[i]? = some u → w.ownsRow (gm + 1) 3 1 u x.length (ints x)) (q4 : vs.Pairwise Apart) (q5 : ∀ u ∈ vs, Apart u vO) (q6 : ∀ g, vO.ownBlock = some g → E2 g) (q7 : ∀ u ∈ vs, ∀ g, u.ownBlock = some g → E2 g)
    (hu : w.ownsRow (gm + 1) 3 1 u x.length (ints x)) (n1 : ∀ g, u.ownBlock = some g → ¬ E1 g) (n2 : ∀ g, u.ownBlock = some g → ¬ E2 g) (hown : w'.ownsRow (gm + 1) 22 1 v' (ys.length + 1) (vs ++ [u])) (hg : w.grownBy w' vO.ownBlock) (hat : v'.ownBlock = vO.ownBlock ∨ v'.ownBlock = some w.heap.size) :
    MB gm ins E1 (fun g => E2 g ∨ u.ownBlock = some g ∨ v'.ownBlock = some g) vN v' xs (ys ++ [x]) (w'.setCell ⟨gm, 2, none⟩ v') := by
  have hgm : vO.ownBlock ≠ some gm := fun e => by
    obtain ⟨vs', _, p2, _⟩ := h.o
    have := (p2.lt gm e).1
    omega
  have hbox := (hg.block gm (mb_lt h) (fun e => hgm e.symm)).trans h.box
  have hv1 : ∀ g, v'.ownBlock = some g → ¬ E1 g := fun g hv => by
    rcases hat with e | e
    · rw [e] at hv
      exact fun he => h.d g he (q6 g hv)
    · rw [e] at hv
      intro he
      have h3 := h.l1 g he
      have h4 := Option.some.inj hv
      omega
  refine ⟨heap_setCell_same w' gm 2 _ _ v' hbox, (h.n.grown hg fun g hv he => h.d g he (q6 g hv)).set (Nat.lt_succ_self _), OwnSE.set (se_append q1 q3 q4 q5 q6 q7 hu n2 hown hg hat) (Nat.lt_succ_self _), ?_, ?_, ?_⟩
  · rintro g h1 (he | he | he)
    · exact h.d g h1 he
    · exact n1 g he h1
    · exact hv1 g he h1
  · intro g he
    have h1 := h.l1 g he; have h2 := hg.size; have h3 := (set_grown w' gm 2 v').size; omega
  · rintro g (he | he | he)
    · have h1 := h.l2 g he; have h2 := hg.size; have h3 := (set_grown w' gm 2 v').size; omega
    · have h1 := (hu.lt g he).2; have h2 := hg.size; have h3 := (set_grown w' gm 2 v').size; omega
    · have h1 := (hown.lt g he).2; have h3 := (set_grown w' gm 2 v').size; omega
end
end Go.Proofs.Ytmlcbikljlhhkaa
