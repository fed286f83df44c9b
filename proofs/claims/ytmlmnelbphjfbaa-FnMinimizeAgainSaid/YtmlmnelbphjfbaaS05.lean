import Derived.Test.YtmlmnelbphjfbaaS04
import Derived.Test.YtmlmnelbphjfbaaS02
set_option linter.unusedVariables false
set_option linter.unusedSimpArgs false
namespace Go.Proofs.Ytmlmnelbphjfbaa
open Go.RowKit
set_option maxRecDepth 100000
/-! What laws do with machines. -/
def MachAt (w : World) (v : Value) (m : Mz) : Prop := ∃ vn vo, v = .agg #[.int .i64 m.ins, vn, vo] ∧ SSAt ints w vn m.next ∧ SSAt ints w vo m.out
theorem MachAt.below {w w' : World} {v : Value} {m : Mz} (h : MachAt w v m) (hb : Below w.heap.size w w') : MachAt w' v m := by
  obtain ⟨vn, vo, hv, h1, h2⟩ := h
  exact ⟨vn, vo, hv, h1.below hb, h2.below hb⟩
theorem MachAt.shape {w : World} {v : Value} {m : Mz} (h : MachAt w v m) : ∃ An cn Ao co, v = .agg #[.int .i64 m.ins, .slice An m.next.length cn, .slice Ao m.out.length co] ∧ cn ≤ maxLen ∧ co ≤ maxLen ∧ m.next.length ≤ cn ∧ m.out.length ≤ co := by
  obtain ⟨vn, vo, rfl, h1, h2⟩ := h
  obtain ⟨An, cn, rfl, h3, h4⟩ := h1.shape
  obtain ⟨Ao, co, rfl, h5, h6⟩ := h2.shape
  exact ⟨An, cn, Ao, co, rfl, h4, h6, h3, h5⟩
/-- The cells of a machine in memory. -/
def MCells (w : World) (g : Nat) (i : Int) (vn vo : Value) : Prop := g < w.heap.size ∧ w.cell? ⟨g, 0, none⟩ = some (.int .i64 i) ∧ w.cell? ⟨g, 1, none⟩ = some vn ∧ w.cell? ⟨g, 2, none⟩ = some vo
theorem MCells.below {w w' : World} {g : Nat} {i : Int} {vn vo : Value} (h : MCells w g i vn vo) (hb : Below w.heap.size w w') : MCells w' g i vn vo := by
  obtain ⟨hg, c0, c1, c2⟩ := h
  exact ⟨Nat.lt_of_lt_of_le hg hb.size, (hb.cell (p := ⟨g, 0, none⟩) hg).trans c0, (hb.cell (p := ⟨g, 1, none⟩) hg).trans c1, (hb.cell (p := ⟨g, 2, none⟩) hg).trans c2⟩
theorem MCells.boxed (w : World) (i : Int) (vn vo : Value) (t : TypeId) : MCells (w.alloc (.cells #[.int .i64 i, vn, vo] t)) w.heap.size i vn vo :=
  ⟨by simp, World.cell?_alloc_new _ _ _ 0, World.cell?_alloc_new _ _ _ 1, World.cell?_alloc_new _ _ _ 2⟩
theorem bel_alloc (w : World) (o : Obj) : Below w.heap.size w (w.alloc o) := (Below.refl _ _).alloc (Nat.le_refl _) o
theorem set_grownM (w : World) (g i : Nat) (v : Value) : w.grownBy (w.setCell ⟨g, i, none⟩ v) (some g) :=
  ⟨rfl, rfl, rfl, by simp [World.setCell], fun k _ hk => heap_setCell_other w ⟨g, i, none⟩ k _ (fun e => hk (by simp [e]))⟩
theorem own_setSS {α : Type} {enc : List α → List Value} {to ti : TypeId} {B T : Nat} {w : World} {v : Value} {xss : List (List α)} {g i : Nat} {u : Value} (h : OwnSS enc to ti B T w v xss) (hg : g < B) : OwnSS enc to ti B T (w.setCell ⟨g, i, none⟩ u) v xss :=
  OwnSS.only h (Only.grown (E := fun k => k = g) (set_grownM w g i u) (fun k hk => (Option.some.inj hk).symm)) (fun k hk _ e => by omega)
end Go.Proofs.Ytmlmnelbphjfbaa

namespace Go.Proofs.Ytmlmnelbphjfbaa
open Go.RowKit
set_option maxRecDepth 100000
/-! The rows of a machine, by the program. -/
namespace Cir
def rowN (d : Ci) (s : Nat) : List Nat := (List.range (2 ^ d.ins)).map (nextOf d s)
def rowO (d : Ci) (s : Nat) : List Nat := (List.range (2 ^ d.ins)).map fun x => num (outsOf d s x)
def rowI (d : Ci) (s : Nat) : List Int := (rowN d s).map (idxOf (reach d))
/-- The machine of a circuit. -/
def machN (d : Ci) : Mz := { ins := d.ins, next := (reach d).map (rowI d), out := (reach d).map fun s => nats (rowO d s) }
def machI (c : Cz) : Mz := if valid c then machN (nat c) else { ins := 0, next := [], out := [] }
end Cir
/-- Two rows of the call's own, apart. -/
def OwnTwo (xs ys : List Int) (w : World) (e : Ending) (w' : World) : Prop := ∃ a b, e = .returned (.tuple #[a, b]) ∧ w'.ownsRow w.heap.size 3 1 a xs.length (ints xs) ∧ w'.ownsRow w.heap.size 3 1 b ys.length (ints ys) ∧ Apart a b ∧ Below w.heap.size w w'
end Go.Proofs.Ytmlmnelbphjfbaa

namespace Go.Proofs.Ytmlmnelbphjfbaa
open Go.RowKit
set_option maxRecDepth 100000
/-! A machine under construction: its box, its rows. -/
theorem append_intss {w : World} {ops : Array Oper} {rest : List Oper} {o : Oper} {a : Act} {Q : Exit → Act → World → Prop} (hgd : o.guard = none) (s x : Operand)
    (ho : o.op = .call { callee := .builtin .append, args := #[s, x], argTypes := #[23, 23] })
    (base : Nat) (v : Value) (n : Nat) (xs : List Value) (hs : a.eval s = v) (hown : w.ownsRow base 28 1 v n xs) (sv : Value) (m : Nat) (news : List Value) (hx : a.eval x = sv) (hr : Row w 1 sv m news) (h1 : ∀ u ∈ news, u.oneCell' = true)
    (h63 : n + m ≤ 1000000) (hbase : base ≤ w.heap.size)
    (h : ∀ v' w', w'.ownsRow base 28 1 v' (n + m) (xs ++ news) → w.grownBy w' v.ownBlock → (v'.ownBlock = v.ownBlock ∨ v'.ownBlock = some w.heap.size) → wpList Try.prog ops Q rest (a.put o.dst v') w') : wpList Try.prog ops Q (o :: rest) a w := by
  obtain ⟨i, hi, hz0, hz1, hz2⟩ := info_parts info_ints
  exact wpList_append_at hgd s x 23 ho base 28 i _ 1 24 Try.underlying23 hi hz0 hz1 hz2 rfl (by decide) v n xs hs hown sv m news hx hr h1 (by unfold maxLen; omega) (by omega) hbase h
section
variable {α : Type} {enc : List α → List Value} {to ti : TypeId} {B : Nat} {E : Nat → Prop} {w w' : World} {v : Value} {xss : List (List α)}
theorem OwnSE.grown (h : OwnSE enc to ti B E w v xss) {r : Option Nat} (hg : w.grownBy w' r) (hr : ∀ g, r = some g → ¬ E g) : OwnSE enc to ti B E w' v xss :=
  OwnSE.only (X := fun g => r = some g) h (Only.grown hg fun k hk => hk) fun g _ he hx => hr g hx he
theorem OwnSE.set (h : OwnSE enc to ti B E w v xss) {g i : Nat} {u : Value} (hg : g < B) : OwnSE enc to ti B E (w.setCell ⟨g, i, none⟩ u) v xss :=
  OwnSE.only (X := fun k => k = g) h (Only.grown (set_grown w g i u) fun k hk => (Option.some.inj hk).symm) fun k hk _ e => by omega
end
structure MB (gm : Nat) (ins : Int) (E1 E2 : Nat → Prop) (vN vO : Value) (xs ys : List (List Int)) (w : World) : Prop where
  box : w.heap[gm]? = some (.cells #[.int .i64 ins, vN, vO] 25 (0, 0))
  n : OwnIntSE (gm + 1) E1 w vN xs
  o : OwnIntSE (gm + 1) E2 w vO ys
  d : ∀ g, E1 g → ¬ E2 g
  l1 : ∀ g, E1 g → g < w.heap.size
  l2 : ∀ g, E2 g → g < w.heap.size
theorem mb_lt {gm : Nat} {ins : Int} {E1 E2 : Nat → Prop} {vN vO : Value} {xs ys : List (List Int)} {w : World} (h : MB gm ins E1 E2 vN vO xs ys w) : gm < w.heap.size := by
  rcases Nat.lt_or_ge gm w.heap.size with hl | hl
  · exact hl
  · have := h.box
    rw [Array.getElem?_eq_none hl] at this
    cases this
theorem MB.start {ins : Int} {w : World} (_ : True) : MB w.heap.size ins (fun _ => False) (fun _ => False) (.slice none 0 0) (.slice none 0 0) [] [] (w.alloc (.cells #[.int .i64 ins, .slice none 0 0, .slice none 0 0] 25)) :=
  ⟨heap_alloc_new _ _, OwnSE.nil _ _ _ _ _ _, OwnSE.nil _ _ _ _ _ _, fun _ h => h.elim, fun _ h => h.elim, fun _ h => h.elim⟩
section
variable {gm : Nat} {ins : Int} {E1 E2 : Nat → Prop} {vN vO : Value} {xs ys : List (List Int)} {w w' : World}
theorem MB.grown (h : MB gm ins E1 E2 vN vO xs ys w) {r : Option Nat} (hg : w.grownBy w' r) (h0 : r ≠ some gm) (h1 : ∀ g, r = some g → ¬ E1 g) (h2 : ∀ g, r = some g → ¬ E2 g) : MB gm ins E1 E2 vN vO xs ys w' :=
  ⟨(hg.block gm (mb_lt h) (fun e => h0 e.symm)).trans h.box, h.n.grown hg h1, h.o.grown hg h2, h.d, fun g he => Nat.lt_of_lt_of_le (h.l1 g he) hg.size, fun g he => Nat.lt_of_lt_of_le (h.l2 g he) hg.size⟩
theorem MB.below (h : MB gm ins E1 E2 vN vO xs ys w) (hb : Below w.heap.size w w') : MB gm ins E1 E2 vN vO xs ys w' :=
  h.grown (r := none) ⟨hb.os, hb.tape, hb.output, hb.size, fun k hk _ => hb.block k hk⟩ (by simp) (by simp) (by simp)
theorem MB.cells (h : MB gm ins E1 E2 vN vO xs ys w) : w.cell? ⟨gm, 0, none⟩ = some (.int .i64 ins) ∧ w.cell? ⟨gm, 1, none⟩ = some vN ∧ w.cell? ⟨gm, 2, none⟩ = some vO ∧ w.frozen? ⟨gm, 1, none⟩ = false ∧ w.frozen? ⟨gm, 2, none⟩ = false :=
  ⟨blk_cell h.box 0, blk_cell h.box 1, blk_cell h.box 2, blk_free h.box 1, blk_free h.box 2⟩
/-- A row more of next states. -/
theorem MB.addN {u v' : Value} {x : List Int} {vs : List Value} (h : MB gm ins E1 E2 vN vO xs ys w) (q1 : vs.length = xs.length) (q3 : ∀ (i : Nat) (x : List Int) (u : Value), xs[i]? = some x → vs[i]? = some u → w.ownsRow (gm + 1) 3 1 u x.length (ints x)) (q4 : vs.Pairwise Apart) (q5 : ∀ u ∈ vs, Apart u vN) (q6 : ∀ g, vN.ownBlock = some g → E1 g) (q7 : ∀ u ∈ vs, ∀ g, u.ownBlock = some g → E1 g)
    (hu : w.ownsRow (gm + 1) 3 1 u x.length (ints x)) (n1 : ∀ g, u.ownBlock = some g → ¬ E1 g) (n2 : ∀ g, u.ownBlock = some g → ¬ E2 g) (hown : w'.ownsRow (gm + 1) 28 1 v' (xs.length + 1) (vs ++ [u])) (hg : w.grownBy w' vN.ownBlock) (hat : v'.ownBlock = vN.ownBlock ∨ v'.ownBlock = some w.heap.size) :
    MB gm ins (fun g => E1 g ∨ u.ownBlock = some g ∨ v'.ownBlock = some g) E2 v' vO (xs ++ [x]) ys (w'.setCell ⟨gm, 1, none⟩ v') := by
  have hgm : vN.ownBlock ≠ some gm := fun e => by
    obtain ⟨vs', _, p2, _⟩ := h.n
    have := (p2.lt gm e).1
    omega
  have hbox := (hg.block gm (mb_lt h) (fun e => hgm e.symm)).trans h.box
  have hv2 : ∀ g, v'.ownBlock = some g → ¬ E2 g := fun g hv => by
    rcases hat with e | e
    · rw [e] at hv
      exact h.d g (q6 g hv)
    · rw [e] at hv
      intro he
      have h3 := h.l2 g he
      have h4 := Option.some.inj hv
      omega
  refine ⟨heap_setCell_same w' gm 1 _ _ v' hbox, OwnSE.set (se_append q1 q3 q4 q5 q6 q7 hu n1 hown hg hat) (Nat.lt_succ_self _), (h.o.grown hg fun g hv => h.d g (q6 g hv)).set (Nat.lt_succ_self _), ?_, ?_, ?_⟩
  · rintro g (he | he | he)
    · exact h.d g he
    · exact n2 g he
    · exact hv2 g he
  · rintro g (he | he | he)
    · have h1 := h.l1 g he; have h2 := hg.size; have h3 := (set_grown w' gm 1 v').size; omega
    · have h1 := (hu.lt g he).2; have h2 := hg.size; have h3 := (set_grown w' gm 1 v').size; omega
    · have h1 := (hown.lt g he).2; have h3 := (set_grown w' gm 1 v').size; omega
  · intro g he
    have h1 := h.l2 g he; have h2 := hg.size; have h3 := (set_grown w' gm 1 v').size; omega
/-- A row more of outputs. -/
theorem MB.addO {u v' : Value} {x : List Int} {vs : List Value} (h : MB gm ins E1 E2 vN vO xs ys w) (q1 : vs.length = ys.length) (q3 : ∀ (i : Nat) (x : List Int) (u : Value), ys[i]? = some x → vs[i]? = some u → w.ownsRow (gm + 1) 3 1 u x.length (ints x)) (q4 : vs.Pairwise Apart) (q5 : ∀ u ∈ vs, Apart u vO) (q6 : ∀ g, vO.ownBlock = some g → E2 g) (q7 : ∀ u ∈ vs, ∀ g, u.ownBlock = some g → E2 g)
    (hu : w.ownsRow (gm + 1) 3 1 u x.length (ints x)) (n1 : ∀ g, u.ownBlock = some g → ¬ E1 g) (n2 : ∀ g, u.ownBlock = some g → ¬ E2 g) (hown : w'.ownsRow (gm + 1) 28 1 v' (ys.length + 1) (vs ++ [u])) (hg : w.grownBy w' vO.ownBlock) (hat : v'.ownBlock = vO.ownBlock ∨ v'.ownBlock = some w.heap.size) :
    MB gm ins E1 (fun g => E2 g ∨ u.ownBlock = some g ∨ v'.ownBlock = some g) vN v' xs (ys ++ [x]) (w'.setCell ⟨gm, 2, none⟩ v') := by
  have hgm : vO.ownBlock ≠ some gm := fun e => by
    obtain ⟨vs', _, p2, _⟩ := h.o
    have := (p2.lt gm e).1
    omega
  have hbox := (hg.block gm (mb_lt h) (fun e => hgm e.symm)).trans h.box
  have hv1 : ∀ g, v'.ownBlock = some g → ¬ E1 g := fun g hv => by
    rcases hat with e | e
    · rw [e] at hv
      exact fun he => h.d g he (q6 g hv)
    · rw [e] at hv
      intro he
      have h3 := h.l1 g he
      have h4 := Option.some.inj hv
      omega
  refine ⟨heap_setCell_same w' gm 2 _ _ v' hbox, (h.n.grown hg fun g hv he => h.d g he (q6 g hv)).set (Nat.lt_succ_self _), OwnSE.set (se_append q1 q3 q4 q5 q6 q7 hu n2 hown hg hat) (Nat.lt_succ_self _), ?_, ?_, ?_⟩
  · rintro g h1 (he | he | he)
    · exact h.d g h1 he
    · exact n1 g he h1
    · exact hv1 g he h1
  · intro g he
    have h1 := h.l1 g he; have h2 := hg.size; have h3 := (set_grown w' gm 2 v').size; omega
  · rintro g (he | he | he)
    · have h1 := h.l2 g he; have h2 := hg.size; have h3 := (set_grown w' gm 2 v').size; omega
    · have h1 := (hu.lt g he).2; have h2 := hg.size; have h3 := (set_grown w' gm 2 v').size; omega
    · have h1 := (hown.lt g he).2; have h3 := (set_grown w' gm 2 v').size; omega
end
end Go.Proofs.Ytmlmnelbphjfbaa

namespace Go.Proofs.Ytmlmnelbphjfbaa
open Go.RowKit
set_option maxRecDepth 100000
/-- A machine of the call's own, in blocks from B up to T. -/
def OwnMachE (B T : Nat) (v : Value) (m : Mz) (w : World) : Prop :=
  ∃ vn vo E1 E2, v = .agg #[.int .i64 m.ins, vn, vo] ∧ (∀ g, E1 g → g < T) ∧ (∀ g, E2 g → g < T) ∧ (∀ g, E1 g → ¬ E2 g) ∧ OwnIntSE B E1 w vn m.next ∧ OwnIntSE B E2 w vo m.out
theorem OwnMachE.at {B T : Nat} {v : Value} {m : Mz} {w : World} (h : OwnMachE B T v m w) : MachAt w v m := by
  obtain ⟨vn, vo, E1, E2, hv, _, _, _, h1, h2⟩ := h
  exact ⟨vn, vo, hv, OwnSE.at h1, OwnSE.at h2⟩
theorem OwnMachE.only {X : Nat → Prop} {B T : Nat} {v : Value} {m : Mz} {w w' : World} (h : OwnMachE B T v m w) (ho : Only X w w') (hE : ∀ g, B ≤ g → g < T → ¬ X g) : OwnMachE B T v m w' := by
  obtain ⟨vn, vo, E1, E2, hv, e1, e2, e3, h1, h2⟩ := h
  exact ⟨vn, vo, E1, E2, hv, e1, e2, e3, OwnSE.only h1 ho (fun g hb he => hE g hb (e1 g he)), OwnSE.only h2 ho (fun g hb he => hE g hb (e2 g he))⟩
/-- A machine of which all cells of the rows hold numbers that go on from k. -/
def RunMach (B T : Nat) (i : Int) (v : Value) (ns os : List Nat) (k : Nat) (w : World) : Prop :=
  ∃ vn vo E1 E2, v = .agg #[.int .i64 i, vn, vo] ∧ (∀ g, E1 g → g < T) ∧ (∀ g, E2 g → g < T) ∧ OwnVS B E1 w vn (runs k ns) ∧ OwnVS B E2 w vo (runs (k + ns.sum) os)
theorem RunMach.only {X : Nat → Prop} {B T : Nat} {i : Int} {v : Value} {ns os : List Nat} {k : Nat} {w w' : World} (h : RunMach B T i v ns os k w) (ho : Only X w w') (hE : ∀ g, B ≤ g → g < T → ¬ X g) : RunMach B T i v ns os k w' := by
  obtain ⟨vn, vo, E1, E2, hv, e1, e2, h1, h2⟩ := h
  exact ⟨vn, vo, E1, E2, hv, e1, e2, OwnSE.only h1 ho (fun g hb he => hE g hb (e1 g he)), OwnSE.only h2 ho (fun g hb he => hE g hb (e2 g he))⟩
theorem total_map {α : Type} (xss : List (List α)) : total xss = (xss.map List.length).sum := rfl
end Go.Proofs.Ytmlmnelbphjfbaa

namespace Go.Proofs.Ytmlmnelbphjfbaa
open Go.RowKit
set_option maxRecDepth 100000
/-! MachineOf, by the program. -/
/-- A machine of the call's own, as a result. -/
def OwnMachR (m : Mz) (w : World) (e : Ending) (w' : World) : Prop := ∃ v, e = .returned v ∧ OwnMachE w.heap.size w'.heap.size v m w' ∧ Below w.heap.size w w'
theorem rowI_take {d : Ci} {s j n : Nat} (h : (Cir.rowN d s)[j]? = some n) : ints ((Cir.rowI d s).take (j + 1) ++ nats ((Cir.rowN d s).drop (j + 1))) = (ints ((Cir.rowI d s).take j ++ nats ((Cir.rowN d s).drop j))).set j (.int .i64 (idxOf (Cir.reach d) n)) := by
  obtain ⟨hj, hn⟩ := List.getElem?_eq_some_iff.1 h
  have e1 : (Cir.rowI d s)[j]? = some (idxOf (Cir.reach d) n) := by unfold Cir.rowI; rw [List.getElem?_map, h]; rfl
  have hl : ((Cir.rowI d s).take j).length = j := by
    have : (Cir.rowI d s).length = (Cir.rowN d s).length := by unfold Cir.rowI; simp
    rw [List.length_take]; omega
  have e2 : (Cir.rowN d s).drop j = n :: (Cir.rowN d s).drop (j + 1) := by rw [List.drop_eq_getElem_cons hj, hn]
  unfold ints
  rw [← List.map_set, take_snoc e1, e2]
  unfold nats
  rw [List.map_cons, List.set_append_right _ _ (by omega), hl, Nat.sub_self, List.set_cons_zero, List.append_assoc]
  rfl
end Go.Proofs.Ytmlmnelbphjfbaa

namespace Go.Proofs.Ytmlmnelbphjfbaa
open Go.RowKit
/-! An append in a drawn region, with the place of the new row. -/
def JApp2 (T B : Nat) (e : TypeId) (size : Nat) (v : Value) (n : Nat) (cs news : List Value) : Option Value → World → Prop
  | none, w => w.ownsRow B e size v n cs
  | some v', w => w.ownsRow B e size v' (n + 1) (cs ++ news) ∧ ∀ g, v'.ownBlock = some g → v.ownBlock = some g ∨ T ≤ g
@[reducible] def appRS2 (Pg : Program) (ops : Array Oper) (w : World) (a : Act) (B : Nat) (e : TypeId) (size : Nat) (v : Value) (n : Nat) (cs news : List Value) (d : Nat) : RS :=
  { P := Pg, ops := ops, E := fun g => v.ownBlock = some g, F := fun _ => False, rd := none, w0 := w, J := JApp2 w.heap.size B e size v n cs news, d := d, a0 := a }
theorem appRS2_ok {Pg : Program} {ops : Array Oper} {w : World} {a : Act} {B : Nat} {e : TypeId} {size : Nat} {v : Value} {n : Nat} {cs news : List Value} {d : Nat} (hown : w.ownsRow B e size v n cs) : (appRS2 Pg ops w a B e size v n cs news d).Ok :=
  ⟨fun _ h => h.elim, fun ov w1 w2 hj ho => by
    cases ov with
    | none => exact own_below hj (only_below ho)
    | some v' => exact ⟨own_below hj.1 (only_below ho), hj.2⟩,
    fun _ _ e => (by cases e), fun g hg => (hown.lt g hg).2⟩
section
variable {S : RS} {Fin : List Ty → Prop} {o : Oper} {l : List Oper} {i : Nat} {τs : List Ty}
theorem rs_append2 (hd : i = S.d) (B : Nat) (e t : TypeId) (size : Nat) (v : Value) (n : Nat) (cs news : List Value) (hJ : S.J = JApp2 S.w0.heap.size B e size v n cs news) (hrd : S.rd = none) (hE : ∀ g, v.ownBlock = some g → S.E g) (hB : B ≤ S.w0.heap.size)
    (x y : Nat) (ho : o.op = .call { callee := .builtin .append, args := #[.tmp x, .tmp y], argTypes := #[t, t] }) (jx jy : Nat) (hx : writer S.ops i x = some jx) (hy : writer S.ops i y = some jy) (hTx : tys τs jx = TEq v) (hTy : tys τs jy = TNew S.E size 1 news)
    (inf : TypeInfo) (z : Value) (bytes : Nat) (ht : S.P.underlying t = some (.slice e)) (hi : S.P.info? e = some inf) (hz : inf.zero = some z) (hsize : inf.size = size) (hby : inf.bytes = bytes) (hzs : z.cells.size = size) (hsz : 0 < size) (h63 : n ≤ 1000000) (hbb : bytes ≤ 1000) (hone : ∀ u ∈ news, u.oneCell' = true)
    (rest : RSeq S Fin l (i + 1) (TAny :: τs)) : RSeq S Fin (o :: l) i τs := by
  intro _
  refine ⟨TAny, stb_any _, fun k ov ρ w hk hI hov hK => ?_, rest⟩
  obtain rfl := hov (by rw [hd]; exact ancB_self _ _ _)
  rw [ho] at hK
  have h1 := hK.1
  have h2 := hK.2.1
  rw [hx] at h1
  rw [hy] at h2
  simp only [hTx] at h1
  simp only [hTy] at h2
  have h1' : ρ (.tmp x) = v := h1
  have h2' : Row w size (ρ (.tmp y)) 1 news := h2.1
  have hown : w.ownsRow B e size v n cs := by have := hI.2.2; rw [hJ] at this; exact this
  obtain ⟨v', w', hrun, hown', hgr, hat⟩ := run_append_row_at (P := S.P) w B t o.type e inf z size bytes ht hi hz hsize hby hzs hsz v n cs hown _ 1 news h2' hone (by unfold maxLen; omega) (Nat.le_trans (Nat.mul_le_mul (show n + 1 ≤ 1000001 by omega) hbb) (by decide)) (Nat.le_trans hB hI.2.1.size)
  have hre : (execOp ρ o).run S.P w = .ok (.value v') w' := by
    unfold execOp
    simp only [ho, resolve, invoke, builtin, Sem.run_bind, Sem.run_pure, Result.andThen_ok, List.map_toArray, List.map_cons, List.map_nil, h1', hrun]
  unfold Good
  rw [hre]
  have hon : Only S.E w w' := Only.grown hgr hE
  refine ⟨trivial, ⟨?_, hI.2.1.trans hon, ?_⟩, hon⟩
  · rw [hrd]; trivial
  · rw [if_pos hd, hJ]
    refine ⟨hown', fun g hg => ?_⟩
    rcases hat with h | h
    · exact .inl (h.symm.trans hg)
    · have := Option.some.inj (h.symm.trans hg)
      have h5 := hI.2.1.size
      exact .inr (by omega)
end
theorem apart_loc {T : Nat} {v v' u : Value} (h : Apart v u) (hl : ∀ g, v'.ownBlock = some g → v.ownBlock = some g ∨ T ≤ g) (hu : ∀ g, u.ownBlock = some g → g < T) : Apart v' u := fun g h1 h2 => by
  rcases hl g h1 with h3 | h3
  · exact h g h3 h2
  · have := hu g h2; omega
end Go.Proofs.Ytmlmnelbphjfbaa

namespace Go.Proofs.Ytmlmnelbphjfbaa
open Go.RowKit
/-! Rows that lie in blocks of a set: they stay while only other blocks are written. -/
def RowIn (F : Nat → Prop) (w : World) (size : Nat) (v : Value) (n : Nat) (cs : List Value) : Prop := Row w size v n cs ∧ (0 < n → ∀ g, v.ownBlock = some g → F g)
/-- The blocks from B on. -/
def From (B : Nat) : Nat → Prop := fun g => B ≤ g
theorem RowIn.only {F E : Nat → Prop} {w w' : World} {size n : Nat} {v : Value} {cs : List Value} (h : RowIn F w size v n cs) (ho : Only E w w') (hE : ∀ g, F g → ¬ E g) : RowIn F w' size v n cs := by
  obtain ⟨⟨h1, A, c, rfl, h2, h3, h4⟩, h5⟩ := h
  refine ⟨⟨h1, A, c, rfl, h2, h3, fun hn => ?_⟩, h5⟩
  obtain ⟨b, o, rfl, hb, hc⟩ := h4 hn
  refine ⟨b, o, rfl, Nat.lt_of_lt_of_le hb ho.size, fun j u hu => ?_⟩
  rw [World.cell?_of_block (ho.block b hb (hE b (h5 hn b rfl)))]
  exact hc j u hu
theorem RowIn.mono {F F' : Nat → Prop} {w : World} {size n : Nat} {v : Value} {cs : List Value} (h : RowIn F w size v n cs) (hF : ∀ g, F g → F' g) : RowIn F' w size v n cs := ⟨h.1, fun hn g hg => hF g (h.2 hn g hg)⟩
theorem RowIn.below {F : Nat → Prop} {w w' : World} {size n : Nat} {v : Value} {cs : List Value} (h : RowIn F w size v n cs) (hb : Below w.heap.size w w') : RowIn F w' size v n cs := ⟨h.1.below hb, h.2⟩
theorem RowIn.of_own {w : World} {B size n : Nat} {e : TypeId} {v : Value} {cs : List Value} (h : w.ownsRow B e size v n cs) : RowIn (fun g => B ≤ g ∧ g < w.heap.size) w size v n cs := ⟨Row.of_own h, fun _ g hg => h.lt g hg⟩
def SSIn {α : Type} (enc : List α → List Value) (F : Nat → Prop) (w : World) (v : Value) (xss : List (List α)) : Prop :=
  ∃ vs : List Value, vs.length = xss.length ∧ RowIn F w 1 v xss.length vs ∧ ∀ (i : Nat) (x : List α) (u : Value), xss[i]? = some x → vs[i]? = some u → RowIn F w 1 u x.length (enc x)
variable {α : Type} {enc : List α → List Value} {F : Nat → Prop} {w w' : World} {v : Value} {xss : List (List α)}
theorem SSIn.at (h : SSIn enc F w v xss) : SSAt enc w v xss := by
  obtain ⟨vs, h1, h2, h3⟩ := h
  exact ⟨vs, h1, h2.1, fun i x u hx hu => (h3 i x u hx hu).1⟩
theorem SSIn.only {E : Nat → Prop} (h : SSIn enc F w v xss) (ho : Only E w w') (hE : ∀ g, F g → ¬ E g) : SSIn enc F w' v xss := by
  obtain ⟨vs, h1, h2, h3⟩ := h
  exact ⟨vs, h1, h2.only ho hE, fun i x u hx hu => (h3 i x u hx hu).only ho hE⟩
theorem SSIn.below (h : SSIn enc F w v xss) (hb : Below w.heap.size w w') : SSIn enc F w' v xss := by
  obtain ⟨vs, h1, h2, h3⟩ := h
  exact ⟨vs, h1, h2.below hb, fun i x u hx hu => (h3 i x u hx hu).below hb⟩
theorem SSIn.mono {F' : Nat → Prop} (h : SSIn enc F w v xss) (hF : ∀ g, F g → F' g) : SSIn enc F' w v xss := by
  obtain ⟨vs, h1, h2, h3⟩ := h
  exact ⟨vs, h1, h2.mono hF, fun i x u hx hu => (h3 i x u hx hu).mono hF⟩
theorem SSIn.nil (enc : List α → List Value) (F : Nat → Prop) (w : World) : SSIn enc F w (.slice none 0 0) [] := ⟨[], rfl, ⟨Row.nil w 1, fun h => absurd h (Nat.lt_irrefl 0)⟩, fun i x u hx _ => by simp at hx⟩
/-- A row that was copied, and one more row behind it. -/
theorem SSIn.snoc {B : Nat} {e ti : TypeId} {v' u : Value} {x : List α} {vs : List Value} (h1 : vs.length = xss.length) (h3 : ∀ (i : Nat) (x : List α) (u : Value), xss[i]? = some x → vs[i]? = some u → RowIn F w 1 u x.length (enc x))
    (hu : w.ownsRow B ti 1 u x.length (enc x)) (hv : w.ownsRow B e 1 v' (xss.length + 1) (vs ++ [u])) : SSIn enc (fun g => F g ∨ (B ≤ g ∧ g < w.heap.size)) w v' (xss ++ [x]) := by
  refine ⟨vs ++ [u], by simp [h1], ?_, fun i y z hy hz => ?_⟩
  · rw [List.length_append, List.length_singleton]
    exact (RowIn.of_own hv).mono fun g hg => .inr hg
  · rcases Nat.lt_or_ge i xss.length with hi | hi
    · rw [List.getElem?_append_left hi] at hy
      rw [List.getElem?_append_left (by omega)] at hz
      exact (h3 i y z hy hz).mono fun g hg => .inl hg
    · have hil : i = xss.length := by
        rcases Nat.lt_or_ge xss.length i with h | h
        · rw [List.getElem?_eq_none (by simp; omega)] at hy; cases hy
        · omega
      subst hil
      rw [List.getElem?_append_right (Nat.le_refl _), Nat.sub_self] at hy
      rw [List.getElem?_append_right (by omega), h1, Nat.sub_self] at hz
      obtain rfl := Option.some.inj hy
      obtain rfl := Option.some.inj hz
      exact (RowIn.of_own hu).mono fun g hg => .inr hg
end Go.Proofs.Ytmlmnelbphjfbaa

namespace Go.Proofs.Ytmlmnelbphjfbaa
open Go.RowKit
set_option maxRecDepth 100000
/-! MachineOf, by the reference. -/
/-- A row of single cells in blocks of a set. -/
def TIn (F : Nat → Prop) (cs : List Value) : Ty := fun w v => RowIn F w 1 v cs.length cs
theorem stb_in {E F : Nat → Prop} (hE : ∀ g, F g → ¬ E g) (cs : List Value) : Stb E (TIn F cs) := fun _ _ _ h ho => h.only ho hE
theorem stb_in_none (F : Nat → Prop) (cs : List Value) : Stb (fun _ => False) (TIn F cs) := stb_in (fun _ _ h => h) cs
def TStepIn (B : Nat) (so st : List Bool) : Ty := fun w v => ∃ a b, v = .agg #[a, b] ∧ RowIn (From B) w 1 a so.length (bools so) ∧ BoolsAt w b st
theorem stb_stepIn (B : Nat) (so st : List Bool) : Stb (fun _ => False) (TStepIn B so st) := by
  rintro v w w' ⟨a, b, rfl, h1, h2⟩ ho
  exact ⟨a, b, rfl, h1.below (only_below ho), stb_bools _ _ _ _ h2 ho⟩
set_option maxHeartbeats 4000000 in
theorem l16OutsIn_any (v : Value) (d : Ci) (s x : Nat) (w : World) (h : CircAt w v (Cir.toCz d)) (hd : Cir.Ok d) (hs : s ≤ 1000) (hx : x ≤ 1000) :
    Calls Try.prog 46 #[v, .int .i64 s, .int .i64 x] w fun e w' => (∃ u, e = .returned u ∧ RowIn (From w.heap.size) w' 1 u (Cir.outsOf d s x).length (bools (Cir.outsOf d s x))) ∧ Below w.heap.size w w' := by
  have l1 := hd.ins
  have l2 := hd.nexts
  have HC := Lib.hid h
  obtain ⟨vn, vg, vo, rfl, r1, r2, r3⟩ := h
  obtain ⟨An, cn, rfl, hcn, hcmn⟩ := NatsAt.shape (xs := d.next) r1
  have hins : (Cir.toCz d).ins = (d.ins : Int) := rfl
  rw [hins] at HC ⊢
  have B0 := Lib.hid (bel_new w (.cells #[.int .i64 d.ins, .slice An d.next.length cn, vg, vo] 48))
  obtain ⟨z, p0, p1, p2, p3⟩ := PCells.boxed w d.ins (.slice An d.next.length cn) vg vo 48
  have HC := Lib.hid (HC.out.below B0.out)
  have Hd := Lib.hid hd
  clear r1 r2 r3 hd hins
  go_enter Try.func46, Try.ntmps46
  go_wp2_with fail
  generalize w.alloc (.cells #[.int .i64 d.ins, .slice An d.next.length cn, vg, vo] 48) = W at *
  refine wp_region_rs (quietRS Try.prog _ W _) quietRS_ok (by kernel_rfl) (by kernel_rfl) (by kernel_rfl) (Nat.le_of_ble_eq_true rfl) trivial trivial ?_
  apply rs_eq quietRS_ok quiet_any
  · intro ρ w' ho hK
    have ho : Only _ W w' := ho
    obtain ⟨h0, -⟩ := hK
    have h0' : ρ (.tmp 3) = _ := h0
    have hb := only_below ho
    have q0 := (hb.cell (p := ⟨w.heap.size, 0, none⟩) z).trans p0
    have q1 := (hb.cell (p := ⟨w.heap.size, 1, none⟩) z).trans p1
    have q2 := (hb.cell (p := ⟨w.heap.size, 2, none⟩) z).trans p2
    have q3 := (hb.cell (p := ⟨w.heap.size, 3, none⟩) z).trans p3
    go_simp
    try exact rfl
  refine rs_old quietRS_ok quiet_any _ (.inl rfl) _ rfl rfl ?_
  apply rs_eq quietRS_ok quiet_any
  · intro ρ w' ho hK
    have ho : Only _ W w' := ho
    obtain ⟨h0, -⟩ := hK
    have h0' : ρ (.tmp 3) = _ := h0
    go_simp
    try exact rfl
  apply rs_eq quietRS_ok quiet_any
  · intro ρ w' ho hK
    have ho : Only _ W w' := ho
    obtain ⟨h0, -⟩ := hK
    have h0' : ρ (.tmp 9) = _ := h0
    have hb := only_below ho
    have q0 := (hb.cell (p := ⟨w.heap.size, 0, none⟩) z).trans p0
    have q1 := (hb.cell (p := ⟨w.heap.size, 1, none⟩) z).trans p1
    have q2 := (hb.cell (p := ⟨w.heap.size, 2, none⟩) z).trans p2
    have q3 := (hb.cell (p := ⟨w.heap.size, 3, none⟩) z).trans p3
    go_simp
    try exact rfl
  apply rs_eq quietRS_ok quiet_any
  · intro ρ w' ho hK
    have ho : Only _ W w' := ho
    obtain ⟨h0, -⟩ := hK
    have h0' : ρ (.tmp 10) = _ := h0
    go_simp
    try exact rfl
  refine rs_call quietRS_ok quiet_any (TBools (Cir.bits s d.next.length)) (stb_bools _) 52 _ _ rfl (fun ρ w' ho hK => by
    have ho : Only _ W w' := ho
    obtain ⟨h0, h1, h2, -⟩ := hK
    have h0' : ρ (.func 52) = .func (.func 52) #[] #[] := h0
    have h1' : ρ (.tmp 8) = _ := h1
    have h2' : ρ (.tmp 11) = _ := h2
    refine ⟨#[ρ (.tmp 8), ρ (.tmp 11)], ?_, ?_⟩
    · go_simp
    · rw [h1', h2']
      refine (l4Bits_any s d.next.length w' (by omega) (by omega)).mono ?_
      rintro e w2 ⟨v2, rfl, hO, hb⟩
      exact ⟨v2, rfl, Row.of_own hO, hb⟩) ?_
  refine rs_old quietRS_ok quiet_any _ (.inl rfl) _ rfl rfl ?_
  apply rs_eq quietRS_ok quiet_any
  · intro ρ w' ho hK
    have ho : Only _ W w' := ho
    obtain ⟨h0, -⟩ := hK
    have h0' : ρ (.tmp 3) = _ := h0
    go_simp
    try exact rfl
  apply rs_eq quietRS_ok quiet_any
  · intro ρ w' ho hK
    have ho : Only _ W w' := ho
    obtain ⟨h0, -⟩ := hK
    have h0' : ρ (.tmp 14) = _ := h0
    have hb := only_below ho
    have q0 := (hb.cell (p := ⟨w.heap.size, 0, none⟩) z).trans p0
    have q1 := (hb.cell (p := ⟨w.heap.size, 1, none⟩) z).trans p1
    have q2 := (hb.cell (p := ⟨w.heap.size, 2, none⟩) z).trans p2
    have q3 := (hb.cell (p := ⟨w.heap.size, 3, none⟩) z).trans p3
    go_simp
    try exact rfl
  refine rs_call quietRS_ok quiet_any (TBools (Cir.bits x d.ins)) (stb_bools _) 52 _ _ rfl (fun ρ w' ho hK => by
    have ho : Only _ W w' := ho
    obtain ⟨h0, h1, h2, -⟩ := hK
    have h0' : ρ (.func 52) = .func (.func 52) #[] #[] := h0
    have h1' : ρ (.tmp 13) = _ := h1
    have h2' : ρ (.tmp 15) = _ := h2
    refine ⟨#[ρ (.tmp 13), ρ (.tmp 15)], ?_, ?_⟩
    · go_simp
    · rw [h1', h2']
      refine (l4Bits_any x d.ins w' (by omega) (by omega)).mono ?_
      rintro e w2 ⟨v2, rfl, hO, hb⟩
      exact ⟨v2, rfl, Row.of_own hO, hb⟩) ?_
  refine rs_call quietRS_ok quiet_any (TStepIn w.heap.size (Cir.outsOf d s x) (Cir.lits (Cir.vals d (Cir.bits s d.next.length) (Cir.bits x d.ins)) d.next)) (stb_stepIn _ _ _) 51 _ _ rfl (fun ρ w' ho hK => by
    have ho : Only _ W w' := ho
    obtain ⟨h0, h1, h2, h3, -⟩ := hK
    have h0' : ρ (.func 51) = .func (.func 51) #[] #[] := h0
    have h1' : ρ (.tmp 7) = _ := h1
    have h2' : (TBools (Cir.bits s d.next.length)) w' (ρ (.tmp 12)) := h2
    have h3' : (TBools (Cir.bits x d.ins)) w' (ρ (.tmp 16)) := h3
    refine ⟨#[ρ (.tmp 7), ρ (.tmp 12), ρ (.tmp 16)], ?_, ?_⟩
    · go_simp
    · rw [h1']
      refine (l2Step_any _ _ _ d _ _ w' (HC.out.below (only_below ho)) Hd.out h2' h3' (Cir.bits_length _ _) (Cir.bits_length _ _)).mono ?_
      rintro e w2 ⟨a, b, rfl, oa, ob, hb⟩
      exact ⟨_, rfl, ⟨a, b, rfl, (RowIn.of_own oa).mono (fun g hg => by have := hg.1; have := B0.out.size; have := ho.size; unfold From; omega), Row.of_own ob⟩, hb⟩) ?_
  refine rs_look quietRS_ok quiet_any (TIn (From w.heap.size) (bools (Cir.outsOf d s x))) (stb_in_none _ _) (fun ρ w' ho hK => by
    obtain ⟨h0, -⟩ := hK
    obtain ⟨a, b, e0, ha, hb⟩ : (TStepIn w.heap.size (Cir.outsOf d s x) (Cir.lits (Cir.vals d (Cir.bits s d.next.length) (Cir.bits x d.ins)) d.next)) w' (ρ (.tmp 17)) := h0
    obtain ⟨Aa, ca, rfl, -⟩ := Row.shape ha.1
    obtain ⟨Ab, cb, rfl, -⟩ := Row.shape hb
    have hf := fun n m => step_field0 Aa Ab n m ca cb w'
    refine ⟨_, ?_, by unfold TIn; rw [bools_length]; exact ha⟩
    go_simp) ?_
  refine rs_same quietRS_ok quiet_any 18 11 (.inr rfl) rfl _ rfl ?_
  intro f w9 k9 hk9 hI9 ht9 hcp9
  have E0 : f 0 = _ := ht9 0 (Nat.le_of_ble_eq_true rfl)
  have E1 : f 1 = _ := ht9 1 (Nat.le_of_ble_eq_true rfl)
  conv at E1 => rhs; whnf
  have E2 : f 2 = _ := ht9 2 (Nat.le_of_ble_eq_true rfl)
  have E3 : f 3 = _ := ht9 3 (Nat.le_of_ble_eq_true rfl)
  have E4 : f 4 = _ := ht9 4 (Nat.le_of_ble_eq_true rfl)
  have E5 : (TBools (Cir.bits s d.next.length)) w9 (f 5) := ht9 5 (Nat.le_of_ble_eq_true rfl)
  have E6 : f 6 = _ := ht9 6 (Nat.le_of_ble_eq_true rfl)
  conv at E6 => rhs; whnf
  have E7 : f 7 = _ := ht9 7 (Nat.le_of_ble_eq_true rfl)
  have E8 : f 8 = _ := ht9 8 (Nat.le_of_ble_eq_true rfl)
  have E9 : (TBools (Cir.bits x d.ins)) w9 (f 9) := ht9 9 (Nat.le_of_ble_eq_true rfl)
  have E10 : (TStepIn w.heap.size (Cir.outsOf d s x) (Cir.lits (Cir.vals d (Cir.bits s d.next.length) (Cir.bits x d.ins)) d.next)) w9 (f 10) := ht9 10 (Nat.le_of_ble_eq_true rfl)
  have E11 : (TIn (From w.heap.size) (bools (Cir.outsOf d s x))) w9 (f 11) := ht9 11 (Nat.le_of_ble_eq_true rfl)
  have E12 : (TIn (From w.heap.size) (bools (Cir.outsOf d s x))) w9 (f 12) := ht9 12 (Nat.le_of_ble_eq_true rfl)
  have Ho9 : Only _ W w9 := hI9.2.1
  have C12 : f 12 = f 11 := (hcp9 12 _ 18 11 rfl rfl rfl rfl).2
  simp only [putAll, E0, E1, E2, E3, E4, E6, E7, E8, C12, Nat.zero_add, Nat.reduceAdd, Act.put, List.setIfInBounds_toArray, List.set_cons_succ, List.set_cons_zero]
  clear E0 E1 E2 E3 E4 E6 E7 E8
  clear hI9 ht9 hcp9 hk9
  generalize f 5 = r5 at *
  generalize f 9 = r9 at *
  generalize f 10 = r10 at *
  generalize f 11 = r11 at *
  have B := Lib.hid (B0.out.trans ((only_below Ho9).mono B0.out.size))
  have HU := Lib.hid E11
  clear Ho9 E5 E9 E10 E11 p0 p1 p2 p3
  go_wp2_with fail
  go_ret
  exact ⟨⟨_, rfl, by have := HU.out; unfold TIn at this; rwa [bools_length] at this⟩, B.out⟩
theorem Only.after {E F : Nat → Prop} {a b c : World} (h : Only E a b) (h' : Only F b c) (hF : ∀ g, F g → a.heap.size ≤ g ∨ E g) : Only E a c :=
  ⟨h'.os.trans h.os, h'.tape.trans h.tape, h'.output.trans h.output, Nat.le_trans h.size h'.size, fun k hk hn => (h'.block k (Nat.lt_of_lt_of_le hk h.size) fun hf => by
    rcases hF k hf with e | e
    · omega
    · exact hn e).trans (h.block k hk hn)⟩
/-- A machine, as a result to read. -/
def ReadMach (m : Mz) (w : World) (e : Ending) (w' : World) : Prop := (∃ v, e = .returned v ∧ MachAt w' v m) ∧ Below w.heap.size w w'
/-- A machine whose rows lie in new memory. -/
def MachIn (B : Nat) (w : World) (v : Value) (m : Mz) : Prop := ∃ vn vo, v = .agg #[.int .i64 m.ins, vn, vo] ∧ SSIn ints (From B) w vn m.next ∧ SSIn ints (From B) w vo m.out
theorem MachIn.at {B : Nat} {w : World} {v : Value} {m : Mz} (h : MachIn B w v m) : MachAt w v m := by
  obtain ⟨vn, vo, rfl, h1, h2⟩ := h
  exact ⟨vn, vo, rfl, h1.at, h2.at⟩
theorem MachIn.only {B : Nat} {w w' : World} {v : Value} {m : Mz} {E : Nat → Prop} (h : MachIn B w v m) (ho : Only E w w') (hE : ∀ g, B ≤ g → ¬ E g) : MachIn B w' v m := by
  obtain ⟨vn, vo, rfl, h1, h2⟩ := h
  exact ⟨vn, vo, rfl, h1.only ho hE, h2.only ho hE⟩
theorem MachIn.mono {B B' : Nat} {w : World} {v : Value} {m : Mz} (h : MachIn B w v m) (hB : B' ≤ B) : MachIn B' w v m := by
  obtain ⟨vn, vo, rfl, h1, h2⟩ := h
  exact ⟨vn, vo, rfl, h1.mono fun g hg => Nat.le_trans hB hg, h2.mono fun g hg => Nat.le_trans hB hg⟩
theorem OwnSE.innM {α : Type} {enc : List α → List Value} {to ti : TypeId} {B : Nat} {E : Nat → Prop} {w : World} {v : Value} {xss : List (List α)} (h : OwnSE enc to ti B E w v xss) : SSIn enc (From B) w v xss := by
  obtain ⟨vs, h1, h2, h3, -⟩ := h
  exact ⟨vs, h1, (RowIn.of_own h2).mono fun g hg => hg.1, fun i x u hx hu => (RowIn.of_own (h3 i x u hx hu)).mono fun g hg => hg.1⟩
def ReadMachF (m : Mz) (w : World) (e : Ending) (w' : World) : Prop := (∃ v, e = .returned v ∧ MachIn (w.heap.size + 1) w' v m) ∧ Below w.heap.size w w'
theorem ReadMachF.read {m : Mz} {w : World} {e : Ending} {w' : World} (h : ReadMachF m w e w') : ReadMach m w e w' := by
  obtain ⟨⟨v, h1, h2⟩, h3⟩ := h
  exact ⟨⟨v, h1, h2.at⟩, h3⟩
theorem rowI_snoc {d : Ci} {s j : Nat} (h : j < 2 ^ d.ins) : (Cir.rowI d s).take (j + 1) = (Cir.rowI d s).take j ++ [idxOf (Cir.reach d) (Cir.nextOf d s j)] := by
  refine take_snoc ?_
  unfold Cir.rowI Cir.rowN
  simp [h]
theorem rowO_snoc {d : Ci} {s j : Nat} (h : j < 2 ^ d.ins) : (nats (Cir.rowO d s)).take (j + 1) = (nats (Cir.rowO d s)).take j ++ [((Cir.num (Cir.outsOf d s j) : Nat) : Int)] := by
  refine take_snoc ?_
  unfold nats Cir.rowO
  simp [h]
set_option maxHeartbeats 16000000 in
theorem specMof_okF (v : Value) (d : Ci) (w : World) (h : CircAt w v (Cir.toCz d)) (hd : Cir.Ok d) (hv : Cir.valid (Cir.toCz d) = true) :
    Calls Try.prog 32 #[v] w (ReadMachF (Cir.machN d) w) := by
  have l1 := hd.ins
  have l2 := hd.nexts
  have l4 := hd.outss
  have HC := Lib.hid h
  obtain ⟨vn, vg, vo, rfl, r1, r2, r3⟩ := h
  have hins : (Cir.toCz d).ins = (d.ins : Int) := rfl
  rw [hins] at HC ⊢
  have hb0 := bel_new w (.cells #[.int .i64 d.ins, vn, vg, vo] 48)
  have hb00 := bel_new (w.alloc (.cells #[.int .i64 d.ins, vn, vg, vo] 48)) (.cells #[.int .i64 0, .slice none 0 0, .slice none 0 0] 25)
  have B0 := Lib.hid (hb0.trans (hb00.mono hb0.size))
  have PC := Lib.hid ((PCells.boxed w d.ins vn vg vo 48).below hb00)
  have hsz : ((w.alloc (.cells #[.int .i64 d.ins, vn, vg, vo] 48)).alloc (.cells #[.int .i64 0, .slice none 0 0, .slice none 0 0] 25)).heap.size = w.heap.size + 2 := by simp
  have hR : ((w.alloc (.cells #[.int .i64 d.ins, vn, vg, vo] 48)).alloc (.cells #[.int .i64 0, .slice none 0 0, .slice none 0 0] 25)).heap[w.heap.size + 1]? = some (.cells #[.int .i64 0, .slice none 0 0, .slice none 0 0] 25 (0, 0)) := by
    have := heap_alloc_new (w.alloc (.cells #[.int .i64 d.ins, vn, vg, vo] 48)) (.cells #[.int .i64 0, .slice none 0 0, .slice none 0 0] 25)
    rwa [World.size_alloc] at this
  have HRes := Lib.hid hR
  obtain ⟨z, p0, p1, p2, p3⟩ := PC.out
  have HC0 := Lib.hid (HC.out.below B0.out)
  have HV := Lib.hid (specValid_any _ _ _ HC0.out)
  rw [hv] at HV
  have Hv := Lib.hid hv
  have Hd := Lib.hid hd
  obtain ⟨M, e, hM⟩ : ∃ M : Nat, (2 : Int) ^ d.ins = (M : Int) ∧ M = 2 ^ d.ins := ⟨2 ^ d.ins, two_pow d.ins, rfl⟩
  have hM16 : M ≤ 16 := by rw [hM]; exact Nat.pow_le_pow_right (show 0 < 2 by decide) l1
  have hM1 : 1 ≤ M := by rw [hM]; exact Nat.pow_pos (by decide)
  have hwM := IntWalk.i64_in (M : Int) (by omega)
  have HM := Lib.hid hM
  have hL8 := (Cir.reach_sts d).len hd
  have HSt := Lib.hid (Cir.reach_sts d)
  clear r1 r2 r3 hd hins hM hv HC hb0 hb00 hR
  go_enter Try.func32, Try.ntmps32
  go_wp2_with fail
  generalize (w.alloc (.cells #[.int .i64 d.ins, vn, vg, vo] 48)).alloc (.cells #[.int .i64 0, .slice none 0 0, .slice none 0 0] 25) = W at *
  refine HV.out.mono ?_
  rintro e w1 ⟨rfl, hb1⟩
  have hbm := bel_new w1 (.cells #[.int .i64 d.ins, .slice none 0 0, .slice none 0 0] 25)
  have B1 := Lib.hid (B0.out.trans (hb1.mono B0.out.size))
  have z1 := hb1.size
  have PC1 := Lib.hid ((PC.out.below hb1))
  have HC1 := Lib.hid (HC0.out.below hb1)
  have HRes1 := Lib.hid ((hb1.block _ (by omega)).trans HRes.out)
  have HMB := Lib.hid (MB.start (ins := (d.ins : Int)) (w := w1) trivial)
  clear hb1 p0 p1 p2 p3 z HV HC0 HRes PC
  have PCm := Lib.hid (PC1.out.below hbm)
  obtain ⟨z, p0, p1, p2, p3⟩ := PC1.out
  obtain ⟨_, s0, s1, s2, s3⟩ := PCm.out
  have HBm := Lib.hid hbm
  clear hbm
  go_wp2_with fail
  refine (specReach_ok _ d _ (HC1.out.below HBm.out) Hd.out Hv.out).mono ?_
  rintro e w2 ⟨vs, rfl, hO2, hb2⟩
  have hb12 := HBm.out.trans (hb2.mono HBm.out.size)
  have B2 := Lib.hid (B1.out.trans (hb12.mono B1.out.size))
  have HRes2 := Lib.hid ((hb12.block _ (by omega)).trans HRes1.out)
  have PC2 := Lib.hid (PCm.out.below hb2)
  have HMB2 := Lib.hid (HMB.out.below hb2)
  have z2 := hb12.size
  have HS2 := Lib.hid (own_nats (v := vs) (xs := Cir.reach d) (by rw [nats_length] at hO2; exact hO2))
  have zs2 : w1.heap.size < w2.heap.size := mb_lt HMB2.out
  have HO2 : Hid (w2.ownsRow (w1.heap.size + 1) 3 1 vs (Cir.reach d).length (nints (Cir.reach d))) := Lib.hid (by rw [nats_length] at hO2; exact own_mono hO2 (by simp))
  have Hb12 := Lib.hid hb12
  clear hb2 hO2 p0 p1 p2 p3 z hb12 HBm s0 s1 s2 s3 PCm HMB
  obtain ⟨As, cs, rfl, hcs, hcsm⟩ := NatsAt.shape HS2.out
  unfold maxLen at hcsm
  go_wp2_with fail
  clear hcs hcsm
  obtain ⟨Ws, hWs⟩ : ∃ Ws, Ws = w2 := ⟨_, rfl⟩
  subst hWs
  go_loopw [5] (fun i wr => ∃ (k : Nat) (E1 E2 : Nat → Prop) (vN vO : Value), k ≤ (Cir.reach d).length ∧ i = .int .i64 k ∧ Hid (MB w1.heap.size d.ins E1 E2 vN vO ((Cir.machN d).next.take k) ((Cir.machN d).out.take k) wr) ∧ Hid (∀ g, E1 g → Ws.heap.size ≤ g) ∧ Hid (∀ g, E2 g → Ws.heap.size ≤ g) ∧ Only (fun g => g = w1.heap.size) Ws wr) (fun i _ => (Cir.reach d).length - (intOf i).toNat)
  case atStart => exact ⟨0, _, _, _, _, Nat.zero_le _, rfl, HMB2, Lib.hid (fun g h => h.elim), Lib.hid (fun g h => h.elim), Only.refl _ _⟩
  case round =>
    obtain ⟨k, E1, E2, vN, vO, hk, rfl, HMB, HE1, HE2, ho⟩ := hrel
    clear HMB2
    have hbW := Only.below (B := w1.heap.size) Hb12.out ho (by omega) (fun g hg => by omega)
    have Ho := Lib.hid ho
    have Hb := Lib.hid hbW
    have hzb := ho.size
    have hgm := mb_lt HMB.out
    have PCk := Lib.hid (PC1.out.below (w := w1) hbW)
    have HCk := Lib.hid (HC1.out.below hbW)
    have HSk : Hid (NatsAt wr (.slice As (Cir.reach d).length cs) (Cir.reach d)) := Lib.hid (own_nats (own_only HO2.out ho (fun g hg e => by have := (HO2.out.lt g hg).1; omega)))
    clear hbW ho
    by_cases hlt : k < (Cir.reach d).length
    · obtain ⟨b, o, s, rfl, hbl, hx, hs0⟩ := nats_cell (nats_row HSk.out) rfl hlt
      have hs8 : s < 8 := by
        have h1 := HSt.out.lt s (List.mem_of_getElem? hx.out)
        have h2 : 2 ^ d.next.length ≤ 2 ^ 3 := Nat.pow_le_pow_right (show 0 < 2 by decide) l2
        omega
      have HX1 : Hid ((Cir.machN d).next.take (k + 1) = (Cir.machN d).next.take k ++ [Cir.rowI d s]) := Lib.hid (take_snoc (by unfold Cir.machN; simp only [List.getElem?_map, hx.out]; rfl))
      have HX2 : Hid ((Cir.machN d).out.take (k + 1) = (Cir.machN d).out.take k ++ [nats (Cir.rowO d s)]) := Lib.hid (take_snoc (by unfold Cir.machN; simp only [List.getElem?_map, hx.out]; rfl))
      have hN1 : (Cir.rowI d s).length = M := by unfold Cir.rowI Cir.rowN; rw [List.length_map, List.length_map, List.length_range, HM.out]
      have hO1 : (nats (Cir.rowO d s)).length = M := by rw [nats_length, Cir.rowO, List.length_map, List.length_range, HM.out]
      have HN1 := Lib.hid hN1
      have HO1 := Lib.hid hO1
      have hdl : decide (k < (Cir.reach d).length) = true := decide_eq_true hlt
      clear hN1 hO1
      obtain ⟨z, p0, p1, p2, p3⟩ := PCk.out
      have hA1 : Hid (((wr.alloc (.cells #[] 3)).alloc (.cells #[] 3)).ownsRow wr.heap.size 3 1 (.slice (some ⟨wr.heap.size, 0, none⟩) 0 0) 0 (ints ((Cir.rowI d s).take 0))) := Lib.hid ((World.ownsRow_lit (base := wr.heap.size) (e := 3) (size := 1) wr #[] 0 (Nat.le_refl _) (by unfold maxLen; omega) rfl).alloc _)
      have hA2 : Hid (((wr.alloc (.cells #[] 3)).alloc (.cells #[] 3)).ownsRow wr.heap.size 3 1 (.slice (some ⟨wr.heap.size + 1, 0, none⟩) 0 0) 0 (ints ((nats (Cir.rowO d s)).take 0))) := Lib.hid (by
        have := World.ownsRow_lit (base := wr.heap.size) (e := 3) (size := 1) (wr.alloc (.cells #[] 3)) #[] 0 (by simp) (by unfold maxLen; omega) rfl
        rwa [World.size_alloc] at this)
      have hAp : Hid (Apart (.slice (some ⟨wr.heap.size, 0, none⟩) 0 0) (.slice (some ⟨wr.heap.size + 1, 0, none⟩) 0 0)) := Lib.hid (fun g h1 h2 => by have h3 := Option.some.inj h1; have h4 := Option.some.inj h2; simp only at h3 h4; omega)
      have HBa : Hid (Below wr.heap.size wr ((wr.alloc (.cells #[] 3)).alloc (.cells #[] 3))) := Lib.hid (((Below.refl _ _).alloc (Nat.le_refl _) _).alloc (by simp) _)
      go_wp2_with fail
      obtain ⟨Wk, hWk⟩ : ∃ Wk, Wk = wr := ⟨_, rfl⟩
      subst hWk
      go_loopw [6, 7, 8] (fun v u i wr => ∃ (vv uu : Value) (j : Nat), vv = v ∧ uu = u ∧ i = .int .i64 j ∧ j ≤ M ∧ Hid (wr.ownsRow Wk.heap.size 3 1 v j (ints ((Cir.rowI d s).take j))) ∧ Hid (wr.ownsRow Wk.heap.size 3 1 u j (ints ((nats (Cir.rowO d s)).take j))) ∧ Hid (Apart v u) ∧ Below Wk.heap.size Wk wr) (fun _ _ i _ => M - (intOf i).toNat)
      case atStart => exact ⟨_, _, 0, rfl, rfl, rfl, Nat.zero_le _, hA1, hA2, hAp, HBa.out⟩
      case round =>
        obtain ⟨vv, uu, j, hvv, huu, rfl, hj, Hv6, Hu6, Hap, hb⟩ := hrel
        subst hvv huu
        clear hA1 hA2 hAp HBa p0 p1 p2 p3
        have Hbk := Lib.hid hb
        have hzk := hb.size
        have PCr := Lib.hid (PCk.out.below hb)
        have hs1 := (hb.cell (p := ⟨b, o + k, none⟩) hbl).trans hs0
        obtain ⟨zz, p0, p1, p2, p3⟩ := PCr.out
        clear hb
        by_cases hlj : j < M
        · have HSn1 := Lib.hid (rowI_snoc (d := d) (s := s) (j := j) (by rw [← HM.out]; exact hlj))
          have HSn2 := Lib.hid (rowO_snoc (d := d) (s := s) (j := j) (by rw [← HM.out]; exact hlj))
          have hN8 : Cir.nextOf d s j < 8 := by
            have h1 := Cir.nextOf_lt d s j
            have h2 : 2 ^ d.next.length ≤ 2 ^ 3 := Nat.pow_le_pow_right (show 0 < 2 by decide) l2
            omega
          have hdj : decide (j < M) = true := decide_eq_true hlj
          go_wp2_with fail
          obtain ⟨w4, hw4⟩ : ∃ w4, w4 = wr := ⟨_, rfl⟩
          subst hw4
          obtain ⟨cs1, hcs1⟩ : ∃ cs1, ints ((Cir.rowI d s).take j) = cs1 := ⟨_, rfl⟩
          rw [hcs1] at Hv6
          have HC1s := Lib.hid hcs1
          clear hcs1
          have HBx : ∀ w', Only (fun g => vv.ownBlock = some g) w4 w' → Below Wk.heap.size Wk w' := fun w' ho => Only.below Hbk.out ho hzk (fun g hg => (Hv6.out.lt g hg).1)
          obtain ⟨i0, hi0, hz0, hz1, hz2⟩ := info_parts info_int
          have hO := fun ops a => appRS2_ok (Pg := Try.prog) (ops := ops) (a := a) (news := [.int .i64 (idxOf (Cir.reach d) (Cir.nextOf d s j))]) (d := 11) (Hv6.out)
          refine wp_region_rs (appRS2 Try.prog _ w4 _ (Wk.heap.size) 3 1 (vv) (j) (cs1) [.int .i64 (idxOf (Cir.reach d) (Cir.nextOf d s j))] 11) (hO _ _) (by kernel_rfl) (by kernel_rfl) (by kernel_rfl) (Nat.le_of_ble_eq_true rfl) trivial Hv6.out ?_
          refine rs_old (hO _ _) (.inl (Nat.ne_of_beq_eq_false rfl)) _ (.inl rfl) _ rfl rfl ?_
          refine rs_old (hO _ _) (.inl (Nat.ne_of_beq_eq_false rfl)) _ (.inl rfl) _ rfl rfl ?_
          apply rs_eq (hO _ _) (.inl (Nat.ne_of_beq_eq_false rfl))
          · intro ρ w' ho hK
            have ho : Only _ w4 w' := ho
            obtain ⟨h0, -⟩ := hK
            have h0' : ρ (.tmp 1) = _ := h0
            have hb := HBx w' ho
            obtain ⟨_, q0, q1, q2, q3⟩ := PCk.out.below hb
            have q4 := (hb.cell (p := ⟨b, o + k, none⟩) hbl).trans hs0
            go_simp
            try exact rfl
          refine rs_old (hO _ _) (.inl (Nat.ne_of_beq_eq_false rfl)) _ (.inl rfl) _ rfl rfl ?_
          refine rs_old (hO _ _) (.inl (Nat.ne_of_beq_eq_false rfl)) _ (.inl rfl) _ rfl rfl ?_
          apply rs_eq (hO _ _) (.inl (Nat.ne_of_beq_eq_false rfl))
          · intro ρ w' ho hK
            have ho : Only _ w4 w' := ho
            obtain ⟨h0, h1, -⟩ := hK
            have h0' : ρ (.tmp 36) = _ := h0
            have h1' : ρ (.tmp 37) = _ := h1
            go_simp
            try exact rfl
          apply rs_eq (hO _ _) (.inl (Nat.ne_of_beq_eq_false rfl))
          · intro ρ w' ho hK
            have ho : Only _ w4 w' := ho
            obtain ⟨h0, -⟩ := hK
            have h0' : ρ (.tmp 38) = _ := h0
            have hb := HBx w' ho
            obtain ⟨_, q0, q1, q2, q3⟩ := PCk.out.below hb
            have q4 := (hb.cell (p := ⟨b, o + k, none⟩) hbl).trans hs0
            go_simp
            try exact rfl
          refine rs_old (hO _ _) (.inl (Nat.ne_of_beq_eq_false rfl)) _ (.inl rfl) _ rfl rfl ?_
          refine rs_call (hO _ _) (.inl (Nat.ne_of_beq_eq_false rfl)) (TEq (.int .i64 (Cir.nextOf d s j : Nat))) (stb_eq _ _) 44 _ _ rfl (fun ρ w' ho hK => by
            have ho : Only _ w4 w' := ho
            obtain ⟨h0, h1, h2, h3, -⟩ := hK
            have h0' : ρ (.func 44) = .func (.func 44) #[] #[] := h0
            have h1' : ρ (.tmp 35) = _ := h1
            have h2' : ρ (.tmp 39) = _ := h2
            have h3' : ρ (.tmp 40) = _ := h3
            refine ⟨#[ρ (.tmp 35), ρ (.tmp 39), ρ (.tmp 40)], ?_, ?_⟩
            · go_simp
            · rw [h1', h2', h3']
              refine (l16Next_any _ d s j w' (HCk.out.below (HBx w' ho)) Hd.out (by omega) (by omega)).mono ?_
              rintro e w2 ⟨rfl, hb⟩
              exact ⟨_, rfl, rfl, hb⟩) ?_
          refine rs_call (hO _ _) (.inl (Nat.ne_of_beq_eq_false rfl)) (TEq (.int .i64 (idxOf (Cir.reach d) (Cir.nextOf d s j)))) (stb_eq _ _) 31 _ _ rfl (fun ρ w' ho hK => by
            have ho : Only _ w4 w' := ho
            obtain ⟨h0, h1, h2, -⟩ := hK
            have h0' : ρ (.func 31) = .func (.func 31) #[] #[] := h0
            have h1' : ρ (.tmp 34) = _ := h1
            have h2' : ρ (.tmp 41) = _ := h2
            refine ⟨#[ρ (.tmp 34), ρ (.tmp 41)], ?_, ?_⟩
            · go_simp
            · rw [h1', h2']
              refine (l29At_any _ (Cir.reach d) (Cir.nextOf d s j) w' (HSk.out.below (HBx w' ho)) (by omega)).mono ?_
              rintro e w2 ⟨rfl, rfl⟩
              exact ⟨_, rfl, rfl, Below.refl _ _⟩) ?_
          refine rs_build1 (hO _ _) (.inl (Nat.ne_of_beq_eq_false rfl)) 1 [.int .i64 (idxOf (Cir.reach d) (Cir.nextOf d s j))] 3 rfl (fun ρ w' ho hK => by
            have ho : Only _ w4 w' := ho
            obtain ⟨h0, -⟩ := hK
            have h0' : ρ (.tmp 42) = _ := h0
            go_simp) ?_
          refine rs_append2 rfl (Wk.heap.size) 3 28 1 (vv) (j) (cs1) _ rfl rfl (fun g hg => hg) (show Wk.heap.size ≤ w4.heap.size by omega) _ _ rfl _ _ rfl rfl rfl rfl i0 _ 8 Try.underlying28 hi0 hz0 hz1 hz2 rfl (by decide) (by omega) (by decide) (by simp [Value.oneCell']) ?_
          refine rs_same (hO _ _) (.inl (Nat.ne_of_beq_eq_false rfl)) 44 11 (.inr rfl) rfl _ rfl ?_
          intro f w9 k9 hk9 hI9 ht9 hcp9
          have E0 : f 0 = _ := ht9 0 (Nat.le_of_ble_eq_true rfl)
          conv at E0 => rhs; whnf
          have E1 : f 1 = _ := ht9 1 (Nat.le_of_ble_eq_true rfl)
          conv at E1 => rhs; whnf
          have E2 : f 2 = _ := ht9 2 (Nat.le_of_ble_eq_true rfl)
          have E3 : f 3 = _ := ht9 3 (Nat.le_of_ble_eq_true rfl)
          conv at E3 => rhs; whnf
          have E4 : f 4 = _ := ht9 4 (Nat.le_of_ble_eq_true rfl)
          conv at E4 => rhs; whnf
          have E5 : f 5 = _ := ht9 5 (Nat.le_of_ble_eq_true rfl)
          have E6 : f 6 = _ := ht9 6 (Nat.le_of_ble_eq_true rfl)
          have E7 : f 7 = _ := ht9 7 (Nat.le_of_ble_eq_true rfl)
          conv at E7 => rhs; whnf
          have E8 : f 8 = _ := ht9 8 (Nat.le_of_ble_eq_true rfl)
          have E9 : f 9 = _ := ht9 9 (Nat.le_of_ble_eq_true rfl)
          have E10 : (TNew _ 1 1 [.int .i64 (idxOf (Cir.reach d) (Cir.nextOf d s j))]) w9 (f 10) := ht9 10 (Nat.le_of_ble_eq_true rfl)
          have E11 : (TAny) w9 (f 11) := ht9 11 (Nat.le_of_ble_eq_true rfl)
          have E12 : (TAny) w9 (f 12) := ht9 12 (Nat.le_of_ble_eq_true rfl)
          have Ho9 : Only _ w4 w9 := hI9.2.1
          have hown9 : w9.ownsRow (Wk.heap.size) 3 1 (f 11) (j + 1) (cs1 ++ [.int .i64 (idxOf (Cir.reach d) (Cir.nextOf d s j))]) := hI9.2.2.1
          have hat9 : ∀ g, (f 11).ownBlock = some g → (vv).ownBlock = some g ∨ w4.heap.size ≤ g := hI9.2.2.2
          have C12 : f 12 = f 11 := (hcp9 12 _ 44 11 rfl rfl rfl rfl).2
          simp only [putAll, E0, E1, E2, E3, E4, E5, E6, E7, E8, E9, C12, Nat.zero_add, Nat.reduceAdd, Act.put, List.setIfInBounds_toArray, List.set_cons_succ, List.set_cons_zero]
          clear E0 E1 E2 E3 E4 E5 E6 E7 E8 E9
          clear hI9 ht9 hcp9 hk9
          generalize f 10 = r10 at *
          generalize f 11 = r11 at *
          have hA13 := apart_loc Hap.out hat9 (fun g hg => (Hu6.out.lt g hg).2)
          have Hu13 := Lib.hid (own_only Hu6.out Ho9 (fun g h1 h2 => Hap.out g h2 h1))
          have Hv13 := Lib.hid hown9
          have Hap13 := Lib.hid hA13
          have Hb13 := Lib.hid (HBx w9 Ho9)
          have hz13 := Nat.le_trans hzk Ho9.size
          clear Ho9 hown9 hat9 hA13 HBx hO Hv6 Hu6 Hap p0 p1 p2 p3 zz hs1
          obtain ⟨w5, hw5⟩ : ∃ w5, w5 = w9 := ⟨_, rfl⟩
          subst hw5
          obtain ⟨cs2, hcs2⟩ : ∃ cs2, ints ((nats (Cir.rowO d s)).take j) = cs2 := ⟨_, rfl⟩
          rw [hcs2] at Hu13
          have HC2s := Lib.hid hcs2
          clear hcs2
          go_wp2_with fail
          have HBy : ∀ w', Only (fun g => uu.ownBlock = some g) w5 w' → Below Wk.heap.size Wk w' := fun w' ho => Only.below Hb13.out ho hz13 (fun g hg => (Hu13.out.lt g hg).1)
          have hol : (Cir.outsOf d s j).length ≤ 16 := by unfold Cir.outsOf; rw [lits_length]; omega
          obtain ⟨i0, hi0, hz0, hz1, hz2⟩ := info_parts info_int
          have hO := fun ops a => appRS2_ok (Pg := Try.prog) (ops := ops) (a := a) (news := [.int .i64 (Cir.num (Cir.outsOf d s j) : Nat)]) (d := 10) (Hu13.out)
          refine wp_region_rs (appRS2 Try.prog _ w5 _ (Wk.heap.size) 3 1 (uu) (j) (cs2) [.int .i64 (Cir.num (Cir.outsOf d s j) : Nat)] 10) (hO _ _) (by kernel_rfl) (by kernel_rfl) (by kernel_rfl) (Nat.le_of_ble_eq_true rfl) trivial Hu13.out ?_
          refine rs_old (hO _ _) (.inl (Nat.ne_of_beq_eq_false rfl)) _ (.inl rfl) _ rfl rfl ?_
          apply rs_eq (hO _ _) (.inl (Nat.ne_of_beq_eq_false rfl))
          · intro ρ w' ho hK
            have ho : Only _ w5 w' := ho
            obtain ⟨h0, -⟩ := hK
            have h0' : ρ (.tmp 1) = _ := h0
            have hb := HBy w' ho
            obtain ⟨_, q0, q1, q2, q3⟩ := PCk.out.below hb
            have q4 := (hb.cell (p := ⟨b, o + k, none⟩) hbl).trans hs0
            go_simp
            try exact rfl
          refine rs_old (hO _ _) (.inl (Nat.ne_of_beq_eq_false rfl)) _ (.inl rfl) _ rfl rfl ?_
          refine rs_old (hO _ _) (.inl (Nat.ne_of_beq_eq_false rfl)) _ (.inl rfl) _ rfl rfl ?_
          apply rs_eq (hO _ _) (.inl (Nat.ne_of_beq_eq_false rfl))
          · intro ρ w' ho hK
            have ho : Only _ w5 w' := ho
            obtain ⟨h0, h1, -⟩ := hK
            have h0' : ρ (.tmp 47) = _ := h0
            have h1' : ρ (.tmp 48) = _ := h1
            go_simp
            try exact rfl
          apply rs_eq (hO _ _) (.inl (Nat.ne_of_beq_eq_false rfl))
          · intro ρ w' ho hK
            have ho : Only _ w5 w' := ho
            obtain ⟨h0, -⟩ := hK
            have h0' : ρ (.tmp 49) = _ := h0
            have hb := HBy w' ho
            obtain ⟨_, q0, q1, q2, q3⟩ := PCk.out.below hb
            have q4 := (hb.cell (p := ⟨b, o + k, none⟩) hbl).trans hs0
            go_simp
            try exact rfl
          refine rs_old (hO _ _) (.inl (Nat.ne_of_beq_eq_false rfl)) _ (.inl rfl) _ rfl rfl ?_
          refine rs_call (hO _ _) (.inl (Nat.ne_of_beq_eq_false rfl)) (TIn (From w5.heap.size) (bools (Cir.outsOf d s j))) (stb_in (fun g h e => by have := (Hu13.out.lt g e).2; unfold From at h; omega) _) 46 _ _ rfl (fun ρ w' ho hK => by
            have ho : Only _ w5 w' := ho
            obtain ⟨h0, h1, h2, h3, -⟩ := hK
            have h0' : ρ (.func 46) = .func (.func 46) #[] #[] := h0
            have h1' : ρ (.tmp 46) = _ := h1
            have h2' : ρ (.tmp 50) = _ := h2
            have h3' : ρ (.tmp 51) = _ := h3
            refine ⟨#[ρ (.tmp 46), ρ (.tmp 50), ρ (.tmp 51)], ?_, ?_⟩
            · go_simp
            · rw [h1', h2', h3']
              refine (l16OutsIn_any _ d s j w' (HCk.out.below (HBy w' ho)) Hd.out (by omega) (by omega)).mono ?_
              rintro e w2 ⟨⟨u, rfl, hO⟩, hb⟩
              exact ⟨u, rfl, by unfold TIn; rw [bools_length]; exact hO.mono (fun g hg => Nat.le_trans ho.size hg), hb⟩) ?_
          refine rs_call (hO _ _) (.inl (Nat.ne_of_beq_eq_false rfl)) (TEq (.int .i64 (Cir.num (Cir.outsOf d s j) : Nat))) (stb_eq _ _) 45 _ _ rfl (fun ρ w' ho hK => by
            have ho : Only _ w5 w' := ho
            obtain ⟨h0, h1, -⟩ := hK
            have h0' : ρ (.func 45) = .func (.func 45) #[] #[] := h0
            have h1' : (TIn (From w5.heap.size) (bools (Cir.outsOf d s j))) w' (ρ (.tmp 52)) := h1
            refine ⟨#[ρ (.tmp 52)], ?_, ?_⟩
            · go_simp
            · skip
              refine (l16Number_any _ (Cir.outsOf d s j) w' (by have := h1'; unfold TIn at this; rw [bools_length] at this; exact this.1) hol).mono ?_
              rintro e w2 ⟨rfl, rfl⟩
              exact ⟨_, rfl, rfl, Below.refl _ _⟩) ?_
          refine rs_build1 (hO _ _) (.inl (Nat.ne_of_beq_eq_false rfl)) 1 [.int .i64 (Cir.num (Cir.outsOf d s j) : Nat)] 3 rfl (fun ρ w' ho hK => by
            have ho : Only _ w5 w' := ho
            obtain ⟨h0, -⟩ := hK
            have h0' : ρ (.tmp 53) = _ := h0
            go_simp) ?_
          refine rs_append2 rfl (Wk.heap.size) 3 28 1 (uu) (j) (cs2) _ rfl rfl (fun g hg => hg) (show Wk.heap.size ≤ w5.heap.size by omega) _ _ rfl _ _ rfl rfl rfl rfl i0 _ 8 Try.underlying28 hi0 hz0 hz1 hz2 rfl (by decide) (by omega) (by decide) (by simp [Value.oneCell']) ?_
          refine rs_same (hO _ _) (.inl (Nat.ne_of_beq_eq_false rfl)) 55 10 (.inr rfl) rfl _ rfl ?_
          intro f w9 k9 hk9 hI9 ht9 hcp9
          have E0 : f 0 = _ := ht9 0 (Nat.le_of_ble_eq_true rfl)
          conv at E0 => rhs; whnf
          have E1 : f 1 = _ := ht9 1 (Nat.le_of_ble_eq_true rfl)
          have E2 : f 2 = _ := ht9 2 (Nat.le_of_ble_eq_true rfl)
          conv at E2 => rhs; whnf
          have E3 : f 3 = _ := ht9 3 (Nat.le_of_ble_eq_true rfl)
          conv at E3 => rhs; whnf
          have E4 : f 4 = _ := ht9 4 (Nat.le_of_ble_eq_true rfl)
          have E5 : f 5 = _ := ht9 5 (Nat.le_of_ble_eq_true rfl)
          have E6 : f 6 = _ := ht9 6 (Nat.le_of_ble_eq_true rfl)
          conv at E6 => rhs; whnf
          have E7 : (TIn (From w5.heap.size) (bools (Cir.outsOf d s j))) w9 (f 7) := ht9 7 (Nat.le_of_ble_eq_true rfl)
          have E8 : f 8 = _ := ht9 8 (Nat.le_of_ble_eq_true rfl)
          have E9 : (TNew _ 1 1 [.int .i64 (Cir.num (Cir.outsOf d s j) : Nat)]) w9 (f 9) := ht9 9 (Nat.le_of_ble_eq_true rfl)
          have E10 : (TAny) w9 (f 10) := ht9 10 (Nat.le_of_ble_eq_true rfl)
          have E11 : (TAny) w9 (f 11) := ht9 11 (Nat.le_of_ble_eq_true rfl)
          have Ho9 : Only _ w5 w9 := hI9.2.1
          have hown9 : w9.ownsRow (Wk.heap.size) 3 1 (f 10) (j + 1) (cs2 ++ [.int .i64 (Cir.num (Cir.outsOf d s j) : Nat)]) := hI9.2.2.1
          have hat9 : ∀ g, (f 10).ownBlock = some g → (uu).ownBlock = some g ∨ w5.heap.size ≤ g := hI9.2.2.2
          have C11 : f 11 = f 10 := (hcp9 11 _ 55 10 rfl rfl rfl rfl).2
          simp only [putAll, E0, E1, E2, E3, E4, E5, E6, E8, C11, Nat.zero_add, Nat.reduceAdd, Act.put, List.setIfInBounds_toArray, List.set_cons_succ, List.set_cons_zero]
          clear E0 E1 E2 E3 E4 E5 E6 E8
          clear hI9 ht9 hcp9 hk9
          generalize f 7 = r7 at *
          generalize f 9 = r9 at *
          generalize f 10 = r10 at *
          have hA14 := (apart_loc Hap13.out.symm hat9 (fun g hg => (Hv13.out.lt g hg).2)).symm
          have Hv14 := Lib.hid (own_only Hv13.out Ho9 (fun g h1 h2 => Hap13.out g h1 h2))
          have Hu14 := Lib.hid hown9
          have Hap14 := Lib.hid hA14
          have Hb14 := Lib.hid (HBy w9 Ho9)
          clear Ho9 hown9 hat9 hA14 HBy hO Hv13 Hu13 Hap13 hol
          obtain ⟨w6, hw6⟩ : ∃ w6, w6 = w9 := ⟨_, rfl⟩
          subst hw6
          obtain ⟨zz, p0, p1, p2, p3⟩ := PCk.out.below Hb14.out
          go_wp2_with fail
          go_roundw
          case rel => exact ⟨_, _, j + 1, rfl, rfl, by go_num, by omega, Lib.hid (by rw [HSn1.out, ints_snoc, HC1s.out]; exact Hv14.out), Lib.hid (by rw [HSn2.out, ints_snoc, HC2s.out]; exact Hu14.out), Hap14, Hb14.out⟩
          case measure => simp [intOf] <;> omega
        · obtain rfl : j = M := by omega
          obtain ⟨ga, ca, hva, hga, hga2, hca, hcam⟩ := own_open Hv6.out (by omega)
          obtain ⟨gb, cb, hvb, hgb, hgb2, hcb, hcbm⟩ := own_open Hu6.out (by omega)
          subst hva hvb
          unfold maxLen at hcam hcbm
          have Hab := Hap
          have Na1 : Hid (∀ g, (Value.slice (some ⟨ga, 0, none⟩) j ca).ownBlock = some g → ¬ E1 g ∧ ¬ E2 g) := Lib.hid fun g hg => ⟨fun he => by have h1 := HMB.out.l1 g he; have h2 := (Hv6.out.lt g hg).1; omega, fun he => by have h1 := HMB.out.l2 g he; have h2 := (Hv6.out.lt g hg).1; omega⟩
          have Nb1 : Hid (∀ g, (Value.slice (some ⟨gb, 0, none⟩) j cb).ownBlock = some g → ¬ E1 g ∧ ¬ E2 g) := Lib.hid fun g hg => ⟨fun he => by have h1 := HMB.out.l1 g he; have h2 := (Hu6.out.lt g hg).1; omega, fun he => by have h1 := HMB.out.l2 g he; have h2 := (Hu6.out.lt g hg).1; omega⟩
          have hRl : (Cir.rowI d s).length = j := HN1.out
          have Oa5 : Hid (wr.ownsRow (w1.heap.size + 1) 3 1 (.slice (some ⟨ga, 0, none⟩) j ca) (Cir.rowI d s).length (ints (Cir.rowI d s))) := Lib.hid (by
            have := Hv6.out
            rw [List.take_of_length_le (by omega)] at this
            rw [hRl]
            exact own_mono this (by omega))
          have Ob5 : Hid (wr.ownsRow (w1.heap.size + 1) 3 1 (.slice (some ⟨gb, 0, none⟩) j cb) (nats (Cir.rowO d s)).length (ints (nats (Cir.rowO d s)))) := Lib.hid (by
            have := Hu6.out
            rw [List.take_of_length_le (by have := HO1.out; omega)] at this
            rw [HO1.out]
            exact own_mono this (by omega))
          have HMB5 := Lib.hid (HMB.out.below Hbk.out)
          have hgw : Wk.heap.size ≤ ga := hga
          have hgw2 : Wk.heap.size ≤ gb := hgb
          clear Hap Hv6 Hu6
          have Hk8 : k ≤ 8 := by omega
          have HMl := HMB5.out.below (bel_new wr (.cells #[.slice (some ⟨ga, 0, none⟩) j ca] 28))
          obtain ⟨us, q1, q2, q3, q4, q5, q6, q7⟩ := HMl.n
          have hl1 : ((Cir.machN d).next.take k).length = k := by rw [List.length_take]; unfold Cir.machN; rw [List.length_map]; omega
          have hl2 : ((Cir.machN d).out.take k).length = k := by rw [List.length_take]; unfold Cir.machN; rw [List.length_map]; omega
          rw [hl1] at q1 q2
          have Q2 := Lib.hid q2
          have HML := Lib.hid HMl
          have Q := Lib.hid (And.intro q1 (And.intro q3 (And.intro q4 (And.intro q5 (And.intro q6 q7)))))
          have Hl1 := Lib.hid hl1
          have Hl2 := Lib.hid hl2
          have Oal := Lib.hid (Oa5.out.alloc (.cells #[.slice (some ⟨ga, 0, none⟩) j ca] 28))
          have Obl := Lib.hid (Ob5.out.alloc (.cells #[.slice (some ⟨ga, 0, none⟩) j ca] 28))
          have Hlit := Lib.hid (Row.of_own (World.ownsRow_lit (base := wr.heap.size) (e := 28) (size := 1) wr #[.slice (some ⟨ga, 0, none⟩) j ca] 1 (Nat.le_refl _) (by unfold maxLen; omega) rfl))
          have hgm5 := mb_lt HMB5.out
          have hsl : (wr.alloc (.cells #[.slice (some ⟨ga, 0, none⟩) j ca] 28)).heap.size = wr.heap.size + 1 := by simp
          have Nb2 : Hid (∀ v7 : Value, (v7.ownBlock = vN.ownBlock ∨ v7.ownBlock = some (wr.alloc (.cells #[.slice (some ⟨ga, 0, none⟩) j ca] 28)).heap.size) → ∀ g, (Value.slice (some ⟨gb, 0, none⟩) j cb).ownBlock = some g → ¬ (E1 g ∨ (Value.slice (some ⟨ga, 0, none⟩) j ca).ownBlock = some g ∨ v7.ownBlock = some g)) := Lib.hid fun v7 hat g hg he => by
            have hgb : gb = g := by simpa [Value.ownBlock] using hg
            subst hgb
            rcases he with he | he | he
            · exact (Nb1.out gb rfl).1 he
            · exact Hab.out gb he rfl
            · rcases hat with h | h
              · exact (Nb1.out gb rfl).1 (q6 gb (by rw [← h]; exact he))
              · rw [h] at he
                have h2 := Option.some.inj he
                have h3 := (Ob5.out.lt gb rfl).2
                omega
          obtain ⟨k0, k1, k2, k3, k4⟩ := HMB5.out.cells
          clear hRl HMl q1 q2 q3 q4 q5 q6 q7 hl1 hl2
          go_wp2_with (first
            | (at_builtin; refine append_intss rfl (.tmp 57) (.tmp 59) rfl (w1.heap.size + 1) vN k us rfl Q2.out _ 1 [.slice (some ⟨ga, 0, none⟩) j ca] rfl Hlit.out (by simp [Value.oneCell']) (by omega) (by first | omega | (simp <;> omega)) ?_; intro v7 w7 hown7 hg7 hat7; obtain ⟨A7, c7, hv7⟩ := slice_of_own hown7; subst hv7; have HMB7 := Lib.hid (MB.addN HML.out (Q.out.1.trans Hl1.out.symm) Q.out.2.1 Q.out.2.2.1 Q.out.2.2.2.1 Q.out.2.2.2.2.1 Q.out.2.2.2.2.2 Oal.out (fun g hg => (Na1.out g hg).1) (fun g hg => (Na1.out g hg).2) (by rw [Hl1.out]; exact hown7) hg7 hat7); have hbx := (hg7.block w1.heap.size (mb_lt HML.out) (fun e => by obtain ⟨_, _, p2, _⟩ := HML.out.n; have := (p2.lt _ e.symm).1; omega)).trans HML.out.box; have x1 := blk_cell hbx 1; have y1 := blk_free hbx 1; have x22 : w7.cell? ⟨w1.heap.size, 2, none⟩ = some vO := (blk_cell hbx 2); have y22 := blk_free hbx 2; obtain ⟨j0, j1, j2, j3, j4⟩ := HMB7.out.cells; have HMl8 := HMB7.out.below (bel_new _ (.cells #[.slice (some ⟨gb, 0, none⟩) j cb] 28)); obtain ⟨us2, t1, t2, t3, t4, t5, t6, t7⟩ := HMl8.o; rw [Hl2.out] at t1 t2; have T2 := Lib.hid t2; have HML8 := Lib.hid HMl8; have TQ := Lib.hid (And.intro t1 (And.intro t3 (And.intro t4 (And.intro t5 (And.intro t6 t7))))); have Ob8 := Lib.hid ((own_set (own_kept Obl.out hg7 (fun g h1 h2 => (Nb1.out g h1).1 (Q.out.2.2.2.2.1 g h2))) (show w1.heap.size < w1.heap.size + 1 by omega) (i := 1) (u := (Value.slice A7 (k + 1) c7))).alloc (.cells #[.slice (some ⟨gb, 0, none⟩) j cb] 28)); have Hlit2 := Lib.hid (Row.of_own (World.ownsRow_lit (base := (w7.setCell ⟨w1.heap.size, 1, none⟩ (Value.slice A7 (k + 1) c7)).heap.size) (e := 28) (size := 1) (w7.setCell ⟨w1.heap.size, 1, none⟩ (Value.slice A7 (k + 1) c7)) #[.slice (some ⟨gb, 0, none⟩) j cb] 1 (Nat.le_refl _) (by unfold maxLen; omega) rfl)); have Hg7 := Lib.hid hg7; have Hat7 := Lib.hid hat7; have hz7 := hg7.size; have hz8 : (w7.setCell ⟨w1.heap.size, 1, none⟩ (Value.slice A7 (k + 1) c7)).heap.size = w7.heap.size := (by simp [World.setCell]); have Hlit2 := Lib.hid (by have hh := Hlit2.out; rw [hz8] at hh; exact hh); clear hown7 hg7 hat7 hbx HMl8 t1 t2 t3 t4 t5 t6 t7 k0 k1 k2 k3 k4)
            | (at_builtin; refine append_intss rfl (.tmp 63) (.tmp 65) rfl (w1.heap.size + 1) vO k us2 rfl T2.out _ 1 [.slice (some ⟨gb, 0, none⟩) j cb] rfl Hlit2.out (by simp [Value.oneCell']) (by omega) (by first | omega | (simp <;> omega)) ?_; intro v9 w9 hown9 hg9 hat9; obtain ⟨A9, c9, hv9⟩ := slice_of_own hown9; subst hv9; have HMB9 := Lib.hid (MB.addO HML8.out (TQ.out.1.trans Hl2.out.symm) TQ.out.2.1 TQ.out.2.2.1 TQ.out.2.2.2.1 TQ.out.2.2.2.2.1 TQ.out.2.2.2.2.2 Ob8.out (Nb2.out _ Hat7.out) (fun g hg => (Nb1.out g hg).2) (by rw [Hl2.out]; exact hown9) hg9 hat9); have hbx := (hg9.block w1.heap.size (mb_lt HML8.out) (fun e => by obtain ⟨_, _, p2, _⟩ := HML8.out.o; have := (p2.lt _ e.symm).1; omega)).trans HML8.out.box; have x2 := blk_cell hbx 2; have y2 := blk_free hbx 2; have Hg9 := Lib.hid hg9; have Hat9 := Lib.hid hat9; clear hown9 hg9 hat9 hbx j0 j1 j2 j3 j4 x1 y1))
          go_roundw
          case rel => exact ⟨k + 1, _, _, _, _, by omega, by go_num, Lib.hid (by rw [HX1.out, HX2.out]; exact HMB9.out), Lib.hid (fun g hg => by
              rcases hg with hg | hg | hg
              · exact HE1.out g hg
              · have := Option.some.inj hg; simp only at this; omega
              · rcases Hat7.out with h | h
                · exact HE1.out g (Q.out.2.2.2.2.1 g (by rw [← h]; exact hg))
                · have := Option.some.inj (hg.symm.trans h); rw [World.size_alloc] at this; omega), Lib.hid (fun g hg => by
              rcases hg with hg | hg | hg
              · exact HE2.out g hg
              · have := Option.some.inj hg; simp only at this; omega
              · rcases Hat9.out with h | h
                · exact HE2.out g (TQ.out.2.2.2.2.1 g (by rw [← h]; exact hg))
                · have := Option.some.inj (hg.symm.trans h); rw [World.size_alloc, hz8] at this; omega), by
            have a0 : Only (fun g => g = w1.heap.size) Wk wr := Only.of_below _ Hbk.out
            have a1 := Ho.out.trans (a0.trans (Only.of_below _ (bel_new wr (.cells #[.slice (some ⟨ga, 0, none⟩) j ca] 28))))
            have a2 := a1.after (Only.grown (E := fun g => vN.ownBlock = some g) Hg7.out (fun q hq => hq)) (fun g hg => .inl (HE1.out g (Q.out.2.2.2.2.1 g hg)))
            have a3 := a2.trans (Only.grown (E := fun g => g = w1.heap.size) (set_grown _ _ 1 (Value.slice A7 (k + 1) c7)) (fun q hq => (Option.some.inj hq).symm))
            have a4 := a3.trans (Only.of_below _ (bel_new _ (.cells #[.slice (some ⟨gb, 0, none⟩) j cb] 28)))
            have a5 := a4.after (Only.grown (E := fun g => vO.ownBlock = some g) Hg9.out (fun q hq => hq)) (fun g hg => .inl (HE2.out g (TQ.out.2.2.2.2.1 g hg)))
            exact a5.trans (Only.grown (E := fun g => g = w1.heap.size) (set_grown _ _ 2 (Value.slice A9 (k + 1) c9)) (fun q hq => (Option.some.inj hq).symm))⟩
          case measure => simp [intOf] <;> omega
    · obtain rfl : k = (Cir.reach d).length := by omega
      have HMf : Hid (MB w1.heap.size d.ins E1 E2 vN vO (Cir.machN d).next (Cir.machN d).out wr) := Lib.hid (by
        have := HMB.out
        rwa [List.take_of_length_le (by unfold Cir.machN; simp), List.take_of_length_le (by unfold Cir.machN; simp)] at this)
      obtain ⟨k0, k1, k2, k3, k4⟩ := HMf.out.cells
      have hR := (Hb.out.block (w.heap.size + 1) (by omega)).trans HRes1.out
      have o0 := blk_cell hR 0
      have o1 := blk_cell hR 1
      have o2 := blk_cell hR 2
      have b0 := blk_free hR 0
      have b1 := blk_free hR 1
      have b2 := blk_free hR 2
      simp at o0 o1 o2
      have HB := Lib.hid (B1.out.trans (Hb.out.mono B1.out.size))
      have hlN := HMf.out.l1
      have hlO := HMf.out.l2
      obtain ⟨An, cn, hvN, -, -⟩ := SSAt.shape (OwnSE.at HMf.out.n)
      obtain ⟨Ao, co, hvO, -, -⟩ := SSAt.shape (OwnSE.at HMf.out.o)
      have HMF2 := Lib.hid (And.intro HMf.out.n (And.intro HMf.out.o HMf.out.d))
      have HlN := Lib.hid hlN
      have HlO := Lib.hid hlO
      clear hR HMf HMB hlN hlO
      subst hvN hvO
      go_wp2_with fail
      refine bodyPost_ret (v := .agg #[.int .i64 d.ins, .slice An (Cir.machN d).next.length cn, .slice Ao (Cir.machN d).out.length co]) (by simp [results, Try.results32, go_sem, o0, o1, o2]) rfl ⟨⟨_, rfl, ⟨_, _, rfl, (OwnSE.innM (OwnSE.set (OwnSE.set (OwnSE.set HMF2.out.1 (by omega)) (by omega)) (by omega))).mono (fun g hg => Nat.le_trans (by omega) hg), (OwnSE.innM (OwnSE.set (OwnSE.set (OwnSE.set HMF2.out.2.1 (by omega)) (by omega)) (by omega))).mono (fun g hg => Nat.le_trans (by omega) hg)⟩⟩, ?_⟩
      exact ((HB.out.setCell (by simp only; omega) _).setCell (by simp only; omega) _).setCell (by simp only; omega) _
theorem specMof_ok (v : Value) (d : Ci) (w : World) (h : CircAt w v (Cir.toCz d)) (hd : Cir.Ok d) (hv : Cir.valid (Cir.toCz d) = true) :
    Calls Try.prog 32 #[v] w (ReadMach (Cir.machN d) w) :=
  (specMof_okF v d w h hd hv).mono fun _ _ h => h.read
end Go.Proofs.Ytmlmnelbphjfbaa

namespace Go.Proofs.Ytmlmnelbphjfbaa
open Go.RowKit
set_option maxRecDepth 100000
/-! MachineOf, both, for all circuits. -/
def Cir.mach0 : Mz := { ins := 0, next := [], out := [] }
theorem specMof_noF (v : Value) (c : Cz) (w : World) (h : CircAt w v c) (hv : Cir.valid c = false) :
    Calls Try.prog 32 #[v] w (ReadMachF Cir.mach0 w) := by
  have HC := Lib.hid h
  obtain ⟨vn, vg, vo, rfl, -⟩ := h
  have hb0 := bel_new w (.cells #[.int .i64 c.ins, vn, vg, vo] 48)
  have hb00 := bel_new (w.alloc (.cells #[.int .i64 c.ins, vn, vg, vo] 48)) (.cells #[.int .i64 0, .slice none 0 0, .slice none 0 0] 25)
  have B0 := Lib.hid (hb0.trans (hb00.mono hb0.size))
  have PC := Lib.hid ((PCells.boxed w c.ins vn vg vo 48).below hb00)
  have hsz : ((w.alloc (.cells #[.int .i64 c.ins, vn, vg, vo] 48)).alloc (.cells #[.int .i64 0, .slice none 0 0, .slice none 0 0] 25)).heap.size = w.heap.size + 2 := by simp
  have hR : ((w.alloc (.cells #[.int .i64 c.ins, vn, vg, vo] 48)).alloc (.cells #[.int .i64 0, .slice none 0 0, .slice none 0 0] 25)).heap[w.heap.size + 1]? = some (.cells #[.int .i64 0, .slice none 0 0, .slice none 0 0] 25 (0, 0)) := by
    have := heap_alloc_new (w.alloc (.cells #[.int .i64 c.ins, vn, vg, vo] 48)) (.cells #[.int .i64 0, .slice none 0 0, .slice none 0 0] 25)
    rwa [World.size_alloc] at this
  have HRes := Lib.hid hR
  obtain ⟨z, p0, p1, p2, p3⟩ := PC.out
  have HV := Lib.hid (specValid_any _ _ _ (HC.out.below B0.out))
  rw [hv] at HV
  clear hv HC hb0 hb00 hR
  go_enter Try.func32, Try.ntmps32
  go_wp2_with fail
  generalize (w.alloc (.cells #[.int .i64 c.ins, vn, vg, vo] 48)).alloc (.cells #[.int .i64 0, .slice none 0 0, .slice none 0 0] 25) = W at *
  refine HV.out.mono ?_
  rintro e w1 ⟨rfl, hb1⟩
  have B1 := Lib.hid (B0.out.trans (hb1.mono B0.out.size))
  have hR1 := (hb1.block _ (by omega)).trans HRes.out
  have o0 := blk_cell hR1 0
  have o1 := blk_cell hR1 1
  have o2 := blk_cell hR1 2
  have b0 := blk_free hR1 0
  have b1 := blk_free hR1 1
  have b2 := blk_free hR1 2
  simp at o0 o1 o2
  have z1 := hb1.size
  clear hb1 hR1 p0 p1 p2 p3 z HV HRes PC
  go_wp2_with fail
  refine bodyPost_ret (v := .agg #[.int .i64 0, .slice none 0 0, .slice none 0 0]) (by simp [results, Try.results32, go_sem, o0, o1, o2]) rfl ⟨⟨_, rfl, ⟨_, _, rfl, SSIn.nil _ _ _, SSIn.nil _ _ _⟩⟩, ((B1.out.setCell (by simp only; omega) _).setCell (by simp only; omega) _).setCell (by simp only; omega) _⟩
theorem specMof_anyF (v : Value) (c : Cz) (w : World) (h : CircAt w v c) : Calls Try.prog 32 #[v] w (ReadMachF (Cir.machI c) w) := by
  cases hv : Cir.valid c
  · have hr : Cir.machI c = Cir.mach0 := by unfold Cir.machI; rw [hv]; rfl
    rw [hr]
    exact specMof_noF v c w h hv
  · obtain ⟨d1, d2⟩ := Cir.nat_ok hv
    have hr : Cir.machI c = Cir.machN (Cir.nat c) := by unfold Cir.machI; rw [hv]; rfl
    rw [hr]
    exact specMof_okF v (Cir.nat c) w (by rw [← d1]; exact h) d2 (by rw [← d1]; exact hv)
theorem specMof_any (v : Value) (c : Cz) (w : World) (h : CircAt w v c) : Calls Try.prog 32 #[v] w (ReadMach (Cir.machI c) w) :=
  (specMof_anyF v c w h).mono fun _ _ h => h.read
end Go.Proofs.Ytmlmnelbphjfbaa

namespace Go.Proofs.Ytmlmnelbphjfbaa
open Go.RowKit
set_option maxRecDepth 100000
/-! A drawn machine. -/
theorem apart_put {v v' u : Value} {T : Nat} (h : Apart v u) (hat : v'.ownBlock = v.ownBlock ∨ v'.ownBlock = some T) (hu : ∀ g, u.ownBlock = some g → g < T) : Apart v' u :=
  apart_loc h (fun g hg => hat.elim (fun e => .inl (e.symm.trans hg)) (fun e => .inr (Nat.le_of_eq (Option.some.inj (e.symm.trans hg))))) hu
theorem se_updO {α : Type} {enc : List α → List Value} {to ti : TypeId} {B : Nat} {E X : Nat → Prop} {w w' : World} {v : Value} {xss : List (List α)} {j : Nat} {x' : List α} {vs : List Value} {u : Value} (h1 : vs.length = xss.length) (h2 : w.ownsRow B to 1 v xss.length vs) (h3 : ∀ (i : Nat) (x : List α) (u : Value), xss[i]? = some x → vs[i]? = some u → w.ownsRow B ti 1 u x.length (enc x))
    (h4 : vs.Pairwise Apart) (h5 : ∀ u ∈ vs, Apart u v) (h6 : ∀ g, v.ownBlock = some g → E g) (h7 : ∀ u ∈ vs, ∀ g, u.ownBlock = some g → E g) (hu : vs[j]? = some u) (ho : Only X w w') (hX : ∀ g, E g → X g → u.ownBlock = some g) (hx : w'.ownsRow B ti 1 u x'.length (enc x')) :
    OwnSE enc to ti B E w' v (xss.set j x') := by
  have hum := List.mem_of_getElem? hu
  refine ⟨vs, by simp [h1], by rw [List.length_set]; exact own_only h2 ho fun g hg' e => h5 u hum g (hX g (h6 g hg') e) hg', fun i x u' hi hu' => ?_, h4, h5, h6, h7⟩
  by_cases hij : j = i
  · subst hij
    rw [hu] at hu'
    obtain rfl := Option.some.inj hu'
    rw [List.getElem?_set] at hi
    simp at hi
    obtain ⟨_, rfl⟩ := hi
    exact hx
  · rw [List.getElem?_set_ne hij] at hi
    refine own_only (h3 i x u' hi hu') ho fun g hg' e' => ?_
    have e := hX g (h7 u' (List.mem_of_getElem? hu') g hg') e'
    have hp := List.pairwise_iff_getElem.1 h4
    obtain ⟨hjl, rfl⟩ := List.getElem?_eq_some_iff.1 hu
    obtain ⟨hil, rfl⟩ := List.getElem?_eq_some_iff.1 hu'
    rcases Nat.lt_or_ge j i with hlt | hge
    · exact hp j i hjl hil hlt g e hg'
    · exact hp i j hil hjl (by omega) g hg' e
/-- A row that was grown, and its header laid anew. -/
theorem ssin_upd {α : Type} {enc : List α → List Value} {to ti : TypeId} {B : Nat} {E X : Nat → Prop} {w w1 w2 : World} {v : Value} {xss : List (List α)} {j : Nat} {x' : List α} {vs : List Value} {u u' : Value} (h1 : vs.length = xss.length) (h3 : ∀ (i : Nat) (x : List α) (u : Value), xss[i]? = some x → vs[i]? = some u → w.ownsRow B ti 1 u x.length (enc x))
    (h4 : vs.Pairwise Apart) (h5 : ∀ u ∈ vs, Apart u v) (h7 : ∀ u ∈ vs, ∀ g, u.ownBlock = some g → E g) (hu : vs[j]? = some u) (ho : Only X w w1) (hX : ∀ g, E g → X g → u.ownBlock = some g) (h2 : w2.ownsRow B to 1 v xss.length (vs.set j u')) (hx : w2.ownsRow B ti 1 u' x'.length (enc x')) (ho2 : Only (fun g => v.ownBlock = some g) w1 w2) :
    SSIn enc (From B) w2 v (xss.set j x') := by
  refine ⟨vs.set j u', by simp [h1], by rw [List.length_set]; exact (RowIn.of_own h2).mono fun g hg => hg.1, fun i x u0 hi hu0 => ?_⟩
  by_cases hij : j = i
  · subst hij
    have hjl := (List.getElem?_eq_some_iff.1 hu).1
    rw [List.getElem?_set] at hi hu0
    simp [hjl] at hi hu0
    obtain ⟨_, rfl⟩ := hi
    subst hu0
    exact (RowIn.of_own hx).mono fun g hg => hg.1
  · rw [List.getElem?_set_ne hij] at hi hu0
    have ha := own_only (h3 i x u0 hi hu0) ho fun g hg' e' => by
      have e := hX g (h7 u0 (List.mem_of_getElem? hu0) g hg') e'
      have hp := List.pairwise_iff_getElem.1 h4
      obtain ⟨hjl, rfl⟩ := List.getElem?_eq_some_iff.1 hu
      obtain ⟨hil, rfl⟩ := List.getElem?_eq_some_iff.1 hu0
      rcases Nat.lt_or_ge j i with hlt | hge
      · exact hp j i hjl hil hlt g e hg'
      · exact hp i j hil hjl (by omega) g hg' e
    have hb := own_only ha ho2 fun g hg' e' => h5 u0 (List.mem_of_getElem? hu0) g hg' e'
    exact (RowIn.of_own hb).mono fun g hg => hg.1
/-- The rows but the first. -/
theorem ssin_drop1 {α : Type} {enc : List α → List Value} {to ti : TypeId} {B : Nat} {E : Nat → Prop} {w : World} {b k c : Nat} {xss : List (List α)} (h : OwnSE enc to ti B E w (.slice (some ⟨b, 0, none⟩) k c) xss) (hk : k = xss.length) (h1 : 1 ≤ k) :
    SSIn enc (From B) w (.slice (if c = 1 then some ⟨b, 0, none⟩ else some ⟨b, 1, none⟩) (k - 1) (c - 1)) (xss.drop 1) := by
  subst hk
  obtain ⟨vs, q1, q2, q3⟩ := h.innM
  obtain ⟨⟨r1, A, c', r2, r3, r4, r5⟩, r6⟩ := q2
  injection r2 with e1 e2 e3
  subst e1 e3
  refine ⟨vs.drop 1, by rw [List.length_drop, List.length_drop, q1], ⟨⟨by rw [List.length_drop, List.length_drop]; omega, _, c - 1, by rw [List.length_drop], by rw [List.length_drop]; omega, by omega, fun hp => ?_⟩, fun hp g hg => ?_⟩, fun i x u hx hu => ?_⟩
  · rw [List.length_drop] at hp
    have hc : c ≠ 1 := by omega
    obtain ⟨b', o', hb', hbl, hcell⟩ := r5 (by omega)
    have := Option.some.inj hb'
    injection this with e4 e5
    subst e4
    refine ⟨b, 1, by rw [if_neg hc], hbl, fun j u hu => ?_⟩
    rw [List.getElem?_drop] at hu
    have := hcell _ _ hu
    rw [← e5, Nat.zero_add] at this
    exact this
  · refine r6 (by omega) g ?_
    by_cases hc : c = 1
    · rw [if_pos hc] at hg; exact hg
    · rw [if_neg hc] at hg; exact hg
  · rw [List.getElem?_drop] at hx hu
    exact q3 _ _ _ hx hu
section
variable {gm : Nat} {ins : Int} {E1 E2 X : Nat → Prop} {vN vO u : Value} {xs ys : List (List Int)} {w w' : World} {j : Nat} {x' : List Int} {vs : List Value}
theorem mb_updN (h : MB gm ins E1 E2 vN vO xs ys w) (q1 : vs.length = xs.length) (q2 : w.ownsRow (gm + 1) 28 1 vN xs.length vs) (q3 : ∀ (i : Nat) (x : List Int) (u : Value), xs[i]? = some x → vs[i]? = some u → w.ownsRow (gm + 1) 3 1 u x.length (ints x)) (q4 : vs.Pairwise Apart) (q5 : ∀ u ∈ vs, Apart u vN) (q6 : ∀ g, vN.ownBlock = some g → E1 g) (q7 : ∀ u ∈ vs, ∀ g, u.ownBlock = some g → E1 g)
    (hu : vs[j]? = some u) (ho : Only X w w') (hgm : ¬ X gm) (h2 : ∀ g, E2 g → ¬ X g) (hX : ∀ g, E1 g → X g → u.ownBlock = some g) (hx : w'.ownsRow (gm + 1) 3 1 u x'.length (ints x')) : MB gm ins E1 E2 vN vO (xs.set j x') ys w' :=
  ⟨(ho.block gm (mb_lt h) hgm).trans h.box, se_updO q1 q2 q3 q4 q5 q6 q7 hu ho hX hx, h.o.only ho (fun g _ he => h2 g he), h.d, fun g he => Nat.lt_of_lt_of_le (h.l1 g he) ho.size, fun g he => Nat.lt_of_lt_of_le (h.l2 g he) ho.size⟩
theorem mb_updO (h : MB gm ins E1 E2 vN vO xs ys w) (q1 : vs.length = ys.length) (q2 : w.ownsRow (gm + 1) 28 1 vO ys.length vs) (q3 : ∀ (i : Nat) (x : List Int) (u : Value), ys[i]? = some x → vs[i]? = some u → w.ownsRow (gm + 1) 3 1 u x.length (ints x)) (q4 : vs.Pairwise Apart) (q5 : ∀ u ∈ vs, Apart u vO) (q6 : ∀ g, vO.ownBlock = some g → E2 g) (q7 : ∀ u ∈ vs, ∀ g, u.ownBlock = some g → E2 g)
    (hu : vs[j]? = some u) (ho : Only X w w') (hgm : ¬ X gm) (h2 : ∀ g, E1 g → ¬ X g) (hX : ∀ g, E2 g → X g → u.ownBlock = some g) (hx : w'.ownsRow (gm + 1) 3 1 u x'.length (ints x')) : MB gm ins E1 E2 vN vO xs (ys.set j x') w' :=
  ⟨(ho.block gm (mb_lt h) hgm).trans h.box, h.n.only ho (fun g _ he => h2 g he), se_updO q1 q2 q3 q4 q5 q6 q7 hu ho hX hx, h.d, fun g he => Nat.lt_of_lt_of_le (h.l1 g he) ho.size, fun g he => Nat.lt_of_lt_of_le (h.l2 g he) ho.size⟩
end
def DrewM (R P : Nat) (w : World) (e : Ending) (w' : World) : Prop := ∃ v m, e = .returned v ∧ MachIn w.heap.size w' v m ∧ Rd w' R P ∧ w.grownBy w' (some R)
set_option maxHeartbeats 16000000 in
theorem l20Machine_any (R P : Nat) (n : Int) (w : World) (h : Rd w R P) (hP : P ≤ 80000) (h0 : 0 ≤ n) (h1 : n ≤ 1000) :
    Calls Try.prog 19 #[.pointer (some ⟨R, 0, none⟩), .int .i64 n] w (DrewM R (P + 20000) w) := by
  have Hr := Lib.hid h
  have zR := h.lt
  clear h
  go_enter Try.func19, Try.ntmps19
  go_wp2_with fail
  have HO0 := Lib.hid (only_alloc (Only.refl (· = R) w) (.cells #[.int .i64 0, .slice none 0 0, .slice none 0 0] 25))
  have HX0 := Lib.hid (heap_alloc_new w (.cells #[.int .i64 0, .slice none 0 0, .slice none 0 0] 25))
  have Hr0 := Lib.hid (Hr.out.alloc (.cells #[.int .i64 0, .slice none 0 0, .slice none 0 0] 25))
  clear Hr
  generalize w.alloc (.cells #[.int .i64 0, .slice none 0 0, .slice none 0 0] 25) = w0 at *
  refine (pick_any 4 _ _ _ Hr0.out (by omega) (by omega) (by omega)).mono ?_
  rintro e w1 ⟨x, hx0, hx1, rfl, hr1, hg1⟩
  have Hr1 := Lib.hid hr1
  have HO1 := Lib.hid (only_drawn HO0.out hg1 (.inr rfl))
  have HX1 := Lib.hid (res_grown HX0.out hg1 (fun e => by have := Option.some.inj e; omega))
  clear hr1 hg1 Hr0 HO0 HX0
  by_cases hx : x = 0
  · have hxb : (x == 0) = true := by simpa using hx
    clear hx
    go_wp2_with fail
    refine (l20Circuit_any R (P + 1) n _ Hr1.out (by omega) h0 h1).mono ?_
    rintro e w2 ⟨v1, c, rfl, hOc, -, hr2, hg2⟩
    have Hr2 := Lib.hid hr2
    have HO2 := Lib.hid (only_drawn HO1.out hg2 (.inr rfl))
    have HX2 := Lib.hid (res_grown HX1.out hg2 (fun e => by have := Option.some.inj e; omega))
    have HA := Lib.hid hOc.at
    clear hr2 hg2 Hr1 HO1 HX1 hOc
    go_wp2_with fail
    refine (specMof_anyF _ c _ HA.out).mono ?_
    rintro e w3 ⟨⟨v, rfl, hm⟩, hb⟩
    obtain ⟨An, cn, Ao, co, rfl, -⟩ := MachAt.shape hm.at
    have HM := Lib.hid (hm.mono (show w.heap.size + 1 ≤ w2.heap.size + 1 by have := HO2.out.size; omega))
    have Hr3 := Lib.hid (Rd.below Hr2.out hb Hr2.out.lt)
    have HO3 := Lib.hid (HO2.out.trans (Only.of_below _ hb))
    have HX3 := Lib.hid ((hb.block w.heap.size (blk_lt HX2.out)).trans HX2.out)
    clear hm hb Hr2 HO2 HX2 HA
    have o0 := blk_cell HX3.out 0
    have o1 := blk_cell HX3.out 1
    have o2 := blk_cell HX3.out 2
    have f0 := blk_free HX3.out 0
    have f1 := blk_free HX3.out 1
    have f2 := blk_free HX3.out 2
    simp at o0 o1 o2
    go_wp2_with fail
    refine bodyPost_ret (v := .agg #[.int .i64 (Cir.machI c).ins, .slice An (Cir.machI c).next.length cn, .slice Ao (Cir.machI c).out.length co]) (by simp [results, Try.results19, go_sem, o0, o1, o2]) rfl ⟨_, _, rfl, (MachIn.only HM.out (E := fun g => g = w.heap.size) ?_ (fun g hg e => by omega)).mono (by omega), ?_, ?_⟩
    · exact ((Only.refl _ _).aft (Only.grown (set_grown _ _ _ _) fun k hk => (Option.some.inj hk).symm) fun g hg => .inr hg).aft (Only.grown (set_grown _ _ _ _) fun k hk => (Option.some.inj hk).symm) (fun g hg => .inr hg) |>.aft (Only.grown (set_grown _ _ _ _) fun k hk => (Option.some.inj hk).symm) (fun g hg => .inr hg)
    · exact (rd_set (rd_set (rd_set Hr3.out zR) zR) zR).more (by omega)
    · exact (only_set (only_set (only_set HO3.out (Nat.le_refl _)) (Nat.le_refl _)) (Nat.le_refl _)).grownBy
  · have hxb : (x == 0) = false := by simpa using hx
    clear hx
    go_wp2_with fail
    refine (pick_any 3 _ _ _ Hr1.out (by omega) (by omega) (by omega)).mono ?_
    rintro e w2 ⟨ins, hi0, hi1, rfl, hr2, hg2⟩
    have Hr2 := Lib.hid hr2
    have HO2 := Lib.hid (only_drawn HO1.out hg2 (.inr rfl))
    have HX2 := Lib.hid (res_grown HX1.out hg2 (fun e => by have := Option.some.inj e; omega))
    clear hr2 hg2 Hr1 HO1 HX1
    go_wp2_with fail
    have HMB := Lib.hid (MB.start (ins := ins) (w := w2) trivial)
    have HO3 := Lib.hid (only_alloc HO2.out (.cells #[.int .i64 ins, .slice none 0 0, .slice none 0 0] 25))
    have HX3 := Lib.hid (((bel_new w2 (.cells #[.int .i64 ins, .slice none 0 0, .slice none 0 0] 25)).block w.heap.size (blk_lt HX2.out)).trans HX2.out)
    have Hr3 := Lib.hid (Hr2.out.alloc (.cells #[.int .i64 ins, .slice none 0 0, .slice none 0 0] 25))
    have zm2 : w.heap.size < w2.heap.size := blk_lt HX2.out
    clear Hr2 HO2 HX2
    obtain ⟨gm, hgm⟩ : ∃ gm, w2.heap.size = gm := ⟨_, rfl⟩
    rw [hgm] at HMB zm2 ⊢
    clear hgm
    generalize w2.alloc (.cells #[.int .i64 ins, .slice none 0 0, .slice none 0 0] 25) = w3 at *
    refine (pick_any 8 _ _ _ Hr3.out (by omega) (by omega) (by omega)).mono ?_
    rintro e w4 ⟨st, hs0, hs1, rfl, hr4, hg4⟩
    obtain ⟨S, hS⟩ : ∃ S : Nat, 1 + st = (S : Int) := ⟨(1 + st).toNat, by omega⟩
    have Hr4 := Lib.hid hr4
    have HO4 := Lib.hid (only_drawn HO3.out hg4 (.inr rfl))
    have HX4 := Lib.hid (res_grown HX3.out hg4 (fun e => by have := Option.some.inj e; omega))
    have HMB4 := Lib.hid (HMB.out.grown hg4 (fun e => by have := Option.some.inj e; omega) (fun g _ h => h) (fun g _ h => h))
    clear hr4 hg4 Hr3 HO3 HX3 HMB
    have hw4 : IntKind.i64.wrap (1 + st) = (S : Int) := by rw [IntWalk.i64_in _ (by omega)]; exact hS
    have hS1 : 1 ≤ S := by omega
    have hS8 : S ≤ 8 := by omega
    clear hS hs0 hs1
    go_wp2_with fail
    refine (pick_any 3 _ _ _ Hr4.out (by omega) (by omega) (by omega)).mono ?_
    rintro e w5 ⟨ou, ho0, ho1, rfl, hr5, hg5⟩
    obtain ⟨O, hO⟩ : ∃ O : Nat, 1 + ou = (O : Int) := ⟨(1 + ou).toNat, by omega⟩
    have Hr5 := Lib.hid hr5
    have HO5 := Lib.hid (only_drawn HO4.out hg5 (.inr rfl))
    have HX5 := Lib.hid (res_grown HX4.out hg5 (fun e => by have := Option.some.inj e; omega))
    have HMB5 := Lib.hid (HMB4.out.grown hg5 (fun e => by have := Option.some.inj e; omega) (fun g _ h => h) (fun g _ h => h))
    clear hr5 hg5 Hr4 HO4 HX4 HMB4 hw4
    have hw5 : IntKind.i64.wrap (1 + ou) = (O : Int) := by rw [IntWalk.i64_in _ (by omega)]; exact hO
    have hO1 : 1 ≤ O := by omega
    have hO3 : O ≤ 3 := by omega
    clear hO ho0 ho1
    obtain ⟨ins, rfl⟩ := Int.eq_ofNat_of_zero_le hi0
    obtain ⟨M, e, hM⟩ : ∃ M : Nat, (2 : Int) ^ ins = (M : Int) ∧ M = 2 ^ ins := ⟨2 ^ ins, two_pow ins, rfl⟩
    have hM4 : M ≤ 4 := by rw [hM]; exact Nat.pow_le_pow_right (show 0 < 2 by decide) (show ins ≤ 2 by omega)
    have hM1 : 1 ≤ M := by rw [hM]; exact Nat.pow_pos (by decide)
    have hwM := IntWalk.i64_in (M : Int) (by omega)
    clear hM
    have z5 := mb_lt HMB5.out
    have hRg : R < gm := by omega
    go_wp2_with fail
    clear hw5
    go_loopw [8] (fun i wr => ∃ (k : Nat) (E1 E2 : Nat → Prop) (vN vO : Value) (xs ys : List (List Int)), i = .int .i64 k ∧ k ≤ S ∧ Hid (xs.length = k ∧ ys.length = k) ∧ Hid ((∀ x ∈ xs, x.length = M) ∧ (∀ x ∈ ys, x.length = M)) ∧ Hid (MB gm ins E1 E2 vN vO xs ys wr) ∧ Hid (∀ g, E1 g → w5.heap.size ≤ g) ∧ Hid (∀ g, E2 g → w5.heap.size ≤ g) ∧ Hid (Rd wr R (P + 4 + 8 * k)) ∧ Hid (Only (fun g => g = R ∨ g = gm) w5 wr)) (fun i _ => S - (intOf i).toNat)
    case atStart => exact ⟨0, _, _, _, _, [], [], rfl, Nat.zero_le _, Lib.hid (And.intro rfl rfl), Lib.hid (And.intro (by simp) (by simp)), HMB5, Lib.hid (fun g h => h.elim), Lib.hid (fun g h => h.elim), Lib.hid (Hr5.out.more (by omega)), Lib.hid (Only.refl _ _)⟩
    case round =>
      obtain ⟨k, E1, E2, vN, vO, xs, ys, rfl, hk, HL, HW, HMB, HE1, HE2, Hr, HO⟩ := hrel
      clear HMB5 Hr5
      have hzb := HO.out.size
      by_cases hlt : k < S
      · have hdk : decide (k < S) = true := decide_eq_true hlt
        have hA1 : Hid (((wr.alloc (.cells #[] 3)).alloc (.cells #[] 3)).ownsRow wr.heap.size 3 1 (.slice (some ⟨wr.heap.size, 0, none⟩) 0 0) 0 (ints [])) := Lib.hid ((World.ownsRow_lit (base := wr.heap.size) (e := 3) (size := 1) wr #[] 0 (Nat.le_refl _) (by unfold maxLen; omega) rfl).alloc _)
        have hA2 : Hid (((wr.alloc (.cells #[] 3)).alloc (.cells #[] 3)).ownsRow wr.heap.size 3 1 (.slice (some ⟨wr.heap.size + 1, 0, none⟩) 0 0) 0 (ints [])) := Lib.hid (by
          have := World.ownsRow_lit (base := wr.heap.size) (e := 3) (size := 1) (wr.alloc (.cells #[] 3)) #[] 0 (by simp) (by unfold maxLen; omega) rfl
          rwa [World.size_alloc] at this)
        have hAp : Hid (Apart (.slice (some ⟨wr.heap.size, 0, none⟩) 0 0) (.slice (some ⟨wr.heap.size + 1, 0, none⟩) 0 0)) := Lib.hid (fun g h1 h2 => by have h3 := Option.some.inj h1; have h4 := Option.some.inj h2; simp only at h3 h4; omega)
        have hBa : Hid (Only (· = R) wr ((wr.alloc (.cells #[] 3)).alloc (.cells #[] 3))) := Lib.hid (only_alloc (only_alloc (Only.refl _ _) _) _)
        have hRa : Hid (Rd ((wr.alloc (.cells #[] 3)).alloc (.cells #[] 3)) R (P + 4 + 8 * k)) := Lib.hid ((Hr.out.alloc _).alloc _)
        go_wp2_with fail
        obtain ⟨Wk, hWk⟩ : ∃ Wk, Wk = wr := ⟨_, rfl⟩
        subst hWk
        go_loopw [9, 10, 11] (fun v u i wi => ∃ (vv uu : Value) (j : Nat) (x y : List Int), vv = v ∧ uu = u ∧ i = .int .i64 j ∧ j ≤ M ∧ Hid (x.length = j ∧ y.length = j) ∧ Hid (wi.ownsRow Wk.heap.size 3 1 v j (ints x)) ∧ Hid (wi.ownsRow Wk.heap.size 3 1 u j (ints y)) ∧ Hid (Apart v u) ∧ Hid (Rd wi R (P + 4 + 8 * k + 2 * j)) ∧ Hid (Only (· = R) Wk wi)) (fun _ _ i _ => M - (intOf i).toNat)
        case atStart => exact ⟨_, _, 0, [], [], rfl, rfl, rfl, Nat.zero_le _, Lib.hid (And.intro rfl rfl), hA1, hA2, hAp, hRa, hBa⟩
        case round =>
          obtain ⟨vv, uu, j, x, y, hvv, huu, rfl, hj, HLi, Hv, Hu, Hap, Hri, HOi⟩ := hrel
          subst hvv huu
          clear hA1 hA2 hAp hBa hRa Hr
          have hzk := HOi.out.size
          have HMi := Lib.hid (HMB.out.grown HOi.out.grownBy (fun e => by have := Option.some.inj e; omega) (fun g hg h => by have h1 := HE1.out g h; have := Option.some.inj hg; omega) (fun g hg h => by have h1 := HE2.out g h; have := Option.some.inj hg; omega))
          obtain ⟨k0, -⟩ := HMi.out.cells
          by_cases hlj : j < M
          · have hdj : decide (j < M) = true := decide_eq_true hlj
            go_wp2_with fail
            refine (pick_any S _ _ _ Hri.out (by omega) (by omega) (by omega)).mono ?_
            rintro e w6 ⟨q, hq0, hq1, rfl, hr6, hg6⟩
            have Hr6 := Lib.hid hr6
            have HO6 := Lib.hid (only_drawn HOi.out hg6 (.inr rfl))
            have Hv6 := Lib.hid (own_kept Hv.out hg6 (fun g hg e => by have h1 := (Hv.out.lt g hg).1; have h2 := Option.some.inj e; omega))
            have Hu6 := Lib.hid (own_kept Hu.out hg6 (fun g hg e => by have h1 := (Hu.out.lt g hg).1; have h2 := Option.some.inj e; omega))
            have hz6 : Wk.heap.size ≤ w6.heap.size := HO6.out.size
            have Hlit := Lib.hid (Row.of_own (World.ownsRow_lit (base := w6.heap.size) (e := 3) (size := 1) w6 #[.int .i64 q] 1 (Nat.le_refl _) (by unfold maxLen; omega) rfl))
            clear hr6 hg6 Hv Hu HOi Hri k0 HMi
            go_wp2_with (at_builtin; refine append_ints rfl (.tmp 43) (.tmp 47) rfl Wk.heap.size _ j _ rfl (Hv6.out.alloc _) _ 1 [.int .i64 q] rfl Hlit.out (by simp [Value.oneCell']) (by omega) (by simp; omega) ?_; intro v7 w7 hown7 hg7 hat7; have Hv7 := Lib.hid hown7; have Hg7 := Lib.hid hg7; have Hat7 := Lib.hid hat7; clear hown7 hg7 hat7)
            have Hu7 := Lib.hid (own_kept (Hu6.out.alloc (.cells #[.int .i64 q] 3)) Hg7.out (fun g h1 h2 => Hap.out g h2 h1))
            have Ap7 := Lib.hid (apart_put Hap.out Hat7.out (fun g hg => ((Hu6.out.alloc (.cells #[.int .i64 q] 3)).lt g hg).2))
            have Hr7 := Lib.hid (app_rd Hr6.out Hg7.out Hv6.out (by omega))
            have HO7 := Lib.hid ((only_alloc HO6.out (.cells #[.int .i64 q] 3)).aft (Only.grown Hg7.out fun g hg => hg) fun g hg => .inl (Hv6.out.lt g hg).1)
            clear Hg7 Hat7 Hr6 HO6 Hv6 Hu6 Hap Hlit hz6
            refine (pick_any O _ _ _ Hr7.out (by omega) (by omega) (by omega)).mono ?_
            rintro e w8 ⟨q2, hq20, hq21, rfl, hr8, hg8⟩
            have Hr8 := Lib.hid hr8
            have HO8 := Lib.hid (only_drawn HO7.out hg8 (.inr rfl))
            have Hv8 := Lib.hid (own_kept Hv7.out hg8 (fun g hg e => by have h1 := (Hv7.out.lt g hg).1; have h2 := Option.some.inj e; omega))
            have Hu8 := Lib.hid (own_kept Hu7.out hg8 (fun g hg e => by have h1 := (Hu7.out.lt g hg).1; have h2 := Option.some.inj e; omega))
            have hz8 : Wk.heap.size ≤ w8.heap.size := HO8.out.size
            have Hlit := Lib.hid (Row.of_own (World.ownsRow_lit (base := w8.heap.size) (e := 3) (size := 1) w8 #[.int .i64 q2] 1 (Nat.le_refl _) (by unfold maxLen; omega) rfl))
            clear hr8 hg8 Hv7 Hu7 HO7 Hr7
            go_wp2_with (at_builtin; refine append_ints rfl (.tmp 49) (.tmp 53) rfl Wk.heap.size _ j _ rfl (Hu8.out.alloc _) _ 1 [.int .i64 q2] rfl Hlit.out (by simp [Value.oneCell']) (by omega) (by simp; omega) ?_; intro v9 w9 hown9 hg9 hat9; have Hu9 := Lib.hid hown9; have Hg9 := Lib.hid hg9; have Hat9 := Lib.hid hat9; clear hown9 hg9 hat9)
            have Hv9 := Lib.hid (own_kept (Hv8.out.alloc (.cells #[.int .i64 q2] 3)) Hg9.out (fun g h1 h2 => Ap7.out g h1 h2))
            have Ap9 := Lib.hid ((apart_put Ap7.out.symm Hat9.out (fun g hg => ((Hv8.out.alloc (.cells #[.int .i64 q2] 3)).lt g hg).2)).symm)
            have Hr9 := Lib.hid (app_rd Hr8.out Hg9.out Hu8.out (by omega))
            have HO9 := Lib.hid ((only_alloc HO8.out (.cells #[.int .i64 q2] 3)).aft (Only.grown Hg9.out fun g hg => hg) fun g hg => .inl (Hu8.out.lt g hg).1)
            clear Hg9 Hat9 Hr8 HO8 Hv8 Hu8 Ap7 Hlit hz8
            go_roundw
            case rel => exact ⟨_, _, j + 1, x ++ [q], y ++ [q2], rfl, rfl, by go_num, by omega, Lib.hid (by rw [List.length_append, List.length_append, HLi.out.1, HLi.out.2]; exact ⟨rfl, rfl⟩), Lib.hid (by rw [ints_snoc]; exact Hv9.out), Lib.hid (by rw [ints_snoc]; exact Hu9.out), Ap9, Lib.hid (Hr9.out.more (by omega)), HO9⟩
            case measure => simp [intOf] <;> omega
          · obtain rfl : j = M := by omega
            have hdj : decide (j < j) = false := decide_eq_false (by omega)
            obtain ⟨ga, ca, hva, hga, hga2, hca, hcam⟩ := own_open Hv.out (by omega)
            obtain ⟨gb, cb, hvb, hgb, hgb2, hcb, hcbm⟩ := own_open Hu.out (by omega)
            subst hva hvb
            unfold maxLen at hcam hcbm
            have Hab := Hap
            have Na1 : Hid (∀ g, (Value.slice (some ⟨ga, 0, none⟩) j ca).ownBlock = some g → ¬ E1 g ∧ ¬ E2 g) := Lib.hid fun g hg => ⟨fun he => by have h1 := HMB.out.l1 g he; have h2 := (Hv.out.lt g hg).1; omega, fun he => by have h1 := HMB.out.l2 g he; have h2 := (Hv.out.lt g hg).1; omega⟩
            have Nb1 : Hid (∀ g, (Value.slice (some ⟨gb, 0, none⟩) j cb).ownBlock = some g → ¬ E1 g ∧ ¬ E2 g) := Lib.hid fun g hg => ⟨fun he => by have h1 := HMB.out.l1 g he; have h2 := (Hu.out.lt g hg).1; omega, fun he => by have h1 := HMB.out.l2 g he; have h2 := (Hu.out.lt g hg).1; omega⟩
            have Oa5 : Hid (wr.ownsRow (gm + 1) 3 1 (.slice (some ⟨ga, 0, none⟩) j ca) x.length (ints x)) := Lib.hid (by
              rw [HLi.out.1]
              exact own_mono Hv.out (by omega))
            have Ob5 : Hid (wr.ownsRow (gm + 1) 3 1 (.slice (some ⟨gb, 0, none⟩) j cb) y.length (ints y)) := Lib.hid (by
              rw [HLi.out.2]
              exact own_mono Hu.out (by omega))
            have HMB5 := HMi
            clear k0
            have hgw : Wk.heap.size ≤ ga := hga
            have hgw2 : Wk.heap.size ≤ gb := hgb
            clear Hap Hv Hu
            have Hk8 : k ≤ 8 := by omega
            have HMl := HMB5.out.below (bel_new wr (.cells #[.slice (some ⟨ga, 0, none⟩) j ca] 28))
            obtain ⟨us, q1, q2, q3, q4, q5, q6, q7⟩ := HMl.n
            have hl1 := HL.out.1
            have hl2 := HL.out.2
            rw [hl1] at q1 q2
            have Q2 := Lib.hid q2
            have HML := Lib.hid HMl
            have Q := Lib.hid (And.intro q1 (And.intro q3 (And.intro q4 (And.intro q5 (And.intro q6 q7)))))
            have Hl1 := Lib.hid hl1
            have Hl2 := Lib.hid hl2
            have Oal := Lib.hid (Oa5.out.alloc (.cells #[.slice (some ⟨ga, 0, none⟩) j ca] 28))
            have Obl := Lib.hid (Ob5.out.alloc (.cells #[.slice (some ⟨ga, 0, none⟩) j ca] 28))
            have Hlit := Lib.hid (Row.of_own (World.ownsRow_lit (base := wr.heap.size) (e := 28) (size := 1) wr #[.slice (some ⟨ga, 0, none⟩) j ca] 1 (Nat.le_refl _) (by unfold maxLen; omega) rfl))
            have hgm5 := mb_lt HMB5.out
            have hsl : (wr.alloc (.cells #[.slice (some ⟨ga, 0, none⟩) j ca] 28)).heap.size = wr.heap.size + 1 := by simp
            have Nb2 : Hid (∀ v7 : Value, (v7.ownBlock = vN.ownBlock ∨ v7.ownBlock = some (wr.alloc (.cells #[.slice (some ⟨ga, 0, none⟩) j ca] 28)).heap.size) → ∀ g, (Value.slice (some ⟨gb, 0, none⟩) j cb).ownBlock = some g → ¬ (E1 g ∨ (Value.slice (some ⟨ga, 0, none⟩) j ca).ownBlock = some g ∨ v7.ownBlock = some g)) := Lib.hid fun v7 hat g hg he => by
              have hgb : gb = g := by simpa [Value.ownBlock] using hg
              subst hgb
              rcases he with he | he | he
              · exact (Nb1.out gb rfl).1 he
              · exact Hab.out gb he rfl
              · rcases hat with h | h
                · exact (Nb1.out gb rfl).1 (q6 gb (by rw [← h]; exact he))
                · rw [h] at he
                  have h2 := Option.some.inj he
                  have h3 := (Ob5.out.lt gb rfl).2
                  omega
            obtain ⟨k0, k1, k2, k3, k4⟩ := HMB5.out.cells
            clear HMl q1 q2 q3 q4 q5 q6 q7 hl1 hl2
            go_wp2_with (first
              | (at_builtin; refine append_intss rfl (.tmp 56) (.tmp 58) rfl (gm + 1) vN k us rfl Q2.out _ 1 [.slice (some ⟨ga, 0, none⟩) j ca] rfl Hlit.out (by simp [Value.oneCell']) (by omega) (by first | omega | (simp <;> omega)) ?_; intro v7 w7 hown7 hg7 hat7; obtain ⟨A7, c7, hv7⟩ := slice_of_own hown7; subst hv7; have HMB7 := Lib.hid (MB.addN HML.out (Q.out.1.trans Hl1.out.symm) Q.out.2.1 Q.out.2.2.1 Q.out.2.2.2.1 Q.out.2.2.2.2.1 Q.out.2.2.2.2.2 Oal.out (fun g hg => (Na1.out g hg).1) (fun g hg => (Na1.out g hg).2) (by rw [Hl1.out]; exact hown7) hg7 hat7); have hbx := (hg7.block gm (mb_lt HML.out) (fun e => by obtain ⟨_, _, p2, _⟩ := HML.out.n; have := (p2.lt _ e.symm).1; omega)).trans HML.out.box; have x1 := blk_cell hbx 1; have y1 := blk_free hbx 1; have x22 : w7.cell? ⟨gm, 2, none⟩ = some vO := (blk_cell hbx 2); have y22 := blk_free hbx 2; obtain ⟨j0, j1, j2, j3, j4⟩ := HMB7.out.cells; have HMl8 := HMB7.out.below (bel_new _ (.cells #[.slice (some ⟨gb, 0, none⟩) j cb] 28)); obtain ⟨us2, t1, t2, t3, t4, t5, t6, t7⟩ := HMl8.o; rw [Hl2.out] at t1 t2; have T2 := Lib.hid t2; have HML8 := Lib.hid HMl8; have TQ := Lib.hid (And.intro t1 (And.intro t3 (And.intro t4 (And.intro t5 (And.intro t6 t7))))); have Ob8 := Lib.hid ((own_set (own_kept Obl.out hg7 (fun g h1 h2 => (Nb1.out g h1).1 (Q.out.2.2.2.2.1 g h2))) (show gm < gm + 1 by omega) (i := 1) (u := (Value.slice A7 (k + 1) c7))).alloc (.cells #[.slice (some ⟨gb, 0, none⟩) j cb] 28)); have Hlit2 := Lib.hid (Row.of_own (World.ownsRow_lit (base := (w7.setCell ⟨gm, 1, none⟩ (Value.slice A7 (k + 1) c7)).heap.size) (e := 28) (size := 1) (w7.setCell ⟨gm, 1, none⟩ (Value.slice A7 (k + 1) c7)) #[.slice (some ⟨gb, 0, none⟩) j cb] 1 (Nat.le_refl _) (by unfold maxLen; omega) rfl)); have Hg7 := Lib.hid hg7; have Hat7 := Lib.hid hat7; have hz7 := hg7.size; have hz8 : (w7.setCell ⟨gm, 1, none⟩ (Value.slice A7 (k + 1) c7)).heap.size = w7.heap.size := (by simp [World.setCell]); have Hlit2 := Lib.hid (by have hh := Hlit2.out; rw [hz8] at hh; exact hh); clear hown7 hg7 hat7 hbx HMl8 t1 t2 t3 t4 t5 t6 t7 k0 k1 k2 k3 k4)
              | (at_builtin; refine append_intss rfl (.tmp 62) (.tmp 64) rfl (gm + 1) vO k us2 rfl T2.out _ 1 [.slice (some ⟨gb, 0, none⟩) j cb] rfl Hlit2.out (by simp [Value.oneCell']) (by omega) (by first | omega | (simp <;> omega)) ?_; intro v9 w9 hown9 hg9 hat9; obtain ⟨A9, c9, hv9⟩ := slice_of_own hown9; subst hv9; have HMB9 := Lib.hid (MB.addO HML8.out (TQ.out.1.trans Hl2.out.symm) TQ.out.2.1 TQ.out.2.2.1 TQ.out.2.2.2.1 TQ.out.2.2.2.2.1 TQ.out.2.2.2.2.2 Ob8.out (Nb2.out _ Hat7.out) (fun g hg => (Nb1.out g hg).2) (by rw [Hl2.out]; exact hown9) hg9 hat9); have hbx := (hg9.block gm (mb_lt HML8.out) (fun e => by obtain ⟨_, _, p2, _⟩ := HML8.out.o; have := (p2.lt _ e.symm).1; omega)).trans HML8.out.box; have x2 := blk_cell hbx 2; have y2 := blk_free hbx 2; have Hg9 := Lib.hid hg9; have Hat9 := Lib.hid hat9; clear hown9 hg9 hat9 hbx j0 j1 j2 j3 j4 x1 y1))
            go_roundw
            case rel => exact ⟨k + 1, _, _, _, _, xs ++ [x], ys ++ [y], by go_num, by omega, Lib.hid (by rw [List.length_append, List.length_append, HL.out.1, HL.out.2]; exact ⟨rfl, rfl⟩), Lib.hid ⟨fun z hz => by
                rcases List.mem_append.1 hz with h | h
                · exact HW.out.1 z h
                · rw [List.mem_singleton.1 h]; exact HLi.out.1, fun z hz => by
                rcases List.mem_append.1 hz with h | h
                · exact HW.out.2 z h
                · rw [List.mem_singleton.1 h]; exact HLi.out.2⟩, HMB9, Lib.hid (fun g hg => by
                rcases hg with hg | hg | hg
                · exact HE1.out g hg
                · have := Option.some.inj hg; simp only at this; omega
                · rcases Hat7.out with h | h
                  · exact HE1.out g (Q.out.2.2.2.2.1 g (by rw [← h]; exact hg))
                  · have := Option.some.inj (hg.symm.trans h); rw [World.size_alloc] at this; omega), Lib.hid (fun g hg => by
                rcases hg with hg | hg | hg
                · exact HE2.out g hg
                · have := Option.some.inj hg; simp only at this; omega
                · rcases Hat9.out with h | h
                  · exact HE2.out g (TQ.out.2.2.2.2.1 g (by rw [← h]; exact hg))
                  · have := Option.some.inj (hg.symm.trans h); rw [World.size_alloc, hz8] at this; omega), Lib.hid (by
              have b1 := (Hri.out.alloc (.cells #[.slice (some ⟨ga, 0, none⟩) j ca] 28)).grown Hg7.out (fun q hq => by have := HE1.out q (Q.out.2.2.2.2.1 q hq); omega)
              have b2 := (rd_set (i := 1) (v := Value.slice A7 (k + 1) c7) b1 hRg).alloc (.cells #[.slice (some ⟨gb, 0, none⟩) j cb] 28)
              exact (rd_set (b2.grown Hg9.out (fun q hq => by have := HE2.out q (TQ.out.2.2.2.2.1 q hq); omega)) hRg).more (by omega)), Lib.hid (by
              have a0 : Only (fun g => g = R ∨ g = gm) Wk wr := Only.aft (Only.refl _ _) HOi.out (fun g hg => .inr (.inl hg))
              have a1 := HO.out.trans (a0.trans (Only.of_below _ (bel_new wr (.cells #[.slice (some ⟨ga, 0, none⟩) j ca] 28))))
              have a2 := a1.after (Only.grown (E := fun g => vN.ownBlock = some g) Hg7.out (fun q hq => hq)) (fun g hg => .inl (HE1.out g (Q.out.2.2.2.2.1 g hg)))
              have a3 := a2.trans (Only.grown (E := fun g => g = R ∨ g = gm) (set_grown _ _ 1 (Value.slice A7 (k + 1) c7)) (fun q hq => .inr (Option.some.inj hq).symm))
              have a4 := a3.trans (Only.of_below _ (bel_new _ (.cells #[.slice (some ⟨gb, 0, none⟩) j cb] 28)))
              have a5 := a4.after (Only.grown (E := fun g => vO.ownBlock = some g) Hg9.out (fun q hq => hq)) (fun g hg => .inl (HE2.out g (TQ.out.2.2.2.2.1 g hg)))
              exact a5.trans (Only.grown (E := fun g => g = R ∨ g = gm) (set_grown _ _ 2 (Value.slice A9 (k + 1) c9)) (fun q hq => .inr (Option.some.inj hq).symm)))⟩
            case measure => simp [intOf] <;> omega
      · obtain rfl : k = S := by omega
        have hdk : decide (k < k) = false := decide_eq_false (by omega)
        have HXr := Lib.hid ((HO.out.block w.heap.size (by omega) (fun h => by rcases h with h | h <;> omega)).trans HX5.out)
        have HOw := Lib.hid (HO5.out.aft HO.out (fun g hg => hg.elim .inr (fun h => .inl (by omega))))
        have HB1 : Hid (¬ E1 R) := Lib.hid (fun h => by have := HE1.out R h; omega)
        have HB2 : Hid (¬ E2 R) := Lib.hid (fun h => by have := HE2.out R h; omega)
        clear HX5 HO5 HO
        go_wp2_with fail
        refine (odd_every n _ _ _ Hr.out (by omega) h0 (by omega)).mono ?_
        rintro e w6 ⟨b, rfl, hr6, hg6⟩
        have Hr6 := Lib.hid hr6
        have HO6 := Lib.hid (only_drawn HOw.out hg6 (.inr rfl))
        have HX6 := Lib.hid (res_grown HXr.out hg6 (fun e => by have := Option.some.inj e; omega))
        have HM6 := Lib.hid (HMB.out.grown hg6 (fun e => by have := Option.some.inj e; omega) (fun g hg h => by obtain rfl := Option.some.inj hg; exact HB1.out h) (fun g hg h => by obtain rfl := Option.some.inj hg; exact HB2.out h))
        clear hr6 hg6 Hr HOw HXr HMB
        cases b
        · obtain ⟨k0, k1, k2, -⟩ := HM6.out.cells
          have o0 := blk_cell HX6.out 0
          have o1 := blk_cell HX6.out 1
          have o2 := blk_cell HX6.out 2
          have f0 := blk_free HX6.out 0
          have f1 := blk_free HX6.out 1
          have f2 := blk_free HX6.out 2
          simp at o0 o1 o2
          have hMI : MachIn (gm + 1) w6 (.agg #[.int .i64 ins, vN, vO]) { ins := ins, next := xs, out := ys } := ⟨_, _, rfl, HM6.out.n.innM, HM6.out.o.innM⟩
          have HMI := Lib.hid hMI
          obtain ⟨An, cn, hvN, -, -⟩ := SSAt.shape (OwnSE.at HM6.out.n)
          obtain ⟨Ao, co, hvO, -, -⟩ := SSAt.shape (OwnSE.at HM6.out.o)
          clear hMI HM6
          subst hvN hvO
          go_wp2_with fail
          refine bodyPost_ret (v := .agg #[.int .i64 ins, .slice An xs.length cn, .slice Ao ys.length co]) (by simp [results, Try.results19, go_sem, o0, o1, o2]) rfl ⟨_, _, rfl, (MachIn.only HMI.out (E := fun g => g = w.heap.size) ?_ (fun g hg e => by omega)).mono (by omega), ?_, ?_⟩
          · exact ((Only.refl _ _).aft (Only.grown (set_grown _ _ _ _) fun k hk => (Option.some.inj hk).symm) fun g hg => .inr hg).aft (Only.grown (set_grown _ _ _ _) fun k hk => (Option.some.inj hk).symm) (fun g hg => .inr hg) |>.aft (Only.grown (set_grown _ _ _ _) fun k hk => (Option.some.inj hk).symm) (fun g hg => .inr hg)
          · exact (rd_set (rd_set (rd_set Hr6.out zR) zR) zR).more (by omega)
          · exact (only_set (only_set (only_set HO6.out (Nat.le_refl _)) (Nat.le_refl _)) (Nat.le_refl _)).grownBy
        · go_wp2_with fail
          refine (pick_any k _ _ _ Hr6.out (by omega) (by omega) (by omega)).mono ?_
          rintro e w7 ⟨s, hs0, hs1, rfl, hr7, hg7⟩
          have Hr7 := Lib.hid hr7
          have HO7 := Lib.hid (only_drawn HO6.out hg7 (.inr rfl))
          have HX7 := Lib.hid (res_grown HX6.out hg7 (fun e => by have := Option.some.inj e; omega))
          have HM7 := Lib.hid (HM6.out.grown hg7 (fun e => by have := Option.some.inj e; omega) (fun g hg h => by obtain rfl := Option.some.inj hg; exact HB1.out h) (fun g hg h => by obtain rfl := Option.some.inj hg; exact HB2.out h))
          clear hr7 hg7 Hr6 HO6 HX6 HM6
          obtain ⟨s, rfl⟩ := Int.eq_ofNat_of_zero_le hs0
          have hsk : s < k := by omega
          have hM0 : 0 < M := by omega
          clear hs0 hs1
          go_wp2_with fail
          refine (pick_any 5 _ _ _ Hr7.out (by omega) (by omega) (by omega)).mono ?_
          rintro e w8 ⟨x, hx0, hx1, rfl, hr8, hg8⟩
          obtain ⟨PP, hPP⟩ : ∃ PP, P + 4 + 8 * k + 1 + 1 + 1 = PP := ⟨_, rfl⟩
          have hPP2 : PP ≤ P + 1000 := by omega
          rw [hPP] at hr8
          have Hr8 := Lib.hid hr8
          have HO8 := Lib.hid (only_drawn HO7.out hg8 (.inr rfl))
          have HX8 := Lib.hid (res_grown HX7.out hg8 (fun e => by have := Option.some.inj e; omega))
          have hM8 := HM7.out.grown hg8 (fun e => by have := Option.some.inj e; omega) (fun g hg h => by obtain rfl := Option.some.inj hg; exact HB1.out h) (fun g hg h => by obtain rfl := Option.some.inj hg; exact HB2.out h)
          clear hr8 hg8 Hr7 HO7 HX7 HM7 hPP
          have hl1 := HL.out.1
          have hl2 := HL.out.2
          have hVN := hM8.n
          have hVO := hM8.o
          obtain ⟨vs, p1, p2, p3, p4, p5, p6, p7⟩ := hVN
          obtain ⟨us, q1, q2, q3, q4, q5, q6, q7⟩ := hVO
          have p2' := p2
          have q2' := q2
          rw [hl1] at p2'
          rw [hl2] at q2'
          obtain ⟨gN, cN, hvN, hgN, gN2, hcN, hcNm⟩ := own_open p2' (by omega)
          obtain ⟨gO, cO, hvO, hgO, gO2, hcO, hcOm⟩ := own_open q2' (by omega)
          subst hvN hvO
          unfold maxLen at hcNm hcOm
          obtain ⟨x1, hx1r⟩ : ∃ x1, xs[s]? = some x1 := ⟨_, List.getElem?_eq_getElem (by omega)⟩
          obtain ⟨y1, hy1r⟩ : ∃ y1, ys[s]? = some y1 := ⟨_, List.getElem?_eq_getElem (by omega)⟩
          obtain ⟨uN, huN⟩ : ∃ u, vs[s]? = some u := ⟨_, List.getElem?_eq_getElem (by omega)⟩
          obtain ⟨uO, huO⟩ : ∃ u, us[s]? = some u := ⟨_, List.getElem?_eq_getElem (by omega)⟩
          have hlN := HW.out.1 _ (List.mem_of_getElem? hx1r)
          have hlO := HW.out.2 _ (List.mem_of_getElem? hy1r)
          have hoN := p3 s x1 uN hx1r huN
          have hoO := q3 s y1 uO hy1r huO
          rw [hlN] at hoN
          rw [hlO] at hoO
          obtain ⟨kb, cbN, huN2, hkbN, hkbN2, hcbN, hcbNm⟩ := own_open hoN (by omega)
          obtain ⟨kc, cbO, huO2, hkbO, hkbO2, hcbO, hcbOm⟩ := own_open hoO (by omega)
          subst huN2 huO2
          unfold maxLen at hcbNm hcbOm
          have HlN := Lib.hid hlN
          have HlO := Lib.hid hlO
          have hneN : kb ≠ gN := fun e => p5 _ (List.mem_of_getElem? huN) kb rfl (by rw [e]; rfl)
          have hneO : kc ≠ gO := fun e => q5 _ (List.mem_of_getElem? huO) kc rfl (by rw [e]; rfl)
          obtain ⟨u0, hu0, hcellN, hfrN⟩ := own_slot p2' (j := s) (by omega)
          rw [huN] at hu0
          obtain rfl := Option.some.inj hu0
          obtain ⟨u0, hu0, hcellO, hfrO⟩ := own_slot q2' (j := s) (by omega)
          rw [huO] at hu0
          obtain rfl := Option.some.inj hu0
          have HEN := Lib.hid (p7 _ (List.mem_of_getElem? huN) kb rfl)
          have HEO := Lib.hid (q7 _ (List.mem_of_getElem? huO) kc rfl)
          have HEN2 := Lib.hid (p6 gN rfl)
          have HownN := Lib.hid hoN
          have HownO := Lib.hid hoO
          have HuN := Lib.hid huN
          have Hx1 := Lib.hid hx1r
          have Hp2 := Lib.hid p2'
          have HuO := Lib.hid huO
          have VN := Lib.hid (And.intro p1 (And.intro p2 (And.intro p3 (And.intro p4 (And.intro p5 (And.intro p6 p7))))))
          have VO := Lib.hid (And.intro q1 (And.intro q2 (And.intro q3 (And.intro q4 (And.intro q5 (And.intro q6 q7))))))
          have HM8 := Lib.hid hM8
          have hlenN := HlN
          have hlenO := HlO
          clear hM8 p1 p2 p3 p4 p5 p6 p7 q1 q2 q3 q4 q5 q6 q7 hoN hoO huN huO hlN hlO hx1r hy1r hl1 hl2 p2' q2'
          obtain rfl | rfl | rfl | rfl | rfl : x = 0 ∨ x = 1 ∨ x = 2 ∨ x = 3 ∨ x = 4 := by omega
          · obtain ⟨k0, k1, k2, -⟩ := HM8.out.cells
            have HG := Lib.hid hcellN
            have hngm : ¬ (gm = R ∨ gm = kb) := by omega
            have hngH : ¬ (gN = R ∨ gN = kb) := fun h => h.elim (fun h => by omega) (fun h => hneN h.symm)
            have zgm : gm < w8.heap.size := mb_lt HM8.out
            have hOk := fun ops a => rdStepRS_ok (Pg := Try.prog) (ops := ops) (P := PP) (a := a) (R0 := fun w' => w'.ownsRow (gm + 1) 3 1 (.slice (some ⟨kb, 0, none⟩) M cbN) M (ints x1)) (R1 := fun w' => ∃ y : Int, w'.ownsRow (gm + 1) 3 1 (.slice (some ⟨kb, 0, none⟩) M cbN) M (ints (x1.set 0 y))) (d := 12) Hr8.out.lt hkbN2 (fun wa wb h ho => own_only h ho (fun g hg e => by have h1 := (h.lt g hg).1; omega)) (fun wa wb ⟨y, h⟩ ho => ⟨y, own_only h ho (fun g hg e => by have h1 := (h.lt g hg).1; omega)⟩)
            go_wp2_with fail
            refine wp_region_rs (rdStepRS Try.prog _ R PP w8 _ kb _ _ 12) (hOk _ _) (by kernel_rfl) (by kernel_rfl) (by kernel_rfl) (Nat.le_of_ble_eq_true rfl) Hr8.out HownN.out ?_
            apply rs_eq (hOk _ _) (.inl (Nat.ne_of_beq_eq_false rfl))
            · intro ρ w' ho hK
              have ho : Only _ w8 w' := ho
              obtain ⟨h0, -⟩ := hK
              have h0' : ρ (.tmp 5) = _ := h0
              go_simp
              try exact rfl
            apply rs_eq (hOk _ _) (.inl (Nat.ne_of_beq_eq_false rfl))
            · intro ρ w' ho hK
              have ho : Only _ w8 w' := ho
              obtain ⟨h0, -⟩ := hK
              have h0' : ρ (.tmp 80) = _ := h0
              have r0 := cell_on ho hngm zgm k1
              have r1 := cell_on ho hngH gN2 HG.out
              go_simp
              try exact rfl
            refine rs_old (hOk _ _) (.inl (Nat.ne_of_beq_eq_false rfl)) _ (.inl rfl) _ rfl rfl ?_
            apply rs_eq (hOk _ _) (.inl (Nat.ne_of_beq_eq_false rfl))
            · intro ρ w' ho hK
              have ho : Only _ w8 w' := ho
              obtain ⟨h0, h1, -⟩ := hK
              have h0' : ρ (.tmp 81) = _ := h0
              have h1' : ρ (.tmp 82) = _ := h1
              go_simp
              try exact rfl
            apply rs_eq (hOk _ _) (.inl (Nat.ne_of_beq_eq_false rfl))
            · intro ρ w' ho hK
              have ho : Only _ w8 w' := ho
              obtain ⟨h0, -⟩ := hK
              have h0' : ρ (.tmp 83) = _ := h0
              have r0 := cell_on ho hngm zgm k1
              have r1 := cell_on ho hngH gN2 HG.out
              go_simp
              try exact rfl
            refine rs_old (hOk _ _) (.inl (Nat.ne_of_beq_eq_false rfl)) _ (.inl rfl) _ rfl rfl ?_
            refine rs_build (hOk _ _) (.inl (Nat.ne_of_beq_eq_false rfl)) 2 (GInt (-100) 1000) 3 (fun ρ w hK => by
              obtain ⟨h0, h1, -⟩ := hK
              have h0' : ρ (.const (.int .i64 (-1))) = .int .i64 (-1) := h0
              have h1' : ρ (.tmp 85) = .int .i64 k := h1
              refine ⟨#[.int .i64 (-1), .int .i64 k], rfl, ?_, ?_⟩
              · go_simp
              · intro c hc
                simp at hc
                rcases hc with rfl | rfl
                · exact ⟨_, rfl, by omega, by omega⟩
                · exact ⟨_, rfl, by omega, by omega⟩) ?_
            refine rs_old (hOk _ _) (.inl (Nat.ne_of_beq_eq_false rfl)) _ (.inl rfl) _ rfl rfl ?_
            refine rs_pick (hOk _ _) (.inl (Nat.ne_of_beq_eq_false rfl)) 23 _ _ _ R PP 1 rfl rfl fn_draw (fun ρ w hK => ⟨hK.1, hK.2.1, 2, hK.2.2.1, by omega, by omega⟩) (fun n kk w hk h1n hn hr => pick_upto n 1 _ _ w hr (by have hk' : kk < 13 := hk; omega) h1n hn (by omega)) ?_
            refine rs_index (hOk _ _) (.inl (Nat.ne_of_beq_eq_false rfl)) 28 _ _ 2 (GInt (-100) 1000) 1 rfl _ _ rfl rfl rfl rfl (by omega) (by omega) ix_drawn ?_
            refine rs_load (hOk _ _) (.inl (Nat.ne_of_beq_eq_false rfl)) 3 _ (GInt (-100) 1000) rfl _ rfl rfl ag_drawn ?_
            apply rs_eq (hOk _ _) (.inl (Nat.ne_of_beq_eq_false rfl))
            · intro ρ w' ho hK
              have ho : Only _ w8 w' := ho
              obtain ⟨h0, h1, -⟩ := hK
              have h0' : ρ (.tmp 84) = _ := h0
              have h1' : ρ (.const (Value.int IntKind.i64 0)) = (Value.int IntKind.i64 0) := h1
              go_simp
              try exact rfl
            refine rs_doR rfl rfl R PP rfl (fun ρ w' ho h0 hK => by
              obtain ⟨h1, ⟨q, h2, h3, h4⟩, -⟩ := hK
              have h1' : ρ (.tmp 91) = .pointer (some ⟨kb, 0, none⟩) := h1
              have h2' : ρ (.tmp 90) = .int .i64 q := h2
              have h0' : w'.ownsRow (gm + 1) 3 1 (.slice (some ⟨kb, 0, none⟩) M cbN) M (ints x1) := h0
              obtain ⟨u0, _, hcell, hfr⟩ := own_slot h0' (j := 0) (by omega)
              have hst := h0'.stored 0 (.int .i64 q)
              have hkw := (h0'.lt kb rfl).2
              refine ⟨w'.setCell ⟨kb, 0, none⟩ (.int .i64 q), ?_, ⟨q, by have := hst.1; rw [show (ints x1).set 0 (.int .i64 q) = ints (x1.set 0 q) from by unfold ints; rw [List.map_set]] at this; exact this⟩, Only.grown hst.2 (fun g hg => .inr (Option.some.inj hg).symm), fun Q hQ => hQ.grown hst.2 (fun g hg => by have := Option.some.inj hg; omega)⟩
              clear hst h0'
              go_simp) ?_
            intro f w9 k9 hk9 hI9 ht9 hcp9
            have E0 : f 0 = _ := ht9 0 (Nat.le_of_ble_eq_true rfl)
            have E1 : f 1 = _ := ht9 1 (Nat.le_of_ble_eq_true rfl)
            have E2 : f 2 = _ := ht9 2 (Nat.le_of_ble_eq_true rfl)
            conv at E2 => rhs; whnf
            have E3 : f 3 = _ := ht9 3 (Nat.le_of_ble_eq_true rfl)
            have E4 : f 4 = _ := ht9 4 (Nat.le_of_ble_eq_true rfl)
            have E5 : f 5 = _ := ht9 5 (Nat.le_of_ble_eq_true rfl)
            conv at E5 => rhs; whnf
            have E6 : (TLit _ 2 (GInt (-100) 1000)) w9 (f 6) := ht9 6 (Nat.le_of_ble_eq_true rfl)
            have E7 : f 7 = _ := ht9 7 (Nat.le_of_ble_eq_true rfl)
            conv at E7 => rhs; whnf
            have E8 : (TInt 0 ((1 : Nat) : Int)) w9 (f 8) := ht9 8 (Nat.le_of_ble_eq_true rfl)
            have E9 : (TPtr _ (GInt (-100) 1000)) w9 (f 9) := ht9 9 (Nat.le_of_ble_eq_true rfl)
            have E10 : (TOf (GInt (-100) 1000)) w9 (f 10) := ht9 10 (Nat.le_of_ble_eq_true rfl)
            have E11 : f 11 = _ := ht9 11 (Nat.le_of_ble_eq_true rfl)
            have E12 : (TAny) w9 (f 12) := ht9 12 (Nat.le_of_ble_eq_true rfl)
            have Ho9 : Only _ w8 w9 := hI9.2.1
            have HJ9 := hI9.2.2
            have HR9 := hI9.1
            have HK9 := hk9
            simp only [putAll, E0, E1, E2, E3, E4, E5, E7, E11, Nat.zero_add, Nat.reduceAdd, Act.put, List.setIfInBounds_toArray, List.set_cons_succ, List.set_cons_zero]
            clear E0 E1 E2 E3 E4 E5 E7 E11
            clear hI9 ht9 hcp9 hk9
            generalize f 6 = r6 at *
            generalize f 8 = r8 at *
            generalize f 9 = r9 at *
            generalize f 10 = r10 at *
            generalize f 12 = r12 at *
            obtain ⟨y, hy⟩ := HJ9
            have hK9 : k9 ≤ 13 := HK9
            have HR9' := Lib.hid (show Rd w9 R (PP + 1000) from Rd.more HR9 (by omega))
            have hy' : w9.ownsRow (gm + 1) 3 1 (.slice (some ⟨kb, 0, none⟩) M cbN) (x1.set 0 y).length (ints (x1.set 0 y)) := by rw [List.length_set, hlenN.out]; exact hy
            have HM9 : Hid (MB gm ins E1 E2 (.slice (some ⟨gN, 0, none⟩) k cN) (.slice (some ⟨gO, 0, none⟩) k cO) (xs.set s (x1.set 0 y)) ys w9) := Lib.hid (mb_updN HM8.out VN.out.1 VN.out.2.1 VN.out.2.2.1 VN.out.2.2.2.1 VN.out.2.2.2.2.1 VN.out.2.2.2.2.2.1 VN.out.2.2.2.2.2.2 HuN.out Ho9 hngm (fun g he hx => hx.elim (fun h => HB2.out (h ▸ he)) (fun h => HM8.out.d g (h ▸ HEN.out) he)) (fun g he hx => hx.elim (fun h => absurd (h ▸ he) HB1.out) (fun h => by rw [h]; rfl)) hy')
            have HX9 := Lib.hid ((Ho9.block w.heap.size (blk_lt HX8.out) (fun h => by rcases h with h | h <;> omega)).trans HX8.out)
            have HO9 := Lib.hid (HO8.out.aft Ho9 (fun g hg => hg.elim .inr (fun h => .inl (by omega))))
            clear hOk HR9 HK9 hy hy' Ho9 E6 E8 E9 E10 E12 Hr8 HO8 HX8 HM8 HG k0 k1 k2 HownN HownO VN VO hcellN hcellO
            obtain ⟨k0, k1, k2, -⟩ := HM9.out.cells
            have o0 := blk_cell HX9.out 0
            have o1 := blk_cell HX9.out 1
            have o2 := blk_cell HX9.out 2
            have f0 := blk_free HX9.out 0
            have f1 := blk_free HX9.out 1
            have f2 := blk_free HX9.out 2
            simp at o0 o1 o2
            have hMI : MachIn (gm + 1) w9 (.agg #[.int .i64 ins, .slice (some ⟨gN, 0, none⟩) k cN, .slice (some ⟨gO, 0, none⟩) k cO]) { ins := ins, next := xs.set s (x1.set 0 y), out := ys } := ⟨_, _, rfl, HM9.out.n.innM, HM9.out.o.innM⟩
            have HMI := Lib.hid hMI
            clear hMI HM9
            go_wp2_with fail
            refine bodyPost_ret (v := .agg #[.int .i64 ins, .slice (some ⟨gN, 0, none⟩) k cN, .slice (some ⟨gO, 0, none⟩) k cO]) (by simp [results, Try.results19, go_sem, o0, o1, o2]) rfl ⟨_, _, rfl, (MachIn.only HMI.out (E := fun g => g = w.heap.size) ?_ (fun g hg e => by omega)).mono (by omega), ?_, ?_⟩
            · exact ((Only.refl _ _).aft (Only.grown (set_grown _ _ _ _) fun k hk => (Option.some.inj hk).symm) fun g hg => .inr hg).aft (Only.grown (set_grown _ _ _ _) fun k hk => (Option.some.inj hk).symm) (fun g hg => .inr hg) |>.aft (Only.grown (set_grown _ _ _ _) fun k hk => (Option.some.inj hk).symm) (fun g hg => .inr hg)
            · exact (rd_set (rd_set (rd_set HR9'.out zR) zR) zR).more (by omega)
            · exact (only_set (only_set (only_set HO9.out (Nat.le_refl _)) (Nat.le_refl _)) (Nat.le_refl _)).grownBy
          · obtain ⟨k0, k1, k2, -⟩ := HM8.out.cells
            have HG := Lib.hid hcellO
            have hngm : ¬ (gm = R ∨ gm = kc) := by omega
            have hngH : ¬ (gO = R ∨ gO = kc) := fun h => h.elim (fun h => by omega) (fun h => hneO h.symm)
            have zgm : gm < w8.heap.size := mb_lt HM8.out
            have hOk := fun ops a => rdStepRS_ok (Pg := Try.prog) (ops := ops) (P := PP) (a := a) (R0 := fun w' => w'.ownsRow (gm + 1) 3 1 (.slice (some ⟨kc, 0, none⟩) M cbO) M (ints y1)) (R1 := fun w' => ∃ y : Int, w'.ownsRow (gm + 1) 3 1 (.slice (some ⟨kc, 0, none⟩) M cbO) M (ints (y1.set 0 y))) (d := 11) Hr8.out.lt hkbO2 (fun wa wb h ho => own_only h ho (fun g hg e => by have h1 := (h.lt g hg).1; omega)) (fun wa wb ⟨y, h⟩ ho => ⟨y, own_only h ho (fun g hg e => by have h1 := (h.lt g hg).1; omega)⟩)
            go_wp2_with fail
            refine wp_region_rs (rdStepRS Try.prog _ R PP w8 _ kc _ _ 11) (hOk _ _) (by kernel_rfl) (by kernel_rfl) (by kernel_rfl) (Nat.le_of_ble_eq_true rfl) Hr8.out HownO.out ?_
            apply rs_eq (hOk _ _) (.inl (Nat.ne_of_beq_eq_false rfl))
            · intro ρ w' ho hK
              have ho : Only _ w8 w' := ho
              obtain ⟨h0, -⟩ := hK
              have h0' : ρ (.tmp 5) = _ := h0
              go_simp
              try exact rfl
            apply rs_eq (hOk _ _) (.inl (Nat.ne_of_beq_eq_false rfl))
            · intro ρ w' ho hK
              have ho : Only _ w8 w' := ho
              obtain ⟨h0, -⟩ := hK
              have h0' : ρ (.tmp 94) = _ := h0
              have r0 := cell_on ho hngm zgm k2
              have r1 := cell_on ho hngH gO2 HG.out
              go_simp
              try exact rfl
            refine rs_old (hOk _ _) (.inl (Nat.ne_of_beq_eq_false rfl)) _ (.inl rfl) _ rfl rfl ?_
            apply rs_eq (hOk _ _) (.inl (Nat.ne_of_beq_eq_false rfl))
            · intro ρ w' ho hK
              have ho : Only _ w8 w' := ho
              obtain ⟨h0, h1, -⟩ := hK
              have h0' : ρ (.tmp 95) = _ := h0
              have h1' : ρ (.tmp 96) = _ := h1
              go_simp
              try exact rfl
            apply rs_eq (hOk _ _) (.inl (Nat.ne_of_beq_eq_false rfl))
            · intro ρ w' ho hK
              have ho : Only _ w8 w' := ho
              obtain ⟨h0, -⟩ := hK
              have h0' : ρ (.tmp 97) = _ := h0
              have r0 := cell_on ho hngm zgm k2
              have r1 := cell_on ho hngH gO2 HG.out
              go_simp
              try exact rfl
            refine rs_build (hOk _ _) (.inl (Nat.ne_of_beq_eq_false rfl)) 2 (GInt (-100) 1000) 3 (fun ρ w hK => by
              obtain ⟨h0, h1, -⟩ := hK
              have h0' : ρ (.const (.int .i64 (-1))) = .int .i64 (-1) := h0
              have h1' : ρ (.const (.int .i64 8)) = .int .i64 8 := h1
              refine ⟨#[.int .i64 (-1), .int .i64 8], rfl, ?_, ?_⟩
              · go_simp
              · intro c hc
                simp at hc
                rcases hc with rfl | rfl
                · exact ⟨_, rfl, by omega, by omega⟩
                · exact ⟨_, rfl, by omega, by omega⟩) ?_
            refine rs_old (hOk _ _) (.inl (Nat.ne_of_beq_eq_false rfl)) _ (.inl rfl) _ rfl rfl ?_
            refine rs_pick (hOk _ _) (.inl (Nat.ne_of_beq_eq_false rfl)) 23 _ _ _ R PP 1 rfl rfl fn_draw (fun ρ w hK => ⟨hK.1, hK.2.1, 2, hK.2.2.1, by omega, by omega⟩) (fun n kk w hk h1n hn hr => pick_upto n 1 _ _ w hr (by have hk' : kk < 12 := hk; omega) h1n hn (by omega)) ?_
            refine rs_index (hOk _ _) (.inl (Nat.ne_of_beq_eq_false rfl)) 28 _ _ 2 (GInt (-100) 1000) 1 rfl _ _ rfl rfl rfl rfl (by omega) (by omega) ix_drawn ?_
            refine rs_load (hOk _ _) (.inl (Nat.ne_of_beq_eq_false rfl)) 3 _ (GInt (-100) 1000) rfl _ rfl rfl ag_drawn ?_
            apply rs_eq (hOk _ _) (.inl (Nat.ne_of_beq_eq_false rfl))
            · intro ρ w' ho hK
              have ho : Only _ w8 w' := ho
              obtain ⟨h0, h1, -⟩ := hK
              have h0' : ρ (.tmp 98) = _ := h0
              have h1' : ρ (.const (Value.int IntKind.i64 0)) = (Value.int IntKind.i64 0) := h1
              go_simp
              try exact rfl
            refine rs_doR rfl rfl R PP rfl (fun ρ w' ho h0 hK => by
              obtain ⟨h1, ⟨q, h2, h3, h4⟩, -⟩ := hK
              have h1' : ρ (.tmp 104) = .pointer (some ⟨kc, 0, none⟩) := h1
              have h2' : ρ (.tmp 103) = .int .i64 q := h2
              have h0' : w'.ownsRow (gm + 1) 3 1 (.slice (some ⟨kc, 0, none⟩) M cbO) M (ints y1) := h0
              obtain ⟨u0, _, hcell, hfr⟩ := own_slot h0' (j := 0) (by omega)
              have hst := h0'.stored 0 (.int .i64 q)
              have hkw := (h0'.lt kc rfl).2
              refine ⟨w'.setCell ⟨kc, 0, none⟩ (.int .i64 q), ?_, ⟨q, by have := hst.1; rw [show (ints y1).set 0 (.int .i64 q) = ints (y1.set 0 q) from by unfold ints; rw [List.map_set]] at this; exact this⟩, Only.grown hst.2 (fun g hg => .inr (Option.some.inj hg).symm), fun Q hQ => hQ.grown hst.2 (fun g hg => by have := Option.some.inj hg; omega)⟩
              clear hst h0'
              go_simp) ?_
            intro f w9 k9 hk9 hI9 ht9 hcp9
            have E0 : f 0 = _ := ht9 0 (Nat.le_of_ble_eq_true rfl)
            have E1 : f 1 = _ := ht9 1 (Nat.le_of_ble_eq_true rfl)
            have E2 : f 2 = _ := ht9 2 (Nat.le_of_ble_eq_true rfl)
            conv at E2 => rhs; whnf
            have E3 : f 3 = _ := ht9 3 (Nat.le_of_ble_eq_true rfl)
            have E4 : f 4 = _ := ht9 4 (Nat.le_of_ble_eq_true rfl)
            have E5 : (TLit _ 2 (GInt (-100) 1000)) w9 (f 5) := ht9 5 (Nat.le_of_ble_eq_true rfl)
            have E6 : f 6 = _ := ht9 6 (Nat.le_of_ble_eq_true rfl)
            conv at E6 => rhs; whnf
            have E7 : (TInt 0 ((1 : Nat) : Int)) w9 (f 7) := ht9 7 (Nat.le_of_ble_eq_true rfl)
            have E8 : (TPtr _ (GInt (-100) 1000)) w9 (f 8) := ht9 8 (Nat.le_of_ble_eq_true rfl)
            have E9 : (TOf (GInt (-100) 1000)) w9 (f 9) := ht9 9 (Nat.le_of_ble_eq_true rfl)
            have E10 : f 10 = _ := ht9 10 (Nat.le_of_ble_eq_true rfl)
            have E11 : (TAny) w9 (f 11) := ht9 11 (Nat.le_of_ble_eq_true rfl)
            have Ho9 : Only _ w8 w9 := hI9.2.1
            have HJ9 := hI9.2.2
            have HR9 := hI9.1
            have HK9 := hk9
            simp only [putAll, E0, E1, E2, E3, E4, E6, E10, Nat.zero_add, Nat.reduceAdd, Act.put, List.setIfInBounds_toArray, List.set_cons_succ, List.set_cons_zero]
            clear E0 E1 E2 E3 E4 E6 E10
            clear hI9 ht9 hcp9 hk9
            generalize f 5 = r5 at *
            generalize f 7 = r7 at *
            generalize f 8 = r8 at *
            generalize f 9 = r9 at *
            generalize f 11 = r11 at *
            obtain ⟨y, hy⟩ := HJ9
            have hK9 : k9 ≤ 12 := HK9
            have HR9' := Lib.hid (show Rd w9 R (PP + 1000) from Rd.more HR9 (by omega))
            have hy' : w9.ownsRow (gm + 1) 3 1 (.slice (some ⟨kc, 0, none⟩) M cbO) (y1.set 0 y).length (ints (y1.set 0 y)) := by rw [List.length_set, hlenO.out]; exact hy
            have HM9 : Hid (MB gm ins E1 E2 (.slice (some ⟨gN, 0, none⟩) k cN) (.slice (some ⟨gO, 0, none⟩) k cO) xs (ys.set s (y1.set 0 y)) w9) := Lib.hid (mb_updO HM8.out VO.out.1 VO.out.2.1 VO.out.2.2.1 VO.out.2.2.2.1 VO.out.2.2.2.2.1 VO.out.2.2.2.2.2.1 VO.out.2.2.2.2.2.2 HuO.out Ho9 hngm (fun g he hx => hx.elim (fun h => HB1.out (h ▸ he)) (fun h => HM8.out.d g he (h ▸ HEO.out))) (fun g he hx => hx.elim (fun h => absurd (h ▸ he) HB2.out) (fun h => by rw [h]; rfl)) hy')
            have HX9 := Lib.hid ((Ho9.block w.heap.size (blk_lt HX8.out) (fun h => by rcases h with h | h <;> omega)).trans HX8.out)
            have HO9 := Lib.hid (HO8.out.aft Ho9 (fun g hg => hg.elim .inr (fun h => .inl (by omega))))
            clear hOk HR9 HK9 hy hy' Ho9 E5 E7 E8 E9 E11 Hr8 HO8 HX8 HM8 HG k0 k1 k2 HownN HownO VN VO hcellN hcellO
            obtain ⟨k0, k1, k2, -⟩ := HM9.out.cells
            have o0 := blk_cell HX9.out 0
            have o1 := blk_cell HX9.out 1
            have o2 := blk_cell HX9.out 2
            have f0 := blk_free HX9.out 0
            have f1 := blk_free HX9.out 1
            have f2 := blk_free HX9.out 2
            simp at o0 o1 o2
            have hMI : MachIn (gm + 1) w9 (.agg #[.int .i64 ins, .slice (some ⟨gN, 0, none⟩) k cN, .slice (some ⟨gO, 0, none⟩) k cO]) { ins := ins, next := xs, out := ys.set s (y1.set 0 y) } := ⟨_, _, rfl, HM9.out.n.innM, HM9.out.o.innM⟩
            have HMI := Lib.hid hMI
            clear hMI HM9
            go_wp2_with fail
            refine bodyPost_ret (v := .agg #[.int .i64 ins, .slice (some ⟨gN, 0, none⟩) k cN, .slice (some ⟨gO, 0, none⟩) k cO]) (by simp [results, Try.results19, go_sem, o0, o1, o2]) rfl ⟨_, _, rfl, (MachIn.only HMI.out (E := fun g => g = w.heap.size) ?_ (fun g hg e => by omega)).mono (by omega), ?_, ?_⟩
            · exact ((Only.refl _ _).aft (Only.grown (set_grown _ _ _ _) fun k hk => (Option.some.inj hk).symm) fun g hg => .inr hg).aft (Only.grown (set_grown _ _ _ _) fun k hk => (Option.some.inj hk).symm) (fun g hg => .inr hg) |>.aft (Only.grown (set_grown _ _ _ _) fun k hk => (Option.some.inj hk).symm) (fun g hg => .inr hg)
            · exact (rd_set (rd_set (rd_set HR9'.out zR) zR) zR).more (by omega)
            · exact (only_set (only_set (only_set HO9.out (Nat.le_refl _)) (Nat.le_refl _)) (Nat.le_refl _)).grownBy
          · obtain ⟨k0, k1, k2, -, y22⟩ := HM8.out.cells
            have o0 := blk_cell HX8.out 0
            have o1 := blk_cell HX8.out 1
            have o2 := blk_cell HX8.out 2
            have f0 := blk_free HX8.out 0
            have f1 := blk_free HX8.out 1
            have f2 := blk_free HX8.out 2
            simp at o0 o1 o2
            have hMI : MachIn (gm + 1) w8 (.agg #[.int .i64 ins, .slice (some ⟨gN, 0, none⟩) k cN, .slice (if cO = 1 then some ⟨gO, 0, none⟩ else some ⟨gO, 1, none⟩) (k - 1) (cO - 1)]) { ins := ins, next := xs, out := ys.drop 1 } := ⟨_, _, rfl, HM8.out.n.innM, ssin_drop1 HM8.out.o HL.out.2.symm (by omega)⟩
            have HMI := Lib.hid hMI
            have hgmw : gm ≠ w.heap.size := by omega
            have hk1 : (1 : Int) ≤ k := by omega
            have hcO1 : 1 ≤ cO := by omega
            clear hMI
            by_cases hc1 : cO = 1
            · subst hc1
              rw [if_pos rfl] at HMI
              have hke : k = 1 := by omega
              subst hke
              go_wp2_with fail
              refine bodyPost_ret (v := .agg #[.int .i64 ins, .slice (some ⟨gN, 0, none⟩) 1 cN, .slice (some ⟨gO, 0, none⟩) 0 0]) (by simp [results, Try.results19, go_sem, o0, o1, o2]) rfl ⟨_, _, rfl, (MachIn.only HMI.out (E := fun g => g = w.heap.size ∨ g = gm) ?_ (fun g hg e => by omega)).mono (by omega), ?_, ?_⟩
              · exact (((Only.refl _ _).aft (Only.grown (set_grown _ _ _ _) fun k hk => (Option.some.inj hk).symm) (fun g hg => .inr (.inr hg))).aft (Only.grown (set_grown _ _ _ _) fun k hk => (Option.some.inj hk).symm) (fun g hg => .inr (.inl hg))).aft (Only.grown (set_grown _ _ _ _) fun k hk => (Option.some.inj hk).symm) (fun g hg => .inr (.inl hg)) |>.aft (Only.grown (set_grown _ _ _ _) fun k hk => (Option.some.inj hk).symm) (fun g hg => .inr (.inl hg))
              · exact (rd_set (rd_set (rd_set (rd_set Hr8.out hRg) zR) zR) zR).more (by omega)
              · exact (only_set (only_set (only_set (only_set HO8.out (by omega)) (Nat.le_refl _)) (Nat.le_refl _)) (Nat.le_refl _)).grownBy
            · rw [if_neg hc1] at HMI
              go_wp2_with fail
              refine bodyPost_ret (v := .agg #[.int .i64 ins, .slice (some ⟨gN, 0, none⟩) k cN, .slice (some ⟨gO, 1, none⟩) (k - 1) (cO - 1)]) (by simp [results, Try.results19, go_sem, o0, o1, o2]) rfl ⟨_, _, rfl, (MachIn.only HMI.out (E := fun g => g = w.heap.size ∨ g = gm) ?_ (fun g hg e => by omega)).mono (by omega), ?_, ?_⟩
              · exact (((Only.refl _ _).aft (Only.grown (set_grown _ _ _ _) fun k hk => (Option.some.inj hk).symm) (fun g hg => .inr (.inr hg))).aft (Only.grown (set_grown _ _ _ _) fun k hk => (Option.some.inj hk).symm) (fun g hg => .inr (.inl hg))).aft (Only.grown (set_grown _ _ _ _) fun k hk => (Option.some.inj hk).symm) (fun g hg => .inr (.inl hg)) |>.aft (Only.grown (set_grown _ _ _ _) fun k hk => (Option.some.inj hk).symm) (fun g hg => .inr (.inl hg))
              · exact (rd_set (rd_set (rd_set (rd_set Hr8.out hRg) zR) zR) zR).more (by omega)
              · exact (only_set (only_set (only_set (only_set HO8.out (by omega)) (Nat.le_refl _)) (Nat.le_refl _)) (Nat.le_refl _)).grownBy
          · obtain ⟨k0, k1, k2, -, -⟩ := HM8.out.cells
            have HG := Lib.hid hcellN
            have zgm : gm < w8.heap.size := mb_lt HM8.out
            have hngm : ¬ ((Value.slice (some ⟨kb, 0, none⟩) M cbN).ownBlock = some gm) := fun e => by have := Option.some.inj e; simp only at this; omega
            have hngH : ¬ ((Value.slice (some ⟨kb, 0, none⟩) M cbN).ownBlock = some gN) := fun e => by have := Option.some.inj e; simp only at this; omega
            have hngR : ¬ ((Value.slice (some ⟨kb, 0, none⟩) M cbN).ownBlock = some w.heap.size) := fun e => by have := Option.some.inj e; simp only at this; omega
            go_wp2_with fail
            obtain ⟨i0, hi0, hz0, hz1, hz2⟩ := info_parts info_int
            have hO := fun ops a => appRS2_ok (Pg := Try.prog) (ops := ops) (a := a) (news := [.int .i64 0]) (d := 9) (HownN.out)
            refine wp_region_rsl (appRS2 Try.prog _ w8 _ (gm + 1) 3 1 (Value.slice (some ⟨kb, 0, none⟩) M cbN) (M) (ints x1) [.int .i64 0] 9) (hO _ _) (by kernel_rfl) (by kernel_rfl) (by kernel_rfl) 11 _ rfl rfl (by kernel_rfl) (show (9 : Nat) < 11 by decide) trivial HownN.out ?_
            apply rs_eq (hO _ _) (.inl (Nat.ne_of_beq_eq_false rfl))
            · intro ρ w' ho hK
              have ho : Only _ w8 w' := ho
              obtain ⟨h0, -⟩ := hK
              have h0' : ρ (.tmp 5) = _ := h0
              go_simp
              try exact rfl
            apply rs_eq (hO _ _) (.inl (Nat.ne_of_beq_eq_false rfl))
            · intro ρ w' ho hK
              have ho : Only _ w8 w' := ho
              obtain ⟨h0, -⟩ := hK
              have h0' : ρ (.tmp 113) = _ := h0
              have r0 := cell_on ho hngm zgm k1
              have r1 := cell_on ho hngH gN2 HG.out
              go_simp
              try exact rfl
            refine rs_old (hO _ _) (.inl (Nat.ne_of_beq_eq_false rfl)) _ (.inl rfl) _ rfl rfl ?_
            apply rs_eq (hO _ _) (.inl (Nat.ne_of_beq_eq_false rfl))
            · intro ρ w' ho hK
              have ho : Only _ w8 w' := ho
              obtain ⟨h0, -⟩ := hK
              have h0' : ρ (.tmp 5) = _ := h0
              go_simp
              try exact rfl
            apply rs_eq (hO _ _) (.inl (Nat.ne_of_beq_eq_false rfl))
            · intro ρ w' ho hK
              have ho : Only _ w8 w' := ho
              obtain ⟨h0, -⟩ := hK
              have h0' : ρ (.tmp 116) = _ := h0
              have r0 := cell_on ho hngm zgm k1
              have r1 := cell_on ho hngH gN2 HG.out
              go_simp
              try exact rfl
            refine rs_old (hO _ _) (.inl (Nat.ne_of_beq_eq_false rfl)) _ (.inl rfl) _ rfl rfl ?_
            apply rs_eq (hO _ _) (.inl (Nat.ne_of_beq_eq_false rfl))
            · intro ρ w' ho hK
              have ho : Only _ w8 w' := ho
              obtain ⟨h0, h1, -⟩ := hK
              have h0' : ρ (.tmp 117) = _ := h0
              have h1' : ρ (.tmp 118) = _ := h1
              go_simp
              try exact rfl
            apply rs_eq (hO _ _) (.inl (Nat.ne_of_beq_eq_false rfl))
            · intro ρ w' ho hK
              have ho : Only _ w8 w' := ho
              obtain ⟨h0, -⟩ := hK
              have h0' : ρ (.tmp 119) = _ := h0
              have r0 := cell_on ho hngm zgm k1
              have r1 := cell_on ho hngH gN2 HG.out
              go_simp
              try exact rfl
            refine rs_build1 (hO _ _) (.inl (Nat.ne_of_beq_eq_false rfl)) 1 [.int .i64 0] 3 rfl (fun ρ w' ho hK => by
              have ho : Only _ w8 w' := ho
              obtain ⟨h0, -⟩ := hK
              have h0' : ρ (.const (Value.int IntKind.i64 0)) = (Value.int IntKind.i64 0) := h0
              go_simp) ?_
            refine rs_append2 rfl (gm + 1) 3 28 1 (Value.slice (some ⟨kb, 0, none⟩) M cbN) (M) (ints x1) _ rfl rfl (fun g hg => hg) (show gm + 1 ≤ w8.heap.size by omega) _ _ rfl _ _ rfl rfl rfl rfl i0 _ 8 Try.underlying28 hi0 hz0 hz1 hz2 rfl (by decide) (by omega) (by decide) (by simp [Value.oneCell']) ?_
            apply rs_eq (hO _ _) (.inl (Nat.ne_of_beq_eq_false rfl))
            · intro ρ w' ho hK
              have ho : Only _ w8 w' := ho
              obtain ⟨h0, h1, -⟩ := hK
              have h0' : ρ (.tmp 114) = _ := h0
              have h1' : ρ (.tmp 115) = _ := h1
              go_simp
              try exact rfl
            intro f w9 k9 hk9 hI9 ht9 hcp9
            have E0 : f 0 = _ := ht9 0 (Nat.le_of_ble_eq_true rfl)
            have E1 : f 1 = _ := ht9 1 (Nat.le_of_ble_eq_true rfl)
            have E2 : f 2 = _ := ht9 2 (Nat.le_of_ble_eq_true rfl)
            conv at E2 => rhs; whnf
            have E3 : f 3 = _ := ht9 3 (Nat.le_of_ble_eq_true rfl)
            have E4 : f 4 = _ := ht9 4 (Nat.le_of_ble_eq_true rfl)
            have E5 : f 5 = _ := ht9 5 (Nat.le_of_ble_eq_true rfl)
            conv at E5 => rhs; whnf
            have E6 : f 6 = _ := ht9 6 (Nat.le_of_ble_eq_true rfl)
            have E7 : f 7 = _ := ht9 7 (Nat.le_of_ble_eq_true rfl)
            have E8 : (TNew _ 1 1 [.int .i64 0]) w9 (f 8) := ht9 8 (Nat.le_of_ble_eq_true rfl)
            have E9 : (TAny) w9 (f 9) := ht9 9 (Nat.le_of_ble_eq_true rfl)
            have E10 : f 10 = _ := ht9 10 (Nat.le_of_ble_eq_true rfl)
            have Ho9 : Only _ w8 w9 := hI9.2.1
            have hown9 : w9.ownsRow (gm + 1) 3 1 (f 9) (M + 1) (ints x1 ++ [.int .i64 0]) := hI9.2.2.1
            have hat9 : ∀ g, (f 9).ownBlock = some g → (Value.slice (some ⟨kb, 0, none⟩) M cbN).ownBlock = some g ∨ w8.heap.size ≤ g := hI9.2.2.2
            simp only [putAll, E0, E1, E2, E3, E4, E5, E6, E7, E10, Nat.zero_add, Nat.reduceAdd, Act.put, List.setIfInBounds_toArray, List.set_cons_succ, List.set_cons_zero, List.take, List.getElem_toArray, List.getElem_cons_succ, List.getElem_cons_zero]
            clear E0 E1 E2 E3 E4 E5 E6 E7 E10
            clear hI9 ht9 hcp9 hk9
            generalize f 8 = r8 at *
            generalize f 9 = r9 at *
            obtain ⟨A9, c9, hr9⟩ := slice_of_own hown9
            subst hr9
            have hV9 := own_only Hp2.out Ho9 (fun g hg e => hngH (by have h1 := Option.some.inj hg; simp only at h1; rw [h1]; exact e))
            obtain ⟨u9, -, hcell9, hfr9⟩ := own_slot hV9 (j := s) (by omega)
            have hst := hV9.stored s (Value.slice A9 (M + 1) c9)
            have hox : Only (fun g => g = gN) w9 (w9.setCell ⟨gN, s, none⟩ (.slice A9 (M + 1) c9)) := Only.grown hst.2 (fun g hg => (Option.some.inj hg).symm)
            have hown10 := own_only hown9 hox (fun g hg e => by
              rcases hat9 g hg with h | h
              · exact hngH (by rw [← e]; exact h)
              · omega)
            have hOk : Only (· = kb) w8 w9 := Ho9.mono (fun g hg => (Option.some.inj hg).symm)
            have hox2 : Only (fun g => (Value.slice (some ⟨gN, 0, none⟩) k cN).ownBlock = some g) w9 (w9.setCell ⟨gN, s, none⟩ (.slice A9 (M + 1) c9)) := hox.mono (fun g hg => by rw [hg]; rfl)
            have hS : SSIn ints (From (gm + 1)) (w9.setCell ⟨gN, s, none⟩ (.slice A9 (M + 1) c9)) (.slice (some ⟨gN, 0, none⟩) k cN) (xs.set s (x1 ++ [0])) := ssin_upd (X := (· = kb)) VN.out.1 VN.out.2.2.1 VN.out.2.2.2.1 VN.out.2.2.2.2.1 VN.out.2.2.2.2.2.2 HuN.out hOk (fun g _ hx => by rw [hx]; rfl) (by rw [HL.out.1]; exact hst.1) (by rw [List.length_append, HlN.out, ints_snoc]; exact hown10) hox2
            have hO10 := ((HM8.out.o.only hOk (fun g _ he hx => HM8.out.d g (hx ▸ HEN.out) he)).only hox (fun g _ he hx => HM8.out.d g (hx ▸ HEN2.out) he)).innM
            have hMI : MachIn (gm + 1) (w9.setCell ⟨gN, s, none⟩ (.slice A9 (M + 1) c9)) (.agg #[.int .i64 ins, .slice (some ⟨gN, 0, none⟩) k cN, .slice (some ⟨gO, 0, none⟩) k cO]) { ins := ins, next := xs.set s (x1 ++ [0]), out := ys } := ⟨_, _, by simp only [List.length_set], hS, hO10⟩
            have HMI := Lib.hid hMI
            have hboxg := (Ho9.block gm zgm hngm).trans HM8.out.box
            have m0 := blk_cell hboxg 0
            have m1 := blk_cell hboxg 1
            have m2 := blk_cell hboxg 2
            have HX9 := Lib.hid ((Ho9.block w.heap.size (blk_lt HX8.out) hngR).trans HX8.out)
            have HO9 := Lib.hid ((HO8.out.aft hOk (fun g hg => .inl (by omega))))
            have HR9 := Lib.hid (rd_set (i := s) (v := Value.slice A9 (M + 1) c9) (Hr8.out.grown hOk.grownBy (fun q hq => by have := Option.some.inj hq; omega)) (show R < gN by omega))
            have hgmN : gm ≠ gN := by omega
            have hgwN : w.heap.size ≠ gN := by omega
            have hgmN2 : gN ≠ gm := by omega
            have hgwN2 : gN ≠ w.heap.size := by omega
            have o0 := blk_cell HX9.out 0
            have o1 := blk_cell HX9.out 1
            have o2 := blk_cell HX9.out 2
            have f0 := blk_free HX9.out 0
            have f1 := blk_free HX9.out 1
            have f2 := blk_free HX9.out 2
            simp at o0 o1 o2
            simp at m0 m1 m2
            clear hst hox hox2 hown10 hown9 hat9 hOk hS hO10 hMI hboxg hV9 Ho9 k0 k1 k2 hO HM8 VN VO HownN HownO
            go_wp2_with fail
            refine bodyPost_ret (v := .agg #[.int .i64 ins, .slice (some ⟨gN, 0, none⟩) k cN, .slice (some ⟨gO, 0, none⟩) k cO]) (by simp [results, Try.results19, go_sem, o0, o1, o2, hgwN, hgwN2]) rfl ⟨_, _, rfl, (MachIn.only HMI.out (E := fun g => g = w.heap.size) ?_ (fun g hg e => by omega)).mono (by omega), ?_, ?_⟩
            · exact ((Only.refl _ _).aft (Only.grown (set_grown _ _ _ _) fun k hk => (Option.some.inj hk).symm) fun g hg => .inr hg).aft (Only.grown (set_grown _ _ _ _) fun k hk => (Option.some.inj hk).symm) (fun g hg => .inr hg) |>.aft (Only.grown (set_grown _ _ _ _) fun k hk => (Option.some.inj hk).symm) (fun g hg => .inr hg)
            · exact (rd_set (rd_set (rd_set HR9.out zR) zR) zR).more (by omega)
            · exact (only_set (only_set (only_set (only_set HO9.out (by omega)) (Nat.le_refl _)) (Nat.le_refl _)) (Nat.le_refl _)).grownBy
          · obtain ⟨k0, k1, k2, -, -⟩ := HM8.out.cells
            have o0 := blk_cell HX8.out 0
            have o1 := blk_cell HX8.out 1
            have o2 := blk_cell HX8.out 2
            have f0 := blk_free HX8.out 0
            have f1 := blk_free HX8.out 1
            have f2 := blk_free HX8.out 2
            simp at o0 o1 o2
            clear HM8 VN VO HownN HownO
            go_wp2_with fail
            refine bodyPost_ret (v := .agg #[.int .i64 ins, .slice none 0 0, .slice none 0 0]) (by simp [results, Try.results19, go_sem, o0, o1, o2]) rfl ⟨_, { ins := ins, next := [], out := [] }, rfl, ⟨_, _, rfl, SSIn.nil ints _ _, SSIn.nil ints _ _⟩, ?_, ?_⟩
            · exact (rd_set (rd_set (rd_set Hr8.out zR) zR) zR).more (by omega)
            · exact (only_set (only_set (only_set HO8.out (Nat.le_refl _)) (Nat.le_refl _)) (Nat.le_refl _)).grownBy
end Go.Proofs.Ytmlmnelbphjfbaa
