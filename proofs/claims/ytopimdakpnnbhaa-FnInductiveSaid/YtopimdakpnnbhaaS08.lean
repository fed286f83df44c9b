import Derived.Test.YtopimdakpnnbhaaS04
import Derived.Test.YtopimdakpnnbhaaS02
import Derived.Test.YtopimdakpnnbhaaS05
import Derived.Test.YtopimdakpnnbhaaS03
import Derived.Test.YtopimdakpnnbhaaProg
import Derived.Test.YtopimdakpnnbhaaS01
import Derived.Lib.SmallJoins
import Derived.ProofKit
import Derived.Deep.Slices
import Derived.Deep.Fields
import Derived.ChangeSame
set_option linter.unusedVariables false
set_option linter.unusedSimpArgs false
namespace Go.Proofs.Ytopimdakpnnbhaa
namespace Cir
/-! Violations of invariants, plainly. -/
/-- Output o is 1 in state s for input number x. -/
def bad (c : Ci) (o s x : Nat) : Bool := (outsOf c s x).getD o false
def vsts (l : List (Nat × List Nat)) : List Nat := l.map (·.1)
def vpush (l : List (Nat × List Nat)) (n : Nat) (p : List Nat) : List (Nat × List Nat) := if memB (vsts l) n then l else l ++ [(n, p)]
def vpushes (c : Ci) (s : Nat) (p : List Nat) : Nat → List (Nat × List Nat) → List (Nat × List Nat)
  | 0, l => l
  | j + 1, l => vpush (vpushes c s p j l) (nextOf c s j) (p ++ [j])
def vfind (c : Ci) (o s M : Nat) : Option Nat := (List.range M).find? (bad c o s)
def vbfs (c : Ci) (o : Nat) : Nat → Nat → List (Nat × List Nat) → Option (List Nat)
  | 0, _, _ => none
  | f + 1, k, l => match l[k]? with
    | none => none
    | some (s, p) => match vfind c o s (2 ^ c.ins) with
      | some x => some (p ++ [x])
      | none => vbfs c o f (k + 1) (vpushes c s p (2 ^ c.ins) l)
def viol (c : Ci) (o : Nat) : Option (List Nat) := vbfs c o 9 0 [(0, [])]
theorem vsts_vpush (l : List (Nat × List Nat)) (n : Nat) (p : List Nat) : vsts (vpush l n p) = push (vsts l) n := by
  unfold vpush push memB
  split
  · rfl
  · unfold vsts; simp
theorem vsts_vpushes (c : Ci) (s : Nat) (p : List Nat) (l : List (Nat × List Nat)) : ∀ j, vsts (vpushes c s p j l) = pushes c s j (vsts l)
  | 0 => by rw [pushes_zero]; rfl
  | j + 1 => by rw [pushes_succ, ← vsts_vpushes c s p l j, ← vsts_vpush]; rfl
theorem vsts_get {l : List (Nat × List Nat)} {k s : Nat} {p : List Nat} (h : l[k]? = some (s, p)) : (vsts l)[k]? = some s := by
  unfold vsts; rw [List.getElem?_map, h]; rfl
theorem vsts_length (l : List (Nat × List Nat)) : (vsts l).length = l.length := by unfold vsts; simp
theorem vpush_prefix (l : List (Nat × List Nat)) (n : Nat) (p : List Nat) : ∃ m, vpush l n p = l ++ m := by
  unfold vpush
  split
  · exact ⟨[], by simp⟩
  · exact ⟨_, rfl⟩
theorem vpushes_prefix (c : Ci) (s : Nat) (p : List Nat) (l : List (Nat × List Nat)) : ∀ j, ∃ m, vpushes c s p j l = l ++ m
  | 0 => ⟨[], by simp [vpushes]⟩
  | j + 1 => by
    obtain ⟨m, hm⟩ := vpushes_prefix c s p l j
    obtain ⟨m', hm'⟩ := vpush_prefix (vpushes c s p j l) (nextOf c s j) (p ++ [j])
    exact ⟨m ++ m', by rw [vpushes, hm', hm, List.append_assoc]⟩
theorem vpushes_get {c : Ci} {s : Nat} {p : List Nat} {l : List (Nat × List Nat)} {j k : Nat} {x : Nat × List Nat} (h : l[k]? = some x) : (vpushes c s p j l)[k]? = some x := by
  obtain ⟨m, hm⟩ := vpushes_prefix c s p l j
  rw [hm, List.getElem?_append_left (List.getElem?_eq_some_iff.1 h).1, h]
/-- Lists of states with the inputs that lead there. -/
structure Vs (c : Ci) (l : List (Nat × List Nat)) : Prop where
  sts : Sts c (vsts l)
  len : ∀ (k s : Nat) (p : List Nat), l[k]? = some (s, p) → p.length ≤ k
  inp : ∀ (k s : Nat) (p : List Nat), l[k]? = some (s, p) → ∀ x ∈ p, x < 2 ^ c.ins
theorem Vs.zero (c : Ci) : Vs c [(0, [])] := by
  refine ⟨Sts.zero c, fun k s p h => ?_, fun k s p h => ?_⟩
  · cases k with
    | zero => simp at h; obtain ⟨_, rfl⟩ := h; simp
    | succ k => simp at h
  · cases k with
    | zero => simp at h; obtain ⟨_, rfl⟩ := h; simp
    | succ k => simp at h
theorem Vs.push {c : Ci} {l : List (Nat × List Nat)} (h : Vs c l) {k s : Nat} {p : List Nat} (hk : l[k]? = some (s, p)) {n x : Nat} (hn : n < 2 ^ c.next.length) (hx : x < 2 ^ c.ins) : Vs c (vpush l n (p ++ [x])) := by
  refine ⟨by rw [vsts_vpush]; exact h.sts.push hn, fun k' s' p' h' => ?_, fun k' s' p' h' => ?_⟩
  all_goals
    unfold vpush at h'
    split at h'
    · first | exact h.len _ _ _ h' | exact h.inp _ _ _ h'
    · rcases Nat.lt_or_ge k' l.length with hl | hl
      · rw [List.getElem?_append_left hl] at h'
        first | exact h.len _ _ _ h' | exact h.inp _ _ _ h'
      · rw [List.getElem?_append_right hl] at h'
        have hz : k' - l.length = 0 := by
          rcases Nat.eq_zero_or_pos (k' - l.length) with hz | hz
          · exact hz
          · rw [List.getElem?_eq_none (by simp; omega)] at h'; cases h'
        rw [hz] at h'
        simp at h'
        obtain ⟨rfl, rfl⟩ := h'
        first
        | (have := h.len _ _ _ hk
           have h2 := (List.getElem?_eq_some_iff.1 hk).1
           simp
           omega)
        | (intro y hy
           rcases List.mem_append.1 hy with hy | hy
           · exact h.inp _ _ _ hk y hy
           · obtain rfl := List.mem_singleton.1 hy
             exact hx)
theorem Vs.pushes {c : Ci} {l : List (Nat × List Nat)} (h : Vs c l) {k s : Nat} {p : List Nat} (hk : l[k]? = some (s, p)) : ∀ j, j ≤ 2 ^ c.ins → Vs c (vpushes c s p j l)
  | 0, _ => h
  | j + 1, hj => (Vs.pushes h hk j (by omega)).push (vpushes_get hk) (nextOf_lt c s j) (by omega)
theorem Vs.size {c : Ci} {l : List (Nat × List Nat)} (h : Vs c l) (hc : Ok c) : l.length ≤ 8 := by
  have := h.sts.len hc
  rwa [vsts_length] at this
theorem vfind_none {c : Ci} {o s M : Nat} (h : ∀ x, x < M → bad c o s x = false) : vfind c o s M = none := by
  unfold vfind
  rw [List.find?_eq_none]
  intro x hx
  rw [h x (List.mem_range.1 hx)]
  simp
theorem find_range (p : Nat → Bool) : ∀ (M x : Nat), x < M → p x = true → (∀ y, y < x → p y = false) → (List.range M).find? p = some x
  | 0, x, h, _, _ => by omega
  | M + 1, x, h, hp, hl => by
    rw [List.range_succ, List.find?_append]
    rcases Nat.lt_or_ge x M with hx | hx
    · rw [find_range p M x hx hp hl]; rfl
    · obtain rfl : x = M := by omega
      rw [List.find?_eq_none.2 (fun y hy => by rw [hl y (List.mem_range.1 hy)]; simp)]
      simp [hp]
theorem vfind_some {c : Ci} {o s M x : Nat} (hx : x < M) (hb : bad c o s x = true) (h : ∀ y, y < x → bad c o s y = false) : vfind c o s M = some x := find_range _ M x hx hb h
theorem vbfs_hit {c : Ci} {o f k s x : Nat} {p : List Nat} {l : List (Nat × List Nat)} (hk : l[k]? = some (s, p)) (h : vfind c o s (2 ^ c.ins) = some x) : vbfs c o (f + 1) k l = some (p ++ [x]) := by
  rw [vbfs, hk]; simp only [h]
theorem vbfs_step {c : Ci} {o f k s : Nat} {p : List Nat} {l : List (Nat × List Nat)} (hk : l[k]? = some (s, p)) (h : vfind c o s (2 ^ c.ins) = none) : vbfs c o (f + 1) k l = vbfs c o f (k + 1) (vpushes c s p (2 ^ c.ins) l) := by
  rw [vbfs, hk]; simp only [h]
theorem vbfs_end {c : Ci} {o f : Nat} {l : List (Nat × List Nat)} : vbfs c o f l.length l = none := by
  cases f with
  | zero => rfl
  | succ f => rw [vbfs, List.getElem?_eq_none (Nat.le_refl _)]
theorem vpush_no {l : List (Nat × List Nat)} {n : Nat} {p : List Nat} (h : memB (vsts l) n = false) : vpush l n p = l ++ [(n, p)] := by
  unfold vpush; rw [h]; rfl
theorem vpush_yes {l : List (Nat × List Nat)} {n : Nat} {p : List Nat} (h : memB (vsts l) n = true) : vpush l n p = l := by
  unfold vpush; rw [h]; rfl
theorem vpushes_succ (c : Ci) (s : Nat) (p : List Nat) (j : Nat) (l : List (Nat × List Nat)) : vpushes c s p (j + 1) l = vpush (vpushes c s p j l) (nextOf c s j) (p ++ [j]) := rfl
/-- The way back: from which place, and by which input. -/
structure Back (l : List (Nat × List Nat)) (from_ how : List Nat) : Prop where
  l1 : from_.length = l.length
  l2 : how.length = l.length
  zero : ∃ s, l[0]? = some (s, [])
  step : ∀ (k s : Nat) (p : List Nat), l[k]? = some (s, p) → 0 < k → ∃ i x s' p', from_[k]? = some i ∧ i < k ∧ how[k]? = some x ∧ l[i]? = some (s', p') ∧ p = p' ++ [x]
theorem Back.start : Back [(0, [])] [0] [0] := ⟨rfl, rfl, ⟨0, rfl⟩, fun k s p h hk => by
  cases k with
  | zero => omega
  | succ k => simp at h⟩
theorem Back.snoc {l : List (Nat × List Nat)} {from_ how : List Nat} (h : Back l from_ how) {k s n x : Nat} {p : List Nat} (hk : l[k]? = some (s, p)) : Back (l ++ [(n, p ++ [x])]) (from_ ++ [k]) (how ++ [x]) := by
  have hkl := (List.getElem?_eq_some_iff.1 hk).1
  refine ⟨by simp [h.l1], by simp [h.l2], ?_, fun k' s' p' h' hpos => ?_⟩
  · obtain ⟨s0, h0⟩ := h.zero
    exact ⟨s0, by rw [List.getElem?_append_left (List.getElem?_eq_some_iff.1 h0).1, h0]⟩
  · rcases Nat.lt_or_ge k' l.length with hl | hl
    · rw [List.getElem?_append_left hl] at h'
      obtain ⟨i, y, s1, p1, h1, h2, h3, h4, h5⟩ := h.step k' s' p' h' hpos
      exact ⟨i, y, s1, p1, by rw [List.getElem?_append_left (by rw [h.l1]; exact hl), h1], h2, by rw [List.getElem?_append_left (by rw [h.l2]; exact hl), h3], by rw [List.getElem?_append_left (by omega), h4], h5⟩
    · have hz : k' = l.length := by
        rcases Nat.lt_or_ge l.length k' with hz | hz
        · rw [List.getElem?_eq_none (by simp; omega)] at h'; cases h'
        · omega
      subst hz
      rw [List.getElem?_append_right (Nat.le_refl _), Nat.sub_self] at h'
      simp at h'
      obtain ⟨rfl, rfl⟩ := h'
      exact ⟨k, x, s, p, by rw [List.getElem?_append_right (by rw [h.l1]; exact Nat.le_refl _), h.l1]; simp, hkl, by rw [List.getElem?_append_right (by rw [h.l2]; exact Nat.le_refl _), h.l2]; simp, by rw [List.getElem?_append_left hkl, hk], rfl⟩
end Cir
end Go.Proofs.Ytopimdakpnnbhaa

namespace Go.Proofs.Ytopimdakpnnbhaa
namespace Cir
/-! Simulation, plainly; reachable states as states of runs; what the inputs of a violation do. -/
theorem num_bit : ∀ (l : List Bool) (i : Nat), (num l).testBit i = l.getD i false
  | [], i => by simp [num]
  | b :: l, 0 => by
    rw [num, Nat.testBit_zero]
    cases b <;> simp <;> omega
  | b :: l, i + 1 => by
    rw [num, Nat.testBit_succ, show ((if b = true then 1 else 0) + 2 * num l) / 2 = num l from by cases b <;> simp <;> omega, num_bit l i]
    simp
theorem bits_num (l : List Bool) : bits (num l) l.length = l := by
  unfold bits
  apply List.ext_getElem
  · simp
  · intro i h1 h2
    simp [num_bit, List.getElem?_eq_getElem h2]
theorem bits_numL {l : List Bool} {n : Nat} (h : l.length = n) : bits (num l) n = l := h ▸ bits_num l
theorem lits_len (v : List Bool) (ls : List Nat) : (lits v ls).length = ls.length := List.length_map _
/-- The outputs, cycle by cycle. -/
def simL (c : Ci) : List Bool → List (List Bool) → List (List Bool)
  | _, [] => []
  | st, r :: rs => lits (vals c st r) c.outs :: simL c (lits (vals c st r) c.next) rs
/-- The state behind some cycles. -/
def runL (c : Ci) : List Bool → List (List Bool) → List Bool
  | st, [] => st
  | st, r :: rs => runL c (lits (vals c st r) c.next) rs
theorem simL_length (c : Ci) : ∀ (rs : List (List Bool)) (st : List Bool), (simL c st rs).length = rs.length
  | [], _ => rfl
  | r :: rs, st => by rw [simL, List.length_cons, simL_length c rs, List.length_cons]
theorem simL_snoc (c : Ci) (r : List Bool) : ∀ (rs : List (List Bool)) (st : List Bool), simL c st (rs ++ [r]) = simL c st rs ++ [lits (vals c (runL c st rs) r) c.outs]
  | [], _ => rfl
  | q :: rs, st => by rw [List.cons_append, simL, simL_snoc c r rs, simL, runL, List.cons_append]
theorem runL_snoc (c : Ci) (r : List Bool) : ∀ (rs : List (List Bool)) (st : List Bool), runL c st (rs ++ [r]) = lits (vals c (runL c st rs) r) c.next
  | [], _ => rfl
  | q :: rs, st => by rw [List.cons_append, runL, runL_snoc c r rs, runL]
theorem runL_append (c : Ci) (ts : List (List Bool)) : ∀ (rs : List (List Bool)) (st : List Bool), runL c st (rs ++ ts) = runL c (runL c st rs) ts
  | [], _ => rfl
  | q :: rs, st => by rw [List.cons_append, runL, runL_append c ts rs, runL]
theorem runL_length (c : Ci) : ∀ (rs : List (List Bool)) (st : List Bool), st.length = c.next.length → (runL c st rs).length = c.next.length
  | [], _, h => h
  | r :: rs, st, _ => runL_length c rs _ (lits_len _ _)
/-- The same, of numbers. -/
def runN (c : Ci) : Nat → List Nat → Nat
  | s, [] => s
  | s, x :: xs => runN c (nextOf c s x) xs
theorem runN_snoc (c : Ci) (x : Nat) : ∀ (xs : List Nat) (s : Nat), runN c s (xs ++ [x]) = nextOf c (runN c s xs) x
  | [], _ => rfl
  | y :: xs, s => by rw [List.cons_append, runN, runN_snoc c x xs, runN]
def rowsN (n : Nat) (xs : List Nat) : List (List Bool) := xs.map fun x => bits x n
theorem lits_next (c : Ci) (s x : Nat) : lits (vals c (bits s c.next.length) (bits x c.ins)) c.next = bits (nextOf c s x) c.next.length := (bits_numL (lits_len _ _)).symm
theorem runL_rows (c : Ci) : ∀ (xs : List Nat) (s : Nat), runL c (bits s c.next.length) (rowsN c.ins xs) = bits (runN c s xs) c.next.length
  | [], _ => rfl
  | x :: xs, s => by
    show runL c (lits (vals c (bits s c.next.length) (bits x c.ins)) c.next) (rowsN c.ins xs) = _
    rw [lits_next, runL_rows c xs]
    rfl
theorem simL_rows (c : Ci) : ∀ (xs : List Nat) (s i : Nat), (simL c (bits s c.next.length) (rowsN c.ins xs))[i]? = (xs[i]?).map fun x => outsOf c (runN c s (xs.take i)) x
  | [], _, i => by simp [rowsN, simL]
  | x :: xs, s, 0 => rfl
  | x :: xs, s, i + 1 => by
    show (simL c (lits (vals c (bits s c.next.length) (bits x c.ins)) c.next) (rowsN c.ins xs))[i]? = _
    rw [lits_next, simL_rows c xs, List.getElem?_cons_succ, List.take_succ_cons]
    rfl
theorem bits_zero (n : Nat) : bits 0 n = List.replicate n false := by
  unfold bits
  apply List.ext_getElem
  · simp
  · intro i h1 h2; simp
/-! ### Reachable states -/
theorem mem_push {l : List Nat} {n x : Nat} : x ∈ push l n ↔ x ∈ l ∨ x = n := by
  unfold push
  cases h : l.contains n
  · simp
  · have hn : n ∈ l := by simpa using h
    simp only [if_true]
    exact ⟨.inl, fun h => h.elim id fun e => e ▸ hn⟩
theorem mem_pushes {c : Ci} {s : Nat} {l : List Nat} {y : Nat} : ∀ {j : Nat}, y ∈ pushes c s j l ↔ y ∈ l ∨ ∃ x, x < j ∧ nextOf c s x = y
  | 0 => by rw [pushes_zero]; exact ⟨.inl, fun h => h.elim id fun ⟨x, hx, _⟩ => absurd hx (by omega)⟩
  | j + 1 => by
    rw [pushes_succ, mem_push, mem_pushes (j := j)]
    constructor
    · rintro ((h | ⟨x, hx, h⟩) | h)
      · exact .inl h
      · exact .inr ⟨x, by omega, h⟩
      · exact .inr ⟨j, by omega, h.symm⟩
    · rintro (h | ⟨x, hx, h⟩)
      · exact .inl (.inl h)
      · rcases Nat.lt_or_ge x j with hj | hj
        · exact .inl (.inr ⟨x, hj, h⟩)
        · exact .inr (by rw [← h, show x = j from by omega])
theorem bfs_get {c : Ci} : ∀ (f k : Nat) {l : List Nat} {i x : Nat}, l[i]? = some x → (bfs c f k l)[i]? = some x
  | 0, _, _, _, _, h => h
  | f + 1, k, l, i, x, h => by
    rw [bfs]
    split
    · exact h
    · exact bfs_get f (k + 1) (pushes_get h)
theorem bfs_closed {c : Ci} (hc : Ok c) : ∀ (f k : Nat) (l : List Nat), 9 ≤ f + k → Sts c l → k ≤ l.length → (∀ i s, i < k → l[i]? = some s → ∀ x, x < 2 ^ c.ins → nextOf c s x ∈ l) → ∀ s ∈ bfs c f k l, ∀ x, x < 2 ^ c.ins → nextOf c s x ∈ bfs c f k l
  | 0, k, l, hf, hl, hk, _ => absurd (hl.len hc) (by omega)
  | f + 1, k, l, hf, hl, hk, h => by
    rw [bfs]
    cases hs : l[k]? with
    | none =>
      intro s hm x hx
      have hm : s ∈ l := hm
      obtain ⟨i, hi, rfl⟩ := List.mem_iff_getElem.1 hm
      have hkl : l.length ≤ k := by simpa using hs
      exact h i _ (by omega) (List.getElem?_eq_getElem hi) x hx
    | some t =>
      simp only
      obtain ⟨hkl, ht⟩ := List.getElem?_eq_some_iff.1 hs
      obtain ⟨m, hm⟩ := pushes_prefix c t l (2 ^ c.ins)
      refine bfs_closed hc f (k + 1) _ (by omega) (hl.pushes t _) (by rw [hm, List.length_append]; omega) fun i s hi hs' x hx => ?_
      have hil : i < l.length := by omega
      rw [hm, List.getElem?_append_left hil] at hs'
      rcases Nat.lt_or_ge i k with h1 | h1
      · exact mem_pushes.2 (.inl (h i s h1 hs' x hx))
      · obtain rfl : i = k := by omega
        rw [hs] at hs'
        obtain rfl := Option.some.inj hs'
        exact mem_pushes.2 (.inr ⟨x, hx, rfl⟩)
theorem reach_closed {c : Ci} (hc : Ok c) {s x : Nat} (h : s ∈ reach c) (hx : x < 2 ^ c.ins) : nextOf c s x ∈ reach c :=
  bfs_closed hc 9 0 [0] (by omega) (Sts.zero c) (by omega) (fun i s hi => by omega) s h x hx
theorem reach_zero (c : Ci) : 0 ∈ reach c := List.mem_of_getElem? (bfs_get (c := c) 9 0 (l := [0]) (i := 0) rfl)
def Inputs (c : Ci) (p : List Nat) : Prop := ∀ x ∈ p, x < 2 ^ c.ins
theorem Inputs.snoc {c : Ci} {p : List Nat} {x : Nat} (h : Inputs c p) (hx : x < 2 ^ c.ins) : Inputs c (p ++ [x]) := fun y hy => by
  rcases List.mem_append.1 hy with h1 | h1
  · exact h y h1
  · rw [List.mem_singleton.1 h1]; exact hx
theorem Inputs.take {c : Ci} {p : List Nat} (h : Inputs c p) (i : Nat) : Inputs c (p.take i) := fun x hx => h x (List.mem_of_mem_take hx)
theorem run_reach {c : Ci} (hc : Ok c) : ∀ (p : List Nat) (s : Nat), s ∈ reach c → Inputs c p → runN c s p ∈ reach c
  | [], _, h, _ => h
  | x :: p, s, h, hp => run_reach hc p _ (reach_closed hc h (hp x (by simp))) fun y hy => hp y (List.mem_cons_of_mem _ hy)
theorem bfs_run {c : Ci} : ∀ (f k : Nat) (l : List Nat), (∀ s ∈ l, ∃ p, Inputs c p ∧ runN c 0 p = s) → ∀ s ∈ bfs c f k l, ∃ p, Inputs c p ∧ runN c 0 p = s
  | 0, _, _, h => h
  | f + 1, k, l, h => by
    rw [bfs]
    cases hs : l[k]? with
    | none => exact h
    | some t =>
      refine bfs_run f (k + 1) _ fun s hm => ?_
      rcases mem_pushes.1 hm with h1 | ⟨x, hx, h1⟩
      · exact h s h1
      · obtain ⟨p, hp, hr⟩ := h t (List.mem_of_getElem? hs)
        exact ⟨p ++ [x], hp.snoc hx, by rw [runN_snoc, hr, h1]⟩
theorem reach_run {c : Ci} {s : Nat} (h : s ∈ reach c) : ∃ p, Inputs c p ∧ runN c 0 p = s :=
  bfs_run 9 0 [0] (fun s hs => ⟨[], fun x hx => (by cases hx), (List.mem_singleton.1 hs).symm⟩) s h
/-! ### Violations -/
theorem vfind_no {c : Ci} {o s M : Nat} (h : vfind c o s M = none) {x : Nat} (hx : x < M) : bad c o s x = false := by
  unfold vfind at h
  rw [List.find?_eq_none] at h
  simpa using h x (List.mem_range.2 hx)
theorem vfind_hit {c : Ci} {o s M x : Nat} (h : vfind c o s M = some x) : x < M ∧ bad c o s x = true := by
  unfold vfind at h
  exact ⟨List.mem_range.1 (List.mem_of_find?_eq_some h), List.find?_some h⟩
theorem vbfs_none {c : Ci} (hc : Ok c) (o : Nat) : ∀ (f k : Nat) (l : List (Nat × List Nat)), 9 ≤ f + k → Vs c l → k ≤ l.length →
    (vbfs c o f k l = none ↔ ∀ i s, k ≤ i → (bfs c f k (vsts l))[i]? = some s → ∀ x, x < 2 ^ c.ins → bad c o s x = false)
  | 0, k, l, hf, hl, hk => absurd (hl.size hc) (by omega)
  | f + 1, k, l, hf, hl, hk => by
    rw [vbfs, bfs]
    cases hs : l[k]? with
    | none =>
      have hkl : l.length ≤ k := by simpa using hs
      have hv : (vsts l)[k]? = none := by rw [List.getElem?_eq_none_iff, vsts_length]; exact hkl
      rw [hv]
      refine ⟨fun _ i s hi h => ?_, fun _ => rfl⟩
      simp only at h
      rw [List.getElem?_eq_none (by rw [vsts_length]; omega)] at h
      cases h
    | some sp =>
      obtain ⟨s, p⟩ := sp
      have hv := vsts_get hs
      rw [hv]
      have hkl := (List.getElem?_eq_some_iff.1 hs).1
      obtain ⟨m, hm⟩ := vpushes_prefix c s p l (2 ^ c.ins)
      have hget : ∀ F K L i y, (vsts l)[i]? = some y → (bfs c F K (pushes c s L (vsts l)))[i]? = some y := fun F K L i y h => bfs_get F K (pushes_get h)
      simp only
      cases hfd : vfind c o s (2 ^ c.ins) with
      | some x =>
        obtain ⟨h1, h2⟩ := vfind_hit hfd
        refine ⟨fun h => (by cases h), fun h => ?_⟩
        have := h k s (Nat.le_refl _) (hget _ _ _ _ _ hv) x h1
        rw [h2] at this; cases this
      | none =>
        have IH := vbfs_none hc o f (k + 1) (vpushes c s p (2 ^ c.ins) l) (by omega) (hl.pushes hs _ (Nat.le_refl _)) (by rw [hm, List.length_append]; omega)
        rw [vsts_vpushes] at IH
        rw [IH]
        constructor
        · intro h i t hi ht x hx
          rcases Nat.lt_or_ge k i with h1 | h1
          · exact h i t h1 ht x hx
          · obtain rfl : i = k := by omega
            rw [hget _ _ _ _ _ hv] at ht
            obtain rfl := Option.some.inj ht
            exact vfind_no hfd hx
        · exact fun h i t hi ht x hx => h i t (by omega) ht x hx
theorem viol_none {c : Ci} (hc : Ok c) {o : Nat} : viol c o = none ↔ ∀ s ∈ reach c, ∀ x, x < 2 ^ c.ins → bad c o s x = false := by
  rw [viol, vbfs_none hc o 9 0 _ (by omega) (Vs.zero c) (by omega)]
  constructor
  · intro h s hs x hx
    obtain ⟨i, hi, rfl⟩ := List.mem_iff_getElem.1 hs
    exact h i _ (Nat.zero_le _) (List.getElem?_eq_getElem hi) x hx
  · exact fun h i s _ hs x hx => h s (List.mem_of_getElem? hs) x hx
/-- The output is 0 in all cycles. -/
def clean (c : Ci) (o : Nat) : Nat → List Nat → Bool
  | _, [] => true
  | s, x :: xs => !bad c o s x && clean c o (nextOf c s x) xs
theorem clean_snoc (c : Ci) (o x : Nat) : ∀ (p : List Nat) (s : Nat), clean c o s (p ++ [x]) = (clean c o s p && !bad c o (runN c s p) x)
  | [], s => by simp [clean, runN]
  | y :: p, s => by rw [List.cons_append, clean, clean_snoc c o x p, clean, runN, Bool.and_assoc]
theorem clean_get {c : Ci} {o : Nat} : ∀ (p : List Nat) (s i : Nat) {x : Nat}, clean c o s p = true → p[i]? = some x → bad c o (runN c s (p.take i)) x = false
  | [], _, _, _, _, h => by simp at h
  | y :: p, s, 0, x, h, hx => by
    rw [clean, Bool.and_eq_true] at h
    obtain rfl : y = x := by simpa using hx
    simpa [runN] using h.1
  | y :: p, s, i + 1, x, h, hx => by
    rw [clean, Bool.and_eq_true] at h
    rw [List.take_succ_cons, runN]
    exact clean_get p _ i h.2 (by simpa using hx)
theorem viol_none_clean {c : Ci} (hc : Ok c) {o : Nat} (h : viol c o = none) : ∀ (p : List Nat) (s : Nat), s ∈ reach c → Inputs c p → clean c o s p = true
  | [], _, _, _ => rfl
  | x :: p, s, hs, hp => by
    have hx := hp x (by simp)
    rw [clean, (viol_none hc).1 h s hs x hx, viol_none_clean hc h p _ (reach_closed hc hs hx) fun y hy => hp y (List.mem_cons_of_mem _ hy)]
    rfl
theorem viol_none_of {c : Ci} (hc : Ok c) {o : Nat} (h : ∀ p, Inputs c p → clean c o 0 p = true) : viol c o = none := by
  refine (viol_none hc).2 fun s hs x hx => ?_
  obtain ⟨p, hp, rfl⟩ := reach_run hs
  have := h _ (hp.snoc hx)
  rw [clean_snoc, Bool.and_eq_true] at this
  simpa using this.2
def Paths (c : Ci) (o : Nat) (l : List (Nat × List Nat)) : Prop := ∀ e ∈ l, Inputs c e.2 ∧ runN c 0 e.2 = e.1 ∧ clean c o 0 e.2 = true
theorem Paths.pushes {c : Ci} {o : Nat} {l : List (Nat × List Nat)} (h : Paths c o l) {s : Nat} {p : List Nat} (hp : (s, p) ∈ l) (hb : ∀ x, x < 2 ^ c.ins → bad c o s x = false) : ∀ j, j ≤ 2 ^ c.ins → Paths c o (vpushes c s p j l)
  | 0, _ => h
  | j + 1, hj => by
    have IH := Paths.pushes h hp hb j (by omega)
    rw [vpushes_succ]
    unfold vpush
    split
    · exact IH
    · intro e he
      rcases List.mem_append.1 he with h1 | h1
      · exact IH e h1
      · obtain rfl := List.mem_singleton.1 h1
        obtain ⟨a1, a2, a3⟩ := h _ hp
        simp only at a1 a2 a3
        exact ⟨a1.snoc (by omega), by rw [runN_snoc, a2], by rw [clean_snoc, a3, a2, hb j (by omega)]; rfl⟩
theorem vbfs_path {c : Ci} (o : Nat) : ∀ (f k : Nat) (l : List (Nat × List Nat)), Paths c o l → ∀ r, vbfs c o f k l = some r → ∃ q x, r = q ++ [x] ∧ Inputs c q ∧ x < 2 ^ c.ins ∧ clean c o 0 q = true ∧ bad c o (runN c 0 q) x = true
  | 0, _, _, _, r, h => by cases h
  | f + 1, k, l, hl, r, h => by
    rw [vbfs] at h
    cases hs : l[k]? with
    | none => rw [hs] at h; cases h
    | some sp =>
      obtain ⟨s, p⟩ := sp
      rw [hs] at h
      simp only at h
      have hm := List.mem_of_getElem? hs
      cases hfd : vfind c o s (2 ^ c.ins) with
      | some x =>
        rw [hfd] at h
        obtain ⟨h1, h2⟩ := vfind_hit hfd
        obtain ⟨a1, a2, a3⟩ := hl _ hm
        simp only at a1 a2 a3
        exact ⟨p, x, (Option.some.inj h).symm, a1, h1, a3, by rw [a2]; exact h2⟩
      | none =>
        rw [hfd] at h
        exact vbfs_path o f (k + 1) _ (hl.pushes hm (fun x hx => vfind_no hfd hx) _ (Nat.le_refl _)) r h
theorem viol_path {c : Ci} {o : Nat} {r : List Nat} (h : viol c o = some r) : ∃ q x, r = q ++ [x] ∧ Inputs c q ∧ x < 2 ^ c.ins ∧ clean c o 0 q = true ∧ bad c o (runN c 0 q) x = true :=
  vbfs_path o 9 0 _ (fun e he => by
    obtain rfl := List.mem_singleton.1 he
    exact ⟨fun x hx => (by cases hx), rfl, rfl⟩) r h
/-- The output is 1 in the last cycle alone. -/
theorem viol_outs {c : Ci} {o : Nat} {r : List Nat} (h : viol c o = some r) {i x : Nat} (hi : r[i]? = some x) : bad c o (runN c 0 (r.take i)) x = (i + 1 == r.length) := by
  obtain ⟨q, y, rfl, -, -, h3, h4⟩ := viol_path h
  have hlt := (List.getElem?_eq_some_iff.1 hi).1
  rw [List.length_append, List.length_singleton] at hlt ⊢
  rcases Nat.lt_or_ge i q.length with h1 | h1
  · rw [List.getElem?_append_left h1] at hi
    rw [List.take_append_of_le_length (by omega), clean_get q 0 i h3 hi]
    symm
    rw [beq_eq_false_iff_ne]
    omega
  · obtain rfl : i = q.length := by omega
    rw [List.getElem?_append_right (Nat.le_refl _), Nat.sub_self] at hi
    obtain rfl : y = x := by simpa using hi
    rw [List.take_left, h4]
    simp
theorem viol_pos {c : Ci} {o : Nat} {r : List Nat} (h : viol c o = some r) : 0 < r.length := by
  obtain ⟨q, y, rfl, -⟩ := viol_path h
  simp
end Cir
end Go.Proofs.Ytopimdakpnnbhaa

namespace Go.Proofs.Ytopimdakpnnbhaa
open Go.RowKit
set_option maxRecDepth 100000
/-! Rows of inputs; ternary values of bits. -/
theorem all_dropG' {α : Type} {p : α → Bool} {l : List α} {k : Nat} {x : α} (h : l[k]? = some x) : (l.drop k).all p = (p x && (l.drop (k + 1)).all p) := by
  obtain ⟨hk, rfl⟩ := List.getElem?_eq_some_iff.1 h
  rw [List.drop_eq_getElem_cons hk, List.all_cons]
namespace Cir
def rowOk (i : Int) (r : List Bool) : Bool := decide ((r.length : Int) = i)
def rowsOk (c : Cz) (rss : List (List Bool)) : Bool := valid c && (decide (rss.length ≤ 40) && rss.all (rowOk c.ins))
def terns (r : List Bool) : List Nat := r.map Bool.toNat
theorem terns_length (r : List Bool) : (terns r).length = r.length := List.length_map _
theorem terns_le (r : List Bool) : ∀ x ∈ terns r, x ≤ 2 := fun x hx => by
  obtain ⟨b, _, rfl⟩ := List.mem_map.1 hx
  cases b <;> simp
theorem terns_snoc {r : List Bool} {k : Nat} {b : Bool} (h : r[k]? = some b) : terns (r.take (k + 1)) = terns (r.take k) ++ [b.toNat] := by
  unfold terns
  rw [take_snoc h, List.map_append]
  rfl
end Cir
set_option maxHeartbeats 4000000 in
theorem rowsFit_any (g : Nat) (c : Cz) (v : Value) (rss : List (List Bool)) (w : World) (h : PCirc w g c) (hr : SSAt bools w v rss) :
    Calls Try.prog 93 #[.pointer (some ⟨g, 0, none⟩), v] w fun e w' => e = .returned (.bool (Cir.rowsOk c rss)) ∧ Below w.heap.size w w' := by
  obtain ⟨A, cp, rfl, hcp, hcpm⟩ := hr.shape
  unfold maxLen at hcpm
  have HR := Lib.hid hr
  obtain ⟨vn, vg, vo, hg, c0, c1, c2, c3, r1, r2, r3⟩ := h
  have HV := Lib.hid (implValid_any _ c w ⟨vn, vg, vo, rfl, r1, r2, r3⟩)
  have C0 := Lib.hid c0
  clear hr r1 r2 r3
  cases hv : Cir.valid c
  · rw [hv] at HV
    have hR : Cir.rowsOk c rss = false := by unfold Cir.rowsOk; rw [hv]; rfl
    rw [hR]
    clear hv hR
    go_enter Try.func93, Try.ntmps93
    go_wp2_with fail
    refine HV.out.mono ?_
    rintro e w1 ⟨rfl, hb1⟩
    have B := Lib.hid hb1
    clear hb1
    go_wp2_with fail
    go_ret
    exact ⟨rfl, B.out⟩
  · rw [hv] at HV
    by_cases hl : (40 : Int) < rss.length
    · have hR : Cir.rowsOk c rss = false := by unfold Cir.rowsOk; rw [hv, decide_eq_false (by omega)]; rfl
      rw [hR]
      clear hv hR
      go_enter Try.func93, Try.ntmps93
      go_wp2_with fail
      refine HV.out.mono ?_
      rintro e w1 ⟨rfl, hb1⟩
      have B := Lib.hid hb1
      clear hb1
      go_wp2_with fail
      go_ret
      exact ⟨rfl, B.out⟩
    · have h0 : Hid (Cir.rowsOk c rss = (rss.drop 0).all (Cir.rowOk c.ins)) := Lib.hid (by unfold Cir.rowsOk; rw [hv, decide_eq_true (by omega)]; rfl)
      generalize Cir.rowsOk c rss = res at *
      clear hv
      go_enter Try.func93, Try.ntmps93
      go_wp2_with fail
      refine HV.out.mono ?_
      rintro e w1 ⟨rfl, hb1⟩
      have B := Lib.hid hb1
      have HR1 := Lib.hid (HR.out.below hb1)
      have q0 := (hb1.cell (p := ⟨g, 0, none⟩) hg).trans C0.out
      clear hb1 c0 c1 c2 c3 HV HR
      go_wp2_with fail
      go_loop [19] (fun i => ∃ k : Nat, k ≤ rss.length ∧ i = .int .i64 k ∧ Hid (res = (rss.drop k).all (Cir.rowOk c.ins))) (fun i => rss.length - (intOf i).toNat)
      case atStart => exact ⟨0, Nat.zero_le _, rfl, h0⟩
      case round =>
        obtain ⟨k, hk, rfl, hres⟩ := hrel
        clear h0
        by_cases hlt : k < rss.length
        · obtain ⟨x, hx⟩ := at_some hlt
          obtain ⟨b, o, Bx, m, rfl, hbl, hc1, hm1, hm2, hrx⟩ := ss_open HR1.out (Below.refl _ _) hx
          have Hs := Lib.hid (all_dropG' (p := Cir.rowOk c.ins) hx)
          unfold maxLen at hm2
          clear hrx hx
          by_cases hle : (x.length : Int) = c.ins
          · have hq : ((x.length : Int) != c.ins) = false := by rw [hle]; simp
            have Hn : Hid (res = (rss.drop (k + 1)).all (Cir.rowOk c.ins)) := Lib.hid (by rw [hres.out, Hs.out, show Cir.rowOk c.ins x = true from decide_eq_true hle]; rfl)
            clear hle
            go_wp2_with fail
            go_round
            case rel => exact ⟨k + 1, by omega, by go_num, Hn⟩
            case measure => simp [intOf] <;> omega
          · have hq : ((x.length : Int) != c.ins) = true := by simpa using hle
            obtain rfl : res = false := by rw [hres.out, Hs.out, show Cir.rowOk c.ins x = false from decide_eq_false hle]; rfl
            clear hle
            go_wp2_with fail
            go_ret
            exact ⟨rfl, B.out⟩
        · obtain rfl : res = true := by rw [hres.out, List.drop_eq_nil_of_le (by omega : rss.length ≤ k)]; rfl
          go_wp2_with fail
          go_ret
          exact ⟨rfl, B.out⟩
theorem l2Inputs_any (v : Value) (i : Int) (rss : List (List Bool)) (w : World) (hr : SSAt bools w v rss) :
    Calls Try.prog 95 #[v, .int .i64 i] w fun e w' => e = .returned (.bool (decide (rss.length ≤ 40) && rss.all (Cir.rowOk i))) ∧ w = w' := by
  obtain ⟨A, cp, rfl, hcp, hcpm⟩ := hr.shape
  unfold maxLen at hcpm
  have HR := Lib.hid hr
  clear hr
  have h0 : Hid ((decide (rss.length ≤ 40) && rss.all (Cir.rowOk i)) = (decide (rss.length ≤ 40) && (rss.drop 0).all (Cir.rowOk i))) := Lib.hid rfl
  generalize (decide (rss.length ≤ 40) && rss.all (Cir.rowOk i)) = res at h0 ⊢
  go_enter Try.func95, Try.ntmps95
  go_wp2_with fail
  go_loop [5] (fun t => ∃ k : Nat, k ≤ rss.length ∧ t = .int .i64 k ∧ Hid (res = (decide (rss.length ≤ 40) && (rss.drop k).all (Cir.rowOk i)))) (fun t => rss.length - (intOf t).toNat)
  case atStart => exact ⟨0, Nat.zero_le _, rfl, h0⟩
  case round =>
    obtain ⟨k, hk, rfl, hres⟩ := hrel
    clear h0
    by_cases hlt : k < rss.length
    · obtain ⟨x, hx⟩ := at_some hlt
      obtain ⟨b, o, Bx, m, rfl, hbl, hc1, hm1, hm2, hrx⟩ := ss_open HR.out (Below.refl _ _) hx
      have Hs := Lib.hid (all_dropG' (p := Cir.rowOk i) hx)
      unfold maxLen at hm2
      clear hrx hx
      by_cases hle : (x.length : Int) = i
      · have hq : ((x.length : Int) != i) = false := by rw [hle]; simp
        have Hn : Hid (res = (decide (rss.length ≤ 40) && (rss.drop (k + 1)).all (Cir.rowOk i))) := Lib.hid (by rw [hres.out, Hs.out, show Cir.rowOk i x = true from decide_eq_true hle, Bool.true_and])
        clear hle
        go_wp2_with fail
        go_round
        case rel => exact ⟨k + 1, by omega, by go_num, Hn⟩
        case measure => simp [intOf] <;> omega
      · have hq : ((x.length : Int) != i) = true := by simpa using hle
        obtain rfl : res = false := by rw [hres.out, Hs.out, show Cir.rowOk i x = false from decide_eq_false hle]; simp
        clear hle
        go_wp2_with fail
        go_ret
        exact ⟨rfl, rfl⟩
    · have hr : Hid (res = decide (rss.length ≤ 40)) := Lib.hid (by rw [hres.out, List.drop_eq_nil_of_le (by omega : rss.length ≤ k)]; simp)
      by_cases h40 : (rss.length : Int) ≤ 40
      · go_wp2_with fail
        go_ret
        exact ⟨ret_bool (by rw [hr.out]; simp; omega), rfl⟩
      · go_wp2_with fail
        go_ret
        exact ⟨ret_bool (by rw [hr.out]; simp; omega), rfl⟩
theorem ternaryOf_any (v : Value) (xs : List Bool) (w : World) (h : BoolsAt w v xs) (hx : xs.length ≤ 1000) :
    Calls Try.prog 78 #[v] w (OwnInts (nats (Cir.terns xs)) w) := by
  obtain ⟨A, c, rfl, hc, hcm⟩ := Row.shape h
  have hmk := run_make_cap (P := Try.prog) 23 3 (.int .i64 0) 1 8 Try.underlying23 info_int .i64 .i64 xs.length (by omega) (by omega)
  simp only [Value.cells, Nat.mul_one] at hmk
  have H := Lib.hid h
  clear h
  go_enter Try.func78, Try.ntmps78
  go_wp2_with fail
  have hown0 := World.ownsRow_made (base := w.heap.size) (e := 3) (size := 1) w (madeCells #[Value.int .i64 0] xs.length) xs.length (Nat.le_refl _) (by unfold maxLen; omega) (by simp [madeCells])
  have hb0 : Below w.heap.size w (w.alloc (.cells (madeCells #[Value.int .i64 0] xs.length) 3)) := bel_new _ _
  clear hmk
  go_loopw [3, 12] (fun v i wr => ∃ (vv : Value) (k : Nat), vv = v ∧ k ≤ xs.length ∧ i = .int .i64 k ∧ Hid (wr.ownsRow w.heap.size 3 1 v k (nints (Cir.terns (xs.take k)))) ∧ Below w.heap.size w wr) (fun _ i _ => xs.length - (intOf i).toNat)
  case atStart => exact ⟨_, 0, rfl, Nat.zero_le _, rfl, Lib.hid hown0, hb0⟩
  case round =>
    obtain ⟨vv, k, hvv, hk, rfl, Ho, hb⟩ := hrel
    subst hvv
    clear hown0 hb0
    by_cases hlt : k < xs.length
    · have hz := hb.size
      have Hb := Lib.hid hb
      obtain ⟨b, o, u, rfl, hbl, hx0, hs0⟩ := bools_open H.out hb rfl hlt
      have HS : Hid (nints (Cir.terns (xs.take (k + 1))) = nints (Cir.terns (xs.take k)) ++ [.int .i64 (u.toNat : Nat)]) := Lib.hid (by rw [Cir.terns_snoc hx0.out, nints_snoc])
      clear hb
      cases u
      all_goals
        have Hlit := fun i : Int => Lib.hid (Row.of_own (World.ownsRow_lit (base := wr.heap.size) (e := 3) (size := 1) wr #[.int .i64 i] 1 (Nat.le_refl _) (by unfold maxLen; omega) rfl))
        go_wp2_with (at_builtin; refine append_ints rfl (.tmp 17) (.tmp 19) rfl w.heap.size _ k _ rfl (Ho.out.alloc _) _ 1 [.int .i64 _] rfl (Hlit _).out (by simp [Value.oneCell']) (by omega) (by simp; omega) ?_; intro v7 w7 hown7 hg7 hat7; have Ho7 := Lib.hid hown7; have Hg7 := Lib.hid hg7; clear hown7 hg7 hat7)
        go_roundw
        case rel => exact ⟨_, k + 1, rfl, by omega, by go_num, Lib.hid (by rw [HS.out]; exact Ho7.out), (Hb.out.alloc hz _).grown Hg7.out (Hb.out.alloc hz _).size (own_ge0 Ho.out)⟩
        case measure => simp [intOf] <;> omega
    · obtain rfl : k = xs.length := by omega
      go_wp2_with fail
      go_ret
      exact ⟨_, rfl, by rw [nats_length, Cir.terns_length]; have := Ho.out; rwa [List.take_length] at this, hb⟩
theorem l9Bit_any (b : Bool) (w : World) : Calls Try.prog 96 #[.bool b] w fun e w' => e = .returned (.int .i64 (b.toNat : Nat)) ∧ w = w' := by
  cases b
  all_goals
    go_enter Try.func96, Try.ntmps96
    go_wp2_with fail
    go_ret
    exact ⟨rfl, rfl⟩
end Go.Proofs.Ytopimdakpnnbhaa

namespace Go.Proofs.Ytopimdakpnnbhaa
open Go.RowKit
set_option maxRecDepth 100000
/-! slices.Clone of rows of booleans, and of rows of rows. -/
theorem info_bool2 : (Try.prog.info? 4).map (fun i => (i.zero, i.size, i.bytes)) = some (some (.bool false), 1, 1) := by kernel_rfl
theorem info_bools2 : (Try.prog.info? 32).map (fun i => (i.zero, i.size, i.bytes)) = some (some (.slice none 0 0), 1, 24) := by kernel_rfl
theorem info_boolss2 : (Try.prog.info? 56).map (fun i => (i.zero, i.size, i.bytes)) = some (some (.slice none 0 0), 1, 24) := by kernel_rfl
def Cloned (e : TypeId) (n : Nat) (cs : List Value) (w : World) (r : Ending) (w' : World) : Prop := ∃ v', r = .returned v' ∧ w'.ownsRow w.heap.size e 1 v' n cs ∧ Below w.heap.size w w'
/-! append -/
theorem append_rows {w : World} {ops : Array Oper} {rest : List Oper} {o : Oper} {a : Act} {Q : Exit → Act → World → Prop} (hgd : o.guard = none) (s x : Operand)
    (ho : o.op = .call { callee := .builtin .append, args := #[s, x], argTypes := #[56, 56] })
    (base : Nat) (v : Value) (n : Nat) (xs : List Value) (hs : a.eval s = v) (hown : w.ownsRow base 32 1 v n xs) (sv : Value) (m : Nat) (news : List Value) (hx : a.eval x = sv) (hr : Row w 1 sv m news) (h1 : ∀ u ∈ news, u.oneCell' = true)
    (h63 : n + m ≤ 1000000) (hbase : base ≤ w.heap.size)
    (h : ∀ v' w', w'.ownsRow base 32 1 v' (n + m) (xs ++ news) → w.grownBy w' v.ownBlock → (v'.ownBlock = v.ownBlock ∨ v'.ownBlock = some w.heap.size) → wpList Try.prog ops Q rest (a.put o.dst v') w') : wpList Try.prog ops Q (o :: rest) a w := by
  obtain ⟨i, hi, hz0, hz1, hz2⟩ := info_parts info_bools2
  exact wpList_append_at hgd s x 56 ho base 32 i _ 1 24 Try.underlying56 hi hz0 hz1 hz2 rfl (by decide) v n xs hs hown sv m news hx hr h1 (by unfold maxLen; omega) (by omega) hbase h
theorem append_bits {w : World} {ops : Array Oper} {rest : List Oper} {o : Oper} {a : Act} {Q : Exit → Act → World → Prop} (hgd : o.guard = none) (s x : Operand)
    (ho : o.op = .call { callee := .builtin .append, args := #[s, x], argTypes := #[32, 32] })
    (base : Nat) (v : Value) (n : Nat) (xs : List Value) (hs : a.eval s = v) (hown : w.ownsRow base 4 1 v n xs) (sv : Value) (m : Nat) (news : List Value) (hx : a.eval x = sv) (hr : Row w 1 sv m news) (h1 : ∀ u ∈ news, u.oneCell' = true)
    (h63 : n + m ≤ 1000000) (hbase : base ≤ w.heap.size)
    (h : ∀ v' w', w'.ownsRow base 4 1 v' (n + m) (xs ++ news) → w.grownBy w' v.ownBlock → (v'.ownBlock = v.ownBlock ∨ v'.ownBlock = some w.heap.size) → wpList Try.prog ops Q rest (a.put o.dst v') w') : wpList Try.prog ops Q (o :: rest) a w := by
  obtain ⟨i, hi, hz0, hz1, hz2⟩ := info_parts info_bool2
  exact wpList_append_at hgd s x 32 ho base 4 i _ 1 1 Try.underlying32 hi hz0 hz1 hz2 rfl (by decide) v n xs hs hown sv m news hx hr h1 (by unfold maxLen; omega) (by omega) hbase h
theorem append_paths {w : World} {ops : Array Oper} {rest : List Oper} {o : Oper} {a : Act} {Q : Exit → Act → World → Prop} (hgd : o.guard = none) (s x : Operand)
    (ho : o.op = .call { callee := .builtin .append, args := #[s, x], argTypes := #[124, 124] })
    (base : Nat) (v : Value) (n : Nat) (xs : List Value) (hs : a.eval s = v) (hown : w.ownsRow base 56 1 v n xs) (sv : Value) (m : Nat) (news : List Value) (hx : a.eval x = sv) (hr : Row w 1 sv m news) (h1 : ∀ u ∈ news, u.oneCell' = true)
    (h63 : n + m ≤ 1000000) (hbase : base ≤ w.heap.size)
    (h : ∀ v' w', w'.ownsRow base 56 1 v' (n + m) (xs ++ news) → w.grownBy w' v.ownBlock → (v'.ownBlock = v.ownBlock ∨ v'.ownBlock = some w.heap.size) → wpList Try.prog ops Q rest (a.put o.dst v') w') : wpList Try.prog ops Q (o :: rest) a w := by
  obtain ⟨i, hi, hz0, hz1, hz2⟩ := info_parts info_boolss2
  exact wpList_append_at hgd s x 124 ho base 56 i _ 1 24 Try.underlying124 hi hz0 hz1 hz2 rfl (by decide) v n xs hs hown sv m news hx hr h1 (by unfold maxLen; omega) (by omega) hbase h
theorem cloneB_any (v : Value) (n : Nat) (cs : List Value) (w : World) (h : Row w 1 v n cs) (h1 : ∀ u ∈ cs, u.oneCell' = true) (hn : n ≤ 1000) :
    Calls Try.prog 120 #[v] w (Cloned 4 n cs w) := by
  have he := fun (w : World) (a : Option Addr) (n c : Nat) => Lib.run_eql_slice_nil (P := Try.prog) w 32 4 a n c 0 0 Try.underlying32
  have hr := Lib.hid h
  obtain ⟨hl, A, c, rfl, hc, hcm, hcell⟩ := h
  cases A with
  | none =>
    have hn0 : n = 0 := by
      rcases Nat.eq_zero_or_pos n with h0 | h0
      · exact h0
      · obtain ⟨b, o, hx, -⟩ := hcell h0; cases hx
    subst hn0
    obtain rfl : cs = [] := List.eq_nil_of_length_eq_zero (by simpa using hl)
    clear hl hcell h1 hr
    go_enter Try.func120, Try.ntmps120
    go_wp2_with fail
    go_ret
    exact ⟨_, rfl, World.ownsRow_nil _ _ _ _, Below.refl _ _⟩
  | some p =>
    have Hown0 := Lib.hid (World.ownsRow_lit (base := w.heap.size) (e := 4) (size := 1) w #[] 0 (Nat.le_refl _) (by unfold maxLen; omega) rfl)
    have H1 := Lib.hid h1
    clear hl hcell h1
    go_enter Try.func120, Try.ntmps120
    go_wp2_with (at_builtin; refine append_bits rfl (.tmp 5) (.tmp 6) rfl w.heap.size _ 0 _ rfl Hown0.out _ n cs rfl (hr.out.alloc _) H1.out (by omega) (by simp) ?_; intro v5 w5 hown5 hg5 hat5; have Ho5 := Lib.hid hown5; have Hg5 := Lib.hid hg5; clear hown5 hg5 hat5)
    go_ret
    refine ⟨_, rfl, ?_, ((Below.refl _ _).alloc (Nat.le_refl _) _).grown Hg5.out (by simp) (own_ge0 Hown0.out)⟩
    have := Ho5.out
    simpa using this
theorem cloneSS_any (v : Value) (n : Nat) (cs : List Value) (w : World) (h : Row w 1 v n cs) (h1 : ∀ u ∈ cs, u.oneCell' = true) (hn : n ≤ 1000) :
    Calls Try.prog 119 #[v] w (Cloned 32 n cs w) := by
  have he := fun (w : World) (a : Option Addr) (n c : Nat) => Lib.run_eql_slice_nil (P := Try.prog) w 56 32 a n c 0 0 Try.underlying56
  have hr := Lib.hid h
  obtain ⟨hl, A, c, rfl, hc, hcm, hcell⟩ := h
  cases A with
  | none =>
    have hn0 : n = 0 := by
      rcases Nat.eq_zero_or_pos n with h0 | h0
      · exact h0
      · obtain ⟨b, o, hx, -⟩ := hcell h0; cases hx
    subst hn0
    obtain rfl : cs = [] := List.eq_nil_of_length_eq_zero (by simpa using hl)
    clear hl hcell h1 hr
    go_enter Try.func119, Try.ntmps119
    go_wp2_with fail
    go_ret
    exact ⟨_, rfl, World.ownsRow_nil _ _ _ _, Below.refl _ _⟩
  | some p =>
    have Hown0 := Lib.hid (World.ownsRow_lit (base := w.heap.size) (e := 32) (size := 1) w #[] 0 (Nat.le_refl _) (by unfold maxLen; omega) rfl)
    have H1 := Lib.hid h1
    clear hl hcell h1
    go_enter Try.func119, Try.ntmps119
    go_wp2_with (at_builtin; refine append_rows rfl (.tmp 5) (.tmp 6) rfl w.heap.size _ 0 _ rfl Hown0.out _ n cs rfl (hr.out.alloc _) H1.out (by omega) (by simp) ?_; intro v5 w5 hown5 hg5 hat5; have Ho5 := Lib.hid hown5; have Hg5 := Lib.hid hg5; clear hown5 hg5 hat5)
    go_ret
    refine ⟨_, rfl, ?_, ((Below.refl _ _).alloc (Nat.le_refl _) _).grown Hg5.out (by simp) (own_ge0 Hown0.out)⟩
    have := Ho5.out
    simpa using this
end Go.Proofs.Ytopimdakpnnbhaa

namespace Go.Proofs.Ytopimdakpnnbhaa
open Go.RowKit
set_option maxRecDepth 100000
/-! Simulate, by the program. -/
theorem rowsOk_parts {d : Ci} {rss : List (List Bool)} (h : Cir.rowsOk (Cir.toCz d) rss = true) : Cir.valid (Cir.toCz d) = true ∧ rss.length ≤ 40 ∧ ∀ r ∈ rss, r.length = d.ins := by
  unfold Cir.rowsOk at h
  rw [Bool.and_eq_true, Bool.and_eq_true, decide_eq_true_iff, List.all_eq_true] at h
  refine ⟨h.1, h.2.1, fun r hr => ?_⟩
  have := h.2.2 r hr
  unfold Cir.rowOk at this
  rw [decide_eq_true_iff] at this
  have e : (Cir.toCz d).ins = (d.ins : Int) := rfl
  omega
theorem rowsOk_of {d : Ci} {rss : List (List Bool)} (h : Cir.valid (Cir.toCz d) = true) (h1 : rss.length ≤ 40) (h2 : ∀ r ∈ rss, r.length = d.ins) : Cir.rowsOk (Cir.toCz d) rss = true := by
  unfold Cir.rowsOk
  rw [Bool.and_eq_true, Bool.and_eq_true, decide_eq_true_iff, List.all_eq_true]
  refine ⟨h, h1, fun r hr => ?_⟩
  unfold Cir.rowOk
  rw [decide_eq_true_iff, h2 r hr]
  rfl
set_option maxHeartbeats 4000000 in
theorem implSim_ok (v vr : Value) (d : Ci) (rss : List (List Bool)) (w : World) (h : CircAt w v (Cir.toCz d)) (hr : SSAt bools w vr rss) (hd : Cir.Ok d) (hok : Cir.rowsOk (Cir.toCz d) rss = true) :
    Calls Try.prog 51 #[v, vr] w fun e w' => (∃ u, e = .returned u ∧ SSAt bools w' u (Cir.simL d (Cir.bits 0 d.next.length) rss)) ∧ Below w.heap.size w w' := by
  have l2 := hd.nexts
  obtain ⟨st0, hst0⟩ : ∃ st0, Cir.bits 0 d.next.length = st0 := ⟨_, rfl⟩
  have Hst0 : Hid (st0.length = d.next.length ∧ Cir.bits 0 d.next.length = st0) := Lib.hid ⟨by rw [← hst0, Cir.bits_length], hst0⟩
  rw [hst0]
  clear hst0
  have HC := Lib.hid h
  obtain ⟨vn, vg, vo, rfl, r1, r2, r3⟩ := h
  obtain ⟨An, cn, rfl, hcn, hcmn⟩ := NatsAt.shape (xs := d.next) r1
  obtain ⟨Ar, cr, rfl, hcr, hcrm⟩ := hr.shape
  unfold maxLen at hcrm
  have hins : (Cir.toCz d).ins = (d.ins : Int) := rfl
  have HP := Lib.hid (PCirc.boxed (c := Cir.toCz d) 26 r1 r2 r3)
  rw [hins] at HC HP ⊢
  have hb0 := bel_new w (.cells #[.int .i64 d.ins, .slice An d.next.length cn, vg, vo] 26)
  have HC0 := Lib.hid (HC.out.below hb0)
  have HR0 := Lib.hid (hr.below hb0)
  have PC := Lib.hid (PCells.boxed w d.ins (.slice An d.next.length cn) vg vo 26)
  have B0 := Lib.hid hb0
  obtain ⟨hv, hl40, hall⟩ := rowsOk_parts hok
  have HF := Lib.hid (rowsFit_any w.heap.size (Cir.toCz d) _ rss _ HP.out HR0.out)
  rw [hok] at HF
  have Hd := Lib.hid hd
  have Hv := Lib.hid hv
  have Hall := Lib.hid hall
  have hmk := run_make_row' (P := Try.prog) 32 4 (.bool false) 1 Try.underlying32 info_bool rfl .i64 .i64 d.next.length (by omega) (by omega)
  clear r1 r2 r3 hb0 hr hd hv hall hok HC HP hins hcn hcmn
  go_enter Try.func51, Try.ntmps51
  go_wp2_with fail
  generalize w.alloc (.cells #[.int .i64 d.ins, .slice An d.next.length cn, vg, vo] 26) = W at *
  refine HF.out.mono ?_
  rintro e w1 ⟨rfl, hb1⟩
  have B1 := Lib.hid (B0.out.trans (hb1.mono B0.out.size))
  have PC1 := Lib.hid (PC.out.below hb1)
  have HC1 := Lib.hid (HC0.out.below hb1)
  have HR1 := Lib.hid (HR0.out.below hb1)
  clear hb1 PC HC0 HR0 HF B0
  obtain ⟨z, p0, p1, p2, p3⟩ := PC1.out
  go_wp2_with fail
  have hown := World.ownsRow_lit (base := w1.heap.size) (e := 4) (size := 1) w1 (madeCells #[Value.bool false] d.next.length) d.next.length (Nat.le_refl _) (by unfold maxLen; omega) (by simp [madeCells])
  have hb2 := bel_new w1 (.cells (madeCells #[Value.bool false] d.next.length) 4)
  have HS0 : Hid (BoolsAt (w1.alloc (.cells (madeCells #[Value.bool false] d.next.length) 4)) (.slice (some ⟨w1.heap.size, 0, none⟩) d.next.length d.next.length) st0) := Lib.hid (by
    have := Row.of_own hown
    rw [made_one] at this ⊢
    rw [← Hst0.out.2, Cir.bits_zero]
    unfold BoolsAt bools
    rw [List.map_replicate, List.length_replicate]
    simpa using this)
  have PC2 := Lib.hid (PC1.out.below hb2)
  have HC2 := Lib.hid (HC1.out.below hb2)
  have HR2 := Lib.hid (HR1.out.below hb2)
  have B2 := Lib.hid (B1.out.trans (hb2.mono B1.out.size))
  clear hmk hown hb2 PC1 HC1 HR1 B1 z p0 p1 p2 p3
  generalize w1.alloc (.cells (madeCells #[Value.bool false] d.next.length) 4) = w2 at *
  go_loopw [5, 6, 19] (fun sv ov i wr => ∃ (ss oo : Value) (k : Nat), ss = sv ∧ oo = ov ∧ i = .int .i64 k ∧ k ≤ rss.length ∧ Hid (BoolsAt wr sv (Cir.runL d st0 (rss.take k))) ∧ Hid (OwnSE bools 32 4 w2.heap.size (fun g => g < wr.heap.size) wr ov (Cir.simL d st0 (rss.take k))) ∧ Below w2.heap.size w2 wr) (fun _ _ i _ => rss.length - (intOf i).toNat)
  case atStart => exact ⟨_, _, 0, rfl, rfl, rfl, Nat.zero_le _, HS0, Lib.hid (OwnSE.nil _ _ _ _ _ _), Below.refl _ _⟩
  case round =>
    obtain ⟨ss, oo, k, hss, hoo, rfl, hk, Hs, Ho, hb⟩ := hrel
    subst hss hoo
    clear HS0
    have Hb := Lib.hid hb
    have zb := hb.size
    have PCr := Lib.hid (PC2.out.below hb)
    obtain ⟨z, p0, p1, p2, p3⟩ := PCr.out
    by_cases hlt : k < rss.length
    · have hdk : decide (k < rss.length) = true := decide_eq_true hlt
      obtain ⟨x, hx⟩ := at_some hlt
      obtain ⟨b, o', Bx, mx, hAx, hbl, hc1, hm1, hm2, hrx⟩ := ss_open HR2.out hb hx
      cases hAx
      have Hxl := Lib.hid (Hall.out x (List.mem_of_getElem? hx))
      have hSn : rss.take (k + 1) = rss.take k ++ [x] := take_snoc hx
      have HRn : Hid (Cir.runL d st0 (rss.take (k + 1)) = Cir.lits (Cir.vals d (Cir.runL d st0 (rss.take k)) x) d.next) := Lib.hid (by rw [hSn, Cir.runL_snoc])
      have HOn : Hid (Cir.simL d st0 (rss.take (k + 1)) = Cir.simL d st0 (rss.take k) ++ [Cir.lits (Cir.vals d (Cir.runL d st0 (rss.take k)) x) d.outs]) := Lib.hid (by rw [hSn, Cir.simL_snoc])
      have HSl := Lib.hid (Cir.runL_length d (rss.take k) st0 Hst0.out.1)
      have HtL : Hid ((Cir.simL d st0 (rss.take k)).length = k) := Lib.hid (by rw [Cir.simL_length, List.length_take]; omega)
      have Hrx := Lib.hid (show BoolsAt wr (.slice Bx x.length mx) x from hrx)
      generalize Cir.runL d st0 (rss.take k) = S at *
      generalize Cir.simL d st0 (rss.take k) = O at *
      clear hb hrx hx hSn
      go_wp2_with fail
      refine (implStep_own _ _ _ d S x _ (HC2.out.below Hb.out) Hd.out Hv.out Hs.out Hrx.out Hxl.out HSl.out).mono ?_
      rintro e w3 ⟨va, vb, rfl, ha, hb', hb3⟩
      obtain ⟨Aa, ca, ea⟩ := slice_of_own ha
      obtain ⟨Ab, cb, eb⟩ := slice_of_own hb'
      subst ea eb
      obtain ⟨so, hso⟩ : ∃ so, Cir.lits (Cir.vals d S x) d.outs = so := ⟨_, rfl⟩
      obtain ⟨sn, hsn⟩ : ∃ sn, Cir.lits (Cir.vals d S x) d.next = sn := ⟨_, rfl⟩
      rw [hso] at ha HOn ⊢
      rw [hsn] at hb' HRn ⊢
      clear hso hsn Hrx Hs HSl
      have z3 := hb3.size
      have hb4 := bel_new w3 (.cells #[.slice Aa so.length ca, .slice Ab sn.length cb] 54)
      have HA := Lib.hid (own_below (own_mono ha zb) hb4)
      have HB := Lib.hid (own_below (own_mono hb' zb) hb4)
      have HAge := Lib.hid (own_ge0 ha)
      have HBge := Lib.hid (own_ge0 hb')
      have HO4 := Lib.hid (OwnSE.below (OwnSE.below Ho.out hb3) hb4)
      have Hb4 := Lib.hid (Hb.out.trans ((hb3.trans (hb4.mono hb3.size)).mono zb))
      have q0 : (w3.alloc (.cells #[.slice Aa so.length ca, .slice Ab sn.length cb] 54)).cell? ⟨w3.heap.size, 0, none⟩ = some (.slice Aa so.length ca) := World.cell?_alloc_new _ _ _ 0
      have q1 : (w3.alloc (.cells #[.slice Aa so.length ca, .slice Ab sn.length cb] 54)).cell? ⟨w3.heap.size, 1, none⟩ = some (.slice Ab sn.length cb) := World.cell?_alloc_new _ _ _ 1
      have z4 : (w3.alloc (.cells #[.slice Aa so.length ca, .slice Ab sn.length cb] 54)).heap.size = w3.heap.size + 1 := by simp
      obtain ⟨w4, hw4⟩ : ∃ w4, w3.alloc (.cells #[.slice Aa so.length ca, .slice Ab sn.length cb] 54) = w4 := ⟨_, rfl⟩
      rw [hw4] at HA HB HO4 Hb4 q0 q1 z4
      have zz : w2.heap.size ≤ w4.heap.size := by omega
      have z34 : w3.heap.size < w4.heap.size := by omega
      clear z4
      have Hlc := Lib.hid (Row.of_own (World.ownsRow_lit (base := w4.heap.size) (e := 32) (size := 1) w4 #[.slice Aa so.length ca] 1 (Nat.le_refl _) (by unfold maxLen; omega) rfl))
      have hHOl := HO4.out.below (bel_new w4 (.cells #[.slice Aa so.length ca] 32))
      obtain ⟨us, e1, e2, e3, e4, e5, e6, e7⟩ := hHOl
      rw [HtL.out] at e2
      have Q2 := Lib.hid e2
      have Q := Lib.hid (And.intro e1 (And.intro e3 (And.intro e4 (And.intro e5 (And.intro e6 e7)))))
      have HAl := Lib.hid (HA.out.alloc (.cells #[.slice Aa so.length ca] 32))
      have HBl := Lib.hid (HB.out.alloc (.cells #[.slice Aa so.length ca] 32))
      have hoB : ∀ g, oo.ownBlock = some g → g < wr.heap.size := e6
      have HoB := Lib.hid hoB
      have r1 : (w4.alloc (.cells #[.slice Aa so.length ca] 32)).cell? ⟨w3.heap.size, 1, none⟩ = some (.slice Ab sn.length cb) := by
        exact ((bel_new w4 (.cells #[.slice Aa so.length ca] 32)).cell (p := ⟨w3.heap.size, 1, none⟩) (by simp only; omega)).trans q1
      have R1 := Lib.hid r1
      clear ha hb' hb3 hb4 Ho HO4 e1 e2 e3 e4 e5 e6 e7 z p0 p1 p2 p3 r1 hoB
      go_wp2_with (at_builtin; go_loud (refine append_rows rfl (.tmp 27) (.tmp 30) rfl w2.heap.size _ k us rfl Q2.out _ 1 [.slice Aa so.length ca] rfl Hlc.out (by simp [Value.oneCell']) (by omega) (by simp; omega) ?_; intro v9 w9 hown9 hg9 hat9; have HSE := Lib.hid (se_append Q.out.1 Q.out.2.1 Q.out.2.2.1 Q.out.2.2.2.1 Q.out.2.2.2.2.1 Q.out.2.2.2.2.2 HAl.out (fun g h1 h2 => by have := HAge.out g h1; omega) (by rw [HtL.out]; exact hown9) hg9 hat9); have Hg9 := Lib.hid hg9; have t1 := cell_on (Only.grown hg9 fun g h => h) (fun h => by have := HoB.out _ h; omega) (by simp; omega) R1.out; have Hown9 := Lib.hid hown9; clear hown9 hg9 hat9))
      go_roundw
      case rel => exact ⟨_, _, k + 1, rfl, rfl, by go_num, by omega, Lib.hid (by
        rw [HRn.out]
        exact Row.of_own (own_kept HBl.out Hg9.out (fun g h1 h2 => by have := HoB.out g h2; have := HBge.out g h1; omega))), Lib.hid (by
        rw [HOn.out]
        refine HSE.out.mono (Nat.le_refl _) (fun g hg => ?_)
        have hz9 := Hg9.out.size
        rw [World.size_alloc] at hz9
        rcases hg with hg | hg | hg
        · omega
        · have h := (HAl.out.lt g hg).2; rw [World.size_alloc] at h; omega
        · exact (Hown9.out.lt g hg).2), (Hb4.out.alloc Hb4.out.size _).grown Hg9.out (Hb4.out.alloc Hb4.out.size _).size (own_ge0 Q2.out)⟩
      case measure => simp [intOf] <;> omega
    · obtain rfl : k = rss.length := by omega
      have hdk : decide (rss.length < rss.length) = false := decide_eq_false (by omega)
      rw [List.take_length] at Ho
      have HO := Lib.hid (OwnSE.at Ho.out)
      obtain ⟨Ao, co, eo, -⟩ := HO.out.shape
      subst eo
      clear Ho
      go_wp2_with fail
      go_ret
      exact ⟨⟨_, rfl, HO.out⟩, B2.out.trans (Hb.out.mono B2.out.size)⟩
end Go.Proofs.Ytopimdakpnnbhaa

namespace Go.Proofs.Ytopimdakpnnbhaa
open Go.RowKit
set_option maxRecDepth 100000
/-! A breadth-first search under way: its queue, its paths, its set of seen states. -/
def rowsOf (ins : Nat) (p : List Nat) : List (List Bool) := p.map fun x => Cir.bits x ins
theorem rowsOf_snoc (ins : Nat) (p : List Nat) (x : Nat) : rowsOf ins (p ++ [x]) = rowsOf ins p ++ [Cir.bits x ins] := by unfold rowsOf; simp
theorem rowsOf_length (ins : Nat) (p : List Nat) : (rowsOf ins p).length = p.length := by unfold rowsOf; simp
structure VB (B mb ins N : Nat) (l : List (Nat × List Nat)) (vq vp : Value) (pv : List Value) (F : Nat → Prop) (w : World) : Prop where
  q : w.ownsRow B 3 1 vq l.length (nints (Cir.vsts l))
  p : w.ownsRow B 56 1 vp l.length pv
  s : SetAt w mb N (fun x => Cir.memB (Cir.vsts l) x)
  r : ∀ (i s : Nat) (x : List Nat) (u : Value), l[i]? = some (s, x) → pv[i]? = some u → SSIn bools F w u (rowsOf ins x)
  f : ∀ g, F g → g < w.heap.size ∧ vq.ownBlock ≠ some g ∧ vp.ownBlock ≠ some g ∧ g ≠ mb
  a : Apart vq vp
  am : vq.ownBlock ≠ some mb ∧ vp.ownBlock ≠ some mb
theorem VB.pl {B mb ins N : Nat} {l : List (Nat × List Nat)} {vq vp : Value} {pv : List Value} {F : Nat → Prop} {w : World} (h : VB B mb ins N l vq vp pv F w) : pv.length = l.length := by
  have := h.p.1; omega
theorem VB.below {B mb ins N : Nat} {l : List (Nat × List Nat)} {vq vp : Value} {pv : List Value} {F : Nat → Prop} {w w' : World} (h : VB B mb ins N l vq vp pv F w) (hb : Below w.heap.size w w') : VB B mb ins N l vq vp pv F w' :=
  ⟨own_below h.q hb, own_below h.p hb, h.s.below hb, fun i s x u hx hu => (h.r i s x u hx hu).below hb, fun g hg => ⟨Nat.lt_of_lt_of_le (h.f g hg).1 hb.size, (h.f g hg).2⟩, h.a, h.am⟩
theorem VB.mono {B mb ins N N' : Nat} {l : List (Nat × List Nat)} {vq vp : Value} {pv : List Value} {F : Nat → Prop} {w : World} (h : VB B mb ins N l vq vp pv F w) (hN : N ≤ N') : VB B mb ins N' l vq vp pv F w :=
  ⟨h.q, h.p, h.s.mono hN, h.r, h.f, h.a, h.am⟩
/-- A state more. -/
theorem VB.push {B mb ins N n j : Nat} {l : List (Nat × List Nat)} {x : List Nat} {vq vp vq' vp' u : Value} {pv : List Value} {F F' : Nat → Prop} {w w1 w3 w5 : World} {o1 o2 : Obj} (h : VB B mb ins N l vq vp pv F w)
    (hu : SSIn bools F' w u (rowsOf ins (x ++ [j]))) (hF : ∀ g, F g → F' g) (hF' : ∀ g, F' g → g < w.heap.size ∧ vq.ownBlock ≠ some g ∧ vp.ownBlock ≠ some g ∧ g ≠ mb)
    (s1 : SetAt w1 mb (N + 1) (fun z => Cir.memB (Cir.vsts l) z || z == n)) (g1 : w.grownBy w1 (some mb))
    (own3 : w3.ownsRow B 3 1 vq' (l.length + 1) (nints (Cir.vsts l) ++ [.int .i64 (n : Int)])) (g3 : (w1.alloc o1).grownBy w3 vq.ownBlock) (at3 : vq'.ownBlock = vq.ownBlock ∨ vq'.ownBlock = some (w1.alloc o1).heap.size)
    (own5 : w5.ownsRow B 56 1 vp' (l.length + 1) (pv ++ [u])) (g5 : (w3.alloc o2).grownBy w5 vp.ownBlock) (at5 : vp'.ownBlock = vp.ownBlock ∨ vp'.ownBlock = some (w3.alloc o2).heap.size) :
    VB B mb ins (N + 1) (l ++ [(n, x ++ [j])]) vq' vp' (pv ++ [u]) F' w5 := by
  have z1 := g1.size
  have z3 := g3.size
  have z5 := g5.size
  rw [World.size_alloc] at z3 z5
  have hvs : Cir.vsts (l ++ [(n, x ++ [j])]) = Cir.vsts l ++ [n] := by unfold Cir.vsts; simp
  have mbl := h.s.lt
  have hq' : ∀ g, vq'.ownBlock = some g → vq.ownBlock = some g ∨ g = w1.heap.size + 1 := fun g hg => by
    rcases at3 with e | e
    · exact .inl (e.symm.trans hg)
    · rw [World.size_alloc] at e; exact .inr (Option.some.inj (hg.symm.trans e))
  have hp' : ∀ g, vp'.ownBlock = some g → vp.ownBlock = some g ∨ g = w3.heap.size + 1 := fun g hg => by
    rcases at5 with e | e
    · exact .inl (e.symm.trans hg)
    · rw [World.size_alloc] at e; exact .inr (Option.some.inj (hg.symm.trans e))
  have hql : ∀ g, vq.ownBlock = some g → g < w.heap.size := fun g hg => (h.q.lt g hg).2
  have hpl : ∀ g, vp.ownBlock = some g → g < w.heap.size := fun g hg => (h.p.lt g hg).2
  have ho : Only (fun g => g = mb ∨ vq.ownBlock = some g ∨ vp.ownBlock = some g) w w5 := by
    have a1 : Only (fun g => g = mb ∨ vq.ownBlock = some g ∨ vp.ownBlock = some g) w w1 := Only.grown g1 fun k hk => .inl (Option.some.inj hk).symm
    have a2 := Only.of_below (fun g => g = mb ∨ vq.ownBlock = some g ∨ vp.ownBlock = some g) (bel_new w1 o1)
    have a3 : Only (fun g => g = mb ∨ vq.ownBlock = some g ∨ vp.ownBlock = some g) (w1.alloc o1) w3 := Only.grown g3 fun k hk => .inr (.inl hk)
    have a4 := Only.of_below (fun g => g = mb ∨ vq.ownBlock = some g ∨ vp.ownBlock = some g) (bel_new w3 o2)
    have a5 : Only (fun g => g = mb ∨ vq.ownBlock = some g ∨ vp.ownBlock = some g) (w3.alloc o2) w5 := Only.grown g5 fun k hk => .inr (.inr hk)
    exact (((a1.trans a2).trans a3).trans a4).trans a5
  have hE : ∀ g, F' g → ¬ (g = mb ∨ vq.ownBlock = some g ∨ vp.ownBlock = some g) := fun g hg he => by
    have := hF' g hg
    rcases he with he | he | he
    · exact this.2.2.2 he
    · exact this.2.1 he
    · exact this.2.2.1 he
  refine ⟨?_, ?_, ?_, fun i s y z hy hz => ?_, fun g hg => ?_, fun g h1 h2 => ?_, ?_, ?_⟩
  · rw [List.length_append, List.length_singleton, hvs, nints_snoc]
    refine own_kept (own_below own3 (bel_new _ _)) g5 fun g h1 h2 => ?_
    rcases hq' g h1 with e | e
    · exact h.a g e h2
    · have := hpl g h2; omega
  · rw [List.length_append, List.length_singleton]
    exact own5
  · have s3 : SetAt w3 mb (N + 1) _ := (s1.below (bel_new w1 o1)).only (Only.grown (E := fun g => vq.ownBlock = some g) g3 fun k hk => hk) (h.am.1)
    have s5 := (s3.below (bel_new w3 o2)).only (Only.grown (E := fun g => vp.ownBlock = some g) g5 fun k hk => hk) (h.am.2)
    exact s5.congr fun z => by rw [hvs, Cir.memB_snoc]
  · rcases Nat.lt_or_ge i l.length with hi | hi
    · rw [List.getElem?_append_left hi] at hy
      rw [List.getElem?_append_left (by rw [h.pl]; exact hi)] at hz
      exact ((h.r i s y z hy hz).mono hF).only ho hE
    · have hil : i = l.length := by
        rcases Nat.lt_or_ge l.length i with hh | hh
        · rw [List.getElem?_eq_none (by simp; omega)] at hy; cases hy
        · omega
      subst hil
      rw [List.getElem?_append_right (Nat.le_refl _), Nat.sub_self] at hy
      rw [List.getElem?_append_right (by rw [h.pl]; exact Nat.le_refl _), h.pl, Nat.sub_self] at hz
      obtain ⟨rfl, rfl⟩ := Prod.mk.inj (Option.some.inj hy)
      obtain rfl := Option.some.inj hz
      exact hu.only ho hE
  · have := hF' g hg
    refine ⟨by omega, fun h1 => ?_, fun h1 => ?_, this.2.2.2⟩
    · rcases hq' g h1 with e | e
      · exact this.2.1 e
      · omega
    · rcases hp' g h1 with e | e
      · exact this.2.2.1 e
      · omega
  · rcases hq' g h1 with e | e
    · rcases hp' g h2 with e2 | e2
      · exact h.a g e e2
      · have := hql g e; omega
    · rcases hp' g h2 with e2 | e2
      · have := hpl g e2; omega
      · omega
  · intro h1
    rcases hq' _ h1 with e | e
    · exact h.am.1 e
    · omega
  · intro h1
    rcases hp' _ h1 with e | e
    · exact h.am.2 e
    · omega
open Go.Maps in
theorem run_look_set {w : World} {b n : Nat} {S : Nat → Bool} (h : SetAt w b n S) (k : Nat) (hk : (k : Int) ≤ 9223372036854775807) : (Instr.lookup 96 (.map (some b)) (.int .i64 (k : Int)) false).run Try.prog w = .ok (.bool (S k)) w := by
  obtain ⟨D, h1, h2, h3, -⟩ := h
  obtain ⟨v, ps, hrun, hv⟩ := h1.lookup set_keyed Try.underlying96 (zero_bool w) (plainElem_bool Try.underlying4 false) (keyOf_int_mk Try.underlying3 (i64_wf hk))
  rw [h3 k] at hv
  have hvb : v = .bool (S k) := by
    unfold plainElem at hv
    rw [Try.underlying4] at hv
    cases v <;> simp at hv
    rw [hv.1]
  subst hvb
  exact hrun
/-! The closure of FindViolation. -/
theorem num_bit : ∀ (l : List Bool) (o : Nat), (Cir.num l).testBit o = l.getD o false
  | [], o => by simp [Cir.num]
  | b :: l, 0 => by
    rw [Cir.num, Nat.testBit_zero]
    cases b <;> simp <;> omega
  | b :: l, o + 1 => by
    rw [Cir.num, Nat.testBit_succ]
    have : ((if b then 1 else 0) + 2 * Cir.num l) / 2 = Cir.num l := by split <;> omega
    rw [this, num_bit l o]
    simp
theorem outsOf_length (d : Ci) (s x : Nat) : (Cir.outsOf d s x).length = d.outs.length := by unfold Cir.outsOf; rw [lits_length]
theorem viClo_any (g go : Nat) (d : Ci) (o s x : Nat) (w : World) (h : PCirc w g (Cir.toCz d)) (hgo : w.cell? ⟨go, 0, none⟩ = some (.int .i64 o)) (hlt : go < w.heap.size) (hd : Cir.Ok d) (hs : s ≤ 1000) (hx : x ≤ 1000) (ho : o < d.outs.length) :
    Calls Try.prog 88 #[.int .i64 s, .int .i64 x, .pointer (some ⟨g, 0, none⟩), .pointer (some ⟨go, 0, none⟩)] w fun e w' => e = .returned (.tuple #[.int .i64 (Cir.nextOf d s x : Nat), .bool (Cir.bad d o s x)]) ∧ Below w.heap.size w w' := by
  have hC := Lib.hid (cycle_any g d s x w h hd hs hx)
  have l4 := hd.outss
  have hnb := num_bit (Cir.outsOf d s x) o
  have hnl := Cir.num_lt (Cir.outsOf d s x)
  rw [outsOf_length] at hnl
  have hn8 : 2 ^ d.outs.length ≤ 2 ^ 3 := Nat.pow_le_pow_right (show 0 < 2 by decide) l4
  have hN : Cir.num (Cir.outsOf d s x) ≤ 1000000 := by omega
  have hB : (Cir.outsOf d s x).getD o false = Cir.bad d o s x := rfl
  rw [hB] at hnb
  clear hn8 hnl hB h
  generalize Cir.num (Cir.outsOf d s x) = y at *
  generalize Cir.bad d o s x = b at *
  generalize Cir.nextOf d s x = n at *
  have hq : (y : Int) / 2 ^ o = ((y / 2 ^ o : Nat) : Int) := by rw [Int.natCast_ediv, two_pow]
  have hy : y / 2 ^ o ≤ 1000000 := Nat.le_trans (Nat.div_le_self _ _) hN
  have hm : bits .and .i64 ((y / 2 ^ o : Nat) : Int) 1 = ((y / 2 ^ o % 2 : Nat) : Int) := by
    have := i64_and_nat (y / 2 ^ o) 1 (by omega) (by omega)
    rw [Nat.and_one_is_mod] at this
    exact this
  have he : (((y / 2 ^ o % 2 : Nat) : Int) == 1) = b := by
    rw [← hnb, Nat.testBit_eq_decide_div_mod_eq, Bool.eq_iff_iff, beq_iff_eq, decide_eq_true_iff]
    omega
  generalize y / 2 ^ o = y' at hq hm he hy
  generalize y' % 2 = r at hm he
  clear hnb
  go_enter Try.func88, Try.ntmps88
  go_wp2_with fail
  refine hC.out.mono ?_
  rintro e w1 ⟨rfl, hb1⟩
  have c1 := (hb1.cell (p := ⟨go, 0, none⟩) hlt).trans hgo
  have Hb := Lib.hid hb1
  clear hb1 hgo hC
  go_wp2_with fail
  go_region
  go_wp2_with fail
  exact bodyPost_ret (v := .tuple #[.int .i64 n, .bool b]) (by simp [results, Try.results88, go_sem]) rfl ⟨rfl, Hb.out.os, Hb.out.tape, Hb.out.output, Hb.out.size, Hb.out.block⟩
end Go.Proofs.Ytopimdakpnnbhaa

namespace Go.Proofs.Ytopimdakpnnbhaa
open Go.RowKit
set_option maxRecDepth 100000
/-! The search of FindViolation. -/
def Searched (ins : Nat) (r : Option (List Nat)) (w : World) (e : Ending) (w' : World) : Prop :=
  match r with
  | none => e = .returned (.tuple #[.slice none 0 0, .bool false]) ∧ Below w.heap.size w w'
  | some p => ∃ v, e = .returned (.tuple #[v, .bool true]) ∧ OwnBoolSS w.heap.size w'.heap.size w' v (rowsOf ins p) ∧ Below w.heap.size w w'
theorem SSIn.one {F : Nat → Prop} {w : World} {xss : List (List Bool)} {vs : List Value} (h1 : vs.length = xss.length) (h3 : ∀ (i : Nat) (x : List Bool) (u : Value), xss[i]? = some x → vs[i]? = some u → RowIn F w 1 u x.length (bools x)) : ∀ u ∈ vs, u.oneCell' = true := fun u hu => by
  obtain ⟨i, hi, rfl⟩ := List.mem_iff_getElem.1 hu
  obtain ⟨_, A, c, hv, -⟩ := (h3 i _ _ (List.getElem?_eq_getElem (by omega)) (List.getElem?_eq_getElem hi)).1
  rw [hv]; rfl
set_option maxHeartbeats 16000000 in
theorem searchV_any (g go : Nat) (d : Ci) (o : Nat) (w : World) (h : PCirc w g (Cir.toCz d)) (hgo : w.cell? ⟨go, 0, none⟩ = some (.int .i64 o)) (hlt : go < w.heap.size) (hd : Cir.Ok d) (ho : o < d.outs.length) :
    Calls Try.prog 87 #[.int .i64 d.ins, .int .i64 0, .func (.func 88) #[] #[.pointer (some ⟨g, 0, none⟩), .pointer (some ⟨go, 0, none⟩)]] w (Searched d.ins (Cir.viol d o) w) := by
  have l1 := hd.ins
  have l2 := hd.nexts
  have HP := Lib.hid h
  have Hgo := Lib.hid hgo
  have Hd := Lib.hid hd
  have Ho := Lib.hid ho
  obtain ⟨M, e, hM⟩ : ∃ M : Nat, (2 : Int) ^ d.ins = (M : Int) ∧ M = 2 ^ d.ins := ⟨2 ^ d.ins, two_pow d.ins, rfl⟩
  have hM16 : M ≤ 16 := by rw [hM]; exact Nat.pow_le_pow_right (show 0 < 2 by decide) l1
  have hwM := IntWalk.i64_in (M : Int) (by omega)
  have HM := Lib.hid hM
  have hmm := @run_makeMap Try.prog
  have hwins := IntWalk.i64_in (d.ins : Int) (by omega)
  clear h hgo hd ho hM
  have Hset0 : Hid (SetAt (((w.alloc (.cells #[.int .i64 0] 3)).alloc (.cells #[.slice none 0 0] 56)).alloc (.map #[] 0)) (w.heap.size + 1 + 1) 0 (fun _ => false)) := Lib.hid (by have := setAt_made ((w.alloc (.cells #[.int .i64 0] 3)).alloc (.cells #[.slice none 0 0] 56)); rwa [World.size_alloc, World.size_alloc] at this)
  have Hq0 : Hid ((((w.alloc (.cells #[.int .i64 0] 3)).alloc (.cells #[.slice none 0 0] 56)).alloc (.map #[] 0)).ownsRow w.heap.size 3 1 (.slice (some ⟨w.heap.size, 0, none⟩) 1 1) 1 [.int .i64 0]) := Lib.hid (((World.ownsRow_lit (base := w.heap.size) (e := 3) (size := 1) w #[.int .i64 0] 1 (Nat.le_refl _) (by unfold maxLen; omega) rfl).alloc _).alloc _)
  have Hp0 : Hid ((((w.alloc (.cells #[.int .i64 0] 3)).alloc (.cells #[.slice none 0 0] 56)).alloc (.map #[] 0)).ownsRow w.heap.size 56 1 (.slice (some ⟨w.heap.size + 1, 0, none⟩) 1 1) 1 [.slice none 0 0]) := Lib.hid (by
    have := (World.ownsRow_lit (base := w.heap.size) (e := 56) (size := 1) (w.alloc (.cells #[.int .i64 0] 3)) #[.slice none 0 0] 1 (by simp) (by unfold maxLen; omega) rfl).alloc (.map #[] 0)
    rwa [World.size_alloc] at this)
  have hsz : (((w.alloc (.cells #[.int .i64 0] 3)).alloc (.cells #[.slice none 0 0] 56)).alloc (.map #[] 0)).heap.size = w.heap.size + 3 := by simp
  have Bm : Hid (Below w.heap.size w (((w.alloc (.cells #[.int .i64 0] 3)).alloc (.cells #[.slice none 0 0] 56)).alloc (.map #[] 0))) := Lib.hid ((((Below.refl _ _).alloc (Nat.le_refl _) _).alloc (by simp) _).alloc (by simp; omega) _)
  go_enter Try.func87, Try.ntmps87
  go_wp2_with (with_reducible refine wpList_add_set _ rfl (.tmp 22) _ _ (.inr rfl) _ _ _ rfl Hset0.out (by omega) 0 (by omega) rfl rfl ?_; intro w2 hset2 hg2)
  have HV0 : Hid (VB w.heap.size (w.heap.size + 1 + 1) d.ins 1 [(0, [])] (.slice (some ⟨w.heap.size, 0, none⟩) 1 1) (.slice (some ⟨w.heap.size + 1, 0, none⟩) 1 1) [.slice none 0 0] (fun _ => False) w2) := Lib.hid (by
    have hz2 := hg2.size
    refine ⟨own_kept Hq0.out hg2 (fun g h1 h2 => ?_), own_kept Hp0.out hg2 (fun g h1 h2 => ?_), hset2.congr (fun x => by rw [show Cir.vsts [(0, [])] = [0] from rfl, Cir.memB_zero, Bool.false_or]), fun i s x u h1 h2 => ?_, fun g hg => hg.elim, fun g h1 h2 => ?_, ?_, ?_⟩
    · have := Option.some.inj h1; have := Option.some.inj h2; simp only at *; omega
    · have := Option.some.inj h1; have := Option.some.inj h2; simp only at *; omega
    · cases i with
      | zero =>
        obtain ⟨rfl, rfl⟩ := Prod.mk.inj (Option.some.inj h1)
        obtain rfl := Option.some.inj h2
        exact SSIn.nil _ _ _
      | succ i => simp at h1
    · have := Option.some.inj h1; have := Option.some.inj h2; simp only at *; omega
    · intro h1; have := Option.some.inj h1; simp only at *; omega
    · intro h1; have := Option.some.inj h1; simp only at *; omega)
  have B2 := Lib.hid (Bm.out.grown hg2 Bm.out.size (fun q hq => by have := Option.some.inj hq; omega))
  have z2 := hg2.size
  rw [hsz] at z2
  clear hset2 hg2 Hset0 Hq0 Hp0 Bm hmm hsz
  have hR0 : Hid (Cir.viol d o = Cir.vbfs d o (9 - 0) 0 [(0, [])]) := Lib.hid rfl
  generalize Cir.viol d o = res at *
  go_wp2_with fail
  go_loopw [8, 9, 11] (fun vq vp i wr => ∃ (q p : Value) (k m : Nat) (l : List (Nat × List Nat)) (pv : List Value) (F : Nat → Prop), q = vq ∧ p = vp ∧ i = .int .i64 k ∧ k ≤ l.length ∧ 1 ≤ l.length ∧ l.length ≤ 8 ∧ m ≤ 1 + k * 16 ∧ Hid (Cir.Vs d l) ∧ Hid (res = Cir.vbfs d o (9 - k) k l) ∧ Hid (VB w.heap.size (w.heap.size + 1 + 1) d.ins m l vq vp pv F wr) ∧ Below w.heap.size w wr) (fun _ _ i _ => 8 - (intOf i).toNat)
  case atStart => exact ⟨_, _, 0, 1, [(0, [])], _, _, rfl, rfl, rfl, by simp, by simp, by simp, by omega, Lib.hid (Cir.Vs.zero d), hR0, HV0, B2.out⟩
  case round =>
    obtain ⟨vq, vp, k, m, l, pv, F, hq, hp, rfl, hk, hpos, hl8, hm16, Hvs, hres, HV, hb⟩ := hrel
    subst hq hp
    clear HV0 B2 hR0
    have Hb := Lib.hid hb
    have hzb := hb.size
    clear hb
    by_cases hlt2 : k < l.length
    · obtain ⟨⟨s, p⟩, hs⟩ := at_some hlt2
      have Hgs := Lib.hid hs
      have hf : 9 - k = 9 - (k + 1) + 1 := by omega
      rw [hf] at hres
      have hdl : decide (k < l.length) = true := decide_eq_true hlt2
      obtain ⟨gq, cq, hvq, hgq, hgq2, hcq, hcqm⟩ := own_open HV.out.q (by omega)
      subst hvq
      unfold maxLen at hcqm
      clear hs hf
      go_wp2_with fail
      obtain ⟨Wk, hWk⟩ : ∃ Wk, Wk = wr := ⟨_, rfl⟩
      subst hWk
      go_loopw [8, 9, 33] (fun vq2 vp2 i2 wr2 => ∃ (q2 p2 : Value) (j m2 : Nat) (pv2 : List Value) (F2 : Nat → Prop), q2 = vq2 ∧ p2 = vp2 ∧ i2 = .int .i64 j ∧ j ≤ M ∧ m2 ≤ m + j ∧ Hid (∀ y, y < j → Cir.bad d o s y = false) ∧ Hid (VB w.heap.size (w.heap.size + 1 + 1) d.ins m2 (Cir.vpushes d s p j l) vq2 vp2 pv2 F2 wr2) ∧ Below w.heap.size w wr2) (fun _ _ i _ => M - (intOf i).toNat)
      case atStart => exact ⟨_, _, 0, m, pv, F, rfl, rfl, rfl, Nat.zero_le _, by omega, Lib.hid (fun y hy => by omega), HV, Hb.out⟩
      case round =>
        obtain ⟨q2, p2, j, m2, pv2, F2, hq2, hp2, rfl, hj, hm2, Hnb, HV2, hb2⟩ := hrel
        subst hq2 hp2
        have Hb2 := Lib.hid hb2
        have hzb2 := hb2.size
        clear HV hb2
        have Hvs2 := Lib.hid (Hvs.out.pushes Hgs.out j (by rw [← HM.out]; exact hj))
        have hL8 := Hvs2.out.size Hd.out
        have Hgj := Lib.hid (Cir.vpushes_get (c := d) (s := s) (p := p) (j := j) Hgs.out)
        have Hsu := Lib.hid (Cir.vpushes_succ d s p j l)
        have hkL := (List.getElem?_eq_some_iff.1 Hgj.out).1
        by_cases hlj : j < M
        · obtain ⟨L2, hL2⟩ : ∃ L2, Cir.vpushes d s p (j + 1) l = L2 := ⟨_, rfl⟩
          rw [hL2] at Hsu
          have HL2 := Lib.hid hL2
          clear hL2
          generalize Cir.vpushes d s p j l = L at *
          obtain ⟨gq, cq, hvq, hgq, hgq2, hcq, hcqm⟩ := own_open HV2.out.q (by omega)
          subst hvq
          obtain ⟨gp, cp, hvp, hgp, hgp2, hcp, hcpm⟩ := own_open HV2.out.p (by omega)
          subst hvp
          unfold maxLen at hcqm hcpm
          obtain ⟨u0, hu0, hd0, hf0⟩ := own_slot HV2.out.q (j := k) (by omega)
          have hu0' : u0 = .int .i64 (s : Int) := by
            have h1 := Cir.vsts_get Hgj.out
            have h2 : (nints (Cir.vsts L))[k]? = some (.int .i64 (s : Int)) := by unfold nints ints nats; rw [List.map_map, List.getElem?_map, h1]; rfl
            exact Option.some.inj (hu0.symm.trans h2)
          subst hu0'
          obtain ⟨u1, hu1, hd1, hf1⟩ := own_slot HV2.out.p (j := k) (by omega)
          have HS := Lib.hid (HV2.out.r k s p u1 Hgj.out hu1)
          have hs8 : s < 8 := by
            have h1 := Hvs2.out.sts.lt s (List.mem_of_getElem? (Cir.vsts_get Hgj.out))
            have h2 : 2 ^ d.next.length ≤ 2 ^ 3 := Nat.pow_le_pow_right (show 0 < 2 by decide) l2
            omega
          have hN8 : Cir.nextOf d s j < 8 := by
            have h1 := Cir.nextOf_lt d s j
            have h2 : 2 ^ d.next.length ≤ 2 ^ 3 := Nat.pow_le_pow_right (show 0 < 2 by decide) l2
            omega
          have hp8 := Hvs2.out.len k s p Hgj.out
          clear hu0 hu1 hf0 hf1
          go_wp2_with fail
          refine (viClo_any g go d o s j _ (HP.out.below Hb2.out) ((Hb2.out.cell (p := ⟨go, 0, none⟩) hlt).trans Hgo.out) (Nat.lt_of_lt_of_le hlt hzb2) Hd.out (by omega) (by omega) Ho.out).mono ?_
          rintro e w5 ⟨rfl, hb5⟩
          have HV5 := Lib.hid (HV2.out.below hb5)
          have HS5 := Lib.hid (HS.out.below hb5)
          have Hb5 := Lib.hid (Hb2.out.trans (hb5.mono hzb2))
          have hz5 := hb5.size
          have c5 := (hb5.cell (p := ⟨gp, k, none⟩) hgp2).trans hd1
          obtain ⟨Ap, np, hvu, hcu, hcum⟩ := HS5.out.at.shape
          subst hvu
          rw [rowsOf_length] at hcu
          unfold maxLen at hcum
          obtain ⟨vs5, hvl5, hrow5, hel5⟩ := HS5.out
          rw [rowsOf_length] at hvl5
          have One5 := Lib.hid (SSIn.one (by rw [rowsOf_length]; exact hvl5) hel5)
          have Row5 : Hid (Row w5 1 (.slice Ap (rowsOf d.ins p).length np) p.length vs5) := Lib.hid (by have := hrow5.1; rwa [rowsOf_length] at this ⊢)
          have Hrow5 := Lib.hid hrow5
          have Hel5 := Lib.hid hel5
          clear hrow5 hel5
          obtain ⟨N, hNe⟩ : ∃ N, Cir.nextOf d s j = N := ⟨_, rfl⟩
          rw [hNe] at hN8 Hsu
          have HNe := Lib.hid hNe
          clear hb5 hd0 hd1 HV2 HS
          rw [hNe]
          clear hNe
          cases hbad : Cir.bad d o s j
          · have Hnb2 : Hid (∀ y, y < j + 1 → Cir.bad d o s y = false) := Lib.hid (fun y hy => by
              rcases Nat.lt_or_ge y j with h | h
              · exact Hnb.out y h
              · obtain rfl : y = j := by omega
                exact hbad)
            clear hbad Hnb
            cases hc : Cir.memB (Cir.vsts L) N
            · have HPu := Lib.hid (Cir.vpush_no (p := p ++ [j]) hc)
              have hlk := run_look_set HV5.out.s N (by omega)
              rw [hc] at hlk
              go_wp2_with fail
              refine (cloneSS_any _ p.length _ _ (by have := Row5.out; exact this) One5.out (by omega)).mono ?_
              rintro e w6 ⟨v6, rfl, ho6, hb6⟩
              have hz6 := hb6.size
              have Ho6 := Lib.hid ho6
              have Hb6 := Lib.hid hb6
              clear ho6 hb6
              go_wp2_with fail
              refine (bitsOf_any j d.ins _ (by omega) (by omega)).mono ?_
              rintro e w7 ⟨v7, rfl, ho7, hb7⟩
              have hz7 := hb7.size
              have Ho6b := Lib.hid (own_below Ho6.out hb7)
              have Hb7 := Lib.hid (Hb6.out.trans (hb7.mono hz6))
              have Ho7 := Lib.hid (own_mono ho7 hz6)
              have Hge7 := Lib.hid (own_ge0 ho7)
              obtain ⟨A7, c7, hv7⟩ := slice_of_own Ho7.out
              subst hv7
              have Hlit := Lib.hid (Row.of_own (World.ownsRow_lit (base := w7.heap.size) (e := 32) (size := 1) w7 #[.slice A7 (Cir.bits j d.ins).length c7] 1 (Nat.le_refl _) (by unfold maxLen; omega) rfl))
              clear ho7 hb7
              go_wp2_with (first | (at_builtin; refine append_rows rfl (.tmp 57) (.tmp 61) rfl w5.heap.size _ p.length _ rfl (Ho6b.out.alloc _) _ 1 [.slice A7 (Cir.bits j d.ins).length c7] rfl Hlit.out (by simp [Value.oneCell']) (by omega) (by simp; omega) ?_; intro v8 w8 hown8 hg8 hat8; obtain ⟨A8, c8, hv8⟩ := slice_of_own hown8; subst hv8; have Hp8 := Lib.hid hown8; have Hg8 := Lib.hid hg8; have hz8 := hg8.size; rw [World.size_alloc] at hz8; have Ho8 := Lib.hid (own_kept (Ho7.out.alloc (.cells #[.slice A7 (Cir.bits j d.ins).length c7] 32)) hg8 (fun g h1 h2 => by have h3 := Hge7.out g h1; have h4 := (Ho6.out.lt g h2).2; omega)); have Hb8 := Lib.hid ((Hb7.out.alloc (Nat.le_trans hz6 hz7) _).grown hg8 (by simp; omega) (own_ge0 Ho6b.out)); clear hown8 hg8 hat8) | (at_mapUpdate; refine Stop.out ?_))
              have HS8 : Hid (SSIn bools (fun g => F2 g ∨ (w5.heap.size ≤ g ∧ g < w8.heap.size)) w8 (.slice A8 (p.length + 1) c8) (rowsOf d.ins (p ++ [j]))) := Lib.hid (by
                rw [rowsOf_snoc]
                exact SSIn.snoc (by rw [rowsOf_length]; exact hvl5) (fun i x u hx hu => (Hel5.out i x u hx hu).below Hb8.out) Ho8.out (by rw [rowsOf_length]; exact Hp8.out))
              have HV8 := Lib.hid (HV5.out.below Hb8.out)
              have HF8 : Hid (∀ g, (F2 g ∨ (w5.heap.size ≤ g ∧ g < w8.heap.size)) → g < w8.heap.size ∧ (Value.slice (some ⟨gq, 0, none⟩) L.length cq).ownBlock ≠ some g ∧ (Value.slice (some ⟨gp, 0, none⟩) L.length cp).ownBlock ≠ some g ∧ g ≠ w.heap.size + 1 + 1) := Lib.hid (fun g hg => by
                rcases hg with hg | hg
                · exact HV8.out.f g hg
                · have h3 := HV5.out.s.lt
                  refine ⟨hg.2, fun h => ?_, fun h => ?_, by omega⟩
                  · have h2 := (HV5.out.q.lt g h).2; omega
                  · have h2 := (HV5.out.p.lt g h).2; omega)
              have Hb58 := Lib.hid (Hb5.out.trans (Hb8.out.mono (by omega)))
              refine ⟨?_⟩
              have hz58 := Hb8.out.size
              clear Ho6 Ho6b Ho7 Hge7 Hlit Hp8 Ho8 Hg8 HV5 HS5 Row5 Hrow5 Hel5 One5 Hb6 Hb7 hz6 hz7
              go_wp2_with (first
                | (at_mapUpdate; refine wpList_add_set _ rfl (.tmp 77) (.tmp 78) _ (.inl rfl) _ _ _ rfl HV8.out.s (by omega) N (by omega) rfl rfl ?_; intro w9 hset9 hg9; have Hset9 := Lib.hid hset9; have Hg9 := Lib.hid hg9; have hz9 := hg9.size; have Hq9 := Lib.hid (own_kept HV8.out.q hg9 (fun g h1 h2 => HV8.out.am.1 (h1.trans h2.symm))); have Hp9 := Lib.hid (own_kept HV8.out.p hg9 (fun g h1 h2 => HV8.out.am.2 (h1.trans h2.symm))); have Hl9 := Lib.hid (Row.of_own (World.ownsRow_lit (base := w9.heap.size) (e := 3) (size := 1) w9 #[.int .i64 N] 1 (Nat.le_refl _) (by unfold maxLen; omega) rfl)); clear hset9 hg9)
                | (at_builtin; refine append_ints rfl (.tmp 79) (.tmp 81) rfl w.heap.size _ L.length (nints (Cir.vsts L)) rfl (Hq9.out.alloc _) _ 1 [.int .i64 N] rfl Hl9.out (by simp [Value.oneCell']) (by omega) (by simp; omega) ?_; intro va wa howna hga hata; obtain ⟨Aa, ca, hva⟩ := slice_of_own howna; subst hva; have Hqa := Lib.hid howna; have Hga := Lib.hid hga; have Hata := Lib.hid hata; have hza := hga.size; rw [World.size_alloc] at hza; have Hpa := Lib.hid (own_kept (Hp9.out.alloc (.cells #[.int .i64 N] 3)) hga (fun g h1 h2 => HV8.out.a g h2 h1)); have Hla := Lib.hid (Row.of_own (World.ownsRow_lit (base := wa.heap.size) (e := 56) (size := 1) wa #[.slice A8 (p.length + 1) c8] 1 (Nat.le_refl _) (by unfold maxLen; omega) rfl)); clear howna hga hata)
                | (at_builtin; refine append_paths rfl (.tmp 83) (.tmp 85) rfl w.heap.size _ L.length pv2 rfl (Hpa.out.alloc _) _ 1 [.slice A8 (p.length + 1) c8] rfl Hla.out (by simp [Value.oneCell']) (by omega) (by simp; omega) ?_; intro vb wb hownb hgb hatb; obtain ⟨Ab, cb, hvb⟩ := slice_of_own hownb; subst hvb; have Hpb := Lib.hid hownb; have Hgb := Lib.hid hgb; have Hatb := Lib.hid hatb; clear hownb hgb hatb))
              go_roundw
              case rel => exact ⟨_, _, j + 1, m2 + 1, pv2 ++ [.slice A8 (p.length + 1) c8], _, rfl, rfl, by go_num, by omega, by omega, Hnb2, Lib.hid (by rw [HL2.out, Hsu.out, HPu.out]; exact HV8.out.push HS8.out (fun g h => .inl h) HF8.out Hset9.out Hg9.out Hqa.out Hga.out Hata.out Hpb.out Hgb.out Hatb.out), by
                have b1 := Hb58.out.grown Hg9.out Hb58.out.size (fun q hq => by have := Option.some.inj hq; omega)
                have b2 := (b1.alloc b1.size (.cells #[.int .i64 N] 3)).grown Hga.out (b1.alloc b1.size _).size (own_ge0 Hq9.out)
                exact (b2.alloc b2.size (.cells #[.slice A8 (p.length + 1) c8] 56)).grown Hgb.out (b2.alloc b2.size _).size (own_ge0 Hpa.out)⟩
              case measure => simp [intOf] <;> omega
            · have HPu := Lib.hid (Cir.vpush_yes (p := p ++ [j]) hc)
              have hlk := run_look_set HV5.out.s N (by omega)
              rw [hc] at hlk
              go_wp2_with fail
              go_roundw
              case rel => exact ⟨_, _, j + 1, m2, pv2, F2, rfl, rfl, by go_num, by omega, by omega, Hnb2, Lib.hid (by rw [HL2.out, Hsu.out, HPu.out]; exact HV5.out), Hb5.out⟩
              case measure => simp [intOf] <;> omega
          · have Hf := Lib.hid (Cir.vfind_some (M := 2 ^ d.ins) (by rw [← HM.out]; exact hlj) hbad Hnb.out)
            clear hbad Hnb
            have Hr : res = some (p ++ [j]) := by rw [hres.out]; exact Cir.vbfs_hit Hgs.out Hf.out
            clear hres
            subst Hr
            go_wp2_with fail
            refine (cloneSS_any _ p.length _ _ (by have := Row5.out; exact this) One5.out (by omega)).mono ?_
            rintro e w6 ⟨v6, rfl, ho6, hb6⟩
            have hz6 := hb6.size
            have Ho6 := Lib.hid ho6
            have Hb6 := Lib.hid hb6
            clear ho6 hb6
            go_wp2_with fail
            refine (bitsOf_any j d.ins _ (by omega) (by omega)).mono ?_
            rintro e w7 ⟨v7, rfl, ho7, hb7⟩
            have hz7 := hb7.size
            have Ho6b := Lib.hid (own_below Ho6.out hb7)
            have Hb7 := Lib.hid (Hb6.out.trans (hb7.mono hz6))
            have Ho7 := Lib.hid (own_mono ho7 hz6)
            have Hge7 := Lib.hid (own_ge0 ho7)
            obtain ⟨A7, c7, hv7⟩ := slice_of_own Ho7.out
            subst hv7
            have Hlit := Lib.hid (Row.of_own (World.ownsRow_lit (base := w7.heap.size) (e := 32) (size := 1) w7 #[.slice A7 (Cir.bits j d.ins).length c7] 1 (Nat.le_refl _) (by unfold maxLen; omega) rfl))
            clear ho7 hb7
            go_wp2_with (at_builtin; refine append_rows rfl (.tmp 57) (.tmp 61) rfl w5.heap.size _ p.length _ rfl (Ho6b.out.alloc _) _ 1 [.slice A7 (Cir.bits j d.ins).length c7] rfl Hlit.out (by simp [Value.oneCell']) (by omega) (by simp; omega) ?_; intro v8 w8 hown8 hg8 hat8; obtain ⟨A8, c8, hv8⟩ := slice_of_own hown8; subst hv8; have Hp8 := Lib.hid hown8; have Hg8 := Lib.hid hg8; have hz8 := hg8.size; rw [World.size_alloc] at hz8; have Ho8 := Lib.hid (own_kept (Ho7.out.alloc (.cells #[.slice A7 (Cir.bits j d.ins).length c7] 32)) hg8 (fun g h1 h2 => by have h3 := Hge7.out g h1; have h4 := (Ho6.out.lt g h2).2; omega)); have Hb8 := Lib.hid ((Hb7.out.alloc (Nat.le_trans hz6 hz7) _).grown hg8 (by simp; omega) (own_ge0 Ho6b.out)); clear hown8 hg8 hat8)
            have HS8 : Hid (SSIn bools (fun g => F2 g ∨ (w5.heap.size ≤ g ∧ g < w8.heap.size)) w8 (.slice A8 (p.length + 1) c8) (rowsOf d.ins (p ++ [j]))) := Lib.hid (by
              rw [rowsOf_snoc]
              exact SSIn.snoc (by rw [rowsOf_length]; exact hvl5) (fun i x u hx hu => (Hel5.out i x u hx hu).below Hb8.out) Ho8.out (by rw [rowsOf_length]; exact Hp8.out))
            have HV8 := Lib.hid (HV5.out.below Hb8.out)
            have HF8 : Hid (∀ g, (F2 g ∨ (w5.heap.size ≤ g ∧ g < w8.heap.size)) → g < w8.heap.size ∧ (Value.slice (some ⟨gq, 0, none⟩) L.length cq).ownBlock ≠ some g ∧ (Value.slice (some ⟨gp, 0, none⟩) L.length cp).ownBlock ≠ some g ∧ g ≠ w.heap.size + 1 + 1) := Lib.hid (fun g hg => by
              rcases hg with hg | hg
              · exact HV8.out.f g hg
              · have h3 := HV5.out.s.lt
                refine ⟨hg.2, fun h => ?_, fun h => ?_, by omega⟩
                · have h2 := (HV5.out.q.lt g h).2; omega
                · have h2 := (HV5.out.p.lt g h).2; omega)
            have Hb58 := Lib.hid (Hb5.out.trans (Hb8.out.mono (by omega)))
            have hz58 := Hb8.out.size
            have hlp : (rowsOf d.ins (p ++ [j])).length = p.length + 1 := by rw [rowsOf_length, List.length_append, List.length_singleton]
            have HSS : Hid (SSAt bools w8 (.slice A8 (p.length + 1) c8) (rowsOf d.ins (p ++ [j]))) := Lib.hid HS8.out.at
            have Hbits : Hid (∀ x ∈ rowsOf d.ins (p ++ [j]), x.length = d.ins) := Lib.hid (fun x hx => by
              unfold rowsOf at hx
              obtain ⟨y, _, rfl⟩ := List.mem_map.1 hx
              exact Cir.bits_length _ _)
            generalize hRe : rowsOf d.ins (p ++ [j]) = R at *
            have HRe := Lib.hid hRe
            clear hRe
            clear Ho6 Ho6b Ho7 Hge7 Hlit Hp8 Ho8 Hg8 HV5 HS5 Row5 Hrow5 Hel5 One5 Hb6 Hb7 hz6 hz7 HS8 HV8 HF8 Hf
            obtain ⟨Wz, hWz⟩ : ∃ Wz, Wz = w8 := ⟨_, rfl⟩
            subst hWz
            go_loopw [16, 66] (fun v i wr3 => ∃ (vv : Value) (q : Nat), vv = v ∧ i = .int .i64 q ∧ q ≤ p.length + 1 ∧ Hid (OwnSE bools 32 4 Wz.heap.size (fun g => g < wr3.heap.size) wr3 v (R.take q)) ∧ Below Wz.heap.size Wz wr3) (fun _ i _ => p.length + 1 - (intOf i).toNat)
            case atStart => exact ⟨_, 0, rfl, rfl, Nat.zero_le _, Lib.hid (OwnSE.nil _ _ _ _ _ _), Below.refl _ _⟩
            case round =>
              obtain ⟨vv, q, hvv, rfl, hq, HO, hb3⟩ := hrel
              subst hvv
              have Hb3 := Lib.hid hb3
              have hz3 := hb3.size
              by_cases hlq : q < p.length + 1
              · obtain ⟨x, hx⟩ := at_some (show q < R.length by omega)
                obtain ⟨b, o', Bx, mx, hAx, hbl, hc1, hm1, hm2, hrx⟩ := ss_open HSS.out hb3 hx
                cases hAx
                have hxl : x.length ≤ 1000 := by have := Hbits.out x (List.mem_of_getElem? hx); omega
                have HSn : Hid (R.take (q + 1) = R.take q ++ [x]) := Lib.hid (take_snoc hx)
                have Hrx := Lib.hid hrx
                have HtL : Hid ((R.take q).length = q) := Lib.hid (by rw [List.length_take]; omega)
                clear hb3 hrx hx
                generalize R.take q = Rq at *
                go_wp2_with fail
                refine (cloneB_any _ x.length _ _ Hrx.out (bools_one x) (by omega)).mono ?_
                rintro e wc ⟨vc, rfl, hoc, hbc⟩
                have hzc := hbc.size
                have HOc := Lib.hid (OwnSE.below HO.out hbc)
                have Hoc := Lib.hid (own_mono hoc hz3)
                have Hgec := Lib.hid (own_ge0 hoc)
                have Hbc := Lib.hid (Hb3.out.trans (hbc.mono hz3))
                obtain ⟨Ac, cc, hvc⟩ := slice_of_own hoc
                subst hvc
                have Hlc := Lib.hid (Row.of_own (World.ownsRow_lit (base := wc.heap.size) (e := 32) (size := 1) wc #[.slice Ac x.length cc] 1 (Nat.le_refl _) (by unfold maxLen; omega) rfl))
                have hHOl := HOc.out.below (bel_new wc (.cells #[.slice Ac x.length cc] 32))
                obtain ⟨us, q1, q2, q3, q4, q5, q6, q7⟩ := hHOl
                rw [HtL.out] at q2
                have Q2 := Lib.hid q2
                have Q := Lib.hid (And.intro q1 (And.intro q3 (And.intro q4 (And.intro q5 (And.intro q6 q7)))))
                have Hol := Lib.hid (Hoc.out.alloc (.cells #[.slice Ac x.length cc] 32))
                clear hoc hbc HO HOc q1 q2 q3 q4 q5 q6 q7
                go_wp2_with (at_builtin; refine append_rows rfl (.tmp 70) (.tmp 73) rfl Wz.heap.size _ q us rfl Q2.out _ 1 [.slice Ac x.length cc] rfl Hlc.out (by simp [Value.oneCell']) (by omega) (by simp; omega) ?_; intro v9 w9 hown9 hg9 hat9; have HSE := Lib.hid (se_append Q.out.1 Q.out.2.1 Q.out.2.2.1 Q.out.2.2.2.1 Q.out.2.2.2.2.1 Q.out.2.2.2.2.2 Hol.out (fun g h1 h2 => by have := Hgec.out g h1; omega) (by rw [HtL.out]; exact hown9) hg9 hat9); have Hg9 := Lib.hid hg9; have hz9 := hg9.size; rw [World.size_alloc] at hz9; have Hol9 := Lib.hid (fun g h => (Hol.out.lt g h).2); have Hown9 := Lib.hid hown9; clear hown9 hg9 hat9)
                go_roundw
                case rel => exact ⟨_, q + 1, rfl, by go_num, by omega, Lib.hid (by
                  rw [HSn.out]
                  refine HSE.out.mono (Nat.le_refl _) (fun g hg => ?_)
                  rcases hg with hg | hg | hg
                  · omega
                  · have h := Hol9.out g hg; rw [World.size_alloc] at h; omega
                  · exact (Hown9.out.lt g hg).2), (Hbc.out.alloc Hbc.out.size _).grown Hg9.out (Hbc.out.alloc Hbc.out.size _).size (own_ge0 Q2.out)⟩
                case measure => simp [intOf] <;> omega
              · obtain rfl : q = p.length + 1 := by omega
                have HOf : Hid (OwnSE bools 32 4 w.heap.size (fun g => g < wr.heap.size) wr vv R) := Lib.hid (by
                  have := HO.out
                  rw [List.take_of_length_le (by omega)] at this
                  exact this.mono (by omega) (fun g h => h))
                clear hb3
                go_wp2_with fail
                exact bodyPost_ret (v := .tuple #[vv, .bool true]) (by simp [results, Try.results87, go_sem]) rfl ⟨_, rfl, by rw [HRe.out]; exact HOf.out, Hb58.out.trans (Hb3.out.mono (by omega))⟩
        · obtain rfl : j = M := by omega
          have Hf := Lib.hid (Cir.vfind_none (M := 2 ^ d.ins) (by rw [← HM.out]; exact Hnb.out))
          have HMr : Hid (res = Cir.vbfs d o (9 - (k + 1)) (k + 1) (Cir.vpushes d s p j l)) := Lib.hid (by rw [hres.out, Cir.vbfs_step Hgs.out Hf.out, HM.out])
          clear Hnb
          generalize Cir.vpushes d s p j l = L at *
          go_wp2_with fail
          go_roundw
          case rel => exact ⟨_, _, k + 1, m2, L, pv2, F2, rfl, rfl, by go_num, by omega, by omega, hL8, by omega, Hvs2, HMr, HV2, Hb2.out⟩
          case measure => simp [intOf] <;> omega
    · obtain rfl : k = l.length := by omega
      have hr : res = none := by rw [hres.out, Cir.vbfs_end]
      obtain ⟨gq, cq, hvq, hgq, hgq2, hcq, hcqm⟩ := own_open HV.out.q (by have := hpos; omega)
      subst hvq
      unfold maxLen at hcqm
      subst hr
      go_wp2_with fail
      exact bodyPost_ret (v := .tuple #[.slice none 0 0, .bool false]) (by simp [results, Try.results87, go_sem]) rfl ⟨rfl, Hb.out⟩
end Go.Proofs.Ytopimdakpnnbhaa

namespace Go.Proofs.Ytopimdakpnnbhaa
open Go.RowKit
set_option maxRecDepth 100000
/-! FindViolation, by the program. -/
namespace Cir
def violI (c : Cz) (o : Int) : Option (List Nat) := if valid c = true ∧ 0 ≤ o ∧ o < c.outs.length then viol (nat c) o.toNat else none
end Cir
def vrows (ins : Nat) : Option (List Nat) → List (List Bool)
  | none => []
  | some p => rowsOf ins p
def OwnViol (ins : Nat) (r : Option (List Nat)) (w : World) (e : Ending) (w' : World) : Prop := ∃ v, e = .returned (.agg #[.bool r.isSome, v]) ∧ OwnBoolSS w.heap.size w'.heap.size w' v (vrows ins r) ∧ Below w.heap.size w w'
theorem OwnSS.set {α : Type} {enc : List α → List Value} {to ti : TypeId} {B T : Nat} {w : World} {v : Value} {xss : List (List α)} {g i : Nat} {u : Value} (h : OwnSS enc to ti B T w v xss) (hg : g < B) : OwnSS enc to ti B T (w.setCell ⟨g, i, none⟩ u) v xss := by
  refine h.only (E := fun k => k = g) (Only.grown (set_grown w g i u) fun k hk => (Option.some.inj hk).symm) (fun k hk _ e => by omega)
theorem viol_cases {c : Cz} {o : Int} (h : ¬ (Cir.valid c = true ∧ 0 ≤ o ∧ o < c.outs.length)) : Cir.valid c = false ∨ (Cir.valid c = true ∧ o < 0) ∨ (Cir.valid c = true ∧ 0 ≤ o ∧ (c.outs.length : Int) ≤ o) := by
  cases hv : Cir.valid c
  · exact .inl rfl
  · rw [hv] at h
    rcases Int.lt_or_le o 0 with h1 | h1
    · exact .inr (.inl ⟨rfl, h1⟩)
    · rcases Int.lt_or_le o c.outs.length with h2 | h2
      · exact absurd ⟨rfl, h1, h2⟩ h
      · exact .inr (.inr ⟨rfl, h1, h2⟩)
set_option maxHeartbeats 4000000
theorem implViol_ok (v : Value) (d : Ci) (o : Nat) (w : World) (h : CircAt w v (Cir.toCz d)) (hd : Cir.Ok d) (hv : Cir.valid (Cir.toCz d) = true) (ho : o < d.outs.length) :
    Calls Try.prog 39 #[v, .int .i64 o] w (OwnViol d.ins (Cir.viol d o) w) := by
  have l1 := hd.ins
  have HC := Lib.hid h
  obtain ⟨vn, vg, vo, rfl, r1, r2, r3⟩ := h
  obtain ⟨Ao, co, rfl, hco, hcom⟩ := NatsAt.shape (xs := d.outs) r3
  have hins : (Cir.toCz d).ins = (d.ins : Int) := rfl
  have HP := Lib.hid (PCirc.boxed (c := Cir.toCz d) 26 r1 r2 r3)
  rw [hins] at HC HP ⊢
  have hb0 := bel_new w (.cells #[.int .i64 d.ins, vn, vg, .slice Ao d.outs.length co] 26)
  have hb1 := bel_new (w.alloc (.cells #[.int .i64 d.ins, vn, vg, .slice Ao d.outs.length co] 26)) (.cells #[.int .i64 o] 3)
  have hb2 := bel_new ((w.alloc (.cells #[.int .i64 d.ins, vn, vg, .slice Ao d.outs.length co] 26)).alloc (.cells #[.int .i64 o] 3)) (.cells #[.bool false, .slice none 0 0] 58)
  have hb12 := hb1.trans (hb2.mono hb1.size)
  have B0 := Lib.hid (hb0.trans (hb12.mono hb0.size))
  have HP := Lib.hid (HP.out.below hb12)
  have PC := Lib.hid ((PCells.boxed w d.ins vn vg (.slice Ao d.outs.length co) 26).below hb12)
  have hsz : (((w.alloc (.cells #[.int .i64 d.ins, vn, vg, .slice Ao d.outs.length co] 26)).alloc (.cells #[.int .i64 o] 3)).alloc (.cells #[.bool false, .slice none 0 0] 58)).heap.size = w.heap.size + 1 + 1 + 1 := by simp
  have hR : (((w.alloc (.cells #[.int .i64 d.ins, vn, vg, .slice Ao d.outs.length co] 26)).alloc (.cells #[.int .i64 o] 3)).alloc (.cells #[.bool false, .slice none 0 0] 58)).heap[w.heap.size + 1 + 1]? = some (.cells #[.bool false, .slice none 0 0] 58 (0, 0)) := by
    have := heap_alloc_new ((w.alloc (.cells #[.int .i64 d.ins, vn, vg, .slice Ao d.outs.length co] 26)).alloc (.cells #[.int .i64 o] 3)) (.cells #[.bool false, .slice none 0 0] 58)
    rwa [World.size_alloc, World.size_alloc] at this
  have HRes := Lib.hid hR
  have hGo : (((w.alloc (.cells #[.int .i64 d.ins, vn, vg, .slice Ao d.outs.length co] 26)).alloc (.cells #[.int .i64 o] 3)).alloc (.cells #[.bool false, .slice none 0 0] 58)).cell? ⟨w.heap.size + 1, 0, none⟩ = some (.int .i64 o) := by
    have h1 := heap_alloc_new (w.alloc (.cells #[.int .i64 d.ins, vn, vg, .slice Ao d.outs.length co] 26)) (.cells #[.int .i64 o] 3)
    rw [World.size_alloc] at h1
    have h2 := (hb2.block (w.heap.size + 1) (by simp)).trans h1
    exact blk_cell h2 0
  have HGo := Lib.hid hGo
  obtain ⟨z, p0, p1, p2, p3⟩ := PC.out
  have HC0 := Lib.hid (HC.out.below B0.out)
  have HV := Lib.hid (implValid_any _ _ _ HC0.out)
  rw [hv] at HV
  have Hd := Lib.hid hd
  have Ho := Lib.hid ho
  have t1 : decide ((o : Int) < 0) = false := decide_eq_false (by omega)
  have t2 : decide (d.outs.length ≤ o) = false := decide_eq_false (by omega)
  clear r1 r2 r3 hd hins hv HC hb0 hb1 hb2 hb12 hR ho hco hcom hGo
  go_enter Try.func39, Try.ntmps39
  go_wp2_with fail
  generalize ((w.alloc (.cells #[.int .i64 d.ins, vn, vg, .slice Ao d.outs.length co] 26)).alloc (.cells #[.int .i64 o] 3)).alloc (.cells #[.bool false, .slice none 0 0] 58) = W at *
  refine HV.out.mono ?_
  rintro e w1 ⟨rfl, hb1⟩
  have B1 := Lib.hid (B0.out.trans (hb1.mono B0.out.size))
  have HP1 := Lib.hid (HP.out.below hb1)
  have HRes1 := Lib.hid ((hb1.block _ (by omega)).trans HRes.out)
  have PC1 := Lib.hid (PC.out.below hb1)
  have c1 := (hb1.cell (p := ⟨w.heap.size + 1, 0, none⟩) (by simp only; omega)).trans HGo.out
  have HGo1 := Lib.hid c1
  have z1 := hb1.size
  clear hb1 p0 p1 p2 p3 z HV HP HC0 HRes PC HGo
  obtain ⟨z, p0, p1, p2, p3⟩ := PC1.out
  go_wp2_with fail
  refine (searchV_any w.heap.size (w.heap.size + 1) d o _ HP1.out HGo1.out (by omega) Hd.out Ho.out).mono ?_
  intro e w2 hS
  generalize Cir.viol d o = R at *
  cases R with
  | none =>
    obtain ⟨rfl, hb2⟩ := hS
    have hR2 := (hb2.block (w.heap.size + 1 + 1) (by omega)).trans HRes1.out
    have o0 := blk_cell hR2 0
    have o1 := blk_cell hR2 1
    have b0 := blk_free hR2 0
    have b1 := blk_free hR2 1
    simp at o0 o1
    have B2 := Lib.hid (B1.out.trans (hb2.mono B1.out.size))
    clear hb2 hR2 p0 p1 p2 p3
    go_wp2_with fail
    refine bodyPost_ret (v := .agg #[.bool false, .slice none 0 0]) (by simp [results, Try.results39, go_sem, o0, o1]) rfl ⟨_, rfl, OwnSS.nil _ _ _ _ _ _, ?_⟩
    exact ((B2.out.setCell (by simp only; omega) _).setCell (by simp only; omega) _)
  | some p =>
    obtain ⟨v2, rfl, hO, hb2⟩ := hS
    have hR2 := (hb2.block (w.heap.size + 1 + 1) (by omega)).trans HRes1.out
    have o0 := blk_cell hR2 0
    have o1 := blk_cell hR2 1
    have b0 := blk_free hR2 0
    have b1 := blk_free hR2 1
    simp at o0 o1
    have B2 := Lib.hid (B1.out.trans (hb2.mono B1.out.size))
    have HO := Lib.hid hO
    obtain ⟨A2, c2, hv2, -⟩ := hO.at.shape
    subst hv2
    clear hb2 hR2 p0 p1 p2 p3 hO
    go_wp2_with fail
    refine bodyPost_ret (v := .agg #[.bool true, .slice A2 (rowsOf d.ins p).length c2]) (by simp [results, Try.results39, go_sem, o0, o1]) rfl ⟨_, rfl, ?_, ?_⟩
    · exact (OwnSS.set (OwnSS.set (HO.out) (by omega)) (by omega)).mono (by omega) (by simp [World.setCell])
    · exact ((B2.out.setCell (by simp only; omega) _).setCell (by simp only; omega) _)
end Go.Proofs.Ytopimdakpnnbhaa

namespace Go.Proofs.Ytopimdakpnnbhaa
set_option maxRecDepth 100000
open Go.RowKit Go.Joins Go.ChangeShapes Go.WideShapes Go.ChangeAt Go.Deep
/-! Arguments that are slices, whatever their elements. -/
theorem flat_at {α : Type} {size : Nat} : ∀ {els : List (List α)}, (∀ e ∈ els, e.length = size) → ∀ {j : Nat} {u : α}, els.flatten[j]? = some u → ∃ (i r : Nat) (e : List α), j = i * size + r ∧ r < size ∧ els[i]? = some e ∧ e[r]? = some u
  | [], _, j, u, h => by simp at h
  | e :: els, hl, j, u, h => by
    have he := hl e (by simp)
    rw [List.flatten_cons, List.getElem?_append] at h
    split at h
    · rename_i hlt
      exact ⟨0, j, e, by omega, by omega, rfl, h⟩
    · rename_i hge
      obtain ⟨i, r, e', hj, hr, hi, hu⟩ := flat_at (fun e' h' => hl e' (List.mem_cons_of_mem _ h')) h
      refine ⟨i + 1, r, e', ?_, hr, by simpa using hi, hu⟩
      rw [Nat.add_mul]
      omega
theorem flat_length {α : Type} {size : Nat} : ∀ {els : List (List α)}, (∀ e ∈ els, e.length = size) → els.flatten.length = els.length * size
  | [], _ => by simp
  | e :: els, h => by
    rw [List.flatten_cons, List.length_append, flat_length (fun e' h' => h e' (List.mem_cons_of_mem _ h')), h e (by simp), List.length_cons, Nat.add_mul]
    omega
section
variable {H : Type} {enc : TypeId × Value → H} {P : Program} {w : World} {base : Nat} {spare : Nat → Bool} {held : Bool}
theorem slice_rd {t e : TypeId} {size fuel : Nat} {cs : List Value} {x : DataW H × List MemPlace} (ht : P.underlying t = some (.slice e)) (hc : P.cellsOf e = size) (hs : 0 < size) (G : List Value → Prop)
    (hG : ∀ n cs' y, cs'.length = size → DataW.trod enc P w base spare held n e cs' = some y → G cs') (h : DataW.trod enc P w base spare held fuel t cs = some x) :
    ∃ (A : Option Addr) (n c : Nat) (els : List (List Value)), cs = [.slice A n c] ∧ Row w size (.slice A n c) n els.flatten ∧ els.length = n ∧ (∀ e ∈ els, e.length = size) ∧ ∀ e ∈ els, G e := by
  rcases open_slice ht h with ⟨rfl, _⟩ | ⟨a, len, cap, m, n, D, Pl, rfl, hb, hl, hm, hmm, _, hx⟩
  · exact ⟨none, 0, 0, [], rfl, Row.nil w size, rfl, by simp, by simp⟩
  · have hx' : ∀ i, i < len → ∃ cs', cs'.length = size ∧ (∀ j, j < size → w.cell? (a.add (i * size + j)) = cs'[j]?) ∧ G cs' := by
      intro i hi
      have him : i < m := by rw [hmm]; split <;> omega
      obtain ⟨cs', h1, h2⟩ := hx i him
      rw [hc] at h1
      obtain ⟨_, h3, h4⟩ := World.cells?_some h1
      refine ⟨cs', h3, fun j hj => ?_, hG _ _ _ h3 h2⟩
      rw [← Go.Deep.add_add]
      exact h4 j hj
    let f : Nat → List Value := fun i => if h : i < len then (hx' i h).choose else []
    have hf : ∀ i, i < len → (f i).length = size ∧ (∀ j, j < size → w.cell? (a.add (i * size + j)) = (f i)[j]?) ∧ G (f i) := by
      intro i hi
      have := (hx' i hi).choose_spec
      simp only [f, hi, dite_true]
      exact this
    have hel : ∀ e ∈ (List.range len).map f, e.length = size := by
      intro e he
      obtain ⟨i, hi, rfl⟩ := List.mem_map.1 he
      exact (hf i (List.mem_range.1 hi)).1
    refine ⟨some a, len, cap, (List.range len).map f, rfl, ⟨by rw [flat_length hel]; simp, some a, cap, rfl, hl, hm, fun hn => ?_⟩, by simp, hel, fun e he => ?_⟩
    · obtain ⟨b, off, spot⟩ := a
      obtain ⟨h5, h6, _⟩ := hf 0 hn
      have h0 := h6 0 hs
      rw [List.getElem?_eq_getElem (by omega)] at h0
      have hspot : spot = none := by simpa [Addr.add] using World.cell?_spot h0
      subst hspot
      refine ⟨b, off, rfl, ?_, fun j u hu => ?_⟩
      · rcases Nat.lt_or_ge b w.heap.size with hl | hl
        · exact hl
        · simp [World.cell?, Addr.add, Array.getElem?_eq_none hl] at h0
      · obtain ⟨i, r, e', rfl, hr, hi, hu'⟩ := flat_at hel hu
        have hil : i < len := by
          obtain ⟨hi', _⟩ := List.getElem?_eq_some_iff.1 hi
          simpa using hi'
        have : e' = f i := by simpa [hil] using hi.symm
        subst this
        rw [← Go.WideShapes.add_plain, (hf i hil).2.1 r hr]
        exact hu'
    · obtain ⟨i, hi, rfl⟩ := List.mem_map.1 he
      exact (hf i (List.mem_range.1 hi)).2.2
end
def WfI (x : Int) : Prop := -9223372036854775808 ≤ x ∧ x ≤ 9223372036854775807
theorem wf_i {x : Int} (h : (Lit.int .i64 x).wf = true) : WfI x := by
  have := Go.bounds_i64 h
  unfold WfI
  omega
/-- What the cells of the elements come to. -/
theorem els_of {α : Type} (f : α → List Value) (G : α → Prop) : ∀ {els : List (List Value)}, (∀ e ∈ els, ∃ x, e = f x ∧ G x) → ∃ xs : List α, els.flatten = xs.flatMap f ∧ xs.length = els.length ∧ ∀ x ∈ xs, G x
  | [], _ => ⟨[], rfl, rfl, by simp⟩
  | e :: els, h => by
    obtain ⟨xs, h1, h2, h3⟩ := els_of f G (fun e' h' => h e' (List.mem_cons_of_mem _ h'))
    obtain ⟨x, rfl, hx⟩ := h e (by simp)
    refine ⟨x :: xs, by simp [h1], by simp [h2], ?_⟩
    intro y hy
    rcases List.mem_cons.1 hy with e | hy
    · exact e ▸ hx
    · exact h3 y hy
theorem flatMap_one {α : Type} (f : α → Value) : ∀ xs : List α, (xs.flatMap fun x => [f x]) = xs.map f
  | [] => rfl
  | x :: xs => by rw [List.flatMap_cons, flatMap_one f xs]; rfl
/-- What is known of an argument's cells. -/
def GInts (w : World) (cs : List Value) : Prop := ∃ (A : Option Addr) (n c : Nat) (xs : List Int), cs = [.slice A n c] ∧ IntsAt w (.slice A n c) xs ∧ xs.length = n ∧ ∀ x ∈ xs, WfI x
def GBools (w : World) (cs : List Value) : Prop := ∃ (A : Option Addr) (n c : Nat) (xs : List Bool), cs = [.slice A n c] ∧ BoolsAt w (.slice A n c) xs ∧ xs.length = n
def GPairs (w : World) (cs : List Value) : Prop := ∃ (A : Option Addr) (n c : Nat) (xs : List (Int × Int)), cs = [.slice A n c] ∧ CubesAt w (.slice A n c) xs ∧ xs.length = n ∧ ∀ x ∈ xs, WfI x.1 ∧ WfI x.2
section
variable {H : Type} {enc : TypeId × Value → H} {w : World} {base : Nat} {spare : Nat → Bool} {held : Bool}
theorem rd_int {n : Nat} {cs : List Value} {y : DataW H × List MemPlace} (h : DataW.trod enc Try.prog w base spare held n 3 cs = some y) : ∃ x, cs = [.int .i64 x] ∧ WfI x := by
  obtain ⟨x, e, _, hw⟩ := DataW.trod_int Try.underlying3 h
  exact ⟨x, e, wf_i hw⟩
theorem rd_bool {n : Nat} {cs : List Value} {y : DataW H × List MemPlace} (h : DataW.trod enc Try.prog w base spare held n 4 cs = some y) : ∃ x, cs = [.bool x] := by
  obtain ⟨x, e, _⟩ := DataW.trod_bool Try.underlying4 h
  exact ⟨x, e⟩
theorem rd_ints {n : Nat} {cs : List Value} {y : DataW H × List MemPlace} (h : DataW.trod enc Try.prog w base spare held n 23 cs = some y) : GInts w cs := by
  obtain ⟨A, n, c, els, rfl, hr, rfl, _, hg⟩ := slice_rd (size := 1) Try.underlying23 (by kernel_rfl) (by decide) (fun cs => ∃ x, cs = [.int .i64 x] ∧ WfI x) (fun _ _ _ _ h => rd_int h) h
  obtain ⟨xs, h1, h2, h3⟩ := els_of (fun x : Int => [Value.int .i64 x]) WfI hg
  rw [flatMap_one] at h1
  exact ⟨A, _, c, xs, rfl, by rw [h1, ← h2] at hr; rw [← h2]; exact hr, h2, h3⟩
theorem rd_bools {n : Nat} {cs : List Value} {y : DataW H × List MemPlace} (h : DataW.trod enc Try.prog w base spare held n 32 cs = some y) : GBools w cs := by
  obtain ⟨A, n, c, els, rfl, hr, rfl, _, hg⟩ := slice_rd (size := 1) Try.underlying32 (by kernel_rfl) (by decide) (fun cs => ∃ x, cs = [.bool x]) (fun _ _ _ _ h => rd_bool h) h
  obtain ⟨xs, h1, h2, _⟩ := els_of (fun x : Bool => [Value.bool x]) (fun _ => True) (fun e he => by obtain ⟨x, hx⟩ := hg e he; exact ⟨x, hx, trivial⟩)
  rw [flatMap_one] at h1
  exact ⟨A, _, c, xs, rfl, by rw [h1, ← h2] at hr; rw [← h2]; exact hr, h2⟩
theorem rd_pair {t : TypeId} {f0 f1 : Field} (hs : Try.prog.underlying t = some (.struct #[f0, f1])) (h0 : f0.type = 3) (h1 : f1.type = 3) (hone : oneCellFields Try.prog #[f0, f1] = true) (hC : Try.prog.cellsOf t = 2) {n : Nat} {cs : List Value} {y : DataW H × List MemPlace} (hl : cs.length = 2) (h : DataW.trod enc Try.prog w base spare held n t cs = some y) : ∃ x : Int × Int, cs = [.int .i64 x.1, .int .i64 x.2] ∧ WfI x.1 ∧ WfI x.2 := by
  match cs, hl with
  | [c0, c1], _ =>
    obtain ⟨xs, n, _, hx, _, hlen, hg⟩ := DataW.trod_struct hs h
    obtain ⟨o0, k0⟩ := hone_of hone 0 f0 rfl
    obtain ⟨o1, k1⟩ := hone_of hone 1 f1 rfl
    match xs, hlen with
    | [y0, y1], _ =>
      have g0 : DataW.trod enc Try.prog w base spare held n f0.type [c0] = some y0 := by simpa [Value.cells, o0, k0] using hg 0 f0 rfl
      have g1 : DataW.trod enc Try.prog w base spare held n f1.type [c1] = some y1 := by simpa [Value.cells, o1, k1] using hg 1 f1 rfl
      rw [h0] at g0
      rw [h1] at g1
      obtain ⟨a, e0, w0⟩ := rd_int g0
      obtain ⟨b, e1, w1⟩ := rd_int g1
      injection e0 with e0
      injection e1 with e1
      subst e0 e1
      exact ⟨(a, b), rfl, w0, w1⟩
theorem rd_pairs {t e : TypeId} {f0 f1 : Field} (ht : Try.prog.underlying t = some (.slice e)) (hs : Try.prog.underlying e = some (.struct #[f0, f1])) (h0 : f0.type = 3) (h1 : f1.type = 3) (hone : oneCellFields Try.prog #[f0, f1] = true) (hC : Try.prog.cellsOf e = 2) {n : Nat} {cs : List Value} {y : DataW H × List MemPlace} (h : DataW.trod enc Try.prog w base spare held n t cs = some y) : GPairs w cs := by
  obtain ⟨A, n, c, els, rfl, hr, rfl, _, hg⟩ := slice_rd (size := 2) ht hC (by decide) (fun cs => ∃ x : Int × Int, cs = [.int .i64 x.1, .int .i64 x.2] ∧ WfI x.1 ∧ WfI x.2) (fun _ _ _ hl h => rd_pair hs h0 h1 hone hC hl h) h
  obtain ⟨xs, g1, g2, g3⟩ := els_of (fun x : Int × Int => [Value.int .i64 x.1, Value.int .i64 x.2]) (fun x => WfI x.1 ∧ WfI x.2) hg
  exact ⟨A, _, c, xs, rfl, by rw [g1, ← g2] at hr; rw [← g2]; exact hr, g2, g3⟩
end
theorem slice_val {P : Program} {w : World} {r : Reach} {b0 : Nat} {t e : TypeId} {v : Value} (ht : P.underlying t = some (.slice e)) (hv : Value.okWide P w r b0 t v) : ∃ A n c, v = .slice A n c := by
  simp only [Value.okWide, ht, Cell.okWide] at hv
  cases v <;> simp_all [Cell.ok]
section
variable {H : Type} {enc : TypeId × Value → H} {w : World} {r : Reach} {b0 base : Nat} {spare : Nat → Bool} {held : Bool} {v : Value} {d : DataW H} {p : List MemPlace}
/-- Arguments: an int, a slice of ints, of booleans, of pairs of ints. -/
def AInt (_ : World) (v : Value) : Prop := ∃ x : Int, v = .int .i64 x ∧ WfI x
theorem open_aint (hv : Value.okWide Try.prog w r b0 3 v) (h : DataW.Trod enc Try.prog w base spare held 3 v d p) : AInt w v := by
  obtain ⟨x, rfl, rfl, rfl, hw⟩ := open_int Try.underlying3 hv h
  exact ⟨x, rfl, wf_i hw⟩
def AInts (w : World) (v : Value) : Prop := ∃ xs : List Int, IntsAt w v xs ∧ ∀ x ∈ xs, WfI x
theorem open_aints (hv : Value.okWide Try.prog w r b0 23 v) (h : DataW.Trod enc Try.prog w base spare held 23 v d p) : AInts w v := by
  obtain ⟨A, n, c, rfl⟩ := slice_val Try.underlying23 hv
  obtain ⟨m, hm⟩ := h
  obtain ⟨A', n', c', xs, e, h1, h2, h3⟩ := rd_ints hm
  simp [Value.cells] at e
  obtain ⟨rfl, rfl, rfl⟩ := e
  exact ⟨xs, h1, h3⟩
def ABools (w : World) (v : Value) : Prop := ∃ xs : List Bool, BoolsAt w v xs
theorem open_abools (hv : Value.okWide Try.prog w r b0 32 v) (h : DataW.Trod enc Try.prog w base spare held 32 v d p) : ABools w v := by
  obtain ⟨A, n, c, rfl⟩ := slice_val Try.underlying32 hv
  obtain ⟨m, hm⟩ := h
  obtain ⟨A', n', c', xs, e, h1, h2⟩ := rd_bools hm
  simp [Value.cells] at e
  obtain ⟨rfl, rfl, rfl⟩ := e
  exact ⟨xs, h1⟩
def APairs (w : World) (v : Value) : Prop := ∃ xs : List (Int × Int), CubesAt w v xs ∧ ∀ x ∈ xs, WfI x.1 ∧ WfI x.2
end
end Go.Proofs.Ytopimdakpnnbhaa

namespace Go.Proofs.Ytopimdakpnnbhaa
set_option maxRecDepth 100000
open Go.RowKit Go.Joins Go.ChangeShapes Go.WideShapes Go.ChangeAt Go.Deep
section
variable {H : Type} {enc : TypeId × Value → H} {w : World} {r : Reach} {b0 base : Nat} {spare : Nat → Bool} {held : Bool} {v : Value} {d : DataW H} {p : List MemPlace}
/-- A circuit, as an argument. -/
def ACirc (w : World) (v : Value) : Prop := ∃ c : Cz, CircAt w v c ∧ WfI c.ins ∧ (∀ x ∈ c.next, WfI x) ∧ (∀ x ∈ c.gates, WfI x.1 ∧ WfI x.2) ∧ (∀ x ∈ c.outs, WfI x)
end
theorem CircAt.shape {w : World} {v : Value} {c : Cz} (h : CircAt w v c) : ∃ An cn Ag cg Ao co, v = .agg #[.int .i64 c.ins, .slice An c.next.length cn, .slice Ag c.gates.length cg, .slice Ao c.outs.length co] := by
  obtain ⟨vn, vg, vo, rfl, r1, r2, r3⟩ := h
  obtain ⟨An, cn, rfl, -⟩ := Row.shape r1
  obtain ⟨Ag, cg, rfl, -⟩ := Row.shape r2
  obtain ⟨Ao, co, rfl, -⟩ := Row.shape r3
  exact ⟨An, cn, Ag, cg, Ao, co, rfl⟩
def TCirc (c : Cz) : Ty := fun w v => CircAt w v c
theorem stb_circ (c : Cz) : Stb (fun _ => False) (TCirc c) := fun _ _ _ h ho => h.below (only_below ho)
/-- A circuit in a box of the law's. -/
structure BoxC (w : World) (g : Nat) (c : Cz) (vn vg vo : Value) : Prop where
  pc : PCells w g c.ins vn vg vo
  at_ : CircAt w (.agg #[.int .i64 c.ins, vn, vg, vo]) c
theorem BoxC.below {w w' : World} {g : Nat} {c : Cz} {vn vg vo : Value} (h : BoxC w g c vn vg vo) (hb : Below w.heap.size w w') : BoxC w' g c vn vg vo := ⟨h.pc.below hb, h.at_.below hb⟩
theorem BoxC.made {w : World} {c : Cz} {vn vg vo : Value} (t : TypeId) (h : CircAt w (.agg #[.int .i64 c.ins, vn, vg, vo]) c) : BoxC (w.alloc (.cells #[.int .i64 c.ins, vn, vg, vo] t)) w.heap.size c vn vg vo :=
  ⟨PCells.boxed _ _ _ _ _ _, h.below ((Below.refl _ _).alloc (Nat.le_refl _) _)⟩
end Go.Proofs.Ytopimdakpnnbhaa

namespace Go.Proofs.Ytopimdakpnnbhaa
open Go.RowKit
set_option maxRecDepth 100000
set_option maxHeartbeats 4000000
/-! FindViolation, by the program: no violation for arguments that are none; any arguments. -/
theorem implViol_no (v : Value) (c : Cz) (o : Int) (w : World) (h : CircAt w v c) (hno : Cir.valid c = false ∨ (Cir.valid c = true ∧ o < 0) ∨ (Cir.valid c = true ∧ 0 ≤ o ∧ (c.outs.length : Int) ≤ o)) :
    Calls Try.prog 39 #[v, .int .i64 o] w (OwnViol (Cir.nat c).ins none w) := by
  have HC := Lib.hid h
  obtain ⟨An, cn, Ag, cg, Ao, co, rfl⟩ := h.shape
  have hb0 := bel_new w (.cells #[.int .i64 c.ins, .slice An c.next.length cn, .slice Ag c.gates.length cg, .slice Ao c.outs.length co] 26)
  have hb1 := bel_new (w.alloc (.cells #[.int .i64 c.ins, .slice An c.next.length cn, .slice Ag c.gates.length cg, .slice Ao c.outs.length co] 26)) (.cells #[.int .i64 o] 3)
  have hb2 := bel_new ((w.alloc (.cells #[.int .i64 c.ins, .slice An c.next.length cn, .slice Ag c.gates.length cg, .slice Ao c.outs.length co] 26)).alloc (.cells #[.int .i64 o] 3)) (.cells #[.bool false, .slice none 0 0] 58)
  have hb12 := hb1.trans (hb2.mono hb1.size)
  have B0 := Lib.hid (hb0.trans (hb12.mono hb0.size))
  have PC := Lib.hid ((PCells.boxed w c.ins (.slice An c.next.length cn) (.slice Ag c.gates.length cg) (.slice Ao c.outs.length co) 26).below hb12)
  have hsz : (((w.alloc (.cells #[.int .i64 c.ins, .slice An c.next.length cn, .slice Ag c.gates.length cg, .slice Ao c.outs.length co] 26)).alloc (.cells #[.int .i64 o] 3)).alloc (.cells #[.bool false, .slice none 0 0] 58)).heap.size = w.heap.size + 1 + 1 + 1 := by simp
  have hR : (((w.alloc (.cells #[.int .i64 c.ins, .slice An c.next.length cn, .slice Ag c.gates.length cg, .slice Ao c.outs.length co] 26)).alloc (.cells #[.int .i64 o] 3)).alloc (.cells #[.bool false, .slice none 0 0] 58)).heap[w.heap.size + 1 + 1]? = some (.cells #[.bool false, .slice none 0 0] 58 (0, 0)) := by
    have := heap_alloc_new ((w.alloc (.cells #[.int .i64 c.ins, .slice An c.next.length cn, .slice Ag c.gates.length cg, .slice Ao c.outs.length co] 26)).alloc (.cells #[.int .i64 o] 3)) (.cells #[.bool false, .slice none 0 0] 58)
    rwa [World.size_alloc, World.size_alloc] at this
  have HRes := Lib.hid hR
  have hGo : (((w.alloc (.cells #[.int .i64 c.ins, .slice An c.next.length cn, .slice Ag c.gates.length cg, .slice Ao c.outs.length co] 26)).alloc (.cells #[.int .i64 o] 3)).alloc (.cells #[.bool false, .slice none 0 0] 58)).cell? ⟨w.heap.size + 1, 0, none⟩ = some (.int .i64 o) := by
    have h1 := heap_alloc_new (w.alloc (.cells #[.int .i64 c.ins, .slice An c.next.length cn, .slice Ag c.gates.length cg, .slice Ao c.outs.length co] 26)) (.cells #[.int .i64 o] 3)
    rw [World.size_alloc] at h1
    have h2 := (hb2.block (w.heap.size + 1) (by simp)).trans h1
    exact blk_cell h2 0
  have HGo := Lib.hid hGo
  obtain ⟨z, p0, p1, p2, p3⟩ := PC.out
  have HV := Lib.hid (implValid_any _ _ _ (HC.out.below B0.out))
  have Hno := Lib.hid hno
  clear HC hb0 hb1 hb2 hb12 hR hGo hno
  rcases Hno.out with hv | ⟨hv, h1⟩ | ⟨hv, h1, h2⟩
  ·
    skip
    rw [hv] at HV
    skip
    clear hv Hno
    go_enter Try.func39, Try.ntmps39
    go_wp2_with fail
    generalize ((w.alloc (.cells #[.int .i64 c.ins, .slice An c.next.length cn, .slice Ag c.gates.length cg, .slice Ao c.outs.length co] 26)).alloc (.cells #[.int .i64 o] 3)).alloc (.cells #[.bool false, .slice none 0 0] 58) = W at *
    refine HV.out.mono ?_
    rintro e w1 ⟨rfl, hb1⟩
    have B1 := Lib.hid (B0.out.trans (hb1.mono B0.out.size))
    have PC1 := Lib.hid (PC.out.below hb1)
    have c1 := (hb1.cell (p := ⟨w.heap.size + 1, 0, none⟩) (by simp only; omega)).trans HGo.out
    have hR1 := (hb1.block _ (by omega)).trans HRes.out
    have z1 := hb1.size
    have o0 := blk_cell hR1 0
    have o1 := blk_cell hR1 1
    have b0 := blk_free hR1 0
    have b1 := blk_free hR1 1
    simp at o0 o1
    clear hb1 hR1 p0 p1 p2 p3 z HV HRes PC HGo
    obtain ⟨z, p0, p1, p2, p3⟩ := PC1.out
    go_wp2_with fail
    refine bodyPost_ret (v := .agg #[.bool false, .slice none 0 0]) (by simp [results, Try.results39, go_sem, o0, o1]) rfl ⟨_, rfl, OwnSS.nil _ _ _ _ _ _, ?_⟩
    exact ((B1.out.setCell (by simp only; omega) _).setCell (by simp only; omega) _)
  ·
    have t1 : decide (o < 0) = true := decide_eq_true h1
    rw [hv] at HV
    clear h1
    clear hv Hno
    go_enter Try.func39, Try.ntmps39
    go_wp2_with fail
    generalize ((w.alloc (.cells #[.int .i64 c.ins, .slice An c.next.length cn, .slice Ag c.gates.length cg, .slice Ao c.outs.length co] 26)).alloc (.cells #[.int .i64 o] 3)).alloc (.cells #[.bool false, .slice none 0 0] 58) = W at *
    refine HV.out.mono ?_
    rintro e w1 ⟨rfl, hb1⟩
    have B1 := Lib.hid (B0.out.trans (hb1.mono B0.out.size))
    have PC1 := Lib.hid (PC.out.below hb1)
    have c1 := (hb1.cell (p := ⟨w.heap.size + 1, 0, none⟩) (by simp only; omega)).trans HGo.out
    have hR1 := (hb1.block _ (by omega)).trans HRes.out
    have z1 := hb1.size
    have o0 := blk_cell hR1 0
    have o1 := blk_cell hR1 1
    have b0 := blk_free hR1 0
    have b1 := blk_free hR1 1
    simp at o0 o1
    clear hb1 hR1 p0 p1 p2 p3 z HV HRes PC HGo
    obtain ⟨z, p0, p1, p2, p3⟩ := PC1.out
    go_wp2_with fail
    refine bodyPost_ret (v := .agg #[.bool false, .slice none 0 0]) (by simp [results, Try.results39, go_sem, o0, o1]) rfl ⟨_, rfl, OwnSS.nil _ _ _ _ _ _, ?_⟩
    exact ((B1.out.setCell (by simp only; omega) _).setCell (by simp only; omega) _)
  ·
    have t1 : decide (o < 0) = false := decide_eq_false (by omega)
    rw [hv] at HV
    have t2 : decide ((c.outs.length : Int) ≤ o) = true := decide_eq_true h2
    clear h1 h2
    clear hv Hno
    go_enter Try.func39, Try.ntmps39
    go_wp2_with fail
    generalize ((w.alloc (.cells #[.int .i64 c.ins, .slice An c.next.length cn, .slice Ag c.gates.length cg, .slice Ao c.outs.length co] 26)).alloc (.cells #[.int .i64 o] 3)).alloc (.cells #[.bool false, .slice none 0 0] 58) = W at *
    refine HV.out.mono ?_
    rintro e w1 ⟨rfl, hb1⟩
    have B1 := Lib.hid (B0.out.trans (hb1.mono B0.out.size))
    have PC1 := Lib.hid (PC.out.below hb1)
    have c1 := (hb1.cell (p := ⟨w.heap.size + 1, 0, none⟩) (by simp only; omega)).trans HGo.out
    have hR1 := (hb1.block _ (by omega)).trans HRes.out
    have z1 := hb1.size
    have o0 := blk_cell hR1 0
    have o1 := blk_cell hR1 1
    have b0 := blk_free hR1 0
    have b1 := blk_free hR1 1
    simp at o0 o1
    clear hb1 hR1 p0 p1 p2 p3 z HV HRes PC HGo
    obtain ⟨z, p0, p1, p2, p3⟩ := PC1.out
    go_wp2_with fail
    refine bodyPost_ret (v := .agg #[.bool false, .slice none 0 0]) (by simp [results, Try.results39, go_sem, o0, o1]) rfl ⟨_, rfl, OwnSS.nil _ _ _ _ _ _, ?_⟩
    exact ((B1.out.setCell (by simp only; omega) _).setCell (by simp only; omega) _)
theorem implViol_any (v : Value) (c : Cz) (o : Int) (w : World) (h : CircAt w v c) :
    Calls Try.prog 39 #[v, .int .i64 o] w (OwnViol (Cir.nat c).ins (Cir.violI c o) w) := by
  by_cases hc : Cir.valid c = true ∧ 0 ≤ o ∧ o < c.outs.length
  · obtain ⟨d1, d2⟩ := Cir.nat_ok hc.1
    obtain ⟨m, rfl⟩ := Int.eq_ofNat_of_zero_le hc.2.1
    have hr : Cir.violI c (m : Int) = Cir.viol (Cir.nat c) m := by unfold Cir.violI; rw [if_pos hc]; rfl
    rw [hr]
    exact implViol_ok v (Cir.nat c) m w (by rw [← d1]; exact h) d2 (by rw [← d1]; exact hc.1) (by have := hc.2.2; unfold Cir.nat; simp only [List.length_map]; omega)
  · have hr : Cir.violI c o = none := by unfold Cir.violI; rw [if_neg hc]
    rw [hr]
    exact implViol_no v c o w h (viol_cases hc)
/-! The rows of inputs that lead to a violation, by the reference. -/
def TBits (B : Nat) (xs : List Bool) : Ty := fun w v => RowIn (From B) w 1 v xs.length (bools xs)
theorem stb_bits (B : Nat) (xs : List Bool) : Stb (fun _ => False) (TBits B xs) := fun _ _ _ h ho => RowIn.below h (only_below ho)
def TFront (B : Nat) (xs : List Bool) : Ty := fun w v => ∃ g u, v = .slice (some ⟨g, 0, none⟩) 1 1 ∧ B ≤ g ∧ g < w.heap.size ∧ w.cell? ⟨g, 0, none⟩ = some u ∧ RowIn (From B) w 1 u xs.length (bools xs)
theorem stb_front (B : Nat) (xs : List Bool) : Stb (fun _ => False) (TFront B xs) := by
  rintro v w w' ⟨g, u, rfl, hB, hg, hc, hb⟩ ho
  have hbl := only_below ho
  exact ⟨g, u, rfl, hB, Nat.lt_of_lt_of_le hg ho.size, (hbl.cell (p := ⟨g, 0, none⟩) hg).trans hc, hb.below hbl⟩
def TSS (B : Nat) (xss : List (List Bool)) : Ty := fun w v => SSIn bools (From B) w v xss
theorem stb_ss (B : Nat) (xss : List (List Bool)) : Stb (fun _ => False) (TSS B xss) := fun _ _ _ h ho => h.below (only_below ho)
/-- append of a row of rows to a single one. -/
theorem run_front {w : World} {xs : List Bool} {xss : List (List Bool)} {v y : Value} {B : Nat} (ty : TypeId) (hx : TFront B xs w v) (hy : SSIn bools (From B) w y xss) (hBw : B ≤ w.heap.size) (hn : 0 < xss.length) (hm : xss.length ≤ 1000) :
    ∃ v' w', (Builtin.append_ #[56, 56] ty #[v, y]).run Try.prog w = .ok v' w' ∧ SSIn bools (From B) w' v' (xs :: xss) ∧ Below w.heap.size w w' := by
  obtain ⟨i, hi, hz0, hz1, hz2⟩ := info_parts info_bools2
  obtain ⟨g, u, rfl, hB, hg, hc, hb⟩ := hx
  obtain ⟨vs, hvl, hr, hel⟩ := hy
  obtain ⟨b, o, c, rfl, h1, h2, h3, h4⟩ := Row.open hr.1 hn
  have hcells : vs.length = xss.length * i.size := by rw [hz1]; have := hr.1.len; omega
  have hrun := run_append_grow (P := Try.prog) w 56 ty 32 i _ Try.underlying56 hi hz0 ⟨g, 0, none⟩ 1 1 [u] (by rw [hz1]; rfl) (fun j q hq => by
      cases j with
      | zero => obtain rfl := Option.some.inj hq; exact hc
      | succ j => simp at hq) ⟨b, o, none⟩ xss.length c vs hcells (fun j q hq => by have h5 := h4 j q hq; cases j <;> simpa [Addr.add] using h5) (by omega) (by omega) (by
      rw [hz2]
      exact growslice_fits (by omega) (by omega))
  refine ⟨_, _, hrun, ?_, ?_⟩
  · have hge := grownCap_ge w (1 + xss.length) 1 32
    have hle := grownCap_le_maxLen w (1 + xss.length) 1 32 (by unfold maxLen; omega)
    have hb2 : Below w.heap.size w (w.drew.alloc (.cells ([u].toArray ++ vs.toArray ++ Builtin.zeroCells (Value.cells (.slice none 0 0)) (grownCap w (1 + xss.length) 1 32 - (1 + xss.length))) 32)) := ⟨rfl, rfl, rfl, by simp, fun k hk => heap_alloc_old w.drew _ hk⟩
    refine ⟨u :: vs, by simp [hvl], ⟨⟨by simp [hvl], _, _, by rw [List.length_cons, Nat.add_comm xss.length 1], by rw [List.length_cons]; omega, hle, fun _ => ⟨w.heap.size, 0, rfl, by simp, fun j q hq => ?_⟩⟩, fun _ g hg => ?_⟩, fun i x z hx hz => ?_⟩
    · have h5 := heap_alloc_new w.drew (.cells ([u].toArray ++ vs.toArray ++ Builtin.zeroCells (Value.cells (.slice none 0 0)) (grownCap w (1 + xss.length) 1 32 - (1 + xss.length))) 32)
      have h6 := blk_cell h5 (0 + j)
      refine h6.trans ?_
      rw [Nat.zero_add, ← Array.getElem?_toList]
      simp only [Array.toList_append]
      rw [List.getElem?_append_left (by have := (List.getElem?_eq_some_iff.1 hq).1; simpa using this)]
      simpa using hq
    · obtain rfl := Option.some.inj hg
      exact hBw
    · cases i with
      | zero =>
        obtain rfl := Option.some.inj hx
        obtain rfl := Option.some.inj hz
        exact hb.below hb2
      | succ i => exact (hel i x z hx hz).below hb2
  · exact ⟨rfl, rfl, rfl, by simp, fun k hk => heap_alloc_old w.drew _ hk⟩
end Go.Proofs.Ytopimdakpnnbhaa

namespace Go.Proofs.Ytopimdakpnnbhaa
open Go.RowKit
set_option maxRecDepth 100000
section
variable {S : RS} {Fin : List Ty → Prop} {o : Oper} {l : List Oper} {i : Nat} {τs : List Ty}
/-- A slice of one row, in a region. -/
theorem rs_front0 (hO : S.Ok) (hid : i ≠ S.d ∨ ∀ ov w, S.J ov w) (hE : S.E = fun _ => False) (B : Nat) (hB : B ≤ S.w0.heap.size) (xs : List Bool)
    (h : ∀ ρ w, Only S.E S.w0 w → Known S.ops (tys τs) S.a0 ρ w i o.op.operands.toList → ∃ u, RowIn (From B) w 1 u xs.length (bools xs) ∧ (execOp ρ o).run S.P w = .ok (.value (.slice (some ⟨w.heap.size, 0, none⟩) 1 1)) (w.alloc (.cells #[u] 32)))
    (rest : RSeq S Fin l (i + 1) (TFront B xs :: τs)) : RSeq S Fin (o :: l) i τs := by
  refine rs_alloc hO hid (TFront B xs) (by rw [hE]; exact stb_front B xs) (fun ρ w ho hK => ?_) rest
  obtain ⟨u, h1, h2⟩ := h ρ w ho hK
  exact ⟨_, _, h2, w.heap.size, u, rfl, Nat.le_trans hB ho.size, by simp, blk_cell (heap_alloc_new w _) 0, h1.below (bel_new _ _)⟩
/-- A row in front of rows, in a region. -/
theorem rs_front (hO : S.Ok) (hid : i ≠ S.d ∨ ∀ ov w, S.J ov w) (hE : S.E = fun _ => False) (hF : S.F = fun _ => False) (hrd : S.rd = none) (hP : S.P = Try.prog) (x y : Nat) (B : Nat) (hB : B ≤ S.w0.heap.size) (xs : List Bool) (xss : List (List Bool)) (c : Value)
    (ho : o.op = .call { callee := .builtin .append, args := #[.tmp x, .tmp y], argTypes := #[56, 56] }) (jx jy : Nat) (hx : writer S.ops i x = some jx) (hy : writer S.ops i y = some jy) (hTx : tys τs jx = TFront B xs) (hTy : tys τs jy = TEq c)
    (hs : SSIn bools (From B) S.w0 c xss) (hn : 0 < xss.length) (hm : xss.length ≤ 1000)
    (rest : RSeq S Fin l (i + 1) (TSS B (xs :: xss) :: τs)) : RSeq S Fin (o :: l) i τs := by
  refine rs_plain hO hid (TSS B (xs :: xss)) (by rw [hE]; exact stb_ss B _) (fun k ρ w hk hr hon hK => ?_) rest
  rw [ho] at hK
  have h1 := hK.1
  have h2 := hK.2.1
  rw [hx] at h1
  rw [hy] at h2
  simp only [hTx] at h1
  simp only [hTy] at h2
  have h2' : ρ (.tmp y) = c := h2
  rw [hE] at hon
  obtain ⟨v', w', hrun, hss, hbl⟩ := run_front o.type h1 (hs.below (only_below hon)) (Nat.le_trans hB hon.size) hn hm
  have hre : (execOp ρ o).run S.P w = .ok (.value v') w' := by
    unfold execOp
    rw [hP]
    simp only [ho, resolve, invoke, builtin, Sem.run_bind, Sem.run_pure, Result.andThen_ok, List.map_toArray, List.map_cons, List.map_nil, h2', hrun]
  unfold Good
  rw [hre]
  refine ⟨hss, ?_, ?_⟩
  · rw [hrd]; trivial
  · rw [hF]; exact Only.of_below _ hbl
end
end Go.Proofs.Ytopimdakpnnbhaa

namespace Go.Proofs.Ytopimdakpnnbhaa
open Go.RowKit
set_option maxRecDepth 100000
set_option maxHeartbeats 8000000 in
theorem l16Rows_any (v vf vh : Value) (d : Ci) (l : List (Nat × List Nat)) (fr how : List Nat) (k s x : Nat) (p : List Nat) (w : World) (h : CircAt w v (Cir.toCz d)) (hi : d.ins ≤ 4) (hf : NatsAt w vf fr) (hh : NatsAt w vh how) (hB : Cir.Back l fr how) (hk : l[k]? = some (s, p)) (hl : l.length ≤ 8) (hx : x ≤ 1000) (hy : ∀ y ∈ how, y ≤ 1000) :
    Calls Try.prog 99 #[v, vf, vh, .int .i64 k, .int .i64 x] w fun e w' => (∃ u, e = .returned u ∧ SSIn bools (From w.heap.size) w' u (rowsOf d.ins (p ++ [x]))) ∧ Below w.heap.size w w' := by
  obtain ⟨vn, vg, vo, rfl, r1, r2, r3⟩ := h
  obtain ⟨Af, cf, rfl, hcf, hcfm⟩ := NatsAt.shape hf
  obtain ⟨Ah, ch, rfl, hch, hchm⟩ := NatsAt.shape hh
  unfold maxLen at hcfm hchm
  have hins : (Cir.toCz d).ins = (d.ins : Int) := rfl
  rw [hins]
  have B0 := Lib.hid (bel_new w (.cells #[.int .i64 d.ins, vn, vg, vo] 26))
  have PC := Lib.hid (PCells.boxed w d.ins vn vg vo 26)
  have hsz : (w.alloc (.cells #[.int .i64 d.ins, vn, vg, vo] 26)).heap.size = w.heap.size + 1 := by simp
  have HF := Lib.hid (hf.below B0.out)
  have HH := Lib.hid (hh.below B0.out)
  have HB := Lib.hid hB
  have Hk := Lib.hid hk
  have Hy := Lib.hid hy
  have e1 := hB.l1
  have e2 := hB.l2
  have hkl := (List.getElem?_eq_some_iff.1 hk).1
  obtain ⟨z, p0, p1, p2, p3⟩ := PC.out
  clear r1 r2 r3 hins hf hh hB hk hy
  go_enter Try.func99, Try.ntmps99
  go_wp2_with fail
  generalize w.alloc (.cells #[.int .i64 d.ins, vn, vg, vo] 26) = W at *
  refine (l4Bits_any x d.ins _ (by omega) (by omega)).mono ?_
  rintro e w1 ⟨v1, rfl, ho1, hb1⟩
  obtain ⟨A1, c1, hv1⟩ := slice_of_own ho1
  subst hv1
  have hbl := bel_new w1 (.cells #[.slice A1 (Cir.bits x d.ins).length c1] 32)
  have hbW := hb1.trans (hbl.mono hb1.size)
  have HS0 : Hid (SSIn bools (From w.heap.size) (w1.alloc (.cells #[.slice A1 (Cir.bits x d.ins).length c1] 32)) (.slice (some ⟨w1.heap.size, 0, none⟩) 1 1) (rowsOf d.ins [x])) := Lib.hid ⟨[.slice A1 (Cir.bits x d.ins).length c1], rfl, (RowIn.of_own (World.ownsRow_lit (base := w1.heap.size) (e := 32) (size := 1) w1 #[.slice A1 (Cir.bits x d.ins).length c1] 1 (Nat.le_refl _) (by unfold maxLen; omega) rfl)).mono (fun g hg => by have := hg.1; have := hb1.size; unfold From; omega), fun i y u hy hu => by
    cases i with
    | zero =>
      obtain rfl := Option.some.inj hy
      obtain rfl := Option.some.inj hu
      exact ((RowIn.of_own ho1).mono (fun g hg => by have := hg.1; unfold From; omega)).below hbl
    | succ i => simp [rowsOf] at hy⟩
  have HbW := Lib.hid hbW
  have zW := hb1.size
  clear hbW hbl hb1 ho1 p0 p1 p2 p3 z
  go_wp2_with fail
  generalize w1.alloc (.cells #[.slice A1 (Cir.bits x d.ins).length c1] 32) = w2 at *
  go_loopw [3, 11] (fun i u wr => ∃ (q s' : Nat) (p' tail : List Nat) (uu : Value), uu = u ∧ i = .int .i64 q ∧ Hid (l[q]? = some (s', p')) ∧ Hid (p ++ [x] = p' ++ tail) ∧ 0 < tail.length ∧ tail.length + q ≤ 1 + k ∧ Hid (SSIn bools (From w.heap.size) wr u (rowsOf d.ins tail)) ∧ Below W.heap.size W wr) (fun i _ _ => (intOf i).toNat)
  case atStart => exact ⟨k, s, p, [x], _, rfl, rfl, Hk, Lib.hid rfl, by simp, by rw [List.length_singleton]; omega, HS0, HbW.out⟩
  case round =>
    obtain ⟨q, s', p', tail, uu, huu, rfl, Hq, Ht, ht0, ht1, HS, hb⟩ := hrel
    subst huu
    have Hb := Lib.hid hb
    have hzb := hb.size
    clear HS0 HbW
    have PCr := Lib.hid (PC.out.below hb)
    obtain ⟨z, p0, p1, p2, p3⟩ := PCr.out
    have hql := (List.getElem?_eq_some_iff.1 Hq.out).1
    clear hb
    by_cases hq0 : 0 < q
    · obtain ⟨i, y, s2, p2', f1, f2, f3, f4, f5⟩ := HB.out.step q s' p' Hq.out hq0
      have Hf4 := Lib.hid f4
      have Ht2 : Hid (p ++ [x] = p2' ++ (y :: tail)) := Lib.hid (by rw [Ht.out, f5]; simp)
      have hyl := Hy.out y (List.mem_of_getElem? f3)
      have F1 := Lib.hid f1
      obtain ⟨bh, oh, y', rfl, hbhl, hyx, hys⟩ := nats_cell (nats_row HH.out) rfl (show q < how.length by omega)
      obtain rfl : y' = y := Option.some.inj (hyx.out.symm.trans f3)
      obtain ⟨bf, of, i', rfl, hbfl, hix, his⟩ := nats_cell (nats_row HF.out) rfl (show q < fr.length by omega)
      obtain rfl : i' = i := Option.some.inj (hix.out.symm.trans F1.out)
      have hlen : (rowsOf d.ins tail).length = tail.length := rowsOf_length _ _
      obtain ⟨Au, cu, hvu, -⟩ := HS.out.at.shape
      subst hvu
      have hcons : rowsOf d.ins (y' :: tail) = Cir.bits y' d.ins :: rowsOf d.ins tail := rfl
      have Hcons := Lib.hid hcons
      have hc1 := (Hb.out.cell (p := ⟨bh, oh + q, none⟩) hbhl).trans hys
      have hdq : decide (0 < q) = true := decide_eq_true hq0
      clear f1 f3 f4 f5 hcons Ht hys
      generalize rowsOf d.ins tail = R at *
      go_wp2_with fail
      obtain ⟨w4, hw4⟩ : ∃ w4, w4 = wr := ⟨_, rfl⟩
      subst hw4
      refine wp_region_rs (quietRS Try.prog _ w4 _) quietRS_ok (by kernel_rfl) (by kernel_rfl) (by kernel_rfl) (Nat.le_of_ble_eq_true rfl) trivial trivial ?_
      refine rs_old quietRS_ok quiet_any _ (.inl rfl) _ rfl rfl ?_
      refine rs_old quietRS_ok quiet_any _ (.inl rfl) _ rfl rfl ?_
      apply rs_eq quietRS_ok quiet_any
      · intro ρ w' ho hK
        have ho : Only _ w4 w' := ho
        obtain ⟨h0, h1, -⟩ := hK
        have h0' : ρ (.tmp 19) = _ := h0
        have h1' : ρ (.tmp 20) = _ := h1
        go_simp
        try exact rfl
      apply rs_eq quietRS_ok quiet_any
      · intro ρ w' ho hK
        have ho : Only _ w4 w' := ho
        obtain ⟨h0, -⟩ := hK
        have h0' : ρ (.tmp 21) = _ := h0
        have hb := only_below ho
        have q0 := (hb.cell (p := ⟨w.heap.size, 0, none⟩) z).trans p0
        have q4 := (hb.cell (p := ⟨bh, oh + q, none⟩) (Nat.lt_of_lt_of_le hbhl hzb)).trans hc1
        go_simp
        try exact rfl
      apply rs_eq quietRS_ok quiet_any
      · intro ρ w' ho hK
        have ho : Only _ w4 w' := ho
        obtain ⟨h0, -⟩ := hK
        have h0' : ρ (.tmp 5) = _ := h0
        go_simp
        try exact rfl
      apply rs_eq quietRS_ok quiet_any
      · intro ρ w' ho hK
        have ho : Only _ w4 w' := ho
        obtain ⟨h0, -⟩ := hK
        have h0' : ρ (.tmp 23) = _ := h0
        have hb := only_below ho
        have q0 := (hb.cell (p := ⟨w.heap.size, 0, none⟩) z).trans p0
        have q4 := (hb.cell (p := ⟨bh, oh + q, none⟩) (Nat.lt_of_lt_of_le hbhl hzb)).trans hc1
        go_simp
        try exact rfl
      refine rs_call quietRS_ok quiet_any (TBits w.heap.size (Cir.bits y' d.ins)) (stb_bits _ _) 90 _ _ rfl (fun ρ w' ho hK => by
        have ho : Only _ w4 w' := ho
        obtain ⟨h0, h1, h2, -⟩ := hK
        have h0' : ρ (.func 90) = .func (.func 90) #[] #[] := h0
        have h1' : ρ (.tmp 22) = _ := h1
        have h2' : ρ (.tmp 24) = _ := h2
        refine ⟨#[ρ (.tmp 22), ρ (.tmp 24)], ?_, ?_⟩
        · go_simp
        · rw [h1', h2']
          refine (l4Bits_any y' d.ins w' (by omega) (by omega)).mono ?_
          rintro e w2 ⟨v2, rfl, hO, hb⟩
          exact ⟨v2, rfl, (RowIn.of_own hO).mono (fun g hg => by have := hg.1; have := ho.size; unfold From; omega), hb⟩) ?_
      refine rs_front0 quietRS_ok quiet_any rfl w.heap.size (show w.heap.size ≤ w4.heap.size by omega) (Cir.bits y' d.ins) (fun ρ w' ho hK => by
        obtain ⟨h0, -⟩ := hK
        have h0' : RowIn (From w.heap.size) w' 1 (ρ (.tmp 25)) (Cir.bits y' d.ins).length (bools (Cir.bits y' d.ins)) := h0
        obtain ⟨A9, c9, e9, -, -⟩ := Row.shape h0'.1
        refine ⟨.slice A9 _ c9, e9 ▸ h0', ?_⟩
        clear h0' h0
        go_simp) ?_
      refine rs_old quietRS_ok quiet_any _ (.inl rfl) _ rfl rfl ?_
      refine rs_front quietRS_ok quiet_any rfl rfl rfl rfl 26 27 w.heap.size (show w.heap.size ≤ w4.heap.size by omega) _ R _ rfl _ _ rfl rfl rfl rfl HS.out (by omega) (by omega) ?_
      refine rs_same quietRS_ok quiet_any 28 9 (.inr rfl) rfl _ rfl ?_
      intro f w9 k9 hk9 hI9 ht9 hcp9
      have E0 : f 0 = _ := ht9 0 (Nat.le_of_ble_eq_true rfl)
      conv at E0 => rhs; whnf
      have E1 : f 1 = _ := ht9 1 (Nat.le_of_ble_eq_true rfl)
      conv at E1 => rhs; whnf
      have E2 : f 2 = _ := ht9 2 (Nat.le_of_ble_eq_true rfl)
      have E3 : f 3 = _ := ht9 3 (Nat.le_of_ble_eq_true rfl)
      have E4 : f 4 = _ := ht9 4 (Nat.le_of_ble_eq_true rfl)
      have E5 : f 5 = _ := ht9 5 (Nat.le_of_ble_eq_true rfl)
      have E6 : (TBits w.heap.size (Cir.bits y' d.ins)) w9 (f 6) := ht9 6 (Nat.le_of_ble_eq_true rfl)
      have E7 : (TFront w.heap.size (Cir.bits y' d.ins)) w9 (f 7) := ht9 7 (Nat.le_of_ble_eq_true rfl)
      have E8 : f 8 = _ := ht9 8 (Nat.le_of_ble_eq_true rfl)
      conv at E8 => rhs; whnf
      have E9 : (TSS w.heap.size (Cir.bits y' d.ins :: R)) w9 (f 9) := ht9 9 (Nat.le_of_ble_eq_true rfl)
      have E10 : (TSS w.heap.size (Cir.bits y' d.ins :: R)) w9 (f 10) := ht9 10 (Nat.le_of_ble_eq_true rfl)
      have Ho9 : Only _ w4 w9 := hI9.2.1
      have C10 : f 10 = f 9 := (hcp9 10 _ 28 9 rfl rfl rfl rfl).2
      simp only [putAll, E0, E1, E2, E3, E4, E5, E8, C10, Nat.zero_add, Nat.reduceAdd, Act.put, List.setIfInBounds_toArray, List.set_cons_succ, List.set_cons_zero]
      clear E0 E1 E2 E3 E4 E5 E8
      clear hI9 ht9 hcp9 hk9
      generalize f 6 = r6 at *
      generalize f 7 = r7 at *
      generalize f 9 = r9 at *
      have hb9 := only_below Ho9
      have HS9 := Lib.hid (show SSIn bools (From w.heap.size) w9 r9 (Cir.bits y' d.ins :: R) from E9)
      have Hb9 := Lib.hid (Hb.out.trans (hb9.mono hzb))
      have hc2 := (Hb9.out.cell (p := ⟨bf, of + q, none⟩) hbfl).trans his
      clear hb9 Ho9 E9 E7 E6 p0 p1 p2 p3 z
      obtain ⟨w5, hw5⟩ : ∃ w5, w5 = w9 := ⟨_, rfl⟩
      subst hw5
      go_wp2_with fail
      go_roundw
      case rel => exact ⟨i', s2, p2', y' :: tail, _, rfl, rfl, Hf4, Ht2, by simp, by rw [List.length_cons]; omega, Lib.hid (by rw [Hcons.out]; exact HS9.out), Hb9.out⟩
      case measure => simp [intOf] <;> omega
    · obtain rfl : q = 0 := by omega
      obtain ⟨s0, h0⟩ := HB.out.zero
      have hp : p' = [] := by rw [h0] at Hq; exact (Prod.mk.inj (Option.some.inj Hq.out)).2.symm
      have HT : Hid (p ++ [x] = tail) := Lib.hid (by rw [Ht.out, hp]; rfl)
      clear hp h0
      obtain ⟨Au, cu, hvu, -⟩ := HS.out.at.shape
      subst hvu
      go_wp2_with fail
      go_ret
      exact ⟨⟨_, rfl, by rw [HT.out]; exact HS.out⟩, B0.out.trans (Hb.out.mono B0.out.size)⟩
end Go.Proofs.Ytopimdakpnnbhaa
