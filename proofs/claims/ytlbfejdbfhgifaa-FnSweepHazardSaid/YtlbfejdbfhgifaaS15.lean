import Derived.Test.YtlbfejdbfhgifaaS10
import Derived.Test.YtlbfejdbfhgifaaS13
import Derived.Laws.BytesArg
import Derived.Test.YtlbfejdbfhgifaaS03
set_option linter.unusedVariables false
set_option linter.unusedSimpArgs false
namespace Go.Proofs.Ytlbfejdbfhgifaa
namespace Cir
/-! Simulation, plainly; reachable states as states of runs; what the inputs of a violation do. -/
theorem num_bit : ∀ (l : List Bool) (i : Nat), (num l).testBit i = l.getD i false
  | [], i => by simp [num]
  | b :: l, 0 => by
    rw [num, Nat.testBit_zero]
    cases b <;> simp <;> omega
  | b :: l, i + 1 => by
    rw [num, Nat.testBit_succ, show ((if b = true then 1 else 0) + 2 * num l) / 2 = num l from by cases b <;> simp <;> omega, num_bit l i]
    simp
theorem bits_num (l : List Bool) : bits (num l) l.length = l := by
  unfold bits
  apply List.ext_getElem
  · simp
  · intro i h1 h2
    simp [num_bit, List.getElem?_eq_getElem h2]
theorem bits_numL {l : List Bool} {n : Nat} (h : l.length = n) : bits (num l) n = l := h ▸ bits_num l
theorem lits_len (v : List Bool) (ls : List Nat) : (lits v ls).length = ls.length := List.length_map _
/-- The outputs, cycle by cycle. -/
def simL (c : Ci) : List Bool → List (List Bool) → List (List Bool)
  | _, [] => []
  | st, r :: rs => lits (vals c st r) c.outs :: simL c (lits (vals c st r) c.next) rs
/-- The state behind some cycles. -/
def runL (c : Ci) : List Bool → List (List Bool) → List Bool
  | st, [] => st
  | st, r :: rs => runL c (lits (vals c st r) c.next) rs
theorem simL_length (c : Ci) : ∀ (rs : List (List Bool)) (st : List Bool), (simL c st rs).length = rs.length
  | [], _ => rfl
  | r :: rs, st => by rw [simL, List.length_cons, simL_length c rs, List.length_cons]
theorem simL_snoc (c : Ci) (r : List Bool) : ∀ (rs : List (List Bool)) (st : List Bool), simL c st (rs ++ [r]) = simL c st rs ++ [lits (vals c (runL c st rs) r) c.outs]
  | [], _ => rfl
  | q :: rs, st => by rw [List.cons_append, simL, simL_snoc c r rs, simL, runL, List.cons_append]
theorem runL_snoc (c : Ci) (r : List Bool) : ∀ (rs : List (List Bool)) (st : List Bool), runL c st (rs ++ [r]) = lits (vals c (runL c st rs) r) c.next
  | [], _ => rfl
  | q :: rs, st => by rw [List.cons_append, runL, runL_snoc c r rs, runL]
theorem runL_append (c : Ci) (ts : List (List Bool)) : ∀ (rs : List (List Bool)) (st : List Bool), runL c st (rs ++ ts) = runL c (runL c st rs) ts
  | [], _ => rfl
  | q :: rs, st => by rw [List.cons_append, runL, runL_append c ts rs, runL]
theorem runL_length (c : Ci) : ∀ (rs : List (List Bool)) (st : List Bool), st.length = c.next.length → (runL c st rs).length = c.next.length
  | [], _, h => h
  | r :: rs, st, _ => runL_length c rs _ (lits_len _ _)
/-- The same, of numbers. -/
def runN (c : Ci) : Nat → List Nat → Nat
  | s, [] => s
  | s, x :: xs => runN c (nextOf c s x) xs
theorem runN_snoc (c : Ci) (x : Nat) : ∀ (xs : List Nat) (s : Nat), runN c s (xs ++ [x]) = nextOf c (runN c s xs) x
  | [], _ => rfl
  | y :: xs, s => by rw [List.cons_append, runN, runN_snoc c x xs, runN]
def rowsN (n : Nat) (xs : List Nat) : List (List Bool) := xs.map fun x => bits x n
theorem lits_next (c : Ci) (s x : Nat) : lits (vals c (bits s c.next.length) (bits x c.ins)) c.next = bits (nextOf c s x) c.next.length := (bits_numL (lits_len _ _)).symm
theorem runL_rows (c : Ci) : ∀ (xs : List Nat) (s : Nat), runL c (bits s c.next.length) (rowsN c.ins xs) = bits (runN c s xs) c.next.length
  | [], _ => rfl
  | x :: xs, s => by
    show runL c (lits (vals c (bits s c.next.length) (bits x c.ins)) c.next) (rowsN c.ins xs) = _
    rw [lits_next, runL_rows c xs]
    rfl
theorem simL_rows (c : Ci) : ∀ (xs : List Nat) (s i : Nat), (simL c (bits s c.next.length) (rowsN c.ins xs))[i]? = (xs[i]?).map fun x => outsOf c (runN c s (xs.take i)) x
  | [], _, i => by simp [rowsN, simL]
  | x :: xs, s, 0 => rfl
  | x :: xs, s, i + 1 => by
    show (simL c (lits (vals c (bits s c.next.length) (bits x c.ins)) c.next) (rowsN c.ins xs))[i]? = _
    rw [lits_next, simL_rows c xs, List.getElem?_cons_succ, List.take_succ_cons]
    rfl
theorem bits_zero (n : Nat) : bits 0 n = List.replicate n false := by
  unfold bits
  apply List.ext_getElem
  · simp
  · intro i h1 h2; simp
/-! ### Reachable states -/
theorem mem_push {l : List Nat} {n x : Nat} : x ∈ push l n ↔ x ∈ l ∨ x = n := by
  unfold push
  cases h : l.contains n
  · simp
  · have hn : n ∈ l := by simpa using h
    simp only [if_true]
    exact ⟨.inl, fun h => h.elim id fun e => e ▸ hn⟩
theorem mem_pushes {c : Ci} {s : Nat} {l : List Nat} {y : Nat} : ∀ {j : Nat}, y ∈ pushes c s j l ↔ y ∈ l ∨ ∃ x, x < j ∧ nextOf c s x = y
  | 0 => by rw [pushes_zero]; exact ⟨.inl, fun h => h.elim id fun ⟨x, hx, _⟩ => absurd hx (by omega)⟩
  | j + 1 => by
    rw [pushes_succ, mem_push, mem_pushes (j := j)]
    constructor
    · rintro ((h | ⟨x, hx, h⟩) | h)
      · exact .inl h
      · exact .inr ⟨x, by omega, h⟩
      · exact .inr ⟨j, by omega, h.symm⟩
    · rintro (h | ⟨x, hx, h⟩)
      · exact .inl (.inl h)
      · rcases Nat.lt_or_ge x j with hj | hj
        · exact .inl (.inr ⟨x, hj, h⟩)
        · exact .inr (by rw [← h, show x = j from by omega])
theorem bfs_get {c : Ci} : ∀ (f k : Nat) {l : List Nat} {i x : Nat}, l[i]? = some x → (bfs c f k l)[i]? = some x
  | 0, _, _, _, _, h => h
  | f + 1, k, l, i, x, h => by
    rw [bfs]
    split
    · exact h
    · exact bfs_get f (k + 1) (pushes_get h)
theorem bfs_closed {c : Ci} (hc : Ok c) : ∀ (f k : Nat) (l : List Nat), 9 ≤ f + k → Sts c l → k ≤ l.length → (∀ i s, i < k → l[i]? = some s → ∀ x, x < 2 ^ c.ins → nextOf c s x ∈ l) → ∀ s ∈ bfs c f k l, ∀ x, x < 2 ^ c.ins → nextOf c s x ∈ bfs c f k l
  | 0, k, l, hf, hl, hk, _ => absurd (hl.len hc) (by omega)
  | f + 1, k, l, hf, hl, hk, h => by
    rw [bfs]
    cases hs : l[k]? with
    | none =>
      intro s hm x hx
      have hm : s ∈ l := hm
      obtain ⟨i, hi, rfl⟩ := List.mem_iff_getElem.1 hm
      have hkl : l.length ≤ k := by simpa using hs
      exact h i _ (by omega) (List.getElem?_eq_getElem hi) x hx
    | some t =>
      simp only
      obtain ⟨hkl, ht⟩ := List.getElem?_eq_some_iff.1 hs
      obtain ⟨m, hm⟩ := pushes_prefix c t l (2 ^ c.ins)
      refine bfs_closed hc f (k + 1) _ (by omega) (hl.pushes t _) (by rw [hm, List.length_append]; omega) fun i s hi hs' x hx => ?_
      have hil : i < l.length := by omega
      rw [hm, List.getElem?_append_left hil] at hs'
      rcases Nat.lt_or_ge i k with h1 | h1
      · exact mem_pushes.2 (.inl (h i s h1 hs' x hx))
      · obtain rfl : i = k := by omega
        rw [hs] at hs'
        obtain rfl := Option.some.inj hs'
        exact mem_pushes.2 (.inr ⟨x, hx, rfl⟩)
theorem reach_closed {c : Ci} (hc : Ok c) {s x : Nat} (h : s ∈ reach c) (hx : x < 2 ^ c.ins) : nextOf c s x ∈ reach c :=
  bfs_closed hc 9 0 [0] (by omega) (Sts.zero c) (by omega) (fun i s hi => by omega) s h x hx
theorem reach_zero (c : Ci) : 0 ∈ reach c := List.mem_of_getElem? (bfs_get (c := c) 9 0 (l := [0]) (i := 0) rfl)
def Inputs (c : Ci) (p : List Nat) : Prop := ∀ x ∈ p, x < 2 ^ c.ins
theorem Inputs.snoc {c : Ci} {p : List Nat} {x : Nat} (h : Inputs c p) (hx : x < 2 ^ c.ins) : Inputs c (p ++ [x]) := fun y hy => by
  rcases List.mem_append.1 hy with h1 | h1
  · exact h y h1
  · rw [List.mem_singleton.1 h1]; exact hx
theorem Inputs.take {c : Ci} {p : List Nat} (h : Inputs c p) (i : Nat) : Inputs c (p.take i) := fun x hx => h x (List.mem_of_mem_take hx)
theorem run_reach {c : Ci} (hc : Ok c) : ∀ (p : List Nat) (s : Nat), s ∈ reach c → Inputs c p → runN c s p ∈ reach c
  | [], _, h, _ => h
  | x :: p, s, h, hp => run_reach hc p _ (reach_closed hc h (hp x (by simp))) fun y hy => hp y (List.mem_cons_of_mem _ hy)
theorem bfs_run {c : Ci} : ∀ (f k : Nat) (l : List Nat), (∀ s ∈ l, ∃ p, Inputs c p ∧ runN c 0 p = s) → ∀ s ∈ bfs c f k l, ∃ p, Inputs c p ∧ runN c 0 p = s
  | 0, _, _, h => h
  | f + 1, k, l, h => by
    rw [bfs]
    cases hs : l[k]? with
    | none => exact h
    | some t =>
      refine bfs_run f (k + 1) _ fun s hm => ?_
      rcases mem_pushes.1 hm with h1 | ⟨x, hx, h1⟩
      · exact h s h1
      · obtain ⟨p, hp, hr⟩ := h t (List.mem_of_getElem? hs)
        exact ⟨p ++ [x], hp.snoc hx, by rw [runN_snoc, hr, h1]⟩
theorem reach_run {c : Ci} {s : Nat} (h : s ∈ reach c) : ∃ p, Inputs c p ∧ runN c 0 p = s :=
  bfs_run 9 0 [0] (fun s hs => ⟨[], fun x hx => (by cases hx), (List.mem_singleton.1 hs).symm⟩) s h
/-! ### Violations -/
theorem vfind_no {c : Ci} {o s M : Nat} (h : vfind c o s M = none) {x : Nat} (hx : x < M) : bad c o s x = false := by
  unfold vfind at h
  rw [List.find?_eq_none] at h
  simpa using h x (List.mem_range.2 hx)
theorem vfind_hit {c : Ci} {o s M x : Nat} (h : vfind c o s M = some x) : x < M ∧ bad c o s x = true := by
  unfold vfind at h
  exact ⟨List.mem_range.1 (List.mem_of_find?_eq_some h), List.find?_some h⟩
theorem vbfs_none {c : Ci} (hc : Ok c) (o : Nat) : ∀ (f k : Nat) (l : List (Nat × List Nat)), 9 ≤ f + k → Vs c l → k ≤ l.length →
    (vbfs c o f k l = none ↔ ∀ i s, k ≤ i → (bfs c f k (vsts l))[i]? = some s → ∀ x, x < 2 ^ c.ins → bad c o s x = false)
  | 0, k, l, hf, hl, hk => absurd (hl.size hc) (by omega)
  | f + 1, k, l, hf, hl, hk => by
    rw [vbfs, bfs]
    cases hs : l[k]? with
    | none =>
      have hkl : l.length ≤ k := by simpa using hs
      have hv : (vsts l)[k]? = none := by rw [List.getElem?_eq_none_iff, vsts_length]; exact hkl
      rw [hv]
      refine ⟨fun _ i s hi h => ?_, fun _ => rfl⟩
      simp only at h
      rw [List.getElem?_eq_none (by rw [vsts_length]; omega)] at h
      cases h
    | some sp =>
      obtain ⟨s, p⟩ := sp
      have hv := vsts_get hs
      rw [hv]
      have hkl := (List.getElem?_eq_some_iff.1 hs).1
      obtain ⟨m, hm⟩ := vpushes_prefix c s p l (2 ^ c.ins)
      have hget : ∀ F K L i y, (vsts l)[i]? = some y → (bfs c F K (pushes c s L (vsts l)))[i]? = some y := fun F K L i y h => bfs_get F K (pushes_get h)
      simp only
      cases hfd : vfind c o s (2 ^ c.ins) with
      | some x =>
        obtain ⟨h1, h2⟩ := vfind_hit hfd
        refine ⟨fun h => (by cases h), fun h => ?_⟩
        have := h k s (Nat.le_refl _) (hget _ _ _ _ _ hv) x h1
        rw [h2] at this; cases this
      | none =>
        have IH := vbfs_none hc o f (k + 1) (vpushes c s p (2 ^ c.ins) l) (by omega) (hl.pushes hs _ (Nat.le_refl _)) (by rw [hm, List.length_append]; omega)
        rw [vsts_vpushes] at IH
        rw [IH]
        constructor
        · intro h i t hi ht x hx
          rcases Nat.lt_or_ge k i with h1 | h1
          · exact h i t h1 ht x hx
          · obtain rfl : i = k := by omega
            rw [hget _ _ _ _ _ hv] at ht
            obtain rfl := Option.some.inj ht
            exact vfind_no hfd hx
        · exact fun h i t hi ht x hx => h i t (by omega) ht x hx
theorem viol_none {c : Ci} (hc : Ok c) {o : Nat} : viol c o = none ↔ ∀ s ∈ reach c, ∀ x, x < 2 ^ c.ins → bad c o s x = false := by
  rw [viol, vbfs_none hc o 9 0 _ (by omega) (Vs.zero c) (by omega)]
  constructor
  · intro h s hs x hx
    obtain ⟨i, hi, rfl⟩ := List.mem_iff_getElem.1 hs
    exact h i _ (Nat.zero_le _) (List.getElem?_eq_getElem hi) x hx
  · exact fun h i s _ hs x hx => h s (List.mem_of_getElem? hs) x hx
/-- The output is 0 in all cycles. -/
def clean (c : Ci) (o : Nat) : Nat → List Nat → Bool
  | _, [] => true
  | s, x :: xs => !bad c o s x && clean c o (nextOf c s x) xs
theorem clean_snoc (c : Ci) (o x : Nat) : ∀ (p : List Nat) (s : Nat), clean c o s (p ++ [x]) = (clean c o s p && !bad c o (runN c s p) x)
  | [], s => by simp [clean, runN]
  | y :: p, s => by rw [List.cons_append, clean, clean_snoc c o x p, clean, runN, Bool.and_assoc]
theorem clean_get {c : Ci} {o : Nat} : ∀ (p : List Nat) (s i : Nat) {x : Nat}, clean c o s p = true → p[i]? = some x → bad c o (runN c s (p.take i)) x = false
  | [], _, _, _, _, h => by simp at h
  | y :: p, s, 0, x, h, hx => by
    rw [clean, Bool.and_eq_true] at h
    obtain rfl : y = x := by simpa using hx
    simpa [runN] using h.1
  | y :: p, s, i + 1, x, h, hx => by
    rw [clean, Bool.and_eq_true] at h
    rw [List.take_succ_cons, runN]
    exact clean_get p _ i h.2 (by simpa using hx)
theorem viol_none_clean {c : Ci} (hc : Ok c) {o : Nat} (h : viol c o = none) : ∀ (p : List Nat) (s : Nat), s ∈ reach c → Inputs c p → clean c o s p = true
  | [], _, _, _ => rfl
  | x :: p, s, hs, hp => by
    have hx := hp x (by simp)
    rw [clean, (viol_none hc).1 h s hs x hx, viol_none_clean hc h p _ (reach_closed hc hs hx) fun y hy => hp y (List.mem_cons_of_mem _ hy)]
    rfl
theorem viol_none_of {c : Ci} (hc : Ok c) {o : Nat} (h : ∀ p, Inputs c p → clean c o 0 p = true) : viol c o = none := by
  refine (viol_none hc).2 fun s hs x hx => ?_
  obtain ⟨p, hp, rfl⟩ := reach_run hs
  have := h _ (hp.snoc hx)
  rw [clean_snoc, Bool.and_eq_true] at this
  simpa using this.2
def Paths (c : Ci) (o : Nat) (l : List (Nat × List Nat)) : Prop := ∀ e ∈ l, Inputs c e.2 ∧ runN c 0 e.2 = e.1 ∧ clean c o 0 e.2 = true
theorem Paths.pushes {c : Ci} {o : Nat} {l : List (Nat × List Nat)} (h : Paths c o l) {s : Nat} {p : List Nat} (hp : (s, p) ∈ l) (hb : ∀ x, x < 2 ^ c.ins → bad c o s x = false) : ∀ j, j ≤ 2 ^ c.ins → Paths c o (vpushes c s p j l)
  | 0, _ => h
  | j + 1, hj => by
    have IH := Paths.pushes h hp hb j (by omega)
    rw [vpushes_succ]
    unfold vpush
    split
    · exact IH
    · intro e he
      rcases List.mem_append.1 he with h1 | h1
      · exact IH e h1
      · obtain rfl := List.mem_singleton.1 h1
        obtain ⟨a1, a2, a3⟩ := h _ hp
        simp only at a1 a2 a3
        exact ⟨a1.snoc (by omega), by rw [runN_snoc, a2], by rw [clean_snoc, a3, a2, hb j (by omega)]; rfl⟩
theorem vbfs_path {c : Ci} (o : Nat) : ∀ (f k : Nat) (l : List (Nat × List Nat)), Paths c o l → ∀ r, vbfs c o f k l = some r → ∃ q x, r = q ++ [x] ∧ Inputs c q ∧ x < 2 ^ c.ins ∧ clean c o 0 q = true ∧ bad c o (runN c 0 q) x = true
  | 0, _, _, _, r, h => by cases h
  | f + 1, k, l, hl, r, h => by
    rw [vbfs] at h
    cases hs : l[k]? with
    | none => rw [hs] at h; cases h
    | some sp =>
      obtain ⟨s, p⟩ := sp
      rw [hs] at h
      simp only at h
      have hm := List.mem_of_getElem? hs
      cases hfd : vfind c o s (2 ^ c.ins) with
      | some x =>
        rw [hfd] at h
        obtain ⟨h1, h2⟩ := vfind_hit hfd
        obtain ⟨a1, a2, a3⟩ := hl _ hm
        simp only at a1 a2 a3
        exact ⟨p, x, (Option.some.inj h).symm, a1, h1, a3, by rw [a2]; exact h2⟩
      | none =>
        rw [hfd] at h
        exact vbfs_path o f (k + 1) _ (hl.pushes hm (fun x hx => vfind_no hfd hx) _ (Nat.le_refl _)) r h
theorem viol_path {c : Ci} {o : Nat} {r : List Nat} (h : viol c o = some r) : ∃ q x, r = q ++ [x] ∧ Inputs c q ∧ x < 2 ^ c.ins ∧ clean c o 0 q = true ∧ bad c o (runN c 0 q) x = true :=
  vbfs_path o 9 0 _ (fun e he => by
    obtain rfl := List.mem_singleton.1 he
    exact ⟨fun x hx => (by cases hx), rfl, rfl⟩) r h
/-- The output is 1 in the last cycle alone. -/
theorem viol_outs {c : Ci} {o : Nat} {r : List Nat} (h : viol c o = some r) {i x : Nat} (hi : r[i]? = some x) : bad c o (runN c 0 (r.take i)) x = (i + 1 == r.length) := by
  obtain ⟨q, y, rfl, -, -, h3, h4⟩ := viol_path h
  have hlt := (List.getElem?_eq_some_iff.1 hi).1
  rw [List.length_append, List.length_singleton] at hlt ⊢
  rcases Nat.lt_or_ge i q.length with h1 | h1
  · rw [List.getElem?_append_left h1] at hi
    rw [List.take_append_of_le_length (by omega), clean_get q 0 i h3 hi]
    symm
    rw [beq_eq_false_iff_ne]
    omega
  · obtain rfl : i = q.length := by omega
    rw [List.getElem?_append_right (Nat.le_refl _), Nat.sub_self] at hi
    obtain rfl : y = x := by simpa using hi
    rw [List.take_left, h4]
    simp
theorem viol_pos {c : Ci} {o : Nat} {r : List Nat} (h : viol c o = some r) : 0 < r.length := by
  obtain ⟨q, y, rfl, -⟩ := viol_path h
  simp
end Cir
end Go.Proofs.Ytlbfejdbfhgifaa

namespace Go.Proofs.Ytlbfejdbfhgifaa
/-! Merging equivalent variables, plainly. -/
namespace Cir
/-- The values of a variable for all assignments. -/
def colV (c : Ci) (v : Nat) : List Bool := (List.range (2 ^ (c.ins + c.next.length))).map fun x => (vals c (bits (x / 2 ^ c.ins) c.next.length) (bits x c.ins)).getD v false
/-- The number of the first n places where two lists agree. -/
def eqs (a b : List Bool) : Nat → Nat
  | 0 => 0
  | n + 1 => eqs a b n + (if a.getD n false = b.getD n false then 1 else 0)
def cmpC (a b : List Bool) : Int := if eqs a b a.length = a.length then 1 else if eqs a b a.length = 0 then -1 else 0
/-- What stands for literal l, if variable u does. -/
def swLit (c : Ci) (l u : Nat) : Option Nat := if cmpC (colV c u) (colV c (l / 2)) = 1 then some (2 * u + l % 2) else if cmpC (colV c u) (colV c (l / 2)) = -1 then some (2 * u + 1 - l % 2) else none
def sweepU (c : Ci) (l : Nat) : Nat := ((List.range (l / 2)).findSome? (swLit c l)).getD l
def mapCi (u : Nat → Nat) (c : Ci) : Ci := { ins := c.ins, next := c.next.map u, gates := c.gates.map fun g => (u g.1, u g.2), outs := c.outs.map u }
def sweepC (c : Ci) : Ci := mapCi (sweepU c) c
def sweepI (c : Ci) : Ci := optI (sweepC (optI c))
theorem eqs_le (a b : List Bool) : ∀ n, eqs a b n ≤ n
  | 0 => Nat.le_refl _
  | n + 1 => by
    have := eqs_le a b n
    unfold eqs
    split <;> omega
theorem eqs_all {a b : List Bool} : ∀ {n : Nat}, eqs a b n = n → ∀ i, i < n → a.getD i false = b.getD i false
  | 0, _, i, h => absurd h (Nat.not_lt_zero _)
  | n + 1, he, i, hi => by
    have hl := eqs_le a b n
    unfold eqs at he
    split at he
    · rename_i h
      by_cases e : i = n
      · rw [e]; exact h
      · have he2 : eqs a b n = n := by omega
        exact eqs_all he2 i (by omega)
    · omega
theorem eqs_none {a b : List Bool} : ∀ {n : Nat}, eqs a b n = 0 → ∀ i, i < n → a.getD i false ≠ b.getD i false
  | 0, _, i, h => absurd h (Nat.not_lt_zero _)
  | n + 1, he, i, hi => by
    unfold eqs at he
    split at he
    · omega
    · rename_i h
      by_cases e : i = n
      · rw [e]; exact h
      · have he2 : eqs a b n = 0 := by omega
        exact eqs_none he2 i (by omega)
theorem colV_length (c : Ci) (v : Nat) : (colV c v).length = 2 ^ (c.ins + c.next.length) := by simp [colV]
/-- Every assignment has its number. -/
theorem colV_at (c : Ci) (v : Nat) {st inp : List Bool} (l1 : inp.length = c.ins) (l2 : st.length = c.next.length) : ∃ x, x < 2 ^ (c.ins + c.next.length) ∧ ∀ v, (colV c v).getD x false = (vals c st inp).getD v false := by
  have h1 := num_lt inp
  have h2 := num_lt st
  rw [l1] at h1
  rw [l2] at h2
  have hx : num inp + 2 ^ c.ins * num st < 2 ^ (c.ins + c.next.length) := by
    rw [Nat.pow_add]
    calc num inp + 2 ^ c.ins * num st < 2 ^ c.ins + 2 ^ c.ins * num st := by omega
      _ = 2 ^ c.ins * (num st + 1) := by rw [Nat.mul_add, Nat.mul_one, Nat.add_comm]
      _ ≤ 2 ^ c.ins * 2 ^ c.next.length := Nat.mul_le_mul_left _ h2
  refine ⟨num inp + 2 ^ c.ins * num st, hx, fun v => ?_⟩
  unfold colV
  rw [List.getD_eq_getElem?_getD, List.getElem?_map, List.getElem?_range hx, Option.map_some, Option.getD_some]
  have e1 : (num inp + 2 ^ c.ins * num st) / 2 ^ c.ins = num st := by
    rw [Nat.add_mul_div_left _ _ (Nat.pow_pos (by omega)), Nat.div_eq_of_lt h1, Nat.zero_add]
  have e2 : bits (num inp + 2 ^ c.ins * num st) c.ins = inp := by
    have e3 : bits (num inp + 2 ^ c.ins * num st) c.ins = bits (num inp) c.ins := by
      unfold bits
      refine List.map_congr_left fun i hi => ?_
      rw [Nat.add_comm, Nat.testBit_two_pow_mul_add _ h1, if_pos (List.mem_range.1 hi)]
    rw [e3]
    exact bits_numL l1
  rw [e1, e2, bits_numL l2]
theorem cmp_one {c : Ci} {u v : Nat} (h : cmpC (colV c u) (colV c v) = 1) {st inp : List Bool} (l1 : inp.length = c.ins) (l2 : st.length = c.next.length) : (vals c st inp).getD u false = (vals c st inp).getD v false := by
  obtain ⟨x, hx, hv⟩ := colV_at c u l1 l2
  unfold cmpC at h
  split at h
  · rename_i he
    have := eqs_all he x (by rw [colV_length]; exact hx)
    rwa [hv u, hv v] at this
  · split at h <;> exact absurd h (by decide)
theorem cmp_neg {c : Ci} {u v : Nat} (h : cmpC (colV c u) (colV c v) = -1) {st inp : List Bool} (l1 : inp.length = c.ins) (l2 : st.length = c.next.length) : (vals c st inp).getD u false = !(vals c st inp).getD v false := by
  obtain ⟨x, hx, hv⟩ := colV_at c u l1 l2
  unfold cmpC at h
  split at h
  · exact absurd h (by decide)
  · split at h
    · rename_i he
      have := eqs_none he x (by rw [colV_length]; exact hx)
      rw [hv u, hv v] at this
      cases h1 : (vals c st inp).getD u false <;> cases h2 : (vals c st inp).getD v false <;> simp_all
    · exact absurd h (by decide)
theorem sweepU_cases (c : Ci) (l : Nat) : sweepU c l = l ∨ ∃ u, u < l / 2 ∧ ((cmpC (colV c u) (colV c (l / 2)) = 1 ∧ sweepU c l = 2 * u + l % 2) ∨ (cmpC (colV c u) (colV c (l / 2)) = -1 ∧ sweepU c l = 2 * u + 1 - l % 2)) := by
  unfold sweepU
  cases h : (List.range (l / 2)).findSome? (swLit c l) with
  | none => exact .inl rfl
  | some y =>
    right
    obtain ⟨u, hu, hy⟩ := List.exists_of_findSome?_eq_some h
    refine ⟨u, List.mem_range.1 hu, ?_⟩
    unfold swLit at hy
    split at hy
    · rename_i h1
      exact .inl ⟨h1, (Option.some.inj hy).symm⟩
    · split at hy
      · rename_i h1
        exact .inr ⟨h1, (Option.some.inj hy).symm⟩
      · cases hy
theorem sweepU_le (c : Ci) (l : Nat) : sweepU c l / 2 ≤ l / 2 := by
  rcases sweepU_cases c l with h | ⟨u, hu, ⟨_, h⟩ | ⟨_, h⟩⟩
  · rw [h]; exact Nat.le_refl _
  · rw [h]; omega
  · rw [h]; omega
theorem sweepU_lt (c : Ci) {l N : Nat} (h : l < 2 * N) : sweepU c l < 2 * N := by
  have := sweepU_le c l
  omega
theorem sweepU_val (c : Ci) (l : Nat) {st inp : List Bool} (l1 : inp.length = c.ins) (l2 : st.length = c.next.length) : lit (vals c st inp) (sweepU c l) = lit (vals c st inp) l := by
  rcases sweepU_cases c l with h | ⟨u, hu, ⟨hc, h⟩ | ⟨hc, h⟩⟩
  · rw [h]
  · rw [h]
    have := cmp_one hc l1 l2
    unfold lit
    rw [show (2 * u + l % 2) / 2 = u from by omega, show (2 * u + l % 2) % 2 = l % 2 from by omega, this]
  · rw [h]
    have := cmp_neg hc l1 l2
    unfold lit
    rw [show (2 * u + 1 - l % 2) / 2 = u from by omega, this]
    rcases Nat.mod_two_eq_zero_or_one l with e | e
    · rw [e, show (2 * u + 1 - 0) % 2 = 1 from by omega]; cases (vals c st inp).getD (l / 2) false <;> rfl
    · rw [e, show (2 * u + 1 - 1) % 2 = 0 from by omega]; cases (vals c st inp).getD (l / 2) false <;> rfl
theorem sweepC_ok {c : Ci} (hc : Ok c) : Ok (sweepC c) := by
  have hn : nfirst (sweepC c) = nfirst c := by simp [nfirst, sweepC, mapCi]
  have hv : nvars (sweepC c) = nvars c := by unfold nvars; rw [hn]; simp [sweepC, mapCi]
  refine ⟨hc.ins, by simpa [sweepC, mapCi] using hc.nexts, by simpa [sweepC, mapCi] using hc.gatess, by simpa [sweepC, mapCi] using hc.outss, fun k g hg => ?_, fun l hl => ?_, fun l hl => ?_⟩
  · rw [hn]
    simp only [sweepC, mapCi, List.getElem?_map] at hg
    cases hk : c.gates[k]? with
    | none => rw [hk] at hg; cases hg
    | some g0 =>
      rw [hk] at hg
      have := Option.some.inj hg
      subst this
      have h0 := hc.gate k g0 hk
      exact ⟨sweepU_lt c h0.1, sweepU_lt c h0.2⟩
  · rw [hv]
    obtain ⟨a, ha, rfl⟩ := List.mem_map.1 hl
    exact sweepU_lt c (hc.next a ha)
  · rw [hv]
    obtain ⟨a, ha, rfl⟩ := List.mem_map.1 hl
    exact sweepU_lt c (hc.out a ha)
theorem sweepC_vals {c : Ci} (hc : Ok c) {st inp : List Bool} (l1 : inp.length = c.ins) (l2 : st.length = c.next.length) : vals (sweepC c) st inp = vals c st inp := by
  have hall : ∀ k, k ≤ c.gates.length → evalG ((sweepC c).gates.take k) (false :: (inp ++ st)) = evalG (c.gates.take k) (false :: (inp ++ st)) := fun k => by
    induction k with
    | zero => intro _; rfl
    | succ k ih =>
      intro hk
      have hgk : c.gates[k]? = some (c.gates[k]'hk) := List.getElem?_eq_getElem hk
      have hg2 : (sweepC c).gates[k]? = some (sweepU c (c.gates[k]'hk).1, sweepU c (c.gates[k]'hk).2) := by
        simp only [sweepC, mapCi, List.getElem?_map, hgk]; rfl
      have h0 := hc.gate k _ hgk
      rw [evalG_take_snoc hgk, evalG_take_snoc hg2, ih (by omega)]
      congr 2
      have len : (evalG (c.gates.take k) (false :: (inp ++ st))).length = nfirst c + k := by
        rw [evalG_length, first_len l1 l2, List.length_take]
        omega
      have e : ∀ l, l < 2 * (nfirst c + k) → lit (evalG (c.gates.take k) (false :: (inp ++ st))) (sweepU c l) = lit (evalG (c.gates.take k) (false :: (inp ++ st))) l := fun l hl => by
        have hv := sweepU_val c l l1 l2
        have hs := sweepU_le c l
        have ev : vals c st inp = evalG (c.gates.drop k) (evalG (c.gates.take k) (false :: (inp ++ st))) := by
          rw [← evalG_append, List.take_append_drop]; rfl
        rw [ev] at hv
        generalize evalG (c.gates.take k) (false :: (inp ++ st)) = V at *
        rw [lit_evalG _ (show sweepU c l / 2 < V.length by omega), lit_evalG _ (show l / 2 < V.length by omega)] at hv
        exact hv
      unfold gval
      rw [e _ h0.1, e _ h0.2]
  have h := hall c.gates.length (Nat.le_refl _)
  have hl : (sweepC c).gates.length = c.gates.length := by simp [sweepC, mapCi]
  rw [List.take_length, ← hl, List.take_length] at h
  exact h
theorem sweepC_same {c : Ci} (hc : Ok c) : SameStep c (sweepC c) := by
  refine ⟨rfl, by simp [sweepC, mapCi], by simp [sweepC, mapCi], fun st inp l1 l2 => ?_⟩
  rw [sweepC_vals hc l1 l2]
  refine ⟨?_, ?_⟩
  · unfold lits
    rw [show (sweepC c).next = c.next.map (sweepU c) from rfl, List.map_map]
    exact List.map_congr_left fun l _ => sweepU_val c l l1 l2
  · unfold lits
    rw [show (sweepC c).outs = c.outs.map (sweepU c) from rfl, List.map_map]
    exact List.map_congr_left fun l _ => sweepU_val c l l1 l2
theorem sweepI_ok {c : Ci} (hc : Ok c) : Ok (sweepI c) := optI_ok (sweepC_ok (optI_ok hc))
theorem sweepI_same {c : Ci} (hc : Ok c) : SameStep c (sweepI c) := (optI_same hc).trans ((sweepC_same (optI_ok hc)).trans (optI_same (sweepC_ok (optI_ok hc))))
end Cir
end Go.Proofs.Ytlbfejdbfhgifaa

namespace Go.Proofs.Ytlbfejdbfhgifaa
open Go.RowKit Go.Maps
set_option maxRecDepth 100000
set_option maxHeartbeats 8000000
/-! A circuit without the gates that nothing reaches, by the program. -/
theorem append_gatesO {w : World} {ops : Array Oper} {rest : List Oper} {o : Oper} {a : Act} {Q : Exit → Act → World → Prop} (hgd : o.guard = none) (s x : Operand)
    (ho : o.op = .call { callee := .builtin .append, args := #[s, x], argTypes := #[29, 29] })
    (base : Nat) (v : Value) (n : Nat) (xs : List Value) (hs : a.eval s = v) (hown : w.ownsRow base 55 2 v n xs) (sv : Value) (m : Nat) (news : List Value) (hx : a.eval x = sv) (hr : Row w 2 sv m news) (h1 : ∀ u ∈ news, u.oneCell' = true)
    (h63 : n + m ≤ 1000000) (hbase : base ≤ w.heap.size)
    (h : ∀ v' w', w'.ownsRow base 55 2 v' (n + m) (xs ++ news) → w.grownBy w' v.ownBlock → (v'.ownBlock = v.ownBlock ∨ v'.ownBlock = some w.heap.size) → wpList Try.prog ops Q rest (a.put o.dst v') w') : wpList Try.prog ops Q (o :: rest) a w := by
  obtain ⟨i, hi, hz0, hz1, hz2⟩ := info_parts info_gate
  exact wpList_append_at hgd s x 29 ho base 55 i _ 2 16 Try.underlying29 hi hz0 hz1 hz2 rfl (by decide) v n xs hs hown sv m news hx hr h1 (by unfold maxLen; omega) (by omega) hbase h
theorem plc_row_set {F n v : Nat} {keep : List Bool} {x : Nat} (hv : v < n) (hx : x = Cir.plc F keep v) : (ints (((List.range v).map (Cir.plc F keep) ++ List.replicate (n - v) 0).map Int.ofNat)).set v (.int .i64 (x : Nat)) = ints (((List.range (v + 1)).map (Cir.plc F keep) ++ List.replicate (n - (v + 1)) 0).map Int.ofNat) := by
  subst hx
  have e : List.replicate (n - v) 0 = 0 :: List.replicate (n - (v + 1)) 0 := by
    rw [show n - v = (n - (v + 1)) + 1 from by omega, List.replicate_succ]
  rw [e, List.range_succ]
  unfold ints
  rw [List.map_append, List.map_append, List.set_append_right _ _ (by simp)]
  simp
theorem plc_row_zero {F n v : Nat} {keep : List Bool} (hv : v < n) (hx : Cir.plc F keep v = 0) : ((List.range v).map (Cir.plc F keep) ++ List.replicate (n - v) 0) = ((List.range (v + 1)).map (Cir.plc F keep) ++ List.replicate (n - (v + 1)) 0) := by
  have e : List.replicate (n - v) 0 = 0 :: List.replicate (n - (v + 1)) 0 := by
    rw [show n - v = (n - (v + 1)) + 1 from by omega, List.replicate_succ]
  rw [e, List.range_succ]
  simp [hx]
theorem pruned_any (g : Nat) (d : Ci) (w : World) (h : PCirc w g (Cir.toCz d)) (hd : Cir.Ok d) :
    Calls Try.prog 125 #[.pointer (some ⟨g, 0, none⟩)] w fun e w' => (∃ v, e = .returned v ∧ CircOwn 0 w' v (Cir.toCz (Cir.prune d (Cir.reached d)))) ∧ Below w.heap.size w w' := by
  have s1 := hd.ins
  have s2 := hd.nexts
  have s3 := hd.gatess
  have s4 := hd.outss
  have Hp := Lib.hid h
  have Hd := Lib.hid hd
  obtain ⟨n, hn⟩ : ∃ n, n = Cir.nvars d := ⟨_, rfl⟩
  have hnf : Cir.nfirst d ≤ 8 := by unfold Cir.nfirst; omega
  have hnn : n = Cir.nfirst d + d.gates.length := hn
  have hnu : n ≤ 22 := by omega
  have HRe : Hid (∀ w', Below w.heap.size w w' → Calls Try.prog 122 #[.pointer (some ⟨g, 0, none⟩)] w' (OwnBools (Cir.reached d) w')) := Lib.hid fun w' hb => reached_any g d w' (Hp.out.below hb) hd
  have HPf : Hid (∀ w', Below w.heap.size w w' → Calls Try.prog 104 #[.pointer (some ⟨g, 0, none⟩)] w' fun e w'' => e = .returned (.int .i64 (Cir.nfirst d : Nat)) ∧ Below w'.heap.size w' w'') := Lib.hid fun w' hb => by
    have := firstGate_any g _ w' (Hp.out.below hb) (by show (0 : Int) ≤ (d.ins : Int); omega) (by show (d.ins : Int) ≤ 100; omega) (by show (List.map _ _).length ≤ 100; rw [List.length_map]; omega)
    rwa [Cir.first_toCz] at this
  have HVa : Hid (∀ w', Below w.heap.size w w' → Calls Try.prog 76 #[.pointer (some ⟨g, 0, none⟩)] w' fun e w'' => e = .returned (.int .i64 (n : Nat)) ∧ Below w'.heap.size w' w'') := Lib.hid fun w' hb => by
    have := vars_any g _ w' (Hp.out.below hb) (by show (0 : Int) ≤ (d.ins : Int); omega) (by show (d.ins : Int) ≤ 100; omega) (by show (List.map _ _).length ≤ 100; rw [List.length_map]; omega) (by show (List.map _ _).length ≤ 100; rw [List.length_map]; omega)
    rwa [Cir.vars_toCz, ← hn] at this
  have hRl := Cir.reached_length d
  rw [← hn] at hRl
  have HN : Hid ((∀ l ∈ d.next, l < 2 * n) ∧ (∀ x ∈ d.gates, x.1 < 2 * n ∧ x.2 < 2 * n) ∧ ∀ l ∈ d.outs, l < 2 * n) := Lib.hid ⟨fun l hl => by rw [hn]; exact hd.next l hl, fun x hx => by
    obtain ⟨k, hk, rfl⟩ := List.mem_iff_getElem.1 hx
    have := hd.gate k _ (List.getElem?_eq_getElem hk)
    omega, fun l hl => by rw [hn]; exact hd.out l hl⟩
  have HRes : Hid (Cir.prune d (Cir.reached d) = { ins := d.ins, next := d.next.map (Cir.useP (Cir.nfirst d) (Cir.reached d)), gates := Cir.keptG (Cir.nfirst d) (Cir.reached d) d.gates d.gates.length, outs := d.outs.map (Cir.useP (Cir.nfirst d) (Cir.reached d)) }) := Lib.hid rfl
  generalize Cir.reached d = keep at *
  have hF0 := Cir.nfirst_pos d
  generalize Cir.nfirst d = F at *
  have Hnn := Lib.hid hnn
  have hFn : F ≤ n := by omega
  have hmk := run_make_row' (P := Try.prog) 22 3 (.int .i64 0) 8 Try.underlying22 info_int rfl .i64 .i64 n (by omega) (by omega)
  have hbR := bel_new w (.cells #[.int .i64 0, .slice none 0 0, .slice none 0 0, .slice none 0 0] 31)
  have hR0 := heap_alloc_new w (.cells #[.int .i64 0, .slice none 0 0, .slice none 0 0, .slice none 0 0] 31)
  have hzR : (w.alloc (.cells #[.int .i64 0, .slice none 0 0, .slice none 0 0, .slice none 0 0] 31)).heap.size = w.heap.size + 1 := by simp
  clear h hd hn hnn
  go_enter Try.func125, Try.ntmps125
  go_wp2_with fail
  generalize w.alloc (.cells #[.int .i64 0, .slice none 0 0, .slice none 0 0, .slice none 0 0] 31) = W0 at *
  obtain ⟨gR, hgR⟩ : ∃ gR, gR = w.heap.size := ⟨_, rfl⟩
  rw [← hgR] at hR0 ⊢
  rw [hgR]
  refine (HRe.out W0 hbR).mono ?_
  rw [← hgR]
  rintro e w1 ⟨vk, rfl, hok, hb1⟩
  have hwR : w.heap.size ≤ gR := by omega
  have hwz : w.heap.size ≤ W0.heap.size := by omega
  have hgRz : gR < W0.heap.size := by omega
  rw [hRl] at hok
  obtain ⟨gk, ck, hvk, hgk1, hgk2, -, -⟩ := own_open hok (by omega)
  subst hvk
  have HB1 := Lib.hid (hbR.trans (hb1.mono hwz))
  have hR1 := (hb1.block gR hgRz).trans hR0
  have Hok := Lib.hid hok
  have hz1 := hb1.size
  have Hkl := Lib.hid hRl
  clear hb1 hbR hR0 hok hgR hzR HRe hRl
  go_wp2_with fail
  refine (HVa.out w1 HB1.out).mono ?_
  rintro e w2 ⟨rfl, hb2⟩
  have hO0 : (w2.alloc (.cells (madeCells #[Value.int .i64 0] n) 3)).ownsRow w2.heap.size 3 1 (.slice (some ⟨w2.heap.size, 0, none⟩) n n) n (ints (((List.range 0).map (Cir.plc F keep) ++ List.replicate (n - 0) 0).map Int.ofNat)) := by
    have h := World.ownsRow_lit (base := w2.heap.size) (e := 3) (size := 1) w2 (madeCells #[Value.int .i64 0] n) n (Nat.le_refl _) (by unfold maxLen; omega) (by simp [madeCells])
    have e : (madeCells #[Value.int .i64 0] n).toList = ints (((List.range 0).map (Cir.plc F keep) ++ List.replicate (n - 0) 0).map Int.ofNat) := by simp [madeCells, ints, Nat.mod_one, List.map_const']
    rwa [e] at h
  have hb3 := bel_new w2 (.cells (madeCells #[Value.int .i64 0] n) 3)
  have hb4 := bel_new (w2.alloc (.cells (madeCells #[Value.int .i64 0] n) 3)) (.cells #[.slice (some ⟨w2.heap.size, 0, none⟩) n n] 22)
  have hk4 := heap_alloc_new (w2.alloc (.cells (madeCells #[Value.int .i64 0] n) 3)) (.cells #[.slice (some ⟨w2.heap.size, 0, none⟩) n n] 22)
  have hz4 : (w2.alloc (.cells (madeCells #[Value.int .i64 0] n) 3)).heap.size = w2.heap.size + 1 := by simp
  have hO4 := own_below hO0 hb4
  have hB4 := HB1.out.trans ((hb2.trans (hb3.mono hb2.size)).trans (hb4.mono (by have := hb2.size; omega)) |>.mono HB1.out.size)
  have hB14 : Below w1.heap.size w1 ((w2.alloc (.cells (madeCells #[Value.int .i64 0] n) 3)).alloc (.cells #[.slice (some ⟨w2.heap.size, 0, none⟩) n n] 22)) := (hb2.trans (hb3.mono hb2.size)).trans (hb4.mono (by have := hb2.size; omega))
  have hR4 := (hB14.block gR (by omega)).trans hR1
  have Hok4 := Lib.hid (own_below Hok.out hB14)
  rw [hz4] at hk4
  have hz2 := hb2.size
  have hz5 : ((w2.alloc (.cells (madeCells #[Value.int .i64 0] n) 3)).alloc (.cells #[.slice (some ⟨w2.heap.size, 0, none⟩) n n] 22)).heap.size = w2.heap.size + 1 + 1 := by simp
  go_wp2_with fail
  generalize (w2.alloc (.cells (madeCells #[Value.int .i64 0] n) 3)).alloc (.cells #[.slice (some ⟨w2.heap.size, 0, none⟩) n n] 22) = W4 at *
  obtain ⟨gp, hgp⟩ : ∃ gp, gp = w2.heap.size := ⟨_, rfl⟩
  obtain ⟨g4, hg4⟩ : ∃ g4, g4 = w2.heap.size + 1 := ⟨_, rfl⟩
  rw [← hg4] at hk4
  rw [← hgp] at hk4 hO4
  rw [← hg4, ← hgp]
  have hgpz : gk < gp := by omega
  have hgR0 : gR < gk := by omega
  have hg4p : gp < g4 := by omega
  have hw4 : w.heap.size ≤ gp := by omega
  have hg4z : g4 < W4.heap.size := by omega
  refine (HPf.out W4 hB4).mono ?_
  rintro e w5 ⟨rfl, hb5⟩
  have HB5 := Lib.hid (hB4.trans (hb5.mono hB4.size))
  have HO5 := Lib.hid (own_below hO4 hb5)
  have Hok5 := Lib.hid (own_below Hok4.out hb5)
  have HK5 := Lib.hid ((hb5.block g4 hg4z).trans hk4)
  have HR5 := Lib.hid ((hb5.block gR (by omega)).trans hR4)
  clear hb2 hb3 hb4 hO0 hk4 hz4 hO4 hB4 hB14 hR4 hz5 hb5 hmk hR1 hgp hg4 Hok4 HVa Hok HB1 hg4z
  have q4 := blk_cell HK5.out 0
  simp at q4
  clear hz2
  go_wp2_with fail
  clear q4
  go_loopw [5, 20] (fun x i wr => ∃ (v y : Nat), v ≤ n ∧ i = .int .i64 v ∧ x = .int .i64 y ∧ Hid (y = F + (Cir.keptI F keep (v - F)).length) ∧ Hid (wr.ownsRow gp 3 1 (.slice (some ⟨gp, 0, none⟩) n n) n (ints (((List.range v).map (Cir.plc F keep) ++ List.replicate (n - v) 0).map Int.ofNat))) ∧ Hid (wr.heap[g4]? = some (.cells #[.slice (some ⟨gp, 0, none⟩) n n] 22 (0, 0))) ∧ Hid (wr.heap[gR]? = some (.cells #[.int .i64 0, .slice none 0 0, .slice none 0 0, .slice none 0 0] 31 (0, 0))) ∧ Hid (wr.ownsRow W0.heap.size 4 1 (.slice (some ⟨gk, 0, none⟩) n ck) n (bools keep)) ∧ Hid (Below w.heap.size w wr)) (fun _ i _ => n - (intOf i).toNat)
  case atStart => exact ⟨0, F, Nat.zero_le _, rfl, rfl, Lib.hid (by simp [Cir.keptI]), HO5, HK5, HR5, Hok5, HB5⟩
  case round =>
    obtain ⟨v, y, hv, rfl, rfl, HY, HO, HK, HR, Hok, Hb⟩ := hrel
    clear HO5 HK5 HR5 Hok5 HB5
    have hgRz := blk_ltB HR.out
    have hg4z := blk_ltB HK.out
    by_cases hlt : v < n
    · have hkl := Cir.keptI_le F keep (v - F)
      have hyb : y ≤ 60 := by have := HY.out; omega
      clear hkl
      go_wp2_with fail
      refine (HPf.out wr Hb.out).mono ?_
      rintro e w9 ⟨rfl, hb9⟩
      have Hb9 := Lib.hid (Hb.out.trans (hb9.mono Hb.out.size))
      have HO9 := Lib.hid (own_below HO.out hb9)
      have HK9 := Lib.hid ((hb9.block g4 hg4z).trans HK.out)
      have HR9 := Lib.hid ((hb9.block gR hgRz).trans HR.out)
      have Hok9 := Lib.hid (own_below Hok.out hb9)
      have hz9 := Hb9.out.size
      have q4 := blk_cell HK9.out 0
      simp at q4
      obtain ⟨u0, _, hd0, hf0⟩ := own_slot HO9.out (j := v) (by omega)
      clear HO HK HR Hok Hb hb9
      by_cases hvF : v < F
      · have hst := HO9.out.stored v (.int .i64 (v : Nat))
        have Hst := Lib.hid hst
        have hp : v = Cir.plc F keep v := by unfold Cir.plc; rw [if_pos hvF]
        have Hset := Lib.hid (plc_row_set hlt hp)
        have HY2 : Hid (y = F + (Cir.keptI F keep (v + 1 - F)).length) := Lib.hid (by rw [HY.out, show v + 1 - F = v - F from by omega])
        clear hst hp
        go_wp2_with fail
        go_roundw
        case rel => exact ⟨v + 1, y, by omega, by go_num, rfl, HY2, Lib.hid (by rw [← Hset.out]; exact Hst.out.1), Lib.hid ((heap_setCell_other' _ _ _ _ _ (by omega)).trans HK9.out), Lib.hid ((heap_setCell_other' _ _ _ _ _ (by omega)).trans HR9.out), Lib.hid (own_setN Hok9.out (fun e => by have := Option.some.inj e; simp only at this; omega)), Lib.hid (Hb9.out.setCell hw4 _)⟩
        case measure => simp [intOf]; omega
      · have hsk : (bools keep)[v]? = some (.bool (keep.getD v false)) := by
          have := Hkl.out
          unfold bools
          rw [List.getElem?_map, List.getElem?_eq_getElem (by omega), List.getD_eq_getElem?_getD, List.getElem?_eq_getElem (by omega)]
          rfl
        obtain ⟨u1, hu1, hd1, hf1⟩ := own_slot Hok9.out (j := v) (by omega)
        obtain rfl : u1 = .bool (keep.getD v false) := Option.some.inj (hu1.symm.trans hsk)
        have hs := Cir.keptI_succ F keep (v - F)
        rw [show F + (v - F) = v from by omega, show v - F + 1 = v + 1 - F from by omega] at hs
        clear hu1 hf1 hsk
        cases hfl : keep.getD v false
        · rw [hfl] at hd1 hs
          have hp : Cir.plc F keep v = 0 := by unfold Cir.plc; rw [if_neg hvF, hfl]; rfl
          have Hset := Lib.hid (plc_row_zero hlt hp)
          have HY2 : Hid (y = F + (Cir.keptI F keep (v + 1 - F)).length) := Lib.hid (by rw [HY.out, hs]; simp)
          clear hp hs hfl
          go_wp2_with fail
          go_roundw
          case rel => exact ⟨v + 1, y, by omega, by go_num, rfl, HY2, Lib.hid (by rw [← Hset.out]; exact HO9.out), HK9, HR9, Hok9, Hb9⟩
          case measure => simp [intOf]; omega
        · rw [hfl] at hd1 hs
          have hp : y = Cir.plc F keep v := by unfold Cir.plc; rw [if_neg hvF, hfl, if_pos rfl, HY.out]
          have hst := HO9.out.stored v (.int .i64 (y : Nat))
          have Hst := Lib.hid hst
          have Hset := Lib.hid (plc_row_set hlt hp)
          have HY2 : Hid (y + 1 = F + (Cir.keptI F keep (v + 1 - F)).length) := Lib.hid (by rw [HY.out, hs]; simp; omega)
          have hwy := IntWalk.i64_in ((y : Int) + 1) (by omega)
          clear hst hp hs hfl
          go_wp2_with fail
          go_roundw
          case rel => exact ⟨v + 1, y + 1, by omega, by go_num, by go_num, HY2, Lib.hid (by rw [← Hset.out]; exact Hst.out.1), Lib.hid ((heap_setCell_other' _ _ _ _ _ (by omega)).trans HK9.out), Lib.hid ((heap_setCell_other' _ _ _ _ _ (by omega)).trans HR9.out), Lib.hid (own_setN Hok9.out (fun e => by have := Option.some.inj e; simp only at this; omega)), Lib.hid (Hb9.out.setCell hw4 _)⟩
          case measure => simp [intOf]; omega
    · obtain rfl : v = n := by omega
      have HO' : Hid (IntsAt wr (.slice (some ⟨gp, 0, none⟩) v v) (((List.range v).map (Cir.plc F keep)).map Int.ofNat)) := Lib.hid (by
        have h := HO.out
        rw [Nat.sub_self, List.replicate_zero, List.append_nil] at h
        unfold IntsAt
        rw [List.length_map, List.length_map, List.length_range]
        exact Row.of_own h)
      have hpl : ∀ x ∈ (List.range v).map (Cir.plc F keep), x ≤ 1000000 := fun x hx => by
        obtain ⟨i, hi, rfl⟩ := List.mem_map.1 hx
        have hi' := List.mem_range.1 hi
        have := Cir.keptI_le F keep (i - F)
        unfold Cir.plc
        split
        · omega
        · split <;> omega
      have HC := Lib.hid (replaced_any g (2 * v) d 131 #[.pointer (some ⟨g4, 0, none⟩)] (Cir.useP F keep) wr (Hp.out.below Hb.out) (by omega) (by omega) (by omega) HN.out.1 HN.out.2.1 HN.out.2.2 (fun vs w' => by kernel_rfl) (fun w' hb l hl => by
        have hc := pruneUse_any g4 l ((List.range v).map (Cir.plc F keep)) (.slice (some ⟨gp, 0, none⟩) v v) w' ((hb.cell (p := ⟨g4, 0, none⟩) hg4z).trans (blk_cell HK.out 0)) (Row.below HO'.out hb) (by rw [List.length_map, List.length_range]; omega) (by omega) hpl
        have he : 2 * ((List.range v).map (Cir.plc F keep)).getD (l / 2) 0 + l % 2 = Cir.useP F keep l := by
          unfold Cir.useP
          rw [List.getD_eq_getElem?_getD, List.getElem?_map, List.getElem?_range (by omega)]
          rfl
        rw [he] at hc
        exact hc))
      have q4 := blk_cell HK.out 0
      clear hlt HO HO' hpl
      go_wp2_with fail
      refine HC.out.mono ?_
      rintro e w6 ⟨⟨v6, rfl, vn', vg', vo', e6, h1, h2, h3⟩, hb6⟩
      subst e6
      obtain ⟨A1, c1', hv1⟩ := slice_of_own h1
      obtain ⟨A2, c2', hv2⟩ := slice_of_own h2
      obtain ⟨A3, c3', hv3⟩ := slice_of_own h3
      subst hv1 hv2 hv3
      have hlm : (Cir.toCz (mapC (Cir.useP F keep) d)).next.length = d.next.length ∧ (Cir.toCz (mapC (Cir.useP F keep) d)).gates.length = d.gates.length ∧ (Cir.toCz (mapC (Cir.useP F keep) d)).outs.length = d.outs.length := ⟨by simp [Cir.toCz, mapC], by simp [Cir.toCz, mapC], by simp [Cir.toCz, mapC]⟩
      rw [hlm.1] at h1 ⊢
      rw [hlm.2.1] at h2 ⊢
      rw [hlm.2.2] at h3 ⊢
      have hIe : (Cir.toCz (mapC (Cir.useP F keep) d)).ins = (Cir.toCz d).ins := rfl
      rw [hIe]
      clear hIe hlm HC q4
      go_wp2_with fail
      have hX7 := heap_alloc_new w6 (.cells #[.int .i64 (Cir.toCz d).ins, .slice A1 d.next.length c1', .slice none 0 0, .slice A3 d.outs.length c3'] 31)
      have hb7 := bel_new w6 (.cells #[.int .i64 (Cir.toCz d).ins, .slice A1 d.next.length c1', .slice none 0 0, .slice A3 d.outs.length c3'] 31)
      have hz7 : (w6.alloc (.cells #[.int .i64 (Cir.toCz d).ins, .slice A1 d.next.length c1', .slice none 0 0, .slice A3 d.outs.length c3'] 31)).heap.size = w6.heap.size + 1 := by simp
      have hb67 := hb6.trans (hb7.mono hb6.size)
      have hz6 := hb6.size
      have hR7 := (hb67.block gR hgRz).trans HR.out
      have Hok7 := Lib.hid (own_below Hok.out hb67)
      have hl1 : ∀ g, (Value.slice A1 d.next.length c1').ownBlock = some g → g < w6.heap.size := fun g hg => (h1.lt g hg).2
      have hl2 : ∀ g, (Value.slice A2 d.gates.length c2').ownBlock = some g → g < w6.heap.size := fun g hg => (h2.lt g hg).2
      have hl3 : ∀ g, (Value.slice A3 d.outs.length c3').ownBlock = some g → g < w6.heap.size := fun g hg => (h3.lt g hg).2
      have HO1 := Lib.hid (own_below h1 hb7)
      have HO2 := Lib.hid (own_below h2 hb7)
      have HO3 := Lib.hid (own_below h3 hb7)
      have HB7 := Lib.hid (Hb.out.trans (hb67.mono Hb.out.size))
      generalize w6.alloc (.cells #[.int .i64 (Cir.toCz d).ins, .slice A1 d.next.length c1', .slice none 0 0, .slice A3 d.outs.length c3'] 31) = W7 at *
      obtain ⟨g7, hg7⟩ : ∃ g7, g7 = w6.heap.size := ⟨_, rfl⟩
      obtain ⟨B6, hB6⟩ : ∃ B6, B6 = wr.heap.size := ⟨_, rfl⟩
      rw [← hg7] at hX7 hl1 hl2 hl3 hz7 ⊢
      rw [← hB6] at HO1 HO2 HO3
      have HL := Lib.hid (And.intro hl1 (And.intro hl2 hl3))
      have hgR7 : gR < g7 := by omega
      have hgk7 : gk < g7 := by omega
      have hw7 : w.heap.size ≤ g7 := by omega
      have hz8 : g7 + 1 ≤ W7.heap.size := by omega
      have HX7 := Lib.hid hX7
      have HR7 := Lib.hid hR7
      have HGs : Hid (ngates (d.gates.map fun g => (Cir.useP F keep g.1, Cir.useP F keep g.2)) = cubes (Cir.toCz (mapC (Cir.useP F keep) d)).gates ∧ (Cir.toCz (mapC (Cir.useP F keep) d)).gates.length = d.gates.length) := Lib.hid ⟨rfl, by simp [Cir.toCz, mapC]⟩
      clear hX7 hb7 hz7 hb67 hz6 hR7 hl1 hl2 hl3 h1 h2 h3 hb6 hg7 hB6 HR HK Hok Hb
      go_loopw [52] (fun i wr => ∃ (k kk : Nat) (v2 : Value), k ≤ d.gates.length ∧ i = .int .i64 k ∧ kk ≤ k ∧ Hid (kk = (Cir.keptI F keep k).length) ∧ Hid (wr.heap[g7]? = some (.cells #[.int .i64 (Cir.toCz d).ins, .slice A1 d.next.length c1', v2, .slice A3 d.outs.length c3'] 31 (0, 0))) ∧ Hid (wr.heap[gR]? = some (.cells #[.int .i64 0, .slice none 0 0, .slice none 0 0, .slice none 0 0] 31 (0, 0))) ∧ Hid (wr.ownsRow B6 3 1 (.slice A1 d.next.length c1') d.next.length (ints (Cir.toCz (mapC (Cir.useP F keep) d)).next)) ∧ Hid (wr.ownsRow B6 55 2 (.slice A2 d.gates.length c2') d.gates.length (cubes (Cir.toCz (mapC (Cir.useP F keep) d)).gates)) ∧ Hid (wr.ownsRow B6 3 1 (.slice A3 d.outs.length c3') d.outs.length (ints (Cir.toCz (mapC (Cir.useP F keep) d)).outs)) ∧ Hid (wr.ownsRow W0.heap.size 4 1 (.slice (some ⟨gk, 0, none⟩) v ck) v (bools keep)) ∧ Hid (wr.ownsRow (g7 + 1) 55 2 v2 kk (ngates (Cir.keptG F keep d.gates k))) ∧ g7 + 1 ≤ wr.heap.size ∧ Hid (Below w.heap.size w wr)) (fun i _ => d.gates.length - (intOf i).toNat)
      case atStart => exact ⟨0, 0, .slice none 0 0, Nat.zero_le _, rfl, Nat.le_refl _, Lib.hid rfl, HX7, HR7, HO1, HO2, HO3, Hok7, Lib.hid (World.ownsRow_nil _ _ _ _), hz8, HB7⟩
      case round =>
        obtain ⟨k, kk, v2, hk, rfl, hkk, HKK, HX, HR, HP1, HP2, HP3, Hok, HG, hzr, Hb⟩ := hrel
        clear HX7 HR7 HO1 HO2 HO3 Hok7 HB7
        have hgRz := blk_ltB HR.out
        have hg7z := blk_ltB HX.out
        by_cases hlt : k < d.gates.length
        · obtain ⟨b, o, x, hA2, hbl, hx, hs1, hs2⟩ := cubes_open (Row.of_own HP2.out) (Below.refl _ _) HGs.out.2.symm (i := k) (by rw [HGs.out.2]; exact hlt)
          subst hA2
          obtain ⟨gt, hgt⟩ := at_some hlt
          have hxe : x = (((Cir.useP F keep gt.1 : Nat) : Int), ((Cir.useP F keep gt.2 : Nat) : Int)) := by
            have h1 := hx.out
            unfold Cir.toCz mapC at h1
            simp only [List.getElem?_map, hgt] at h1
            exact (Option.some.inj h1).symm
          subst hxe
          have hgD : d.gates.getD k (0, 0) = gt := by rw [List.getD_eq_getElem?_getD, hgt, Option.getD_some]
          have hsu := Cir.keptI_succ F keep k
          have HG1 : Hid (keep.getD (F + k) false = true → (Cir.keptI F keep (k + 1)).length = (Cir.keptI F keep k).length + 1 ∧ ngates (Cir.keptG F keep d.gates (k + 1)) = ngates (Cir.keptG F keep d.gates k) ++ [.int .i64 (Cir.useP F keep gt.1 : Nat), .int .i64 (Cir.useP F keep gt.2 : Nat)]) := Lib.hid fun h => by
            unfold Cir.keptG
            rw [hsu, if_pos h]
            unfold ngates cubes
            simp only [List.length_append, List.length_singleton, List.map_append, List.map_cons, List.map_nil, List.flatMap_append, List.flatMap_cons, List.flatMap_nil, hgD]
            exact ⟨trivial, rfl⟩
          have HG0 : Hid (keep.getD (F + k) false = false → (Cir.keptI F keep (k + 1)).length = (Cir.keptI F keep k).length ∧ ngates (Cir.keptG F keep d.gates (k + 1)) = ngates (Cir.keptG F keep d.gates k)) := Lib.hid fun h => by
            unfold Cir.keptG
            rw [hsu, if_neg (by rw [h]; simp), List.append_nil]
            exact ⟨rfl, rfl⟩
          generalize hcs : ngates (Cir.keptG F keep d.gates k) = cs at *
          generalize Cir.useP F keep gt.1 = x1 at *
          generalize Cir.useP F keep gt.2 = x2 at *
          have hba := bel_new wr (.cells #[.int .i64 (x1 : Int), .int .i64 (x2 : Int)] 55)
          have hg9 := heap_alloc_new wr (.cells #[.int .i64 (x1 : Int), .int .i64 (x2 : Int)] 55)
          have hza : (wr.alloc (.cells #[.int .i64 (x1 : Int), .int .i64 (x2 : Int)] 55)).heap.size = wr.heap.size + 1 := by simp
          have hBa := Hb.out.trans (hba.mono Hb.out.size)
          clear hx hgt hcs hgD hsu hbl
          go_wp2_with fail
          refine (HPf.out _ hBa).mono ?_
          rintro e w9 ⟨rfl, hb9⟩
          have hb19 := hba.trans (hb9.mono (by omega))
          obtain ⟨gx, hgx⟩ : ∃ gx, gx = wr.heap.size := ⟨_, rfl⟩
          have hg99 := (hb9.block wr.heap.size (by omega)).trans hg9
          rw [← hgx] at hg99 ⊢
          have k0 := blk_cell hg99 0
          have k1 := blk_cell hg99 1
          simp at k0 k1
          have HXa := Lib.hid ((hb19.block g7 hg7z).trans HX.out)
          have HRa := Lib.hid ((hb19.block gR hgRz).trans HR.out)
          have HP1a := Lib.hid (own_below HP1.out hb19)
          have HP2a := Lib.hid (own_below HP2.out hb19)
          have HP3a := Lib.hid (own_below HP3.out hb19)
          have Hoka := Lib.hid (own_below Hok.out hb19)
          have HGa := Lib.hid (own_below HG.out hb19)
          have HBa := Lib.hid (Hb.out.trans (hb19.mono Hb.out.size))
          have hz9 := hb19.size
          have hFk : F + k < v := by have := Hnn.out; omega
          have hsk : (bools keep)[F + k]? = some (.bool (keep.getD (F + k) false)) := by
            have := Hkl.out
            unfold bools
            rw [List.getElem?_map, List.getElem?_eq_getElem (by omega), List.getD_eq_getElem?_getD, List.getElem?_eq_getElem (by omega)]
            rfl
          obtain ⟨u1, hu1, hd1, hf1⟩ := own_slot Hoka.out (j := F + k) (by omega)
          obtain rfl : u1 = .bool (keep.getD (F + k) false) := Option.some.inj (hu1.symm.trans hsk)
          have hix : ((F : Int) + (k : Int)).toNat = F + k := by omega
          have hwk : IntKind.i64.wrap ((F : Int) + (k : Int)) = (F : Int) + (k : Int) := IntWalk.i64_in _ (by omega)
          clear hu1 hf1 hsk hs1 hs2 hba hg9 hza hBa hb9 hb19 hgx hg99 HX HR HP1 HP2 HP3 Hok HG Hb
          cases hfl : keep.getD (F + k) false
          · rw [hfl] at hd1
            have HG0' := Lib.hid (HG0.out hfl)
            clear HG0 HG1 hfl
            go_wp2_with fail
            go_roundw
            case rel => exact ⟨k + 1, kk, v2, by omega, by go_num, by omega, Lib.hid (by rw [HG0'.out.1]; exact HKK.out), HXa, HRa, HP1a, HP2a, HP3a, Hoka, Lib.hid (by rw [HG0'.out.2]; exact HGa.out), by omega, HBa⟩
            case measure => simp [intOf]; omega
          · rw [hfl] at hd1
            have HG1' := Lib.hid (HG1.out hfl)
            clear HG0 HG1 hfl
            have q2 := blk_cell HXa.out 2
            simp at q2
            have hg7a := blk_ltB HXa.out
            have hgRa := blk_ltB HRa.out
            have hbl := bel_new w9 (.cells #[.int .i64 (x1 : Int), .int .i64 (x2 : Int)] 55)
            have hzl : (w9.alloc (.cells #[.int .i64 (x1 : Int), .int .i64 (x2 : Int)] 55)).heap.size = w9.heap.size + 1 := by simp
            have Hlit := Lib.hid (Row.of_own (World.ownsRow_lit (base := w9.heap.size) (e := 55) (size := 2) w9 #[.int .i64 (x1 : Int), .int .i64 (x2 : Int)] 1 (Nat.le_refl _) (by unfold maxLen; omega) rfl))
            have HGl := Lib.hid (own_below HGa.out hbl)
            have HXl := Lib.hid ((hbl.block g7 hg7a).trans HXa.out)
            have HRl := Lib.hid ((hbl.block gR hgRa).trans HRa.out)
            have HP1l := Lib.hid (own_below HP1a.out hbl)
            have HP2l := Lib.hid (own_below HP2a.out hbl)
            have HP3l := Lib.hid (own_below HP3a.out hbl)
            have Hokl := Lib.hid (own_below Hoka.out hbl)
            have HBl := Lib.hid (HBa.out.trans (hbl.mono HBa.out.size))
            have hlt2 : ∀ g, v2.ownBlock = some g → g7 + 1 ≤ g := fun g hg => (HGa.out.lt g hg).1
            have hne : ¬ (v2.ownBlock = some g7) := fun e => by have := hlt2 g7 e; omega
            have hneR : ¬ (v2.ownBlock = some gR) := fun e => by have := hlt2 gR e; omega
            have Hlt2 := Lib.hid hlt2
            clear HXa HRa HP1a HP2a HP3a Hoka HGa hbl hlt2
            go_wp2_with (at_builtin; refine append_gatesO rfl (.tmp 65) (.tmp 67) rfl (g7 + 1) v2 kk cs rfl HGl.out _ 1 [.int .i64 (x1 : Int), .int .i64 (x2 : Int)] rfl Hlit.out (by simp [Value.oneCell']) (by omega) (by omega) ?_; intro v4 w4 hown4 hg4 hat4; obtain ⟨A9, c9, hv9⟩ := slice_of_own hown4; subst hv9; have O9 := Only.grown (E := fun g => v2.ownBlock = some g) hg4 (fun k hk => hk); have hx9 := (O9.block g7 (by omega) hne).trans HXl.out; have q9 := blk_cell hx9 2; have f9 := blk_free hx9 2; have Hown4 := Lib.hid hown4; have HO9 := Lib.hid O9; have Hx9 := Lib.hid hx9; clear hown4 hg4 hat4 hx9 O9)
            have Hx10 := Lib.hid (heap_setCell_same w4 g7 2 _ _ (.slice A9 (kk + 1) c9) Hx9.out)
            have HR9 := Lib.hid ((HO9.out.block gR (by omega) hneR).trans HRl.out)
            have HB9 := Lib.hid (Only.below HBl.out HO9.out HBl.out.size (fun q hq => by have := Hlt2.out q hq; omega))
            have hz4 := HO9.out.size
            go_roundw
            case rel => exact ⟨k + 1, kk + 1, _, by omega, by go_num, by omega, Lib.hid (by rw [HG1'.out.1, ← HKK.out]), Lib.hid (by have h := Hx10.out; simp at h; exact h), Lib.hid ((heap_setCell_other' _ _ _ _ _ (by omega)).trans HR9.out), Lib.hid (own_setN (own_only HP1l.out HO9.out (fun g hg e => by have h1 := HL.out.1 g hg; have h2 := Hlt2.out g e; omega)) (fun e => by have := HL.out.1 _ e; omega)), Lib.hid (own_setN (own_only HP2l.out HO9.out (fun g hg e => by have h1 := HL.out.2.1 g hg; have h2 := Hlt2.out g e; omega)) (fun e => by have := HL.out.2.1 _ e; omega)), Lib.hid (own_setN (own_only HP3l.out HO9.out (fun g hg e => by have h1 := HL.out.2.2 g hg; have h2 := Hlt2.out g e; omega)) (fun e => by have := HL.out.2.2 _ e; omega)), Lib.hid (own_setN (own_only Hokl.out HO9.out (fun g hg e => by have h1 := Option.some.inj hg; simp only at h1; have h2 := Hlt2.out g e; omega)) (fun e => by have := Option.some.inj e; simp only at this; omega)), Lib.hid (by rw [HG1'.out.2]; exact own_setB Hown4.out (by omega)), by simp; omega, Lib.hid (HB9.out.setCell hw7 _)⟩
            case measure => simp [intOf]; omega
        · obtain rfl : k = d.gates.length := by omega
          obtain ⟨A9, c9, hv9⟩ := slice_of_own HG.out
          subst hv9
          have q0 := blk_cell HX.out 0
          have q1 := blk_cell HX.out 1
          have q2 := blk_cell HX.out 2
          have q3 := blk_cell HX.out 3
          have r0 := blk_cell HR.out 0
          have r1 := blk_cell HR.out 1
          have r2 := blk_cell HR.out 2
          have r3 := blk_cell HR.out 3
          have f0 := blk_free HR.out 0
          have f1 := blk_free HR.out 1
          have f2 := blk_free HR.out 2
          have f3 := blk_free HR.out 3
          have n1 : (Value.slice A1 d.next.length c1').ownBlock ≠ some gR := fun e => own_ne_tag HP1.out HR.out (by decide) e
          have n3 : (Value.slice A3 d.outs.length c3').ownBlock ≠ some gR := fun e => own_ne_tag HP3.out HR.out (by decide) e
          have n9 : (Value.slice A9 kk c9).ownBlock ≠ some gR := fun e => by have := (HG.out.lt gR e).1; omega
          have N1 := Lib.hid (And.intro n1 (And.intro n3 n9))
          have hkk2 := HKK.out
          have hlm : Hid ((Cir.toCz (Cir.prune d keep)).next.length = d.next.length ∧ (Cir.toCz (Cir.prune d keep)).gates.length = kk ∧ (Cir.toCz (Cir.prune d keep)).outs.length = d.outs.length) := Lib.hid ⟨by rw [HRes.out]; simp [Cir.toCz], by rw [HRes.out, hkk2]; simp [Cir.toCz, Cir.keptG_len], by rw [HRes.out]; simp [Cir.toCz]⟩
          clear n1 n3 n9 hlt hkk2 HX
          go_wp2_with fail
          refine bodyPost_ret (v := .agg #[.int .i64 (Cir.toCz d).ins, .slice A1 d.next.length c1', .slice A9 kk c9, .slice A3 d.outs.length c3']) (by simp [results, Try.results125, go_sem, r0, r1, r2, r3]) rfl ⟨⟨_, rfl, _, _, _, by rw [HRes.out]; rfl, ?_, ?_, ?_⟩, ?_⟩
          · have h := own_setN (i := 3) (u := .slice A3 d.outs.length c3') (own_setN (i := 2) (u := .slice A9 kk c9) (own_setN (i := 1) (u := .slice A1 d.next.length c1') (own_setN (i := 0) (u := .int .i64 (Cir.toCz d).ins) HP1.out N1.out.1) N1.out.1) N1.out.1) N1.out.1
            rw [hlm.out.1, HRes.out]
            exact own_mono h (Nat.zero_le _)
          · have h := own_setN (i := 3) (u := .slice A3 d.outs.length c3') (own_setN (i := 2) (u := .slice A9 kk c9) (own_setN (i := 1) (u := .slice A1 d.next.length c1') (own_setN (i := 0) (u := .int .i64 (Cir.toCz d).ins) HG.out N1.out.2.2) N1.out.2.2) N1.out.2.2) N1.out.2.2
            rw [hlm.out.2.1, HRes.out]
            exact own_mono h (Nat.zero_le _)
          · have h := own_setN (i := 3) (u := .slice A3 d.outs.length c3') (own_setN (i := 2) (u := .slice A9 kk c9) (own_setN (i := 1) (u := .slice A1 d.next.length c1') (own_setN (i := 0) (u := .int .i64 (Cir.toCz d).ins) HP3.out N1.out.2.1) N1.out.2.1) N1.out.2.1) N1.out.2.1
            rw [hlm.out.2.2, HRes.out]
            exact own_mono h (Nat.zero_le _)
          · exact (((Hb.out.setCell hwR _).setCell hwR _).setCell hwR _).setCell hwR _
end Go.Proofs.Ytlbfejdbfhgifaa

namespace Go.Proofs.Ytlbfejdbfhgifaa
open Go.RowKit Go.Maps
set_option maxRecDepth 100000
set_option maxHeartbeats 8000000
/-! The optimized circuit, by the program. -/
section
variable {S : RS} {Fin : List Ty → Prop} {o : Oper} {l : List Oper} {i : Nat} {τs : List Ty}
/-- A call that writes to blocks of its own. -/
theorem rs_callW (hd : i = S.d) {R0 R1 : World → Prop} (hJ : S.J = JStep R0 R1) (hrd : S.rd = none) (T : Ty) (hT : Stb S.E T) (f : FuncId) (args : Array Operand) (at_ : Array TypeId) (ho : o.op = .call { callee := .value (.func f), args := args, argTypes := at_ })
    (h : ∀ ρ w, Only S.E S.w0 w → R0 w → Known S.ops (tys τs) S.a0 ρ w i (.func f :: args.toList) → ∃ vs, (execOp ρ o).run S.P w = .ok (.enter f vs) w ∧ Calls S.P f vs w fun e w' => ∃ v, e = .returned v ∧ T w' v ∧ R1 w' ∧ Only S.E w w')
    (rest : RSeq S Fin l (i + 1) (T :: τs)) : RSeq S Fin (o :: l) i τs := by
  intro _
  refine ⟨T, hT, fun k ov ρ w hk hI hov hK => ?_, rest⟩
  obtain rfl := hov (by rw [hd]; exact ancB_self _ _ _)
  have h0 : R0 w := by have := hI.2.2; rw [hJ] at this; exact this
  have he : o.op.operands.toList = .func f :: args.toList := by rw [ho]; simp [Op.operands, Call.operands]
  rw [he] at hK
  obtain ⟨vs, h1, h2⟩ := h ρ w hI.2.1 h0 hK
  unfold Good
  rw [h1]
  refine h2.mono ?_
  rintro e w' ⟨v, rfl, h3, h4, h5⟩
  refine ⟨h3, ⟨?_, hI.2.1.trans h5, ?_⟩, h5⟩
  · rw [hrd]; trivial
  · rw [if_pos hd, hJ]
    exact h4
end
def TBld (B0 F : Nat) : Ty := fun w v => ∃ b E B, v = .pointer (some ⟨b, 0, none⟩) ∧ B0 ≤ B ∧ BldAt B b F [] E w
theorem stb_bld (B0 F : Nat) : Stb (fun _ => False) (TBld B0 F) := fun _ _ _ ⟨b, E, B, h1, h2, h3⟩ ho => ⟨b, E, B, h1, h2, h3.below (only_below ho)⟩
theorem optimize_any (g : Nat) (d : Ci) (w : World) (h : PCirc w g (Cir.toCz d)) (hd : Cir.Ok d) :
    Calls Try.prog 88 #[.pointer (some ⟨g, 0, none⟩)] w fun e w' => (∃ v, e = .returned v ∧ CircOwn 0 w' v (Cir.toCz (Cir.optI d))) ∧ Below w.heap.size w w' := by
  have s1 := hd.ins
  have s2 := hd.nexts
  have s3 := hd.gatess
  have s4 := hd.outss
  have Hp := Lib.hid h
  have Hd := Lib.hid hd
  have hcl := Cir.reached_closed hd
  have hIn : ∀ k, k ≤ d.gates.length → (Cir.optGo (Cir.nfirst d) (Cir.reached d) d.gates k).2.length = Cir.nfirst d + k ∧ (Cir.optGo (Cir.nfirst d) (Cir.reached d) d.gates k).1.length ≤ k ∧ ∀ l ∈ (Cir.optGo (Cir.nfirst d) (Cir.reached d) d.gates k).2, l < 2 * (Cir.nfirst d + (Cir.optGo (Cir.nfirst d) (Cir.reached d) d.gates k).1.length) := fun k hk => ⟨(Cir.opt_inv hd hcl k hk).len, (Cir.opt_inv hd hcl k hk).glen, (Cir.opt_inv hd hcl k hk).lt⟩
  have HIn := Lib.hid hIn
  obtain ⟨n, hn⟩ : ∃ n, n = Cir.nvars d := ⟨_, rfl⟩
  have hnf : Cir.nfirst d ≤ 8 := by unfold Cir.nfirst; omega
  have hnn : n = Cir.nfirst d + d.gates.length := hn
  have hnu : n ≤ 22 := by omega
  have hFe : 1 + d.ins + d.next.length = Cir.nfirst d := rfl
  have HRe : Hid (∀ w', Below w.heap.size w w' → Calls Try.prog 122 #[.pointer (some ⟨g, 0, none⟩)] w' (OwnBools (Cir.reached d) w')) := Lib.hid fun w' hb => reached_any g d w' (Hp.out.below hb) hd
  have HOl : Hid (∀ w', Below w.heap.size w w' → Calls Try.prog 123 #[.pointer (some ⟨g, 0, none⟩)] w' (OwnInts ((Cir.ownL (Cir.nfirst d)).map Int.ofNat) w')) := Lib.hid fun w' hb => ownLits_any g d w' (Hp.out.below hb) hd
  have HPf : Hid (∀ w', Below w.heap.size w w' → Calls Try.prog 104 #[.pointer (some ⟨g, 0, none⟩)] w' fun e w'' => e = .returned (.int .i64 (Cir.nfirst d : Nat)) ∧ Below w'.heap.size w' w'') := Lib.hid fun w' hb => by
    have := firstGate_any g _ w' (Hp.out.below hb) (by show (0 : Int) ≤ (d.ins : Int); omega) (by show (d.ins : Int) ≤ 100; omega) (by show (List.map _ _).length ≤ 100; rw [List.length_map]; omega)
    rwa [Cir.first_toCz] at this
  have HNb : Hid (∀ w', Calls Try.prog 72 #[.int .i64 (d.ins : Int), .int .i64 (d.next.length : Int)] w' fun e w'' => ∃ b E, e = .returned (.pointer (some ⟨b, 0, none⟩)) ∧ BldAt w'.heap.size b (Cir.nfirst d) [] E w'' ∧ Below w'.heap.size w' w'') := Lib.hid fun w' => by
    have := newBld_any d.ins d.next.length w' (by omega) (by omega)
    rwa [hFe] at this
  have hRl := Cir.reached_length d
  rw [← hn] at hRl
  have HRes : Hid (Cir.optI d = Cir.prune (Cir.built d (Cir.reached d)) (Cir.reached (Cir.built d (Cir.reached d)))) := Lib.hid rfl
  have HOkB := Lib.hid (Cir.built_ok hd hcl)
  have HBe : Hid (Cir.built d (Cir.reached d) = ⟨d.ins, d.next.map (Cir.useX (Cir.optGo (Cir.nfirst d) (Cir.reached d) d.gates d.gates.length).2), (Cir.optGo (Cir.nfirst d) (Cir.reached d) d.gates d.gates.length).1.reverse, d.outs.map (Cir.useX (Cir.optGo (Cir.nfirst d) (Cir.reached d) d.gates d.gates.length).2)⟩) := Lib.hid rfl
  have HN : Hid ((∀ l ∈ d.next, l < 2 * n) ∧ ∀ l ∈ d.outs, l < 2 * n) := Lib.hid ⟨fun l hl => by rw [hn]; exact hd.next l hl, fun l hl => by rw [hn]; exact hd.out l hl⟩
  have hF0 := Cir.nfirst_pos d
  have HGt := Lib.hid hd.gate
  have hgl : (Cir.toCz d).gates.length = d.gates.length := List.length_map _
  have hnl : (Cir.toCz d).next.length = d.next.length := List.length_map _
  generalize Cir.reached d = keep at *
  clear hIn hcl
  generalize Cir.nfirst d = F at *
  have Hnn := Lib.hid hnn
  have hFn : F ≤ n := by omega
  obtain ⟨vn, vg, vo, hg, c0, c1, c2, c3, r1, r2, r3⟩ := h
  obtain ⟨An, cn, hvn, hcn, hcmn⟩ := Row.shape r1
  rw [hnl] at hvn hcn
  subst hvn
  obtain ⟨Ag, cg, hvg, hcg, hcmg⟩ := Row.shape r2
  rw [hgl] at hvg
  subst hvg
  rw [hgl] at hcg
  have c0' : w.cell? ⟨g, 0, none⟩ = some (.int .i64 (d.ins : Int)) := c0
  have C0 := Lib.hid c0'
  have C1 := Lib.hid c1
  have C2 := Lib.hid c2
  have R2 : Hid (Row w 2 (.slice Ag d.gates.length cg) d.gates.length (cubes (Cir.toCz d).gates)) := Lib.hid (by have := r2; unfold CubesAt at this; rwa [hgl] at this)
  have Hgl := Lib.hid hgl
  have hbR := bel_new w (.cells #[.int .i64 0, .slice none 0 0, .slice none 0 0, .slice none 0 0] 31)
  have hR0 := heap_alloc_new w (.cells #[.int .i64 0, .slice none 0 0, .slice none 0 0, .slice none 0 0] 31)
  have hzR : (w.alloc (.cells #[.int .i64 0, .slice none 0 0, .slice none 0 0, .slice none 0 0] 31)).heap.size = w.heap.size + 1 := by simp
  clear hd hn hnn r1 r2 r3 c0 c0' c1 c2 c3 hnl hgl hFe
  go_enter Try.func88, Try.ntmps88
  go_wp2_with fail
  generalize w.alloc (.cells #[.int .i64 0, .slice none 0 0, .slice none 0 0, .slice none 0 0] 31) = W0 at *
  obtain ⟨gR, hgR⟩ : ∃ gR, gR = w.heap.size := ⟨_, rfl⟩
  rw [← hgR] at hR0 ⊢
  rw [hgR]
  refine (HRe.out W0 hbR).mono ?_
  rw [← hgR]
  rintro e w1 ⟨vk, rfl, hok, hb1⟩
  have hwR : w.heap.size ≤ gR := by omega
  have hwz : w.heap.size ≤ W0.heap.size := by omega
  have hgRz : gR < W0.heap.size := by omega
  rw [hRl] at hok
  obtain ⟨gk, ck, hvk, hgk1, hgk2, -, -⟩ := own_open hok (by omega)
  subst hvk
  have HB1 := Lib.hid (hbR.trans (hb1.mono hwz))
  have hR1 := (hb1.block gR hgRz).trans hR0
  have HR1 := Lib.hid hR1
  have Hok1 := Lib.hid hok
  have hz1 := hb1.size
  have Hkl := Lib.hid hRl
  clear hb1 hbR hR0 hok hgR hzR HRe hRl hR1
  go_wp2_with fail
  refine wp_region_rs (quietRS Try.prog _ w1 _) quietRS_ok (by kernel_rfl) (by kernel_rfl) (by kernel_rfl) (Nat.le_of_ble_eq_true rfl) trivial trivial ?_
  refine rs_old quietRS_ok quiet_any _ (.inl rfl) _ rfl rfl ?_
  apply rs_eq quietRS_ok quiet_any
  · intro ρ w' ho hK
    have ho : Only _ w1 w' := ho
    obtain ⟨h0, -⟩ := hK
    have h0' : ρ (.tmp 12) = _ := h0
    go_simp
    try exact rfl
  apply rs_eq quietRS_ok quiet_any
  · intro ρ w' ho hK
    have ho : Only _ w1 w' := ho
    obtain ⟨h0, -⟩ := hK
    have h0' : ρ (.tmp 13) = _ := h0
    go_simp
    try exact rfl
  apply rs_eq quietRS_ok quiet_any
  · intro ρ w' ho hK
    have ho : Only _ w1 w' := ho
    obtain ⟨h0, -⟩ := hK
    have h0' : ρ (.tmp 14) = _ := h0
    have hb := HB1.out.trans ((only_below ho).mono HB1.out.size)
    have q0 := (hb.cell (p := ⟨g, 0, none⟩) hg).trans C0.out
    have q1 := (hb.cell (p := ⟨g, 1, none⟩) hg).trans C1.out
    go_simp
    try exact rfl
  refine rs_old quietRS_ok quiet_any _ (.inl rfl) _ rfl rfl ?_
  apply rs_eq quietRS_ok quiet_any
  · intro ρ w' ho hK
    have ho : Only _ w1 w' := ho
    obtain ⟨h0, -⟩ := hK
    have h0' : ρ (.tmp 16) = _ := h0
    go_simp
    try exact rfl
  apply rs_eq quietRS_ok quiet_any
  · intro ρ w' ho hK
    have ho : Only _ w1 w' := ho
    obtain ⟨h0, -⟩ := hK
    have h0' : ρ (.tmp 17) = _ := h0
    go_simp
    try exact rfl
  apply rs_eq quietRS_ok quiet_any
  · intro ρ w' ho hK
    have ho : Only _ w1 w' := ho
    obtain ⟨h0, -⟩ := hK
    have h0' : ρ (.tmp 18) = _ := h0
    have hb := HB1.out.trans ((only_below ho).mono HB1.out.size)
    have q0 := (hb.cell (p := ⟨g, 0, none⟩) hg).trans C0.out
    have q1 := (hb.cell (p := ⟨g, 1, none⟩) hg).trans C1.out
    go_simp
    try exact rfl
  apply rs_eq quietRS_ok quiet_any
  · intro ρ w' ho hK
    have ho : Only _ w1 w' := ho
    obtain ⟨h0, -⟩ := hK
    have h0' : ρ (.tmp 19) = _ := h0
    go_simp
    try exact rfl
  refine rs_call quietRS_ok quiet_any (TBld w1.heap.size F) (stb_bld _ _) 72 _ _ rfl (fun ρ w' ho hK => by
    have ho : Only _ w1 w' := ho
    obtain ⟨h0, h1, h2, -⟩ := hK
    have h0' : ρ (.func 72) = .func (.func 72) #[] #[] := h0
    have h1' : ρ (.tmp 15) = _ := h1
    have h2' : ρ (.tmp 20) = _ := h2
    refine ⟨#[ρ (.tmp 15), ρ (.tmp 20)], ?_, ?_⟩
    · go_simp
    · rw [h1', h2']
      refine (HNb.out w').mono ?_
      rintro e w2 ⟨b, E, rfl, hB, hb⟩
      exact ⟨_, rfl, ⟨b, E, _, rfl, ho.size, hB⟩, hb⟩) ?_
  refine rs_same quietRS_ok quiet_any 21 9 (.inr rfl) rfl _ rfl ?_
  intro f w9 k9 hk9 hI9 ht9 hcp9
  have E0 : f 0 = _ := ht9 0 (Nat.le_of_ble_eq_true rfl)
  conv at E0 => rhs; whnf
  have E1 : f 1 = _ := ht9 1 (Nat.le_of_ble_eq_true rfl)
  have E2 : f 2 = _ := ht9 2 (Nat.le_of_ble_eq_true rfl)
  have E3 : f 3 = _ := ht9 3 (Nat.le_of_ble_eq_true rfl)
  have E4 : f 4 = _ := ht9 4 (Nat.le_of_ble_eq_true rfl)
  conv at E4 => rhs; whnf
  have E5 : f 5 = _ := ht9 5 (Nat.le_of_ble_eq_true rfl)
  have E6 : f 6 = _ := ht9 6 (Nat.le_of_ble_eq_true rfl)
  have E7 : f 7 = _ := ht9 7 (Nat.le_of_ble_eq_true rfl)
  have E8 : f 8 = _ := ht9 8 (Nat.le_of_ble_eq_true rfl)
  have E9 : (TBld w1.heap.size F) w9 (f 9) := ht9 9 (Nat.le_of_ble_eq_true rfl)
  have E10 : (TBld w1.heap.size F) w9 (f 10) := ht9 10 (Nat.le_of_ble_eq_true rfl)
  have Ho9 : Only _ w1 w9 := hI9.2.1
  have C10 : f 10 = f 9 := (hcp9 10 _ 21 9 rfl rfl rfl rfl).2
  simp only [putAll, E0, E1, E2, E3, E4, E5, E6, E7, E8, C10, Nat.zero_add, Nat.reduceAdd, Act.put, List.setIfInBounds_toArray, List.set_cons_succ, List.set_cons_zero]
  clear E0 E1 E2 E3 E4 E5 E6 E7 E8
  clear hI9 ht9 hcp9 hk9
  generalize f 9 = r9 at *
  obtain ⟨b, E0, B, e9, hBw, hB2⟩ : ∃ b E B, r9 = .pointer (some ⟨b, 0, none⟩) ∧ w1.heap.size ≤ B ∧ BldAt B b F [] E w9 := E9
  subst e9
  obtain ⟨w2, hw2⟩ : ∃ w2, w2 = w9 := ⟨_, rfl⟩
  subst hw2
  have hb2 := only_below Ho9
  have HB2 := Lib.hid (HB1.out.trans (hb2.mono HB1.out.size))
  have HR2 := Lib.hid ((hb2.block gR (by omega)).trans HR1.out)
  have Hok2 := Lib.hid (own_below Hok1.out hb2)
  have HBl2 := Lib.hid hB2
  have hz2 := hb2.size
  clear hb2 Ho9 hB2 HB1 HR1 Hok1 C10 HNb
  go_wp2_with fail
  refine (HOl.out w2 HB2.out).mono ?_
  rintro e w3 ⟨vl, rfl, hol, hb3⟩
  have hll : ((Cir.ownL F).map Int.ofNat).length = F := by simp [Cir.ownL]
  rw [hll] at hol
  have HB3 := Lib.hid (HB2.out.trans (hb3.mono HB2.out.size))
  have hER : ∀ q, E0 q → B ≤ q ∧ q < w2.heap.size := fun q hq => by obtain ⟨_, _, _, _, h⟩ := HBl2.out; exact h.lo q hq
  have HR3 := Lib.hid ((hb3.block gR (by omega)).trans HR2.out)
  have Hok3 := Lib.hid (own_below Hok2.out hb3)
  have HBl3 := Lib.hid (HBl2.out.below hb3)
  have Hol3 : Hid (w3.ownsRow w2.heap.size 3 1 vl (F + 0) (ints ((Cir.optGo F keep d.gates 0).2.map Int.ofNat))) := Lib.hid hol
  have HA3 : Hid (∀ q, E0 q → vl.ownBlock ≠ some q) := Lib.hid fun q hq e => by have h1 := (hol.lt q e).1; have h2 := (hER q hq).2; omega
  have q2 := (HB3.out.cell (p := ⟨g, 2, none⟩) hg).trans C2.out
  have hz3 := hb3.size
  obtain ⟨BL, hBL⟩ : ∃ BL, BL = w2.heap.size := ⟨_, rfl⟩
  rw [← hBL] at Hol3
  have hBL1 : w1.heap.size ≤ BL := by omega
  have hBLz : BL ≤ w3.heap.size := by omega
  clear hb3 hER hll hol HB2 HR2 Hok2 HBl2 HOl hBL
  go_wp2_with fail
  clear q2
  have hBl3 : BldAt B b F (Cir.optGo F keep d.gates 0).1 E0 w3 := HBl3.out
  go_loopw [5, 29] (fun lv i wr => ∃ (k M : Nat) (E : Nat → Prop) (lv' : Value), lv' = lv ∧ Hid (M = F + k) ∧ k ≤ d.gates.length ∧ i = .int .i64 k ∧ Hid (BldAt B b F (Cir.optGo F keep d.gates k).1 E wr) ∧ Hid (wr.ownsRow BL 3 1 lv M (ints ((Cir.optGo F keep d.gates k).2.map Int.ofNat))) ∧ Hid (∀ q, E q → lv.ownBlock ≠ some q) ∧ Hid (wr.heap[gR]? = some (.cells #[.int .i64 0, .slice none 0 0, .slice none 0 0, .slice none 0 0] 31 (0, 0))) ∧ Hid (wr.ownsRow W0.heap.size 4 1 (.slice (some ⟨gk, 0, none⟩) n ck) n (bools keep)) ∧ BL ≤ wr.heap.size ∧ Hid (Below w.heap.size w wr)) (fun _ i _ => d.gates.length - (intOf i).toNat)
  case atStart => exact ⟨0, F, E0, vl, rfl, Lib.hid rfl, Nat.zero_le _, rfl, Lib.hid hBl3, Hol3, HA3, HR3, Hok3, hBLz, HB3⟩
  case round =>
    obtain ⟨k, M, E, lv', hlv, HM, hk, rfl, HBl, HL, HA, HR, Hok, hzr, Hb⟩ := hrel
    subst hlv
    obtain ⟨gl, cl, hvl, hgl1, hgl2, -, -⟩ := own_open HL.out (by have := HM.out; omega)
    subst hvl
    clear hBl3 HBl3 Hol3 HA3 HR3 Hok3 HB3
    have hgRz := blk_ltB HR.out
    by_cases hlt : k < d.gates.length
    · obtain ⟨bq, o, x, rfl, hbl, hx, hs1, hs2⟩ := cubes_open R2.out Hb.out Hgl.out.symm (i := k) (by rw [Hgl.out]; exact hlt)
      obtain ⟨gt, hgt⟩ := at_some hlt
      have hxe : x = ((gt.1 : Int), (gt.2 : Int)) := by
        have h1 := hx.out
        unfold Cir.toCz at h1
        simp only [List.getElem?_map, hgt] at h1
        exact (Option.some.inj h1).symm
      subst hxe
      obtain ⟨g1, g2⟩ := HGt.out k gt hgt
      have hgD : d.gates.getD k (0, 0) = gt := by rw [List.getD_eq_getElem?_getD, hgt, Option.getD_some]
      have HInk := Lib.hid (HIn.out k (by omega))
      have HSt : Hid (Cir.optGo F keep d.gates (k + 1) = if keep.getD (F + k) false then ((Cir.andB F (Cir.optGo F keep d.gates k).1 (Cir.useX (Cir.optGo F keep d.gates k).2 gt.1) (Cir.useX (Cir.optGo F keep d.gates k).2 gt.2)).2, (Cir.optGo F keep d.gates k).2 ++ [(Cir.andB F (Cir.optGo F keep d.gates k).1 (Cir.useX (Cir.optGo F keep d.gates k).2 gt.1) (Cir.useX (Cir.optGo F keep d.gates k).2 gt.2)).1]) else ((Cir.optGo F keep d.gates k).1, (Cir.optGo F keep d.gates k).2 ++ [0])) := Lib.hid (by rw [Cir.optGo]; unfold Cir.optStep; rw [hgD])
      generalize hpp : Cir.optGo F keep d.gates k = pp at *
      obtain ⟨G, m⟩ := pp
      obtain ⟨x1, hx1⟩ : ∃ x1, x1 = gt.1 := ⟨_, rfl⟩
      obtain ⟨x2, hx2⟩ : ∃ x2, x2 = gt.2 := ⟨_, rfl⟩
      rw [← hx1] at g1 HSt hs1
      rw [← hx2] at g2 HSt hs2
      have hba := bel_new wr (.cells #[.int .i64 (x1 : Int), .int .i64 (x2 : Int)] 55)
      have hg9 := heap_alloc_new wr (.cells #[.int .i64 (x1 : Int), .int .i64 (x2 : Int)] 55)
      have hza : (wr.alloc (.cells #[.int .i64 (x1 : Int), .int .i64 (x2 : Int)] 55)).heap.size = wr.heap.size + 1 := by simp
      have hBa := Hb.out.trans (hba.mono Hb.out.size)
      clear hx hgt hgD hbl hx1 hx2 hpp
      go_wp2_with fail
      refine (HPf.out _ hBa).mono ?_
      rintro e wf ⟨rfl, hb9⟩
      have hb19 := hba.trans (hb9.mono (by omega))
      obtain ⟨gx, hgx⟩ : ∃ gx, gx = wr.heap.size := ⟨_, rfl⟩
      have hg99 := (hb9.block wr.heap.size (by omega)).trans hg9
      rw [← hgx] at hg99 ⊢
      have HG9 := Lib.hid hg99
      have HRa := Lib.hid ((hb19.block gR hgRz).trans HR.out)
      have HBla := Lib.hid (HBl.out.below hb19)
      have HLa := Lib.hid (own_below HL.out hb19)
      have Hoka := Lib.hid (own_below Hok.out hb19)
      have HBa := Lib.hid (Hb.out.trans (hb19.mono Hb.out.size))
      have hz9 := hb19.size
      have hgxE : ∀ q, E q → q < gx := fun q hq => by rw [hgx]; obtain ⟨_, _, _, _, h⟩ := HBl.out; exact (h.lo q hq).2
      have HgxE := Lib.hid hgxE
      have hgxz : gx < wf.heap.size := blk_ltB hg99
      have hFk : F + k < n := by have := Hnn.out; omega
      have hsk : (bools keep)[F + k]? = some (.bool (keep.getD (F + k) false)) := by
        have := Hkl.out
        unfold bools
        rw [List.getElem?_map, List.getElem?_eq_getElem (by omega), List.getD_eq_getElem?_getD, List.getElem?_eq_getElem (by omega)]
        rfl
      obtain ⟨u1, hu1, hd1, hf1⟩ := own_slot Hoka.out (j := F + k) (by omega)
      obtain rfl : u1 = .bool (keep.getD (F + k) false) := Option.some.inj (hu1.symm.trans hsk)
      have hix : ((F : Int) + (k : Int)).toNat = F + k := by omega
      have hwk : IntKind.i64.wrap ((F : Int) + (k : Int)) = (F : Int) + (k : Int) := IntWalk.i64_in _ (by omega)
      clear hu1 hf1 hsk hs1 hs2 hba hg9 hza hBa hb9 hb19 hgx hg99 HR HBl HL Hok Hb hgxE
      cases hfl : keep.getD (F + k) false
      · rw [hfl] at hd1
        rw [hfl, if_neg (by simp)] at HSt
        have hbl := bel_new wf (.cells #[.int .i64 0] 3)
        have hzl : (wf.alloc (.cells #[.int .i64 0] 3)).heap.size = wf.heap.size + 1 := by simp
        have Hlit := Lib.hid (Row.of_own (World.ownsRow_lit (base := wf.heap.size) (e := 3) (size := 1) wf #[.int .i64 0] 1 (Nat.le_refl _) (by unfold maxLen; omega) rfl))
        have HLl := Lib.hid (own_below HLa.out hbl)
        have HBll := Lib.hid (HBla.out.below hbl)
        have HRl := Lib.hid ((hbl.block gR (blk_ltB HRa.out)).trans HRa.out)
        have Hokl := Lib.hid (own_below Hoka.out hbl)
        have HBal := Lib.hid (HBa.out.trans (hbl.mono HBa.out.size))
        generalize hcs : ints (m.map Int.ofNat) = cs at *
        have Hsn : Hid (ints (List.map Int.ofNat (m ++ [0])) = cs ++ [Value.int .i64 0]) := Lib.hid (by rw [← hcs]; unfold ints; rw [List.map_append, List.map_append]; rfl)
        clear hbl hfl HRa HBla HLa Hoka hcs
        go_wp2_with (at_builtin; refine append_ints rfl (.tmp 63) (.tmp 65) rfl BL (.slice (some ⟨gl, 0, none⟩) M cl) M cs rfl HLl.out _ 1 [.int .i64 0] rfl Hlit.out (by simp [Value.oneCell']) (by have := HM.out; omega) (by omega) ?_; intro v4 w4 hown4 hg4 hat4; have Hown4 := Lib.hid hown4; have Hg4 := Lib.hid hg4; have Hat4 := Lib.hid hat4; clear hown4 hg4 hat4)
        have O9 : Only (fun q => (Value.slice (some ⟨gl, 0, none⟩) M cl).ownBlock = some q) _ w4 := Only.grown Hg4.out (fun k hk => hk)
        have hO9 := Lib.hid O9
        have hz4 := O9.size
        clear O9
        go_roundw
        case rel => exact ⟨k + 1, M + 1, E, v4, rfl, Lib.hid (by rw [HM.out]; omega), by omega, by go_num, Lib.hid (by rw [HSt.out]; exact HBll.out.only hO9.out (fun q hq e => HA.out q hq e)), Lib.hid (by rw [HSt.out]; show w4.ownsRow BL 3 1 v4 (M + 1) (ints ((m ++ [0]).map Int.ofNat)); rw [Hsn.out]; exact Hown4.out), Lib.hid (fun q hq e => by
          have h1 := HgxE.out q hq
          rcases Hat4.out with h2 | h2
          · exact HA.out q hq (by rw [← h2]; exact e)
          · rw [h2] at e; have e' := Option.some.inj e; omega), Lib.hid ((hO9.out.block gR (by have := blk_ltB HRl.out; omega) (fun e => by have := Option.some.inj e; simp only at this; omega)).trans HRl.out), Lib.hid (own_only Hokl.out hO9.out (fun q hq e => by have h1 := Option.some.inj hq; have h2 := Option.some.inj e; simp only at h1 h2; omega)), by omega, Lib.hid (Only.below HBal.out hO9.out HBal.out.size (fun q hq => by have := Option.some.inj hq; simp only at this; omega))⟩
        case measure => simp [intOf]; omega
      · rw [hfl] at hd1
        rw [hfl, if_pos rfl] at HSt
        have hml : m.length = F + k := HInk.out.1
        have hGl : G.length ≤ k := HInk.out.2.1
        have y1b := Cir.useX_lt (show 0 < F + G.length by omega) HInk.out.2.2 x1
        have y2b := Cir.useX_lt (show 0 < F + G.length by omega) HInk.out.2.2 x2
        have t1 := tdiv_two x1
        have t2 := tdiv_two x2
        have a1 := and_one_nat x1 (by omega)
        have a2 := and_one_nat x2 (by omega)
        have hmv : ∀ l ∈ m, l ≤ 1000 := fun l hl => by have : l < 2 * (F + G.length) := HInk.out.2.2 l hl; omega
        have m1b := getD_le hmv (x1 / 2)
        have m2b := getD_le hmv (x2 / 2)
        have e1 := i64_xor_nat (m.getD (x1 / 2) 0) (x1 % 2) (by omega) (by omega)
        have e2 := i64_xor_nat (m.getD (x2 / 2) 0) (x2 % 2) (by omega) (by omega)
        have hMk := HM.out
        have q1b : x1 / 2 < M := by omega
        have q2b : x2 / 2 < M := by omega
        have hc1 : (ints (m.map Int.ofNat))[x1 / 2]? = some (.int .i64 ((m.getD (x1 / 2) 0 : Nat) : Int)) := by
          unfold ints
          rw [List.getElem?_map, List.getElem?_map, List.getElem?_eq_getElem (by omega), List.getD_eq_getElem?_getD, List.getElem?_eq_getElem (by omega)]
          rfl
        have hc2 : (ints (m.map Int.ofNat))[x2 / 2]? = some (.int .i64 ((m.getD (x2 / 2) 0 : Nat) : Int)) := by
          unfold ints
          rw [List.getElem?_map, List.getElem?_map, List.getElem?_eq_getElem (by omega), List.getD_eq_getElem?_getD, List.getElem?_eq_getElem (by omega)]
          rfl
        obtain ⟨u2, hu2, hd2, -⟩ := own_slot HLa.out (j := x1 / 2) (by omega)
        obtain rfl : u2 = _ := Option.some.inj (hu2.symm.trans hc1)
        obtain ⟨u3, hu3, hd3, -⟩ := own_slot HLa.out (j := x2 / 2) (by omega)
        obtain rfl : u3 = _ := Option.some.inj (hu3.symm.trans hc2)
        have hU1 : m.getD (x1 / 2) 0 ^^^ (x1 % 2) = Cir.useX m x1 := rfl
        have hU2 : m.getD (x2 / 2) 0 ^^^ (x2 % 2) = Cir.useX m x2 := rfl
        rw [hU1] at e1
        rw [hU2] at e2
        clear hu2 hu3 hc1 hc2 hU1 hU2 hmv
        generalize Cir.useX m x1 = y1 at *
        generalize Cir.useX m x2 = y2 at *
        generalize m.getD (x1 / 2) 0 = m1 at *
        generalize m.getD (x2 / 2) 0 = m2 at *
        have hwq1 : IntKind.i64.wrap ((x1 / 2 : Nat) : Int) = ((x1 / 2 : Nat) : Int) := IntWalk.i64_in _ (by omega)
        have hwq2 : IntKind.i64.wrap ((x2 / 2 : Nat) : Int) = ((x2 / 2 : Nat) : Int) := IntWalk.i64_in _ (by omega)
        generalize x1 / 2 = p1 at *
        generalize x2 / 2 = p2 at *
        generalize x1 % 2 = r1 at *
        generalize x2 % 2 = r2 at *
        have hn1 : ¬ E gx := fun e => by have := HgxE.out gx e; omega
        have hn2 : ¬ E gl := fun e => HA.out gl e rfl
        have hgl3 : gl < wf.heap.size := by omega
        have HAB := Lib.hid (Cir.andB_len F G y1 y2)
        have Hml := Lib.hid hml
        generalize hAB : Cir.andB F G y1 y2 = ab at *
        have HabE := Lib.hid hAB
        obtain ⟨r, G2⟩ := ab
        clear hfl hAB hml hMk
        go_wp2_with fail
        have hOk := fun ops a => stepRS_ok (Pg := Try.prog) (ops := ops) (w := wf) (a := a) (E := E) (R0 := fun w' => BldAt B b F G E w') (R1 := fun w' => ∃ E', BldAt B b F G2 E' w' ∧ (∀ q, E' q → E q ∨ wf.heap.size ≤ q) ∧ ∀ q, E q → E' q) (d := 21) (fun q hq => by have := HgxE.out q hq; omega) (fun w1 w2 h hb => h.below hb) (fun w1 w2 ⟨E', h1, h2, h3⟩ hb => ⟨E', h1.below hb, h2, h3⟩)
        refine wp_region_rs (stepRS Try.prog _ wf _ E _ _ 21) (hOk _ _) (by kernel_rfl) (by kernel_rfl) (by kernel_rfl) (Nat.le_of_ble_eq_true rfl) trivial HBla.out ?_
        refine rs_old (hOk _ _) (.inl (Nat.ne_of_beq_eq_false rfl)) _ (.inl rfl) _ rfl rfl ?_
        refine rs_old (hOk _ _) (.inl (Nat.ne_of_beq_eq_false rfl)) _ (.inl rfl) _ rfl rfl ?_
        apply rs_eq (hOk _ _) (.inl (Nat.ne_of_beq_eq_false rfl))
        · intro ρ w' ho hK
          have ho : Only _ wf w' := ho
          obtain ⟨h0, -⟩ := hK
          have h0' : ρ (.tmp 7) = _ := h0
          go_simp
          try exact rfl
        apply rs_eq (hOk _ _) (.inl (Nat.ne_of_beq_eq_false rfl))
        · intro ρ w' ho hK
          have ho : Only _ wf w' := ho
          obtain ⟨h0, -⟩ := hK
          have h0' : ρ (.tmp 43) = _ := h0
          have k0 := cell_on ho hn1 hgxz (blk_cell HG9.out 0)
          have k1 := cell_on ho hn1 hgxz (blk_cell HG9.out 1)
          have l1 := cell_on ho hn2 hgl3 hd2
          have l2 := cell_on ho hn2 hgl3 hd3
          go_simp
          try exact rfl
        apply rs_eq (hOk _ _) (.inl (Nat.ne_of_beq_eq_false rfl))
        · intro ρ w' ho hK
          have ho : Only _ wf w' := ho
          obtain ⟨h0, h1, -⟩ := hK
          have h0' : ρ (.tmp 44) = _ := h0
          have h1' : ρ (.const (Value.int IntKind.i64 2)) = (Value.int IntKind.i64 2) := h1
          go_simp
          try exact rfl
        apply rs_eq (hOk _ _) (.inl (Nat.ne_of_beq_eq_false rfl))
        · intro ρ w' ho hK
          have ho : Only _ wf w' := ho
          obtain ⟨h0, h1, -⟩ := hK
          have h0' : ρ (.tmp 42) = _ := h0
          have h1' : ρ (.tmp 45) = _ := h1
          go_simp
          try exact rfl
        apply rs_eq (hOk _ _) (.inl (Nat.ne_of_beq_eq_false rfl))
        · intro ρ w' ho hK
          have ho : Only _ wf w' := ho
          obtain ⟨h0, -⟩ := hK
          have h0' : ρ (.tmp 46) = _ := h0
          have k0 := cell_on ho hn1 hgxz (blk_cell HG9.out 0)
          have k1 := cell_on ho hn1 hgxz (blk_cell HG9.out 1)
          have l1 := cell_on ho hn2 hgl3 hd2
          have l2 := cell_on ho hn2 hgl3 hd3
          go_simp
          try exact rfl
        apply rs_eq (hOk _ _) (.inl (Nat.ne_of_beq_eq_false rfl))
        · intro ρ w' ho hK
          have ho : Only _ wf w' := ho
          obtain ⟨h0, -⟩ := hK
          have h0' : ρ (.tmp 7) = _ := h0
          go_simp
          try exact rfl
        apply rs_eq (hOk _ _) (.inl (Nat.ne_of_beq_eq_false rfl))
        · intro ρ w' ho hK
          have ho : Only _ wf w' := ho
          obtain ⟨h0, -⟩ := hK
          have h0' : ρ (.tmp 48) = _ := h0
          have k0 := cell_on ho hn1 hgxz (blk_cell HG9.out 0)
          have k1 := cell_on ho hn1 hgxz (blk_cell HG9.out 1)
          have l1 := cell_on ho hn2 hgl3 hd2
          have l2 := cell_on ho hn2 hgl3 hd3
          go_simp
          try exact rfl
        apply rs_eq (hOk _ _) (.inl (Nat.ne_of_beq_eq_false rfl))
        · intro ρ w' ho hK
          have ho : Only _ wf w' := ho
          obtain ⟨h0, h1, -⟩ := hK
          have h0' : ρ (.tmp 49) = _ := h0
          have h1' : ρ (.const (Value.int IntKind.i64 1)) = (Value.int IntKind.i64 1) := h1
          go_simp
          try exact rfl
        apply rs_eq (hOk _ _) (.inl (Nat.ne_of_beq_eq_false rfl))
        · intro ρ w' ho hK
          have ho : Only _ wf w' := ho
          obtain ⟨h0, h1, -⟩ := hK
          have h0' : ρ (.tmp 47) = _ := h0
          have h1' : ρ (.tmp 50) = _ := h1
          go_simp
          try exact rfl
        refine rs_old (hOk _ _) (.inl (Nat.ne_of_beq_eq_false rfl)) _ (.inl rfl) _ rfl rfl ?_
        apply rs_eq (hOk _ _) (.inl (Nat.ne_of_beq_eq_false rfl))
        · intro ρ w' ho hK
          have ho : Only _ wf w' := ho
          obtain ⟨h0, -⟩ := hK
          have h0' : ρ (.tmp 7) = _ := h0
          go_simp
          try exact rfl
        apply rs_eq (hOk _ _) (.inl (Nat.ne_of_beq_eq_false rfl))
        · intro ρ w' ho hK
          have ho : Only _ wf w' := ho
          obtain ⟨h0, -⟩ := hK
          have h0' : ρ (.tmp 53) = _ := h0
          have k0 := cell_on ho hn1 hgxz (blk_cell HG9.out 0)
          have k1 := cell_on ho hn1 hgxz (blk_cell HG9.out 1)
          have l1 := cell_on ho hn2 hgl3 hd2
          have l2 := cell_on ho hn2 hgl3 hd3
          go_simp
          try exact rfl
        apply rs_eq (hOk _ _) (.inl (Nat.ne_of_beq_eq_false rfl))
        · intro ρ w' ho hK
          have ho : Only _ wf w' := ho
          obtain ⟨h0, h1, -⟩ := hK
          have h0' : ρ (.tmp 54) = _ := h0
          have h1' : ρ (.const (Value.int IntKind.i64 2)) = (Value.int IntKind.i64 2) := h1
          go_simp
          try exact rfl
        apply rs_eq (hOk _ _) (.inl (Nat.ne_of_beq_eq_false rfl))
        · intro ρ w' ho hK
          have ho : Only _ wf w' := ho
          obtain ⟨h0, h1, -⟩ := hK
          have h0' : ρ (.tmp 52) = _ := h0
          have h1' : ρ (.tmp 55) = _ := h1
          go_simp
          try exact rfl
        apply rs_eq (hOk _ _) (.inl (Nat.ne_of_beq_eq_false rfl))
        · intro ρ w' ho hK
          have ho : Only _ wf w' := ho
          obtain ⟨h0, -⟩ := hK
          have h0' : ρ (.tmp 56) = _ := h0
          have k0 := cell_on ho hn1 hgxz (blk_cell HG9.out 0)
          have k1 := cell_on ho hn1 hgxz (blk_cell HG9.out 1)
          have l1 := cell_on ho hn2 hgl3 hd2
          have l2 := cell_on ho hn2 hgl3 hd3
          go_simp
          try exact rfl
        apply rs_eq (hOk _ _) (.inl (Nat.ne_of_beq_eq_false rfl))
        · intro ρ w' ho hK
          have ho : Only _ wf w' := ho
          obtain ⟨h0, -⟩ := hK
          have h0' : ρ (.tmp 7) = _ := h0
          go_simp
          try exact rfl
        apply rs_eq (hOk _ _) (.inl (Nat.ne_of_beq_eq_false rfl))
        · intro ρ w' ho hK
          have ho : Only _ wf w' := ho
          obtain ⟨h0, -⟩ := hK
          have h0' : ρ (.tmp 58) = _ := h0
          have k0 := cell_on ho hn1 hgxz (blk_cell HG9.out 0)
          have k1 := cell_on ho hn1 hgxz (blk_cell HG9.out 1)
          have l1 := cell_on ho hn2 hgl3 hd2
          have l2 := cell_on ho hn2 hgl3 hd3
          go_simp
          try exact rfl
        apply rs_eq (hOk _ _) (.inl (Nat.ne_of_beq_eq_false rfl))
        · intro ρ w' ho hK
          have ho : Only _ wf w' := ho
          obtain ⟨h0, h1, -⟩ := hK
          have h0' : ρ (.tmp 59) = _ := h0
          have h1' : ρ (.const (Value.int IntKind.i64 1)) = (Value.int IntKind.i64 1) := h1
          go_simp
          try exact rfl
        apply rs_eq (hOk _ _) (.inl (Nat.ne_of_beq_eq_false rfl))
        · intro ρ w' ho hK
          have ho : Only _ wf w' := ho
          obtain ⟨h0, h1, -⟩ := hK
          have h0' : ρ (.tmp 57) = _ := h0
          have h1' : ρ (.tmp 60) = _ := h1
          go_simp
          try exact rfl
        refine rs_callW rfl rfl rfl (TEq (.int .i64 (r : Nat))) (stb_eq _ _) 74 _ _ rfl (fun ρ w' ho hJ hK => by
          obtain ⟨hf, h0, h1, h2, -⟩ := hK
          have hf' : ρ (.func 74) = .func (.func 74) #[] #[] := hf
          have h0' : ρ (.tmp 41) = .pointer (some ⟨b, 0, none⟩) := h0
          have h1' : ρ (.tmp 51) = .int .i64 (y1 : Nat) := h1
          have h2' : ρ (.tmp 61) = .int .i64 (y2 : Nat) := h2
          refine ⟨#[.pointer (some ⟨b, 0, none⟩), .int .i64 (y1 : Nat), .int .i64 (y2 : Nat)], ?_, ?_⟩
          · go_simp
          · refine (and_any y1 y2 w' hJ (by omega) (by omega) y1b y2b).mono ?_
            rw [HabE.out]
            rintro e w2 ⟨rfl, E', hB', n', i', o'⟩
            exact ⟨_, rfl, rfl, ⟨E', hB', fun q hq => (n' q hq).imp id (fun h => Nat.le_trans ho.size h), i'⟩, o'⟩) ?_
        refine rs_same (hOk _ _) (.inl (Nat.ne_of_beq_eq_false rfl)) 62 21 (.inr rfl) rfl _ rfl ?_
        intro f w9 k9 hk9 hI9 ht9 hcp9
        have E0 : f 0 = _ := ht9 0 (Nat.le_of_ble_eq_true rfl)
        conv at E0 => rhs; whnf
        have E1 : f 1 = _ := ht9 1 (Nat.le_of_ble_eq_true rfl)
        conv at E1 => rhs; whnf
        have E2 : f 2 = _ := ht9 2 (Nat.le_of_ble_eq_true rfl)
        have E3 : f 3 = _ := ht9 3 (Nat.le_of_ble_eq_true rfl)
        have E4 : f 4 = _ := ht9 4 (Nat.le_of_ble_eq_true rfl)
        have E5 : f 5 = _ := ht9 5 (Nat.le_of_ble_eq_true rfl)
        have E6 : f 6 = _ := ht9 6 (Nat.le_of_ble_eq_true rfl)
        have E7 : f 7 = _ := ht9 7 (Nat.le_of_ble_eq_true rfl)
        have E8 : f 8 = _ := ht9 8 (Nat.le_of_ble_eq_true rfl)
        have E9 : f 9 = _ := ht9 9 (Nat.le_of_ble_eq_true rfl)
        have E10 : f 10 = _ := ht9 10 (Nat.le_of_ble_eq_true rfl)
        have E11 : f 11 = _ := ht9 11 (Nat.le_of_ble_eq_true rfl)
        conv at E11 => rhs; whnf
        have E12 : f 12 = _ := ht9 12 (Nat.le_of_ble_eq_true rfl)
        have E13 : f 13 = _ := ht9 13 (Nat.le_of_ble_eq_true rfl)
        have E14 : f 14 = _ := ht9 14 (Nat.le_of_ble_eq_true rfl)
        have E15 : f 15 = _ := ht9 15 (Nat.le_of_ble_eq_true rfl)
        have E16 : f 16 = _ := ht9 16 (Nat.le_of_ble_eq_true rfl)
        have E17 : f 17 = _ := ht9 17 (Nat.le_of_ble_eq_true rfl)
        have E18 : f 18 = _ := ht9 18 (Nat.le_of_ble_eq_true rfl)
        have E19 : f 19 = _ := ht9 19 (Nat.le_of_ble_eq_true rfl)
        have E20 : f 20 = _ := ht9 20 (Nat.le_of_ble_eq_true rfl)
        have E21 : f 21 = _ := ht9 21 (Nat.le_of_ble_eq_true rfl)
        have E22 : f 22 = _ := ht9 22 (Nat.le_of_ble_eq_true rfl)
        have Ho9 : Only _ wf w9 := hI9.2.1
        have HJ9 := hI9.2.2
        simp only [putAll, E0, E1, E2, E3, E4, E5, E6, E7, E8, E9, E10, E11, E12, E13, E14, E15, E16, E17, E18, E19, E20, E21, E22, Nat.zero_add, Nat.reduceAdd, Act.put, List.setIfInBounds_toArray, List.set_cons_succ, List.set_cons_zero]
        clear E0 E1 E2 E3 E4 E5 E6 E7 E8 E9 E10 E11 E12 E13 E14 E15 E16 E17 E18 E19 E20 E21 E22
        clear hI9 ht9 hcp9 hk9
        have Oq : Only E wf w9 := Ho9
        obtain ⟨E', hB', hn', hi'⟩ := HJ9
        have hElo : ∀ q, E q → B ≤ q := fun q hq => by obtain ⟨_, _, _, _, h⟩ := HBla.out; exact (h.lo q hq).1
        have hL9 := own_only HLa.out Oq (fun q hq e => HA.out q e hq)
        have hR9 := (Oq.block gR (by omega) (fun e => by have := hElo gR e; omega)).trans HRa.out
        have hok9 := own_only Hoka.out Oq (fun q hq e => by have h1 := Option.some.inj hq; simp only at h1; have := hElo q e; omega)
        have hB9 := Only.below HBa.out Oq HBa.out.size (fun q hq => by have := hElo q hq; omega)
        have hz10 := Oq.size
        have HE' : Hid ((∀ q, E' q → Value.ownBlock (.slice (some ⟨gl, 0, none⟩) M cl) ≠ some q) ∧ ∀ q, E' q → q < w9.heap.size) := Lib.hid ⟨fun q hq e => by
          rcases hn' q hq with h | h
          · exact HA.out q h e
          · have := Option.some.inj e; simp only at this; omega, fun q hq => by obtain ⟨_, _, _, _, h⟩ := hB'; exact (h.lo q hq).2⟩
        have hbl := bel_new w9 (.cells #[.int .i64 (r : Nat)] 3)
        have hzl : (w9.alloc (.cells #[.int .i64 (r : Nat)] 3)).heap.size = w9.heap.size + 1 := by simp
        have Hlit := Lib.hid (Row.of_own (World.ownsRow_lit (base := w9.heap.size) (e := 3) (size := 1) w9 #[.int .i64 (r : Nat)] 1 (Nat.le_refl _) (by unfold maxLen; omega) rfl))
        have HLl := Lib.hid (own_below hL9 hbl)
        have HBll := Lib.hid (hB'.below hbl)
        have HRl := Lib.hid ((hbl.block gR (blk_ltB hR9)).trans hR9)
        have Hokl := Lib.hid (own_below hok9 hbl)
        have HBal := Lib.hid (hB9.trans (hbl.mono hB9.size))
        have Hsn : Hid (ints (List.map Int.ofNat (m ++ [r])) = ints (m.map Int.ofNat) ++ [Value.int .i64 (r : Nat)]) := Lib.hid (by unfold ints; rw [List.map_append, List.map_append]; rfl)
        generalize ints (m.map Int.ofNat) = cs at *
        clear hbl HRa HBla HLa Hoka Ho9 hB' hn' hi' hL9 hR9 hok9 hB9 Oq HBa HG9 hd2 hd3 hOk
        go_wp2_with (at_builtin; refine append_ints rfl (.tmp 63) (.tmp 65) rfl BL (.slice (some ⟨gl, 0, none⟩) M cl) M cs rfl HLl.out _ 1 [.int .i64 (r : Nat)] rfl Hlit.out (by simp [Value.oneCell']) (by have := HM.out; omega) (by omega) ?_; intro v4 w4 hown4 hg4 hat4; have Hown4 := Lib.hid hown4; have Hg4 := Lib.hid hg4; have Hat4 := Lib.hid hat4; clear hown4 hg4 hat4)
        have O9 : Only (fun q => (Value.slice (some ⟨gl, 0, none⟩) M cl).ownBlock = some q) _ w4 := Only.grown Hg4.out (fun k hk => hk)
        have hO9 := Lib.hid O9
        have hz4 := O9.size
        clear O9
        go_roundw
        case rel => exact ⟨k + 1, M + 1, E', v4, rfl, Lib.hid (by rw [HM.out]; omega), by omega, by go_num, Lib.hid (by rw [HSt.out]; exact HBll.out.only hO9.out (fun q hq e => HE'.out.1 q hq e)), Lib.hid (by rw [HSt.out]; show w4.ownsRow BL 3 1 v4 (M + 1) (ints ((m ++ [r]).map Int.ofNat)); rw [Hsn.out]; exact Hown4.out), Lib.hid (fun q hq e => by
          have h1 := HE'.out.2 q hq
          rcases Hat4.out with h2 | h2
          · exact HE'.out.1 q hq (by rw [← h2]; exact e)
          · rw [h2] at e; have e' := Option.some.inj e; omega), Lib.hid ((hO9.out.block gR (by have := blk_ltB HRl.out; omega) (fun e => by have := Option.some.inj e; simp only at this; omega)).trans HRl.out), Lib.hid (own_only Hokl.out hO9.out (fun q hq e => by have h1 := Option.some.inj hq; have h2 := Option.some.inj e; simp only at h1 h2; omega)), by omega, Lib.hid (Only.below HBal.out hO9.out HBal.out.size (fun q hq => by have := Option.some.inj hq; simp only at this; omega))⟩
        case measure => simp [intOf]; omega
    · obtain rfl : k = d.gates.length := by omega
      have hInE := HIn.out _ (Nat.le_refl _)
      have hML : (Cir.optGo F keep d.gates d.gates.length).2.length = M := by rw [hInE.1, HM.out]
      have hMn : M = n := by have := HM.out; have := Hnn.out; omega
      have HLi : Hid (IntsAt wr (.slice (some ⟨gl, 0, none⟩) M cl) ((Cir.optGo F keep d.gates d.gates.length).2.map Int.ofNat)) := Lib.hid (by
        have h := Row.of_own HL.out
        unfold IntsAt
        rw [List.length_map, hML]
        exact h)
      have HCi := Lib.hid (circuit_any g d _ _ wr HBl.out (Hp.out.below Hb.out) HLi.out (by omega) (by omega) (by omega) (by have := hInE.2.1; omega) (by rw [hML, hMn]; exact HN.out.1) (by rw [hML, hMn]; exact HN.out.2) (fun x hx => by have h1 := hInE.2.2 x hx; have h2 := hInE.2.1; omega))
      rw [← HBe.out] at HCi
      clear HL HLi hlt hInE hML hMn
      go_wp2_with fail
      refine HCi.out.mono ?_
      rintro e w5 ⟨⟨v5, rfl, hC5⟩, hb5⟩
      obtain ⟨A1, c1', A2, c2', A3, c3', e5⟩ := hC5.shape
      subst e5
      have hR5 := (hb5.block gR hgRz).trans HR.out
      have hgR5 := blk_ltB hR5
      have hB5 := Hb.out.trans (hb5.mono Hb.out.size)
      obtain ⟨vn5, vg5, vo5, ev5, i1, i2, i3⟩ := hC5
      have hPB : PCirc (w5.alloc (.cells #[.int .i64 (Cir.toCz (Cir.built d keep)).ins, vn5, vg5, vo5] 31)) w5.heap.size (Cir.toCz (Cir.built d keep)) := PCirc.boxed _ i1 i2 i3
      have hba := bel_new w5 (.cells #[.int .i64 (Cir.toCz (Cir.built d keep)).ins, vn5, vg5, vo5] 31)
      injection ev5 with ev6
      simp only [Array.mk.injEq, List.cons.injEq, and_true] at ev6
      obtain ⟨-, e1, e2, e3⟩ := ev6
      subst e1 e2 e3
      have HPr := Lib.hid (pruned_any w5.heap.size (Cir.built d keep) _ hPB HOkB.out)
      rw [← HRes.out] at HPr
      have hRa := (hba.block gR hgR5).trans hR5
      have HBa := Lib.hid (hB5.trans (hba.mono hB5.size))
      have hRaz := blk_ltB hRa
      have HRa := Lib.hid hRa
      generalize (Cir.toCz (Cir.built d keep)).next.length = L1 at *
      generalize (Cir.toCz (Cir.built d keep)).gates.length = L2 at *
      generalize (Cir.toCz (Cir.built d keep)).outs.length = L3 at *
      generalize (Cir.toCz (Cir.built d keep)).ins = II at *
      clear hPB hba hB5 hR5 i1 i2 i3 hb5 HR Hb hRa HBl HA Hok HCi
      go_wp2_with fail
      refine HPr.out.mono ?_
      rintro e w7 ⟨⟨v7, rfl, vn', vg', vo', e7, h1, h2, h3⟩, hb7⟩
      subst e7
      obtain ⟨A4, c4', hv4⟩ := slice_of_own h1
      obtain ⟨A5, c5', hv5⟩ := slice_of_own h2
      obtain ⟨A6, c6', hv6⟩ := slice_of_own h3
      subst hv4 hv5 hv6
      have hR7 := (hb7.block gR hRaz).trans HRa.out
      have r0 := blk_cell hR7 0
      have r1 := blk_cell hR7 1
      have r2 := blk_cell hR7 2
      have r3 := blk_cell hR7 3
      have f0 := blk_free hR7 0
      have f1 := blk_free hR7 1
      have f2 := blk_free hR7 2
      have f3 := blk_free hR7 3
      have n1 := own_ne_tag h1 hR7 (by decide)
      have n2 := own_ne_tag h2 hR7 (by decide)
      have n3 := own_ne_tag h3 hR7 (by decide)
      have HO1 := Lib.hid h1
      have HO2 := Lib.hid h2
      have HO3 := Lib.hid h3
      have HN1 := Lib.hid (And.intro n1 (And.intro n2 n3))
      have HB7 := Lib.hid (HBa.out.trans (hb7.mono HBa.out.size))
      generalize hl1 : (Cir.toCz (Cir.optI d)).next.length = M1 at *
      generalize hl2 : (Cir.toCz (Cir.optI d)).gates.length = M2 at *
      generalize hl3 : (Cir.toCz (Cir.optI d)).outs.length = M3 at *
      generalize hl4 : (Cir.toCz (Cir.optI d)).ins = M4 at *
      have HL := Lib.hid (And.intro hl1 (And.intro hl2 (And.intro hl3 hl4)))
      clear h1 h2 h3 n1 n2 n3 hb7 hR7 hl1 hl2 hl3 hl4
      go_wp2_with fail
      refine bodyPost_ret (v := .agg #[.int .i64 M4, .slice A4 M1 c4', .slice A5 M2 c5', .slice A6 M3 c6']) (by simp [results, Try.results88, go_sem, r0, r1, r2, r3]) rfl ⟨⟨_, rfl, .slice A4 M1 c4', .slice A5 M2 c5', .slice A6 M3 c6', by rw [HL.out.2.2.2], ?_, ?_, ?_⟩, ?_⟩
      · rw [HL.out.1]
        exact own_setN (own_setN (own_setN (own_setN HO1.out HN1.out.1) HN1.out.1) HN1.out.1) HN1.out.1
      · rw [HL.out.2.1]
        exact own_setN (own_setN (own_setN (own_setN HO2.out HN1.out.2.1) HN1.out.2.1) HN1.out.2.1) HN1.out.2.1
      · rw [HL.out.2.2.1]
        exact own_setN (own_setN (own_setN (own_setN HO3.out HN1.out.2.2) HN1.out.2.2) HN1.out.2.2) HN1.out.2.2
      · exact (((HB7.out.setCell hwR _).setCell hwR _).setCell hwR _).setCell hwR _
end Go.Proofs.Ytlbfejdbfhgifaa

namespace Go.Proofs.Ytlbfejdbfhgifaa
open Go.RowKit Go.Maps
set_option maxRecDepth 100000
set_option maxHeartbeats 8000000
/-! Comparing columns, by the program. -/
def bcode (b : Bool) : Int := if b then 49 else 48
def colS (l : List Bool) : ByteArray := strOfNums (l.map bcode)
theorem colS_size (l : List Bool) : (colS l).size = l.length := by
  unfold colS
  rw [strOfNums_size, List.length_map]
theorem colS_at {l : List Bool} {k : Nat} (h : k < l.length) (hk : k < (colS l).size) : ((((colS l)[k]'hk).toNat : Nat) : Int) = bcode (l.getD k false) := by
  have e : (colS l)[k]'hk = UInt8.ofNat (bcode (l.getD k false)).toNat := by
    have h1 : (colS l).data.toList = (l.map bcode).map fun n => UInt8.ofNat n.toNat := strOfNums_data _
    have h2 : ((colS l).data.toList)[k]? = some (UInt8.ofNat (bcode (l.getD k false)).toNat) := by
      rw [h1, List.getElem?_map, List.getElem?_map, List.getElem?_eq_getElem h, List.getD_eq_getElem?_getD, List.getElem?_eq_getElem h]
      rfl
    have h3 : (colS l).data[k]? = some (UInt8.ofNat (bcode (l.getD k false)).toNat) := by rw [← Array.getElem?_toList]; exact h2
    have h4 := Array.getElem?_eq_some_iff.1 h3
    exact h4.2
  rw [e]
  cases l.getD k false <;> rfl
theorem bcode_eq (a b : Bool) : (bcode a == bcode b) = decide (a = b) := by cases a <;> cases b <;> decide
theorem compare_any (a b : List Bool) (w : World) (hl : a.length ≤ b.length) (hm : a.length ≤ 1000) :
    Calls Try.prog 93 #[.string (colS a), .string (colS b)] w fun e w' => e = .returned (.int .i64 (Cir.cmpC a b)) ∧ Below w.heap.size w w' := by
  have hsz := colS_size a
  have HA : Hid (∀ k, k < a.length → ∀ h : k < (colS a).size, ((((colS a)[k]'h).toNat : Nat) : Int) = bcode (a.getD k false)) := Lib.hid fun k hk h => colS_at hk h
  have HB : Hid (∀ k, k < a.length → ∀ h : k < (colS b).size, ((((colS b)[k]'h).toNat : Nat) : Int) = bcode (b.getD k false)) := Lib.hid fun k hk h => colS_at (by omega) h
  have HSb : Hid (a.length ≤ (colS b).size) := Lib.hid (by rw [colS_size]; exact hl)
  have HC : Hid (Cir.cmpC a b = if Cir.eqs a b a.length = a.length then 1 else if Cir.eqs a b a.length = 0 then -1 else 0) := Lib.hid rfl
  obtain ⟨n, hn⟩ : ∃ n, n = a.length := ⟨_, rfl⟩
  rw [← hn] at hsz HA HB HC HSb hm
  generalize colS a = sa at *
  generalize colS b = sb at *
  clear hl hn
  go_enter Try.func93, Try.ntmps93
  go_wp2_with fail
  go_loopw [5, 9] (fun q i wr => ∃ k : Nat, k ≤ n ∧ i = .int .i64 k ∧ q = .int .i64 ((Cir.eqs a b k : Nat) : Int) ∧ Below w.heap.size w wr) (fun _ i _ => n - (intOf i).toNat)
  case atStart => exact ⟨0, Nat.zero_le _, rfl, rfl, Below.refl _ _⟩
  case round =>
    obtain ⟨k, hk, rfl, rfl, hb⟩ := hrel
    have heq := Cir.eqs_le a b k
    by_cases hlt : k < n
    · have hE : Cir.eqs a b (k + 1) = Cir.eqs a b k + (if a.getD k false = b.getD k false then 1 else 0) := rfl
      have HE := Lib.hid hE
      have hia := HA.out k hlt
      have hib := HB.out k hlt
      have hkb : k < sb.size := by have := HSb.out; omega
      have hbe := bcode_eq (a.getD k false) (b.getD k false)
      generalize Cir.eqs a b k = q at *
      generalize a.getD k false = x at *
      generalize b.getD k false = y at *
      generalize bcode x = cx at *
      generalize bcode y = cy at *
      have hwq := IntWalk.i64_in ((q : Int) + 1) (by omega)
      have Hb := Lib.hid hb
      clear hE hb
      by_cases hxy : x = y
      · rw [if_pos hxy] at HE
        rw [decide_eq_true hxy] at hbe
        clear hxy
        go_wp2_with fail
        refine wp_region_grow (by kernel_rfl) (by kernel_rfl) ?_
        repeat (go_big_quiet_step ((fail)))
        refine wpQuiet_nil ?_
        intro _ hw'
        obtain ⟨nq, hw''⟩ := hw'
        subst hw''
        have hgq := gw_below nq
        generalize gw nq = wq at *
        clear nq
        go_wp2_with fail
        go_roundw
        case rel => exact ⟨k + 1, by omega, by go_num, by rw [HE.out]; go_num, Hb.out.trans (hgq.mono Hb.out.size)⟩
        case measure => simp [intOf]; omega
      · rw [if_neg hxy] at HE
        rw [decide_eq_false hxy] at hbe
        clear hxy
        go_wp2_with fail
        refine wp_region_grow (by kernel_rfl) (by kernel_rfl) ?_
        repeat (go_big_quiet_step ((fail)))
        refine wpQuiet_nil ?_
        intro _ hw'
        obtain ⟨nq, hw''⟩ := hw'
        subst hw''
        have hgq := gw_below nq
        generalize gw nq = wq at *
        clear nq
        go_wp2_with fail
        go_roundw
        case rel => exact ⟨k + 1, by omega, by go_num, by rw [HE.out]; rfl, Hb.out.trans (hgq.mono Hb.out.size)⟩
        case measure => simp [intOf]; omega
    · obtain rfl : k = n := by omega
      have Hb := Lib.hid hb
      generalize Cir.eqs a b k = q at *
      clear hb hlt
      by_cases h1 : q = k
      · rw [if_pos h1] at HC
        have hd1 : ((q : Int) == (k : Int)) = true := by simp; omega
        clear h1
        go_wp2_with fail
        go_ret
        exact ⟨by rw [HC.out]; rfl, Hb.out⟩
      · rw [if_neg h1] at HC
        have hd1 : ((q : Int) == (k : Int)) = false := by simp; omega
        clear h1
        by_cases h2 : q = 0
        · rw [if_pos h2] at HC
          subst h2
          go_wp2_with fail
          go_ret
          exact ⟨by rw [HC.out]; rfl, Hb.out⟩
        · rw [if_neg h2] at HC
          have hd2 : ((q : Int) == 0) = false := by simp; omega
          go_wp2_with fail
          go_ret
          exact ⟨by rw [HC.out]; rfl, Hb.out⟩
end Go.Proofs.Ytlbfejdbfhgifaa

namespace Go.Proofs.Ytlbfejdbfhgifaa
open Go.RowKit Go.Maps
set_option maxRecDepth 100000
set_option maxHeartbeats 8000000
/-! The literal that stands for another one, by the program. -/
def colsV (c : Ci) (n : Nat) : List Value := (List.range n).map fun v => Value.string (colS (Cir.colV c v))
theorem colsV_length (c : Ci) (n : Nat) : (colsV c n).length = n := by simp [colsV]
theorem colsV_at {c : Ci} {n i : Nat} (h : i < n) : (colsV c n)[i]? = some (.string (colS (Cir.colV c i))) := by
  unfold colsV
  rw [List.getElem?_map, List.getElem?_range h]
  rfl
theorem cmp_cases (a b : List Bool) : Cir.cmpC a b = 1 ∨ Cir.cmpC a b = -1 ∨ Cir.cmpC a b = 0 := by
  unfold Cir.cmpC
  split
  · exact .inl rfl
  · split
    · exact .inr (.inl rfl)
    · exact .inr (.inr rfl)
theorem findSome_at {f : Nat → Option Nat} : ∀ {n k y : Nat}, k < n → (∀ j, j < k → f j = none) → f k = some y → (List.range n).findSome? f = some y := fun {n k y} hk hn hy => by
  have e : List.range n = List.range k ++ (List.range (n - k)).map (k + ·) := by
    rw [← List.range_add]
    congr 1
    omega
  rw [e, List.findSome?_append]
  have h1 : (List.range k).findSome? f = none := List.findSome?_eq_none_iff.2 fun x hx => hn x (List.mem_range.1 hx)
  rw [h1]
  obtain ⟨m, hm⟩ : ∃ m, n - k = m + 1 := ⟨n - k - 1, by omega⟩
  rw [hm, List.range_succ_eq_map]
  simp [hy]
theorem findSome_no {f : Nat → Option Nat} {n : Nat} (hn : ∀ j, j < n → f j = none) : (List.range n).findSome? f = none := List.findSome?_eq_none_iff.2 fun x hx => hn x (List.mem_range.1 hx)
theorem sweepUse_any (gc l n : Nat) (c : Ci) (vs : Value) (w : World) (hc : w.cell? ⟨gc, 0, none⟩ = some vs) (hgc : gc < w.heap.size) (hr : Row w 1 vs n (colsV c n)) (hl : l / 2 < n) (hb : l ≤ 1000000) (hm : 2 ^ (c.ins + c.next.length) ≤ 1000) :
    Calls Try.prog 92 #[.int .i64 (l : Int), .pointer (some ⟨gc, 0, none⟩)] w fun e w' => e = .returned (.int .i64 (Cir.sweepU c l : Nat)) ∧ Below w.heap.size w w' := by
  obtain ⟨b, o, cp, rfl, hcp, hcm, hbl, hcell⟩ := hr.open (by omega)
  have hq := tdiv_two l
  have ha := and_one_nat l hb
  have HCell : Hid (∀ i, i < n → w.cell? ⟨b, o + i, none⟩ = some (.string (colS (Cir.colV c i)))) := Lib.hid fun i hi => hcell i _ (colsV_at hi)
  have HCmp : Hid (∀ u v (w' : World), Calls Try.prog 93 #[.string (colS (Cir.colV c u)), .string (colS (Cir.colV c v))] w' fun e w'' => e = .returned (.int .i64 (Cir.cmpC (Cir.colV c u) (Cir.colV c v))) ∧ Below w'.heap.size w' w'') := Lib.hid fun u v w' => compare_any _ _ w' (by rw [Cir.colV_length, Cir.colV_length]; exact Nat.le_refl _) (by rw [Cir.colV_length]; exact hm)
  have HU : Hid (Cir.sweepU c l = ((List.range (l / 2)).findSome? (Cir.swLit c l)).getD l) := Lib.hid rfl
  have HS : Hid (∀ u, Cir.swLit c l u = if Cir.cmpC (Cir.colV c u) (Cir.colV c (l / 2)) = 1 then some (2 * u + l % 2) else if Cir.cmpC (Cir.colV c u) (Cir.colV c (l / 2)) = -1 then some (2 * u + 1 - l % 2) else none) := Lib.hid fun u => rfl
  have hqb : l / 2 ≤ 1000000 := by omega
  have hr1 : l % 2 ≤ 1 := by omega
  generalize l / 2 = q at *
  generalize l % 2 = r at *
  have hwq : IntKind.i64.wrap (q : Int) = q := IntWalk.i64_in _ (by omega)
  clear hcell hr hm
  go_enter Try.func92, Try.ntmps92
  go_wp2_with fail
  go_loopw [7] (fun i wr => ∃ k : Nat, k ≤ q ∧ i = .int .i64 k ∧ Hid (∀ j, j < k → Cir.swLit c l j = none) ∧ Hid (Below w.heap.size w wr)) (fun i _ => q - (intOf i).toNat)
  case atStart => exact ⟨0, Nat.zero_le _, rfl, Lib.hid (fun j h => absurd h (Nat.not_lt_zero _)), Lib.hid (Below.refl _ _)⟩
  case round =>
    obtain ⟨k, hk, rfl, HN, Hb⟩ := hrel
    by_cases hlt : k < q
    · have hkn : k < n := by omega
      have hq0 := HCell.out k (by omega)
      have hq1 := HCell.out q hl
      have HSk := Lib.hid (HS.out k)
      have hcs := cmp_cases (Cir.colV c k) (Cir.colV c q)
      have HCm := Lib.hid (HCmp.out k q)
      generalize colS (Cir.colV c k) = s1 at *
      generalize colS (Cir.colV c q) = s2 at *
      generalize Cir.cmpC (Cir.colV c k) (Cir.colV c q) = cm at *
      have hzb := Hb.out.size
      go_wp2_with fail
      obtain ⟨wy, hwy⟩ : ∃ wy, wy = wr := ⟨_, rfl⟩
      subst hwy
      refine wp_region_rs (quietRS Try.prog _ wy _) quietRS_ok (by kernel_rfl) (by kernel_rfl) (by kernel_rfl) (Nat.le_of_ble_eq_true rfl) trivial trivial ?_
      apply rs_eq quietRS_ok quiet_any
      · intro ρ w' ho hK
        have ho : Only _ wy w' := ho
        obtain ⟨h0, -⟩ := hK
        have h0' : ρ (.tmp 1) = _ := h0
        have hb := Hb.out.trans ((only_below ho).mono Hb.out.size)
        have c0 := (hb.cell (p := ⟨gc, 0, none⟩) hgc).trans hc
        have c1 := (hb.cell (p := ⟨b, o + k, none⟩) hbl).trans hq0
        have c2 := (hb.cell (p := ⟨b, o + q, none⟩) hbl).trans hq1
        go_simp
        try exact rfl
      refine rs_old quietRS_ok quiet_any _ (.inl rfl) _ rfl rfl ?_
      apply rs_eq quietRS_ok quiet_any
      · intro ρ w' ho hK
        have ho : Only _ wy w' := ho
        obtain ⟨h0, h1, -⟩ := hK
        have h0' : ρ (.tmp 10) = _ := h0
        have h1' : ρ (.tmp 11) = _ := h1
        go_simp
        try exact rfl
      apply rs_eq quietRS_ok quiet_any
      · intro ρ w' ho hK
        have ho : Only _ wy w' := ho
        obtain ⟨h0, -⟩ := hK
        have h0' : ρ (.tmp 12) = _ := h0
        have hb := Hb.out.trans ((only_below ho).mono Hb.out.size)
        have c0 := (hb.cell (p := ⟨gc, 0, none⟩) hgc).trans hc
        have c1 := (hb.cell (p := ⟨b, o + k, none⟩) hbl).trans hq0
        have c2 := (hb.cell (p := ⟨b, o + q, none⟩) hbl).trans hq1
        go_simp
        try exact rfl
      apply rs_eq quietRS_ok quiet_any
      · intro ρ w' ho hK
        have ho : Only _ wy w' := ho
        obtain ⟨h0, -⟩ := hK
        have h0' : ρ (.tmp 1) = _ := h0
        have hb := Hb.out.trans ((only_below ho).mono Hb.out.size)
        have c0 := (hb.cell (p := ⟨gc, 0, none⟩) hgc).trans hc
        have c1 := (hb.cell (p := ⟨b, o + k, none⟩) hbl).trans hq0
        have c2 := (hb.cell (p := ⟨b, o + q, none⟩) hbl).trans hq1
        go_simp
        try exact rfl
      refine rs_old quietRS_ok quiet_any _ (.inl rfl) _ rfl rfl ?_
      apply rs_eq quietRS_ok quiet_any
      · intro ρ w' ho hK
        have ho : Only _ wy w' := ho
        obtain ⟨h0, h1, -⟩ := hK
        have h0' : ρ (.tmp 15) = _ := h0
        have h1' : ρ (.const (Value.int IntKind.i64 2)) = (Value.int IntKind.i64 2) := h1
        go_simp
        try exact rfl
      apply rs_eq quietRS_ok quiet_any
      · intro ρ w' ho hK
        have ho : Only _ wy w' := ho
        obtain ⟨h0, h1, -⟩ := hK
        have h0' : ρ (.tmp 14) = _ := h0
        have h1' : ρ (.tmp 16) = _ := h1
        go_simp
        try exact rfl
      apply rs_eq quietRS_ok quiet_any
      · intro ρ w' ho hK
        have ho : Only _ wy w' := ho
        obtain ⟨h0, -⟩ := hK
        have h0' : ρ (.tmp 17) = _ := h0
        have hb := Hb.out.trans ((only_below ho).mono Hb.out.size)
        have c0 := (hb.cell (p := ⟨gc, 0, none⟩) hgc).trans hc
        have c1 := (hb.cell (p := ⟨b, o + k, none⟩) hbl).trans hq0
        have c2 := (hb.cell (p := ⟨b, o + q, none⟩) hbl).trans hq1
        go_simp
        try exact rfl
      refine rs_call quietRS_ok quiet_any (TEq (.int .i64 cm)) (stb_eq _ _) 93 _ _ rfl (fun ρ w' ho hK => by
        have ho : Only _ wy w' := ho
        obtain ⟨h0, h1, h2, -⟩ := hK
        have h0' : ρ (.func 93) = .func (.func 93) #[] #[] := h0
        have h1' : ρ (.tmp 13) = _ := h1
        have h2' : ρ (.tmp 18) = _ := h2
        refine ⟨#[ρ (.tmp 13), ρ (.tmp 18)], ?_, ?_⟩
        · go_simp
        · rw [h1', h2']
          refine (HCm.out w').mono ?_
          rintro e w2 ⟨rfl, hb⟩
          exact ⟨_, rfl, rfl, hb⟩) ?_
      intro f w9 k9 hk9 hI9 ht9 hcp9
      have E0 : f 0 = _ := ht9 0 (Nat.le_of_ble_eq_true rfl)
      have E1 : f 1 = _ := ht9 1 (Nat.le_of_ble_eq_true rfl)
      conv at E1 => rhs; whnf
      have E2 : f 2 = _ := ht9 2 (Nat.le_of_ble_eq_true rfl)
      have E3 : f 3 = _ := ht9 3 (Nat.le_of_ble_eq_true rfl)
      have E4 : f 4 = _ := ht9 4 (Nat.le_of_ble_eq_true rfl)
      have E5 : f 5 = _ := ht9 5 (Nat.le_of_ble_eq_true rfl)
      conv at E5 => rhs; whnf
      have E6 : f 6 = _ := ht9 6 (Nat.le_of_ble_eq_true rfl)
      have E7 : f 7 = _ := ht9 7 (Nat.le_of_ble_eq_true rfl)
      have E8 : f 8 = _ := ht9 8 (Nat.le_of_ble_eq_true rfl)
      have E9 : f 9 = _ := ht9 9 (Nat.le_of_ble_eq_true rfl)
      have Ho9 : Only _ wy w9 := hI9.2.1
      simp only [putAll, E0, E1, E2, E3, E4, E5, E6, E7, E8, E9, Nat.zero_add, Nat.reduceAdd, Act.put, List.setIfInBounds_toArray, List.set_cons_succ, List.set_cons_zero]
      clear E0 E1 E2 E3 E4 E5 E6 E7 E8 E9
      clear hI9 ht9 hcp9 hk9
      have Hb9 := Lib.hid (Hb.out.trans ((only_below Ho9).mono Hb.out.size))
      clear Ho9
      have hw1 := IntWalk.i64_in (2 * (k : Int)) (by omega)
      have hw2 := IntWalk.i64_in (2 * (k : Int) + (r : Int)) (by omega)
      have hw3 := IntWalk.i64_in (2 * (k : Int) + 1) (by omega)
      have hw4 := IntWalk.i64_in (2 * (k : Int) + 1 - (r : Int)) (by omega)
      rcases hcs with rfl | rfl | rfl
      · rw [if_pos rfl] at HSk
        go_wp2_with fail
        go_ret
        refine ⟨ret_int ?_, Hb9.out⟩
        rw [HU.out, findSome_at hlt HN.out HSk.out, Option.getD_some]
        omega
      · rw [if_neg (by decide), if_pos rfl] at HSk
        go_wp2_with fail
        go_ret
        refine ⟨ret_int ?_, Hb9.out⟩
        rw [HU.out, findSome_at hlt HN.out HSk.out, Option.getD_some]
        omega
      · rw [if_neg (by decide), if_neg (by decide)] at HSk
        go_wp2_with fail
        go_roundw
        case rel => exact ⟨k + 1, by omega, by go_num, Lib.hid (fun j hj => by
          by_cases e : j = k
          · rw [e]; exact HSk.out
          · exact HN.out j (by omega)), Hb9⟩
        case measure => simp [intOf]; omega
    · obtain rfl : k = q := by omega
      go_wp2_with fail
      go_ret
      refine ⟨ret_int ?_, Hb.out⟩
      rw [HU.out, findSome_no HN.out]
      rfl
end Go.Proofs.Ytlbfejdbfhgifaa

namespace Go.Proofs.Ytlbfejdbfhgifaa
open Go.RowKit Go.Maps
set_option maxRecDepth 100000
set_option maxHeartbeats 8000000
/-! The columns of all variables, by the program. -/
theorem info_u8 : (Try.prog.info? 5).map (fun i => (i.zero, i.size, i.bytes)) = some (some (.int .u8 0), 1, 1) := by kernel_rfl
theorem info_u8s : (Try.prog.info? 49).map (fun i => (i.zero, i.size, i.bytes)) = some (some (.slice none 0 0), 1, 24) := by kernel_rfl
theorem info_str : (Try.prog.info? 9).map (fun i => (i.zero, i.size, i.bytes)) = some (some (.string ByteArray.empty), 1, 16) := by kernel_rfl
theorem append_u8 {w : World} {ops : Array Oper} {rest : List Oper} {o : Oper} {a : Act} {Q : Exit → Act → World → Prop} (hgd : o.guard = none) (s x : Operand)
    (ho : o.op = .call { callee := .builtin .append, args := #[s, x], argTypes := #[49, 49] })
    (base : Nat) (v : Value) (n : Nat) (xs : List Value) (hs : a.eval s = v) (hown : w.ownsRow base 5 1 v n xs) (sv : Value) (m : Nat) (news : List Value) (hx : a.eval x = sv) (hr : Row w 1 sv m news) (h1 : ∀ u ∈ news, u.oneCell' = true)
    (h63 : n + m ≤ 1000000) (hbase : base ≤ w.heap.size)
    (h : ∀ v' w', w'.ownsRow base 5 1 v' (n + m) (xs ++ news) → w.grownBy w' v.ownBlock → (v'.ownBlock = v.ownBlock ∨ v'.ownBlock = some w.heap.size) → wpList Try.prog ops Q rest (a.put o.dst v') w') : wpList Try.prog ops Q (o :: rest) a w := by
  obtain ⟨i, hi, hz0, hz1, hz2⟩ := info_parts info_u8
  exact wpList_append_at hgd s x 49 ho base 5 i _ 1 1 Try.underlying49 hi hz0 hz1 hz2 rfl (by decide) v n xs hs hown sv m news hx hr h1 (by unfold maxLen; omega) (by omega) hbase h
theorem append_str {w : World} {ops : Array Oper} {rest : List Oper} {o : Oper} {a : Act} {Q : Exit → Act → World → Prop} (hgd : o.guard = none) (s x : Operand)
    (ho : o.op = .call { callee := .builtin .append, args := #[s, x], argTypes := #[109, 109] })
    (base : Nat) (v : Value) (n : Nat) (xs : List Value) (hs : a.eval s = v) (hown : w.ownsRow base 9 1 v n xs) (sv : Value) (m : Nat) (news : List Value) (hx : a.eval x = sv) (hr : Row w 1 sv m news) (h1 : ∀ u ∈ news, u.oneCell' = true)
    (h63 : n + m ≤ 1000000) (hbase : base ≤ w.heap.size)
    (h : ∀ v' w', w'.ownsRow base 9 1 v' (n + m) (xs ++ news) → w.grownBy w' v.ownBlock → (v'.ownBlock = v.ownBlock ∨ v'.ownBlock = some w.heap.size) → wpList Try.prog ops Q rest (a.put o.dst v') w') : wpList Try.prog ops Q (o :: rest) a w := by
  obtain ⟨i, hi, hz0, hz1, hz2⟩ := info_parts info_str
  exact wpList_append_at hgd s x 109 ho base 9 i _ 1 16 Try.underlying109 hi hz0 hz1 hz2 rfl (by decide) v n xs hs hown sv m news hx hr h1 (by unfold maxLen; omega) (by omega) hbase h
def bytesB (l : List Bool) : List Value := l.map fun b => .int .u8 (bcode b)
theorem bytesB_snoc (l : List Bool) (b : Bool) : bytesB (l ++ [b]) = bytesB l ++ [.int .u8 (bcode b)] := by simp [bytesB]
/-- Columns that grow. -/
structure ColAt (gO n : Nat) (vs : List Value) (cols : List (List Bool)) (w : World) : Prop where
  own : w.ownsRow gO 49 1 (.slice (some ⟨gO, 0, none⟩) n n) n vs
  vl : vs.length = n
  cl : cols.length = n
  row : ∀ (i : Nat) (v : Value) (c : List Bool), vs[i]? = some v → cols[i]? = some c → w.ownsRow (gO + 1) 5 1 v c.length (bytesB c)
  ap : ∀ (i j : Nat) (v v' : Value), i ≠ j → vs[i]? = some v → vs[j]? = some v' → ∀ g, v.ownBlock = some g → v'.ownBlock ≠ some g
theorem ColAt.below {gO n : Nat} {vs : List Value} {cols : List (List Bool)} {w w' : World} (h : ColAt gO n vs cols w) (hb : Below w.heap.size w w') : ColAt gO n vs cols w' :=
  ⟨own_below h.own hb, h.vl, h.cl, fun i v c hv hc => own_below (h.row i v c hv hc) hb, h.ap⟩
theorem ColAt.upd {gO n : Nat} {vs : List Value} {cols : List (List Bool)} {w w1 w2 : World} (h : ColAt gO n vs cols w) {i : Nat} {v v2 : Value} {c : List Bool} {b : Bool} (hv : vs[i]? = some v) (hc : cols[i]? = some c)
    (hb : Below w.heap.size w w1) (hg : w1.grownBy w2 v.ownBlock) (hown : w2.ownsRow (gO + 1) 5 1 v2 (c.length + 1) (bytesB c ++ [.int .u8 (bcode b)])) (hat : v2.ownBlock = v.ownBlock ∨ v2.ownBlock = some w1.heap.size) :
    ColAt gO n (vs.set i v2) (cols.set i (c ++ [b])) (w2.setCell ⟨gO, i, none⟩ v2) := by
  have hrv := own_below (h.row i v c hv hc) hb
  have O2 : Only (fun g => v.ownBlock = some g) w1 w2 := Only.grown hg (fun k hk => hk)
  have hi : i < n := by obtain ⟨h1, -⟩ := List.getElem?_eq_some_iff.1 hv; rw [← h.vl]; exact h1
  have hown2 : w2.ownsRow gO 49 1 (.slice (some ⟨gO, 0, none⟩) n n) n vs := own_only (own_below h.own hb) O2 (fun g hg e => by
    have h1 := Option.some.inj hg
    have h2 := (hrv.lt g e).1
    simp only at h1
    omega)
  refine ⟨(hown2.stored i v2).1, by rw [List.length_set, h.vl], by rw [List.length_set, h.cl], fun j v' c' hv' hc' => ?_, fun j k v' v'' hjk hv' hv'' g hg' => ?_⟩
  · by_cases e : i = j
    · subst e
      rw [List.getElem?_set_self (by rw [h.vl]; exact hi)] at hv'
      rw [List.getElem?_set_self (by rw [h.cl]; exact hi)] at hc'
      obtain rfl := Option.some.inj hv'
      obtain rfl := Option.some.inj hc'
      rw [List.length_append, List.length_singleton, bytesB_snoc]
      exact own_setB hown (Nat.lt_succ_self _)
    · rw [List.getElem?_set_ne e] at hv' hc'
      exact own_setB (own_only (own_below (h.row j v' c' hv' hc') hb) O2 (fun g hg e' => h.ap i j v v' e hv hv' g e' hg)) (Nat.lt_succ_self _)
  · have hfresh : ∀ (j : Nat) (u : Value), j ≠ i → vs[j]? = some u → ∀ g, u.ownBlock = some g → v2.ownBlock ≠ some g := fun j u hj hu g hgu e2 => by
      rcases hat with h1 | h1
      · exact h.ap j i u v hj hu hv g hgu (by rw [← h1]; exact e2)
      · rw [h1] at e2
        have e3 := Option.some.inj e2
        have hcj : ∃ cj, cols[j]? = some cj := ⟨_, List.getElem?_eq_getElem (by obtain ⟨h2, -⟩ := List.getElem?_eq_some_iff.1 hu; rw [h.cl, ← h.vl]; exact h2)⟩
        obtain ⟨cj, hcj⟩ := hcj
        have := ((own_below (h.row j u cj hu hcj) hb).lt g hgu).2
        omega
    by_cases e : i = j
    · subst e
      rw [List.getElem?_set_self (by rw [h.vl]; exact hi)] at hv'
      rw [List.getElem?_set_ne hjk] at hv''
      obtain rfl := Option.some.inj hv'
      exact fun e2 => hfresh k v'' (fun e' => hjk e'.symm) hv'' g e2 hg'
    · rw [List.getElem?_set_ne e] at hv'
      by_cases e2 : i = k
      · subst e2
        rw [List.getElem?_set_self (by rw [h.vl]; exact hi)] at hv''
        obtain rfl := Option.some.inj hv''
        exact hfresh j v' (fun e' => e e'.symm) hv' g hg'
      · rw [List.getElem?_set_ne e2] at hv''
        exact h.ap j k v' v'' hjk hv' hv'' g hg'
/-- The columns when the values of the variables before v are there for assignment x. -/
def colsG (c : Ci) (n x v : Nat) : List (List Bool) := (List.range n).map fun j => (Cir.colV c j).take (if j < v then x + 1 else x)
theorem colsG_at {c : Ci} {n x v i : Nat} (h : i < n) : (colsG c n x v)[i]? = some ((Cir.colV c i).take (if i < v then x + 1 else x)) := by
  unfold colsG
  rw [List.getElem?_map, List.getElem?_range h]
  rfl
theorem colV_get {c : Ci} {v x : Nat} (h : x < 2 ^ (c.ins + c.next.length)) : (Cir.colV c v)[x]? = some ((Cir.vals c (Cir.bits (x / 2 ^ c.ins) c.next.length) (Cir.bits x c.ins)).getD v false) := by
  unfold Cir.colV
  rw [List.getElem?_map, List.getElem?_range h]
  rfl
theorem colsG_step {c : Ci} {n x v : Nat} (hx : x < 2 ^ (c.ins + c.next.length)) (hv : v < n) : (colsG c n x v).set v ((Cir.colV c v).take x ++ [(Cir.vals c (Cir.bits (x / 2 ^ c.ins) c.next.length) (Cir.bits x c.ins)).getD v false]) = colsG c n x (v + 1) := by
  apply List.ext_getElem?
  intro i
  by_cases hi : i < n
  · rw [List.getElem?_set]
    by_cases e : v = i
    · subst e
      rw [if_pos rfl, if_pos (by simp [colsG]; exact hv), colsG_at hv, if_pos (Nat.lt_succ_self _), List.take_add_one, colV_get hx]
      rfl
    · rw [if_neg e, colsG_at hi, colsG_at hi]
      by_cases e2 : i < v
      · rw [if_pos e2, if_pos (by omega)]
      · rw [if_neg e2, if_neg (by omega)]
  · rw [List.getElem?_eq_none (by simp [colsG]; omega), List.getElem?_eq_none (by simp [colsG]; omega)]
theorem colsG_next (c : Ci) (n x : Nat) : colsG c n x n = colsG c n (x + 1) 0 := by
  unfold colsG
  refine List.map_congr_left fun j hj => ?_
  rw [if_pos (List.mem_range.1 hj), if_neg (by omega)]
theorem own_tag {w : World} {base size n g : Nat} {e : TypeId} {v : Value} {cs : List Value} (h : w.ownsRow base e size v n cs) (hg : v.ownBlock = some g) : ∃ cur, w.heap[g]? = some (.cells cur e (0, 0)) := by
  rcases h.2 with h2 | ⟨g', cap, cur, rfl, hb, hh, h3⟩
  · rw [h2.1] at hg; cases hg
  · have e'' := Option.some.inj hg
    simp only at e''
    subst e''
    exact ⟨cur, hh⟩
theorem own_tags {w : World} {b1 b2 s1 s2 n1 n2 g : Nat} {e1 e2 : TypeId} {v1 v2 : Value} {c1 c2 : List Value} (h1 : w.ownsRow b1 e1 s1 v1 n1 c1) (h2 : w.ownsRow b2 e2 s2 v2 n2 c2) (hne : e1 ≠ e2) (hg : v1.ownBlock = some g) : v2.ownBlock ≠ some g := fun hg2 => by
  obtain ⟨c, hc⟩ := own_tag h1 hg
  exact own_ne_tag h2 hc (fun e => hne e.symm) hg2
theorem functions_any (g : Nat) (d : Ci) (w : World) (h : PCirc w g (Cir.toCz d)) (hd : Cir.Ok d) :
    Calls Try.prog 89 #[.pointer (some ⟨g, 0, none⟩)] w fun e w' => (∃ v, e = .returned v ∧ w'.ownsRow w.heap.size 9 1 v (Cir.nvars d) (colsV d (Cir.nvars d))) ∧ Below w.heap.size w w' := by
  have s1 := hd.ins
  have s2 := hd.nexts
  have s3 := hd.gatess
  have Hp := Lib.hid h
  obtain ⟨n, hn⟩ : ∃ n, n = Cir.nvars d := ⟨_, rfl⟩
  have hnu : n ≤ 22 := by rw [hn]; unfold Cir.nvars Cir.nfirst; omega
  have hn0 : 0 < n := by rw [hn]; unfold Cir.nvars Cir.nfirst; omega
  have hnl : (Cir.toCz d).next.length = d.next.length := List.length_map _
  have hgl : (Cir.toCz d).gates.length = d.gates.length := List.length_map _
  have HVa : Hid (Calls Try.prog 76 #[.pointer (some ⟨g, 0, none⟩)] w fun e w'' => e = .returned (.int .i64 (n : Nat)) ∧ Below w.heap.size w w'') := Lib.hid (by
    have := vars_any g _ w h (by show (0 : Int) ≤ (d.ins : Int); omega) (by show (d.ins : Int) ≤ 100; omega) (by omega) (by omega)
    rwa [Cir.vars_toCz, ← hn] at this)
  obtain ⟨m, hm⟩ : ∃ m, m = d.ins + d.next.length := ⟨_, rfl⟩
  have hm7 : m ≤ 7 := by omega
  have HAs : Hid (∀ w', Below w.heap.size w w' → Calls Try.prog 48 #[.pointer (some ⟨g, 0, none⟩)] w' fun e w'' => e = .returned (.int .i64 ((2 ^ m : Nat) : Int)) ∧ Below w'.heap.size w' w'') := Lib.hid fun w' hb => assignments_any g _ m w' (Hp.out.below hb) (by rw [hnl, hm]; show (d.ins : Int) + (d.next.length : Int) = _; omega) hm7
  have HIn : Hid (∀ x w', x ≤ 1000 → Below w.heap.size w w' → Calls Try.prog 50 #[.pointer (some ⟨g, 0, none⟩), .int .i64 (x : Nat)] w' (OwnBools (Cir.bits x d.ins) w')) := Lib.hid fun x w' hx hb => inputBits_any g _ d.ins x w' (Hp.out.below hb) rfl (by omega) (by omega)
  have HLa : Hid (∀ x w', x ≤ 1000 → Below w.heap.size w w' → Calls Try.prog 52 #[.pointer (some ⟨g, 0, none⟩), .int .i64 (x : Nat)] w' (OwnBools (Cir.bits (x / 2 ^ d.ins) d.next.length) w')) := Lib.hid fun x w' hx hb => latchBits_any g _ d.ins d.next.length x w' (Hp.out.below hb) rfl hnl (by omega) (by omega) (by omega)
  have HEv : Hid (∀ x vs vi w', Below w.heap.size w w' → BoolsAt w' vs (Cir.bits (x / 2 ^ d.ins) d.next.length) → BoolsAt w' vi (Cir.bits x d.ins) → Calls Try.prog 115 #[.pointer (some ⟨g, 0, none⟩), vs, vi, .int .i64 (-1), .bool false] w' (OwnBools (Cir.vals d (Cir.bits (x / 2 ^ d.ins) d.next.length) (Cir.bits x d.ins)) w')) := Lib.hid fun x vs vi w' hb h1 h2 => evaluate_any g d vs vi _ _ w' (Hp.out.below hb) hd h1 h2 (Cir.bits_length _ _) (Cir.bits_length _ _)
  have HVl : Hid (∀ x, (Cir.vals d (Cir.bits (x / 2 ^ d.ins) d.next.length) (Cir.bits x d.ins)).length = n) := Lib.hid fun x => by rw [Cir.vals_length d (Cir.bits_length _ _) (Cir.bits_length _ _), hn]
  have HCo : Hid (∀ x v, x < 2 ^ m → v < n → (colsG d n x v).set v ((Cir.colV d v).take x ++ [(Cir.vals d (Cir.bits (x / 2 ^ d.ins) d.next.length) (Cir.bits x d.ins)).getD v false]) = colsG d n x (v + 1)) := Lib.hid fun x v hx hv => colsG_step (by rw [← hm]; exact hx) hv
  have HCl : Hid (∀ v, (Cir.colV d v).length = 2 ^ m) := Lib.hid fun v => by rw [Cir.colV_length, hm]
  have h2 : 2 ^ m ≤ 128 := Nat.pow_le_pow_right (show 0 < 2 by decide) hm7
  have h20 : 0 < 2 ^ m := Nat.pow_pos (by omega)
  rw [← hn]
  generalize 2 ^ m = M at *
  have hmk := run_make_row' (P := Try.prog) 143 49 (.slice none 0 0) 24 Try.underlying143 info_u8s rfl .i64 .i64 n (by omega) (by omega)
  clear h hd hn hnl hgl hm s1 s2 s3
  go_enter Try.func89, Try.ntmps89
  go_wp2_with fail
  refine HVa.out.mono ?_
  rintro e w1 ⟨rfl, hb1⟩
  have hO0 : (w1.alloc (.cells (madeCells #[Value.slice none 0 0] n) 49)).ownsRow w1.heap.size 49 1 (.slice (some ⟨w1.heap.size, 0, none⟩) n n) n (List.replicate n (.slice none 0 0)) := by
    have h := World.ownsRow_lit (base := w1.heap.size) (e := 49) (size := 1) w1 (madeCells #[Value.slice none 0 0] n) n (Nat.le_refl _) (by unfold maxLen; omega) (by simp [madeCells])
    have e : (madeCells #[Value.slice none 0 0] n).toList = List.replicate n (.slice none 0 0) := by simp [madeCells, Nat.mod_one, List.map_const']
    rwa [e] at h
  have hC0 : ColAt w1.heap.size n (List.replicate n (.slice none 0 0)) (colsG d n 0 0) (w1.alloc (.cells (madeCells #[Value.slice none 0 0] n) 49)) := by
    refine ⟨hO0, List.length_replicate, by simp [colsG], fun i v c hv hc => ?_, fun i j v v' hij hv hv' q hq => ?_⟩
    · have hi : i < n := by obtain ⟨h1, -⟩ := List.getElem?_eq_some_iff.1 hv; simpa using h1
      rw [List.getElem?_replicate, if_pos hi] at hv
      obtain rfl := Option.some.inj hv
      rw [colsG_at hi, if_neg (by omega), List.take_zero] at hc
      obtain rfl := Option.some.inj hc
      exact World.ownsRow_nil _ _ _ _
    · have hi : i < n := by obtain ⟨h1, -⟩ := List.getElem?_eq_some_iff.1 hv; simpa using h1
      rw [List.getElem?_replicate, if_pos hi] at hv
      obtain rfl := Option.some.inj hv
      cases hq
  have hB2 : Below w.heap.size w (w1.alloc (.cells (madeCells #[Value.slice none 0 0] n) 49)) := hb1.alloc hb1.size _
  have hz1 := hb1.size
  have hz2 : (w1.alloc (.cells (madeCells #[Value.slice none 0 0] n) 49)).heap.size = w1.heap.size + 1 := by simp
  go_wp2_with fail
  generalize w1.alloc (.cells (madeCells #[Value.slice none 0 0] n) 49) = W2 at *
  obtain ⟨gO, hgO⟩ : ∃ gO, gO = w1.heap.size := ⟨_, rfl⟩
  rw [← hgO] at hC0 ⊢
  have hwO : w.heap.size ≤ gO := by omega
  refine (HAs.out W2 hB2).mono ?_
  rintro e w3 ⟨rfl, hb3⟩
  have HC3 := Lib.hid (hC0.below hb3)
  have HB3 := Lib.hid (hB2.trans (hb3.mono hB2.size))
  have hz3 : gO + 1 ≤ w3.heap.size := by have := hb3.size; omega
  clear hmk hO0 hC0 hB2 hb1 hb3 hz1 hz2 hgO HVa HAs
  go_wp2_with fail
  go_loopw [16] (fun i wr => ∃ (x : Nat) (vs : List Value), x ≤ M ∧ i = .int .i64 x ∧ Hid (ColAt gO n vs (colsG d n x 0) wr) ∧ gO + 1 ≤ wr.heap.size ∧ Hid (Below w.heap.size w wr)) (fun i _ => M - (intOf i).toNat)
  case atStart => exact ⟨0, _, Nat.zero_le _, rfl, HC3, hz3, HB3⟩
  case round =>
    obtain ⟨x, vs, hx, rfl, HC, hzr, Hb⟩ := hrel
    clear HC3 HB3 hz3
    by_cases hlt : x < M
    · go_wp2_with fail
      refine (HLa.out x wr (by omega) Hb.out).mono ?_
      rintro e w4 ⟨v4, rfl, ho4, hb4⟩
      have Hb4 := Lib.hid (Hb.out.trans (hb4.mono Hb.out.size))
      have HC4 := Lib.hid (HC.out.below hb4)
      have HR4 := Lib.hid (ownBools_at ho4)
      have hz4 := hb4.size
      clear ho4 hb4 HC Hb
      go_wp2_with fail
      refine (HIn.out x w4 (by omega) Hb4.out).mono ?_
      rintro e w5 ⟨v5, rfl, ho5, hb5⟩
      have Hb5 := Lib.hid (Hb4.out.trans (hb5.mono Hb4.out.size))
      have HC5 := Lib.hid (HC4.out.below hb5)
      have HR5 := Lib.hid (Row.below HR4.out hb5)
      have HI5 := Lib.hid (ownBools_at ho5)
      have hz5 := hb5.size
      clear ho5 hb5 HC4 HR4 Hb4
      go_wp2_with fail
      refine (HEv.out x v4 v5 w5 Hb5.out HR5.out HI5.out).mono ?_
      rintro e w6 ⟨v6, rfl, ho6, hb6⟩
      have Hb6 := Lib.hid (Hb5.out.trans (hb6.mono Hb5.out.size))
      have HC6 := Lib.hid (HC5.out.below hb6)
      have HVx := HVl.out x
      have HCx := Lib.hid (fun v hv => HCo.out x v hlt hv)
      generalize Cir.vals d (Cir.bits (x / 2 ^ d.ins) d.next.length) (Cir.bits x d.ins) = vl at *
      rw [HVx] at ho6
      obtain ⟨gv, cv, hv6, hgv1, hgv2, hcv1, hcv2⟩ := own_open ho6 hn0
      subst hv6
      have Ho6 := Lib.hid ho6
      have hz6 := hb6.size
      have HVX := Lib.hid HVx
      obtain ⟨BV, hBV⟩ : ∃ BV, BV = w5.heap.size := ⟨_, rfl⟩
      rw [← hBV] at Ho6
      clear ho6 hb6 HC5 HR5 HI5 Hb5 HVx hBV
      go_wp2_with fail
      obtain ⟨w7, hw7⟩ : ∃ w7, w7 = w6 := ⟨_, rfl⟩
      subst hw7
      have hz7 : gO + 1 ≤ w7.heap.size := by omega
      go_loopw [28] (fun i wr => ∃ (v : Nat) (vs : List Value), v ≤ n ∧ i = .int .i64 v ∧ Hid (ColAt gO n vs (colsG d n x v) wr) ∧ Hid (wr.ownsRow BV 4 1 (.slice (some ⟨gv, 0, none⟩) n cv) n (bools vl)) ∧ gO + 1 ≤ wr.heap.size ∧ Hid (Below w.heap.size w wr)) (fun i _ => n - (intOf i).toNat)
      case atStart => exact ⟨0, vs, Nat.zero_le _, rfl, HC6, Ho6, hz7, Hb6⟩
      case round =>
        obtain ⟨v, vs, hv, rfl, HC, HO, hzr', Hb⟩ := hrel
        clear HC6 Ho6 Hb6 hz7
        by_cases hlv : v < n
        · have hvs : ∃ u, vs[v]? = some u := ⟨_, List.getElem?_eq_getElem (by rw [HC.out.vl]; exact hlv)⟩
          obtain ⟨u, hu⟩ := hvs
          have hcg := colsG_at (c := d) (x := x) (v := v) hlv
          rw [if_neg (Nat.lt_irrefl _)] at hcg
          have hru := HC.out.row v u _ hu hcg
          have hlen : ((Cir.colV d v).take x).length = x := by rw [List.length_take, HCl.out]; omega
          have HSt := Lib.hid (HCx.out v hlv)
          generalize hcol : (Cir.colV d v).take x = col at *
          rw [hlen] at hru
          obtain ⟨Au, cu, hue⟩ := slice_of_own hru
          subst hue
          have Hru := Lib.hid hru
          have Hu := Lib.hid hu
          have Hcg := Lib.hid hcg
          have Hlen := Lib.hid hlen
          obtain ⟨u0, hu0, hd0, hf0⟩ := own_slot HC.out.own (j := v) (by omega)
          obtain rfl := Option.some.inj (hu0.symm.trans hu)
          have hsk : (bools vl)[v]? = some (.bool (vl.getD v false)) := by
            have := HVX.out
            unfold bools
            rw [List.getElem?_map, List.getElem?_eq_getElem (by omega), List.getD_eq_getElem?_getD, List.getElem?_eq_getElem (by omega)]
            rfl
          obtain ⟨u1, hu1, hd1, -⟩ := own_slot HO.out (j := v) (by omega)
          obtain rfl : u1 = .bool (vl.getD v false) := Option.some.inj (hu1.symm.trans hsk)
          have hgOz := (HC.out.own.lt gO rfl).2
          generalize vl.getD v false = y at *
          have hbl := bel_new wr (.cells #[.int .u8 (bcode y)] 5)
          have hzl : (wr.alloc (.cells #[.int .u8 (bcode y)] 5)).heap.size = wr.heap.size + 1 := by simp
          have Hlit := Lib.hid (Row.of_own (World.ownsRow_lit (base := wr.heap.size) (e := 5) (size := 1) wr #[.int .u8 (bcode y)] 1 (Nat.le_refl _) (by unfold maxLen; omega) rfl))
          have HRl := Lib.hid (own_below hru hbl)
          have HOl := Lib.hid (own_below HO.out hbl)
          have Hbl := Lib.hid hbl
          have HTag : Hid (∀ q, (Value.slice (some ⟨gv, 0, none⟩) n cv).ownBlock = some q → (Value.slice Au x cu).ownBlock ≠ some q) := Lib.hid fun q hq => own_tags HOl.out HRl.out (by decide) hq
          have hneO : ¬ ((Value.slice Au x cu).ownBlock = some gO) := fun e => by have := (hru.lt gO e).1; omega
          have hgvO : gv ≠ gO := fun e => by
            have h1 := own_tag HO.out (g := gv) rfl
            obtain ⟨c1, h1⟩ := h1
            obtain ⟨c2, h2⟩ := own_tag HC.out.own (g := gO) rfl
            rw [e, h2] at h1
            have h3 := Option.some.inj h1
            injection h3 with h4 h5
            exact absurd h5 (by decide)
          have hd0l := (hbl.cell (p := ⟨gO, v, none⟩) hgOz).trans hd0
          have Hb0 := Lib.hid Hb.out
          generalize hcs : bytesB col = cs at *
          have Hcs := Lib.hid hcs
          clear hu0 hu1 hru hu hcg hlen hbl hcs hsk hcol
          have hcy : (y = true ∧ bcode y = 49) ∨ (y = false ∧ bcode y = 48) := by cases y <;> simp [bcode]
          rcases hcy with ⟨hy, hby⟩ | ⟨hy, hby⟩
          all_goals
            rw [hby] at Hlit HRl HOl Hbl hzl hd0l
            rw [hy] at hd1
            have HY := Lib.hid (And.intro hy hby)
            clear hy hby
            go_wp2_with (at_builtin; refine append_u8 rfl (.tmp 39) (.tmp 41) rfl (gO + 1) (.slice Au x cu) x cs rfl HRl.out _ 1 [.int .u8 _] rfl Hlit.out (by simp [Value.oneCell']) (by omega) (by omega) ?_; intro v8 w8 hown8 hg8 hat8; obtain ⟨A8, c8, hv8⟩ := slice_of_own hown8; subst hv8; have O8 : Only (fun q => (Value.slice Au x cu).ownBlock = some q) _ w8 := Only.grown hg8 (fun k hk => hk); have hown0 := own_only (own_below HC.out.own Hbl.out) O8 (fun q hq e => by have h1 := Option.some.inj hq; simp only at h1; exact hneO (by rw [h1]; exact e)); obtain ⟨u9, -, hd9, hf9⟩ := own_slot hown0 (j := v) (by omega); have Hown8 := Lib.hid hown8; have Hg8 := Lib.hid hg8; have Hat8 := Lib.hid hat8; have HO8 := Lib.hid O8; clear hown8 hg8 hat8 O8 hown0)
            have hCu := ColAt.upd (b := y) HC.out Hu.out Hcg.out Hbl.out Hg8.out (by rw [Hlen.out, Hcs.out, HY.out.2]; exact Hown8.out) Hat8.out
            rw [HSt.out] at hCu
            have hz8 := HO8.out.size
            go_roundw
            case rel => exact ⟨v + 1, _, by omega, by go_num, Lib.hid hCu, Lib.hid (own_setN (own_only HOl.out HO8.out (fun q hq e => HTag.out q hq e)) (fun e => hgvO (by have := Option.some.inj e; simp only at this; exact this))), by simp; omega, Lib.hid ((Only.below (Hb0.out.trans (Hbl.out.mono Hb0.out.size)) HO8.out (by have := Hb0.out.size; omega) (fun q hq => by have := (HRl.out.lt q hq).1; omega)).setCell hwO _)⟩
            case measure => simp [intOf]; omega
        · obtain rfl : v = n := by omega
          rw [colsG_next] at HC
          go_wp2_with fail
          go_roundw
          case rel => exact ⟨x + 1, vs, by omega, by go_num, HC, hzr', Hb⟩
          case measure => simp [intOf]; omega
    · obtain rfl : x = M := by omega
      clear hlt
      go_wp2_with fail
      obtain ⟨w7, hw7⟩ : ∃ w7, w7 = wr := ⟨_, rfl⟩
      subst hw7
      obtain ⟨B3, hB3⟩ : ∃ B3, B3 = w7.heap.size := ⟨_, rfl⟩
      have hwB3 : w.heap.size ≤ B3 := by rw [hB3]; exact Hb.out.size
      have hB3z : B3 ≤ w7.heap.size := by omega
      have hvl : ∀ (i : Nat) (v : Value), vs[i]? = some v → ∀ q, v.ownBlock = some q → q < B3 := fun i v hv q hq => by
        have hcj : ∃ cj, (colsG d n x 0)[i]? = some cj := ⟨_, List.getElem?_eq_getElem (by obtain ⟨h2, -⟩ := List.getElem?_eq_some_iff.1 hv; rw [HC.out.cl, ← HC.out.vl]; exact h2)⟩
        obtain ⟨cj, hcj⟩ := hcj
        rw [hB3]
        exact ((HC.out.row i v cj hv hcj).lt q hq).2
      have hgOB : gO < B3 := by rw [hB3]; exact (HC.out.own.lt gO rfl).2
      have HVL := Lib.hid hvl
      clear hB3 hvl
      go_loopw [8, 48] (fun ov i wr => ∃ (k : Nat) (ov' : Value), ov' = ov ∧ k ≤ n ∧ i = .int .i64 k ∧ Hid (ColAt gO n vs (colsG d n x 0) wr) ∧ Hid (wr.ownsRow B3 9 1 ov k (colsV d k)) ∧ B3 ≤ wr.heap.size ∧ Hid (Below w.heap.size w wr)) (fun _ i _ => n - (intOf i).toNat)
      case atStart => exact ⟨0, .slice none 0 0, rfl, Nat.zero_le _, rfl, HC, Lib.hid (World.ownsRow_nil _ _ _ _), hB3z, Hb⟩
      case round =>
        obtain ⟨k, ov', hov, hk, rfl, HC', HO, hzr', Hb'⟩ := hrel
        subst hov
        clear HC Hb hB3z
        by_cases hlk : k < n
        · obtain ⟨u, hu⟩ : ∃ u, vs[k]? = some u := ⟨_, List.getElem?_eq_getElem (by rw [HC'.out.vl]; exact hlk)⟩
          have hcg := colsG_at (c := d) (x := x) (v := 0) hlk
          rw [if_neg (Nat.not_lt_zero _), List.take_of_length_le (by rw [HCl.out]; exact Nat.le_refl _)] at hcg
          have hru := HC'.out.row k u _ hu hcg
          have hlen := HCl.out k
          rw [hlen] at hru
          obtain ⟨gu, cu, hue, hgu1, hgu2, hcu1, hcu2⟩ := own_open hru h20
          subst hue
          obtain ⟨u0, hu0, hd0, -⟩ := own_slot HC'.out.own (j := k) (by omega)
          obtain rfl := Option.some.inj (hu0.symm.trans hu)
          have hcv := run_convert_bytes_arg wr 49 5 Try.underlying49 Try.underlying5 gu 0 x cu ((Cir.colV d k).map bcode) (by rw [List.length_map, hlen]) (fun i hi => by
            obtain ⟨u2, hu2, hd2, -⟩ := own_slot hru (j := i) (by omega)
            have e : (bytesB (Cir.colV d k))[i]? = some (.int .u8 (((Cir.colV d k).map bcode).getD i 0)) := by
              unfold bytesB
              rw [List.getElem?_map, List.getElem?_eq_getElem (by omega), List.getD_eq_getElem?_getD, List.getElem?_map, List.getElem?_eq_getElem (by omega)]
              rfl
            rw [e] at hu2
            rw [Option.some.inj hu2, Nat.zero_add]
            exact hd2) 9 Try.underlying9
          have hsn : colsV d (k + 1) = colsV d k ++ [.string (colS (Cir.colV d k))] := by
            unfold colsV
            rw [List.range_succ, List.map_append]
            rfl
          have hss : strOfNums ((Cir.colV d k).map bcode) = colS (Cir.colV d k) := rfl
          rw [hss] at hcv
          have Hsn := Lib.hid hsn
          generalize colS (Cir.colV d k) = s at *
          have hgOz := (HC'.out.own.lt gO rfl).2
          have hbl := bel_new wr (.cells #[.string s] 9)
          have hzl : (wr.alloc (.cells #[.string s] 9)).heap.size = wr.heap.size + 1 := by simp
          have Hlit := Lib.hid (Row.of_own (World.ownsRow_lit (base := wr.heap.size) (e := 9) (size := 1) wr #[.string s] 1 (Nat.le_refl _) (by unfold maxLen; omega) rfl))
          have HOl := Lib.hid (own_below HO.out hbl)
          have HCl' := Lib.hid (HC'.out.below hbl)
          have Hbl := Lib.hid (Hb'.out.trans (hbl.mono Hb'.out.size))
          obtain ⟨Ao, co, hov⟩ := slice_of_own HO.out
          subst hov
          clear hu0 hru hu hcg hlen hbl hsn hss HO
          go_wp2_with (at_builtin; refine append_str rfl (.tmp 52) (.tmp 55) rfl B3 (.slice Ao k co) k (colsV d k) rfl HOl.out _ 1 [.string s] rfl Hlit.out (by simp [Value.oneCell']) (by omega) (by omega) ?_; intro v8 w8 hown8 hg8 hat8; have Hown8 := Lib.hid hown8; have Hg8 := Lib.hid hg8; clear hown8 hg8 hat8)
          have HO8 : Only (fun q => (Value.slice Ao k co).ownBlock = some q) _ w8 := Only.grown Hg8.out (fun k hk => hk)
          have hz8 := HO8.size
          have hlo : ∀ q, (Value.slice Ao k co).ownBlock = some q → B3 ≤ q := fun q hq => (HOl.out.lt q hq).1
          have hC8 : ColAt gO n vs (colsG d n x 0) w8 := ⟨own_only HCl'.out.own HO8 (fun q hq e => by have h1 := Option.some.inj hq; simp only at h1; have := hlo q e; omega), HCl'.out.vl, HCl'.out.cl, fun i v c hv hc => own_only (HCl'.out.row i v c hv hc) HO8 (fun q hq e => by have h1 := HVL.out i v hv q hq; have := hlo q e; omega), HCl'.out.ap⟩
          have HC8 := Lib.hid hC8
          have Hb8 := Lib.hid (Only.below Hbl.out HO8 (by omega) (fun q hq => by have := hlo q hq; omega))
          clear hC8 HO8
          go_roundw
          case rel => exact ⟨k + 1, _, rfl, by omega, by go_num, HC8, Lib.hid (by rw [Hsn.out]; exact Hown8.out), by omega, Hb8⟩
          case measure => simp [intOf]; omega
        · obtain rfl : k = n := by omega
          obtain ⟨Ao, co, hov⟩ := slice_of_own HO.out
          subst hov
          go_wp2_with fail
          go_ret
          exact ⟨⟨_, rfl, own_mono HO.out hwB3⟩, Hb'.out⟩
end Go.Proofs.Ytlbfejdbfhgifaa

namespace Go.Proofs.Ytlbfejdbfhgifaa
/-! What only the steps of a circuit decide: violations. -/
namespace Cir
section
variable {c d : Ci}
theorem SameStep.bad (h : SameStep c d) (o s x : Nat) : bad d o s x = bad c o s x := by
  unfold Cir.bad
  rw [h.outsOf]
theorem SameStep.vpushes (h : SameStep c d) (s : Nat) (p : List Nat) (l : List (Nat × List Nat)) : ∀ j, vpushes d s p j l = vpushes c s p j l
  | 0 => rfl
  | j + 1 => by rw [Cir.vpushes, Cir.vpushes, h.vpushes s p l j, h.nextOf]
theorem SameStep.vfind (h : SameStep c d) (o s M : Nat) : vfind d o s M = vfind c o s M := by
  unfold Cir.vfind
  rw [show Cir.bad d o s = Cir.bad c o s from funext fun x => h.bad o s x]
theorem SameStep.vbfs (h : SameStep c d) (o : Nat) : ∀ f k l, vbfs d o f k l = vbfs c o f k l
  | 0, _, _ => rfl
  | f + 1, k, l => by
    rw [Cir.vbfs, Cir.vbfs]
    cases l[k]? with
    | none => rfl
    | some e =>
      obtain ⟨s, p⟩ := e
      simp only [h.ins, h.vfind, h.vpushes]
      cases Cir.vfind c o s (2 ^ c.ins) with
      | none => exact h.vbfs o f _ _
      | some x => rfl
theorem SameStep.viol (h : SameStep c d) (o : Nat) : viol d o = viol c o := h.vbfs o _ _ _
end
/-- The circuits of natural numbers that are in order are valid. -/
theorem ok_valid {d : Ci} (h : Ok d) : valid (toCz d) = true := by
  unfold valid
  rw [Bool.and_eq_true, Bool.and_eq_true]
  have e1 := first_toCz d
  have e2 := vars_toCz d
  refine ⟨⟨?_, ?_⟩, ?_⟩
  · unfold sizes
    rw [decide_eq_true_eq]
    have := h.ins
    have := h.nexts
    have := h.gatess
    have := h.outss
    simp only [toCz, List.length_map]
    omega
  · rw [e1]
    have : ∀ (gs : List (Nat × Nat)) (k : Nat), (∀ i g, gs[i]? = some g → g.1 < 2 * (nfirst d + (k + i)) ∧ g.2 < 2 * (nfirst d + (k + i))) → gatesOk (nfirst d : Nat) k (gs.map fun g => ((g.1 : Int), (g.2 : Int))) = true := fun gs => by
      induction gs with
      | nil => intro k _; rfl
      | cons g gs ih =>
        intro k hg
        have h0 := hg 0 g rfl
        rw [List.map_cons, gatesOk, ih (k + 1) (fun i g' hi => by have := hg (i + 1) g' (by simpa using hi); omega)]
        unfold isLit
        rw [Bool.and_true, Bool.and_eq_true, decide_eq_true_eq, decide_eq_true_eq]
        omega
    exact this d.gates 0 fun i g hi => by have := h.gate i g hi; omega
  · rw [e2]
    refine List.all_eq_true.2 fun x hx => ?_
    have hx' : ∃ l : Nat, x = (l : Int) ∧ l < 2 * nvars d := by
      rcases List.mem_append.1 hx with hx | hx
      · obtain ⟨l, hl, rfl⟩ := List.mem_map.1 hx
        exact ⟨l, rfl, h.next l hl⟩
      · obtain ⟨l, hl, rfl⟩ := List.mem_map.1 hx
        exact ⟨l, rfl, h.out l hl⟩
    obtain ⟨l, rfl, hl⟩ := hx'
    unfold isLit
    rw [decide_eq_true_eq]
    omega
/-- The optimized circuit, of any circuit. -/
def optZ (c : Cz) : Cz := if valid c then toCz (optI (nat c)) else ⟨0, [], [], []⟩
theorem optZ_valid (c : Cz) : valid (optZ c) = true := by
  unfold optZ
  split
  · rename_i h
    exact ok_valid (optI_ok (nat_ok h).2)
  · rfl
theorem optZ_same {c : Cz} (h : valid c = true) : SameStep (nat c) (nat (optZ c)) := by
  unfold optZ
  rw [if_pos h, nat_toCz]
  exact optI_same (nat_ok h).2
end Cir
end Go.Proofs.Ytlbfejdbfhgifaa
