import Derived.Test.YtmlcbikljlhhkaaS03
import Derived.Test.YtmlcbikljlhhkaaS05
import Derived.Test.YtmlcbikljlhhkaaS04
import Derived.Test.YtmlcbikljlhhkaaS02
import Derived.Test.YtmlcbikljlhhkaaS01
namespace Go.Proofs.Ytmlcbikljlhhkaa
namespace Cir
/-! Violations of invariants, plainly. -/
/-- Output o is 1 in state s for input number x. -/
def bad (c : Ci) (o s x : Nat) : Bool := (outsOf c s x).getD o false
def vsts (l : List (Nat × List Nat)) : List Nat := l.map (·.1)
def vpush (l : List (Nat × List Nat)) (n : Nat) (p : List Nat) : List (Nat × List Nat) := if memB (vsts l) n then l else l ++ [(n, p)]
def vpushes (c : Ci) (s : Nat) (p : List Nat) : Nat → List (Nat × List Nat) → List (Nat × List Nat)
  | 0, l => l
  | j + 1, l => vpush (vpushes c s p j l) (nextOf c s j) (p ++ [j])
def vfind (c : Ci) (o s M : Nat) : Option Nat := (List.range M).find? (bad c o s)
def vbfs (c : Ci) (o : Nat) : Nat → Nat → List (Nat × List Nat) → Option (List Nat)
  | 0, _, _ => none
  | f + 1, k, l => match l[k]? with
    | none => none
    | some (s, p) => match vfind c o s (2 ^ c.ins) with
      | some x => some (p ++ [x])
      | none => vbfs c o f (k + 1) (vpushes c s p (2 ^ c.ins) l)
def viol (c : Ci) (o : Nat) : Option (List Nat) := vbfs c o 9 0 [(0, [])]
theorem vsts_vpush (l : List (Nat × List Nat)) (n : Nat) (p : List Nat) : vsts (vpush l n p) = push (vsts l) n := by
  unfold vpush push memB
  split
  · rfl
  · unfold vsts; simp
theorem vsts_vpushes (c : Ci) (s : Nat) (p : List Nat) (l : List (Nat × List Nat)) : ∀ j, vsts (vpushes c s p j l) = pushes c s j (vsts l)
  | 0 => by rw [pushes_zero]; rfl
  | j + 1 => by rw [pushes_succ, ← vsts_vpushes c s p l j, ← vsts_vpush]; rfl
theorem vsts_get {l : List (Nat × List Nat)} {k s : Nat} {p : List Nat} (h : l[k]? = some (s, p)) : (vsts l)[k]? = some s := by
  unfold vsts; rw [List.getElem?_map, h]; rfl
theorem vsts_length (l : List (Nat × List Nat)) : (vsts l).length = l.length := by unfold vsts; simp
theorem vpush_prefix (l : List (Nat × List Nat)) (n : Nat) (p : List Nat) : ∃ m, vpush l n p = l ++ m := by
  unfold vpush
  split
  · exact ⟨[], by simp⟩
  · exact ⟨_, rfl⟩
theorem vpushes_prefix (c : Ci) (s : Nat) (p : List Nat) (l : List (Nat × List Nat)) : ∀ j, ∃ m, vpushes c s p j l = l ++ m
  | 0 => ⟨[], by simp [vpushes]⟩
  | j + 1 => by
    obtain ⟨m, hm⟩ := vpushes_prefix c s p l j
    obtain ⟨m', hm'⟩ := vpush_prefix (vpushes c s p j l) (nextOf c s j) (p ++ [j])
    exact ⟨m ++ m', by rw [vpushes, hm', hm, List.append_assoc]⟩
theorem vpushes_get {c : Ci} {s : Nat} {p : List Nat} {l : List (Nat × List Nat)} {j k : Nat} {x : Nat × List Nat} (h : l[k]? = some x) : (vpushes c s p j l)[k]? = some x := by
  obtain ⟨m, hm⟩ := vpushes_prefix c s p l j
  rw [hm, List.getElem?_append_left (List.getElem?_eq_some_iff.1 h).1, h]
/-- Lists of states with the inputs that lead there. -/
structure Vs (c : Ci) (l : List (Nat × List Nat)) : Prop where
  sts : Sts c (vsts l)
  len : ∀ (k s : Nat) (p : List Nat), l[k]? = some (s, p) → p.length ≤ k
  inp : ∀ (k s : Nat) (p : List Nat), l[k]? = some (s, p) → ∀ x ∈ p, x < 2 ^ c.ins
theorem Vs.zero (c : Ci) : Vs c [(0, [])] := by
  refine ⟨Sts.zero c, fun k s p h => ?_, fun k s p h => ?_⟩
  · cases k with
    | zero => simp at h; obtain ⟨_, rfl⟩ := h; simp
    | succ k => simp at h
  · cases k with
    | zero => simp at h; obtain ⟨_, rfl⟩ := h; simp
    | succ k => simp at h
theorem Vs.push {c : Ci} {l : List (Nat × List Nat)} (h : Vs c l) {k s : Nat} {p : List Nat} (hk : l[k]? = some (s, p)) {n x : Nat} (hn : n < 2 ^ c.next.length) (hx : x < 2 ^ c.ins) : Vs c (vpush l n (p ++ [x])) := by
  refine ⟨by rw [vsts_vpush]; exact h.sts.push hn, fun k' s' p' h' => ?_, fun k' s' p' h' => ?_⟩
  all_goals
    unfold vpush at h'
    split at h'
    · first | exact h.len _ _ _ h' | exact h.inp _ _ _ h'
    · rcases Nat.lt_or_ge k' l.length with hl | hl
      · rw [List.getElem?_append_left hl] at h'
        first | exact h.len _ _ _ h' | exact h.inp _ _ _ h'
      · rw [List.getElem?_append_right hl] at h'
        have hz : k' - l.length = 0 := by
          rcases Nat.eq_zero_or_pos (k' - l.length) with hz | hz
          · exact hz
          · rw [List.getElem?_eq_none (by simp; omega)] at h'; cases h'
        rw [hz] at h'
        simp at h'
        obtain ⟨rfl, rfl⟩ := h'
        first
        | (have := h.len _ _ _ hk
           have h2 := (List.getElem?_eq_some_iff.1 hk).1
           simp
           omega)
        | (intro y hy
           rcases List.mem_append.1 hy with hy | hy
           · exact h.inp _ _ _ hk y hy
           · obtain rfl := List.mem_singleton.1 hy
             exact hx)
theorem Vs.pushes {c : Ci} {l : List (Nat × List Nat)} (h : Vs c l) {k s : Nat} {p : List Nat} (hk : l[k]? = some (s, p)) : ∀ j, j ≤ 2 ^ c.ins → Vs c (vpushes c s p j l)
  | 0, _ => h
  | j + 1, hj => (Vs.pushes h hk j (by omega)).push (vpushes_get hk) (nextOf_lt c s j) (by omega)
theorem Vs.size {c : Ci} {l : List (Nat × List Nat)} (h : Vs c l) (hc : Ok c) : l.length ≤ 8 := by
  have := h.sts.len hc
  rwa [vsts_length] at this
theorem vfind_none {c : Ci} {o s M : Nat} (h : ∀ x, x < M → bad c o s x = false) : vfind c o s M = none := by
  unfold vfind
  rw [List.find?_eq_none]
  intro x hx
  rw [h x (List.mem_range.1 hx)]
  simp
theorem find_range (p : Nat → Bool) : ∀ (M x : Nat), x < M → p x = true → (∀ y, y < x → p y = false) → (List.range M).find? p = some x
  | 0, x, h, _, _ => by omega
  | M + 1, x, h, hp, hl => by
    rw [List.range_succ, List.find?_append]
    rcases Nat.lt_or_ge x M with hx | hx
    · rw [find_range p M x hx hp hl]; rfl
    · obtain rfl : x = M := by omega
      rw [List.find?_eq_none.2 (fun y hy => by rw [hl y (List.mem_range.1 hy)]; simp)]
      simp [hp]
theorem vfind_some {c : Ci} {o s M x : Nat} (hx : x < M) (hb : bad c o s x = true) (h : ∀ y, y < x → bad c o s y = false) : vfind c o s M = some x := find_range _ M x hx hb h
theorem vbfs_hit {c : Ci} {o f k s x : Nat} {p : List Nat} {l : List (Nat × List Nat)} (hk : l[k]? = some (s, p)) (h : vfind c o s (2 ^ c.ins) = some x) : vbfs c o (f + 1) k l = some (p ++ [x]) := by
  rw [vbfs, hk]; simp only [h]
theorem vbfs_step {c : Ci} {o f k s : Nat} {p : List Nat} {l : List (Nat × List Nat)} (hk : l[k]? = some (s, p)) (h : vfind c o s (2 ^ c.ins) = none) : vbfs c o (f + 1) k l = vbfs c o f (k + 1) (vpushes c s p (2 ^ c.ins) l) := by
  rw [vbfs, hk]; simp only [h]
theorem vbfs_end {c : Ci} {o f : Nat} {l : List (Nat × List Nat)} : vbfs c o f l.length l = none := by
  cases f with
  | zero => rfl
  | succ f => rw [vbfs, List.getElem?_eq_none (Nat.le_refl _)]
theorem vpush_no {l : List (Nat × List Nat)} {n : Nat} {p : List Nat} (h : memB (vsts l) n = false) : vpush l n p = l ++ [(n, p)] := by
  unfold vpush; rw [h]; rfl
theorem vpush_yes {l : List (Nat × List Nat)} {n : Nat} {p : List Nat} (h : memB (vsts l) n = true) : vpush l n p = l := by
  unfold vpush; rw [h]; rfl
theorem vpushes_succ (c : Ci) (s : Nat) (p : List Nat) (j : Nat) (l : List (Nat × List Nat)) : vpushes c s p (j + 1) l = vpush (vpushes c s p j l) (nextOf c s j) (p ++ [j]) := rfl
/-- The way back: from which place, and by which input. -/
structure Back (l : List (Nat × List Nat)) (from_ how : List Nat) : Prop where
  l1 : from_.length = l.length
  l2 : how.length = l.length
  zero : ∃ s, l[0]? = some (s, [])
  step : ∀ (k s : Nat) (p : List Nat), l[k]? = some (s, p) → 0 < k → ∃ i x s' p', from_[k]? = some i ∧ i < k ∧ how[k]? = some x ∧ l[i]? = some (s', p') ∧ p = p' ++ [x]
theorem Back.start : Back [(0, [])] [0] [0] := ⟨rfl, rfl, ⟨0, rfl⟩, fun k s p h hk => by
  cases k with
  | zero => omega
  | succ k => simp at h⟩
theorem Back.snoc {l : List (Nat × List Nat)} {from_ how : List Nat} (h : Back l from_ how) {k s n x : Nat} {p : List Nat} (hk : l[k]? = some (s, p)) : Back (l ++ [(n, p ++ [x])]) (from_ ++ [k]) (how ++ [x]) := by
  have hkl := (List.getElem?_eq_some_iff.1 hk).1
  refine ⟨by simp [h.l1], by simp [h.l2], ?_, fun k' s' p' h' hpos => ?_⟩
  · obtain ⟨s0, h0⟩ := h.zero
    exact ⟨s0, by rw [List.getElem?_append_left (List.getElem?_eq_some_iff.1 h0).1, h0]⟩
  · rcases Nat.lt_or_ge k' l.length with hl | hl
    · rw [List.getElem?_append_left hl] at h'
      obtain ⟨i, y, s1, p1, h1, h2, h3, h4, h5⟩ := h.step k' s' p' h' hpos
      exact ⟨i, y, s1, p1, by rw [List.getElem?_append_left (by rw [h.l1]; exact hl), h1], h2, by rw [List.getElem?_append_left (by rw [h.l2]; exact hl), h3], by rw [List.getElem?_append_left (by omega), h4], h5⟩
    · have hz : k' = l.length := by
        rcases Nat.lt_or_ge l.length k' with hz | hz
        · rw [List.getElem?_eq_none (by simp; omega)] at h'; cases h'
        · omega
      subst hz
      rw [List.getElem?_append_right (Nat.le_refl _), Nat.sub_self] at h'
      simp at h'
      obtain ⟨rfl, rfl⟩ := h'
      exact ⟨k, x, s, p, by rw [List.getElem?_append_right (by rw [h.l1]; exact Nat.le_refl _), h.l1]; simp, hkl, by rw [List.getElem?_append_right (by rw [h.l2]; exact Nat.le_refl _), h.l2]; simp, by rw [List.getElem?_append_left hkl, hk], rfl⟩
end Cir
end Go.Proofs.Ytmlcbikljlhhkaa

namespace Go.Proofs.Ytmlcbikljlhhkaa
namespace Cir
/-! Induction over clock cycles, plainly. -/
def goodS (c : Ci) (o s : Nat) : Bool := (List.range (2 ^ c.ins)).all fun x => !bad c o s x
/-- From every state of the set the output is 0. -/
def good (c : Ci) (o : Nat) (S : Nat → Bool) : Bool := (List.range 8).all fun s => !S s || goodS c o s
def reaches (c : Ci) (o s y : Nat) : Bool := (List.range (2 ^ c.ins)).any fun x => !bad c o s x && nextOf c s x == y
/-- The states behind a cycle with output 0. -/
def adv (c : Ci) (o : Nat) (S : Nat → Bool) (y : Nat) : Bool := (List.range 8).any fun s => S s && reaches c o s y
def advN (c : Ci) (o : Nat) (S : Nat → Bool) : Nat → Nat → Bool
  | 0 => S
  | j + 1 => adv c o (advN c o S j)
def only0 (x : Nat) : Bool := x == 0
def upTo (n x : Nat) : Bool := decide (x < n)
def ind (c : Ci) (o k : Nat) : Bool := (List.range k).all (fun j => good c o (advN c o only0 j)) && good c o (advN c o (upTo (2 ^ c.next.length)) k)
theorem good_iff {c : Ci} {o : Nat} {S : Nat → Bool} : good c o S = true ↔ ∀ s, s < 8 → S s = true → ∀ x, x < 2 ^ c.ins → bad c o s x = false := by
  unfold good goodS
  simp only [List.all_eq_true, List.mem_range, Bool.or_eq_true, Bool.not_eq_true']
  constructor
  · intro h s hs hS x hx
    rcases h s hs with h | h
    · rw [hS] at h; cases h
    · exact h x hx
  · intro h s hs
    cases hS : S s
    · exact .inl rfl
    · exact .inr (h s hs hS)
theorem adv_iff {c : Ci} {o : Nat} {S : Nat → Bool} {y : Nat} : adv c o S y = true ↔ ∃ s, s < 8 ∧ S s = true ∧ ∃ x, x < 2 ^ c.ins ∧ bad c o s x = false ∧ nextOf c s x = y := by
  unfold adv reaches
  simp only [List.any_eq_true, List.mem_range, Bool.and_eq_true, Bool.not_eq_true', beq_iff_eq]
theorem ind_no {c : Ci} {o k j : Nat} (hj : j < k) (h : good c o (advN c o only0 j) = false) : ind c o k = false := by
  unfold ind
  rw [Bool.and_eq_false_iff]
  refine .inl (Bool.eq_false_iff.2 fun ha => ?_)
  have := List.all_eq_true.1 ha j (List.mem_range.2 hj)
  rw [h] at this
  cases this
theorem ind_yes {c : Ci} {o k : Nat} (h : ∀ j, j < k → good c o (advN c o only0 j) = true) : ind c o k = good c o (advN c o (upTo (2 ^ c.next.length)) k) := by
  unfold ind
  rw [List.all_eq_true.2 fun j hj => h j (List.mem_range.1 hj), Bool.true_and]
/-- The reference's definitions. -/
def safe (c : Ci) (o : Nat) : Nat → Nat → Bool
  | 0, _ => true
  | k + 1, s => (List.range (2 ^ c.ins)).all fun x => !bad c o s x && safe c o k (nextOf c s x)
def stepB (c : Ci) (o : Nat) : Nat → Nat → Bool
  | 0, s => (List.range (2 ^ c.ins)).all fun x => !bad c o s x
  | k + 1, s => (List.range (2 ^ c.ins)).all fun x => bad c o s x || stepB c o k (nextOf c s x)
theorem safe_iff {c : Ci} {o k s : Nat} : safe c o (k + 1) s = true ↔ ∀ x, x < 2 ^ c.ins → bad c o s x = false ∧ safe c o k (nextOf c s x) = true := by
  rw [safe]
  simp only [List.all_eq_true, List.mem_range, Bool.and_eq_true, Bool.not_eq_true']
theorem stepB_zero {c : Ci} {o s : Nat} : stepB c o 0 s = true ↔ ∀ x, x < 2 ^ c.ins → bad c o s x = false := by
  rw [stepB]
  simp only [List.all_eq_true, List.mem_range, Bool.not_eq_true']
theorem stepB_succ {c : Ci} {o k s : Nat} : stepB c o (k + 1) s = true ↔ ∀ x, x < 2 ^ c.ins → bad c o s x = true ∨ stepB c o k (nextOf c s x) = true := by
  rw [stepB]
  simp only [List.all_eq_true, List.mem_range, Bool.or_eq_true]
theorem next_lt8 {c : Ci} (hc : Ok c) (s x : Nat) : nextOf c s x < 8 := by
  have h1 := nextOf_lt c s x
  have h2 : 2 ^ c.next.length ≤ 2 ^ 3 := Nat.pow_le_pow_right (show 0 < 2 by decide) hc.nexts
  omega
theorem advN_adv (c : Ci) (o : Nat) (S : Nat → Bool) : ∀ j, advN c o S (j + 1) = advN c o (adv c o S) j
  | 0 => rfl
  | j + 1 => by rw [advN, advN_adv c o S j, advN]
theorem safe_adv {c : Ci} (hc : Ok c) {o : Nat} : ∀ (k : Nat) (S : Nat → Bool), (∀ s, s < 8 → S s = true → safe c o k s = true) ↔ ∀ j, j < k → good c o (advN c o S j) = true
  | 0, S => ⟨fun _ j hj => by omega, fun _ s _ _ => rfl⟩
  | k + 1, S => by
    have IH := safe_adv hc (o := o) k (adv c o S)
    constructor
    · intro h j hj
      cases j with
      | zero => exact good_iff.2 fun s hs hS x hx => (safe_iff.1 (h s hs hS) x hx).1
      | succ j =>
        rw [advN_adv]
        exact IH.1 (fun y hy hS => by
          obtain ⟨s, hs, h1, x, hx, _, rfl⟩ := adv_iff.1 hS
          exact (safe_iff.1 (h s hs h1) x hx).2) j (by omega)
    · intro h s hs hS
      have h0 := good_iff.1 (h 0 (by omega)) s hs hS
      refine safe_iff.2 fun x hx => ⟨h0 x hx, ?_⟩
      exact IH.2 (fun j hj => by rw [← advN_adv]; exact h (j + 1) (by omega)) _ (next_lt8 hc s x) (adv_iff.2 ⟨s, hs, hS, x, hx, h0 x hx, rfl⟩)
theorem step_adv {c : Ci} (hc : Ok c) {o : Nat} : ∀ (k : Nat) (S : Nat → Bool), (∀ s, s < 8 → S s = true → stepB c o k s = true) ↔ good c o (advN c o S k) = true
  | 0, S => by
    constructor
    · exact fun h => good_iff.2 fun s hs hS x hx => stepB_zero.1 (h s hs hS) x hx
    · exact fun h s hs hS => stepB_zero.2 fun x hx => good_iff.1 h s hs hS x hx
  | k + 1, S => by
    have IH := step_adv hc (o := o) k (adv c o S)
    rw [advN_adv, ← IH]
    constructor
    · intro h y hy hS
      obtain ⟨s, hs, h1, x, hx, hb, rfl⟩ := adv_iff.1 hS
      rcases stepB_succ.1 (h s hs h1) x hx with h2 | h2
      · rw [hb] at h2; cases h2
      · exact h2
    · intro h s hs hS
      refine stepB_succ.2 fun x hx => ?_
      cases hb : bad c o s x
      · exact .inr (h _ (next_lt8 hc s x) (adv_iff.2 ⟨s, hs, hS, x, hx, hb, rfl⟩))
      · exact .inl rfl
theorem ind_spec {c : Ci} (hc : Ok c) (o k : Nat) : ind c o k = (safe c o k 0 && (List.range (2 ^ c.next.length)).all (stepB c o k)) := by
  have h8 : 2 ^ c.next.length ≤ 2 ^ 3 := Nat.pow_le_pow_right (show 0 < 2 by decide) hc.nexts
  have e1 : (List.range k).all (fun j => good c o (advN c o only0 j)) = safe c o k 0 := by
    rw [Bool.eq_iff_iff, List.all_eq_true]
    have := safe_adv hc (o := o) k only0
    constructor
    · intro h
      exact this.2 (fun j hj => h j (List.mem_range.2 hj)) 0 (by omega) rfl
    · intro h j hj
      refine this.1 (fun s _ hS => ?_) j (List.mem_range.1 hj)
      have : s = 0 := by simpa [only0] using hS
      rw [this]; exact h
  have e2 : good c o (advN c o (upTo (2 ^ c.next.length)) k) = (List.range (2 ^ c.next.length)).all (stepB c o k) := by
    rw [Bool.eq_iff_iff, List.all_eq_true, ← step_adv hc]
    constructor
    · exact fun h s hs => h s (by have := List.mem_range.1 hs; omega) (decide_eq_true (List.mem_range.1 hs))
    · exact fun h s _ hS => h s (List.mem_range.2 (of_decide_eq_true hS))
  rw [ind, e1, e2]
end Cir
end Go.Proofs.Ytmlcbikljlhhkaa

namespace Go.Proofs.Ytmlcbikljlhhkaa
open Go.RowKit Go.Maps
set_option maxRecDepth 100000
/-! The round over a set, in whatever order. -/
/-- Block r runs over the set S in block b; L: what is still to come. -/
def RSet (w : World) (b r n : Nat) (S L : Nat → Bool) (cnt : Nat) : Prop :=
  ∃ (D : DataW Unit) (left : Lit → Bool), w.ranges Try.prog 3 (plainElem Try.prog 4) b r n D left cnt ∧ IsMap D ∧ (∀ x : Nat, D.atKey (.int .i64 (x : Int)) (.lit (.bool false)) = .lit (.bool (S x))) ∧ (∀ x : Nat, left (.int .i64 (x : Int)) = L x) ∧ (∀ kl, left kl = true → ∃ x : Nat, kl = .int .i64 (x : Int) ∧ S x = true ∧ (x : Int) ≤ 9223372036854775807)
theorem RSet.kept {w w' : World} {b r n : Nat} {S L : Nat → Bool} {cnt : Nat} {row : Option Nat} (h : RSet w b r n S L cnt) (hg : w.grownBy w' row) (hb : some b ≠ row) (hr : some r ≠ row) : RSet w' b r n S L cnt := by
  obtain ⟨D, left, h1, h2⟩ := h
  exact ⟨D, left, h1.kept hg hb hr, h2⟩
theorem RSet.below {w w' : World} {b r n : Nat} {S L : Nat → Bool} {cnt : Nat} (h : RSet w b r n S L cnt) (hb : Below w.heap.size w w') : RSet w' b r n S L cnt :=
  h.kept (row := none) ⟨hb.os, hb.tape, hb.output, hb.size, fun k hk _ => hb.block k hk⟩ (by simp) (by simp)
theorem RSet.left {w : World} {b r n : Nat} {S L : Nat → Bool} {cnt : Nat} (h : RSet w b r n S L cnt) : w.rangeLeft b r = cnt := by
  obtain ⟨D, left, h1, _⟩ := h
  exact h1.left_eq
theorem RSet.lt {w : World} {b r n : Nat} {S L : Nat → Bool} {cnt : Nat} (h : RSet w b r n S L cnt) : r < w.heap.size ∧ b < w.heap.size ∧ r ≠ b := by
  obtain ⟨D, left, h1, _⟩ := h
  exact ⟨h1.lt, h1.owns.lt, h1.ne⟩
section
variable {ops : Array Oper} {rest : List Oper} {o : Oper} {a : Act} {Q : Exit → Act → World → Prop} {w : World}
theorem wpList_range_set (hg : o.guard = none) (m : Operand) (hop : o.op = Op.range 108 m) (b n : Nat) (S : Nat → Bool) (hm : a.eval m = .map (some b)) (h : SetAt w b n S)
    (hK : ∀ w' cnt, RSet w' b w.heap.size n S S cnt → Below w.heap.size w w' → w'.heap.size = w.heap.size + 1 → wpList Try.prog ops Q rest (a.put o.dst (.pointer (some ⟨w.heap.size, 0, none⟩))) w') : wpList Try.prog ops Q (o :: rest) a w := by
  obtain ⟨D, h1, h2, h3, h4, h5⟩ := h
  refine wpList_range_own w hg m _ hop _ _ set_keyed Try.underlying108 _ b n D hm h1 fun w' r1 r2 r3 => hK w' _ ⟨D, _, r1, h2, h3, fun x => ?_, h4⟩ ⟨r2.os, r2.tape, r2.output, r2.size, fun k hk => r2.block k hk (by simp)⟩ r3
  cases hs : S x
  · cases hh : Maps.has D (.int .i64 (x : Int))
    · rfl
    · obtain ⟨y, e, hy, _⟩ := h4 _ hh
      injection e with _ e
      have : x = y := by omega
      subst this
      rw [hs] at hy; cases hy
  · exact h5 x hs
theorem wpList_next_set (hg : o.guard = none) (it : Operand) (hop : o.op = Op.next it false) (b r n : Nat) (S L : Nat → Bool) (cnt : Nat) (hit : a.eval it = .pointer (some ⟨r, 0, none⟩)) (h : RSet w b r n S L cnt)
    (hDone : (∀ x, L x = false) → wpList Try.prog ops Q rest (a.put o.dst (.tuple #[.bool false])) w)
    (hMore : ∀ (x : Nat) (c : Bool) (w' : World) (cnt' : Nat), S x = true → L x = true → RSet w' b r n S (fun z => L z && !(z == x)) cnt' → cnt' < cnt → w.grownBy w' (some r) → w'.heap.size = w.heap.size →
      (Instr.entry (.pointer (some ⟨r, 0, none⟩))).run Try.prog w' = .ok (.tuple #[.int .i64 (x : Int), .bool c]) w' → wpList Try.prog ops Q rest (a.put o.dst (.tuple #[.bool true, .int .i64 (x : Int), .bool c])) w') : wpList Try.prog ops Q (o :: rest) a w := by
  obtain ⟨D, left, h1, h2, h3, h4, h5⟩ := h
  refine wpList_next_ranges w hg it hop _ set_keyed (plainElem Try.prog 4) (Value.int .i64) Value.bool (fun key kl hkey => ?_) (fun v y hv => ?_) b r n D left cnt hit h1 (fun h0 hl => hDone fun x => by rw [← h4 x]; exact hl _) (fun x c kl y w' cnt' hkey hlk hv hat hrg hlt hgr hsz hen => ?_)
  · obtain ⟨x, rfl, _⟩ := Maps.keyOf_int_inv Try.underlying3 hkey; exact ⟨x, rfl⟩
  · unfold plainElem at hv
    rw [Try.underlying4] at hv
    cases v <;> simp at hv
    exact ⟨_, rfl⟩
  · obtain ⟨x', ex, rfl, hwx⟩ := Maps.keyOf_int_inv Try.underlying3 hkey
    cases ex
    obtain ⟨m, e, hm, hmx⟩ := h5 _ hlk
    injection e with _ e
    subst e
    refine hMore m c w' cnt' hm (by rw [← h4 m]; exact hlk) ⟨D, _, hrg, h2, h3, fun z => ?_, fun kl hk => h5 kl ((Bool.and_eq_true _ _).mp hk).1⟩ hlt hgr hsz hen
    rw [h4 z]
    congr 1
    simp only [Lit.sameKey]
    rw [Bool.eq_iff_iff]
    simp
    omega
end
end Go.Proofs.Ytmlcbikljlhhkaa

namespace Go.Proofs.Ytmlcbikljlhhkaa
open Go.RowKit
set_option maxRecDepth 100000
/-! slices.Clone of rows of booleans, and of rows of rows. -/
theorem info_bool2 : (Try.prog.info? 4).map (fun i => (i.zero, i.size, i.bytes)) = some (some (.bool false), 1, 1) := by kernel_rfl
theorem info_bools2 : (Try.prog.info? 78).map (fun i => (i.zero, i.size, i.bytes)) = some (some (.slice none 0 0), 1, 24) := by kernel_rfl
theorem info_boolss2 : (Try.prog.info? 39).map (fun i => (i.zero, i.size, i.bytes)) = some (some (.slice none 0 0), 1, 24) := by kernel_rfl
def Cloned (e : TypeId) (n : Nat) (cs : List Value) (w : World) (r : Ending) (w' : World) : Prop := ∃ v', r = .returned v' ∧ w'.ownsRow w.heap.size e 1 v' n cs ∧ Below w.heap.size w w'
/-! append -/
theorem append_rows {w : World} {ops : Array Oper} {rest : List Oper} {o : Oper} {a : Act} {Q : Exit → Act → World → Prop} (hgd : o.guard = none) (s x : Operand)
    (ho : o.op = .call { callee := .builtin .append, args := #[s, x], argTypes := #[39, 39] })
    (base : Nat) (v : Value) (n : Nat) (xs : List Value) (hs : a.eval s = v) (hown : w.ownsRow base 78 1 v n xs) (sv : Value) (m : Nat) (news : List Value) (hx : a.eval x = sv) (hr : Row w 1 sv m news) (h1 : ∀ u ∈ news, u.oneCell' = true)
    (h63 : n + m ≤ 1000000) (hbase : base ≤ w.heap.size)
    (h : ∀ v' w', w'.ownsRow base 78 1 v' (n + m) (xs ++ news) → w.grownBy w' v.ownBlock → (v'.ownBlock = v.ownBlock ∨ v'.ownBlock = some w.heap.size) → wpList Try.prog ops Q rest (a.put o.dst v') w') : wpList Try.prog ops Q (o :: rest) a w := by
  obtain ⟨i, hi, hz0, hz1, hz2⟩ := info_parts info_bools2
  exact wpList_append_at hgd s x 39 ho base 78 i _ 1 24 Try.underlying39 hi hz0 hz1 hz2 rfl (by decide) v n xs hs hown sv m news hx hr h1 (by unfold maxLen; omega) (by omega) hbase h
theorem append_bits {w : World} {ops : Array Oper} {rest : List Oper} {o : Oper} {a : Act} {Q : Exit → Act → World → Prop} (hgd : o.guard = none) (s x : Operand)
    (ho : o.op = .call { callee := .builtin .append, args := #[s, x], argTypes := #[78, 78] })
    (base : Nat) (v : Value) (n : Nat) (xs : List Value) (hs : a.eval s = v) (hown : w.ownsRow base 4 1 v n xs) (sv : Value) (m : Nat) (news : List Value) (hx : a.eval x = sv) (hr : Row w 1 sv m news) (h1 : ∀ u ∈ news, u.oneCell' = true)
    (h63 : n + m ≤ 1000000) (hbase : base ≤ w.heap.size)
    (h : ∀ v' w', w'.ownsRow base 4 1 v' (n + m) (xs ++ news) → w.grownBy w' v.ownBlock → (v'.ownBlock = v.ownBlock ∨ v'.ownBlock = some w.heap.size) → wpList Try.prog ops Q rest (a.put o.dst v') w') : wpList Try.prog ops Q (o :: rest) a w := by
  obtain ⟨i, hi, hz0, hz1, hz2⟩ := info_parts info_bool2
  exact wpList_append_at hgd s x 78 ho base 4 i _ 1 1 Try.underlying78 hi hz0 hz1 hz2 rfl (by decide) v n xs hs hown sv m news hx hr h1 (by unfold maxLen; omega) (by omega) hbase h
theorem append_paths {w : World} {ops : Array Oper} {rest : List Oper} {o : Oper} {a : Act} {Q : Exit → Act → World → Prop} (hgd : o.guard = none) (s x : Operand)
    (ho : o.op = .call { callee := .builtin .append, args := #[s, x], argTypes := #[147, 147] })
    (base : Nat) (v : Value) (n : Nat) (xs : List Value) (hs : a.eval s = v) (hown : w.ownsRow base 39 1 v n xs) (sv : Value) (m : Nat) (news : List Value) (hx : a.eval x = sv) (hr : Row w 1 sv m news) (h1 : ∀ u ∈ news, u.oneCell' = true)
    (h63 : n + m ≤ 1000000) (hbase : base ≤ w.heap.size)
    (h : ∀ v' w', w'.ownsRow base 39 1 v' (n + m) (xs ++ news) → w.grownBy w' v.ownBlock → (v'.ownBlock = v.ownBlock ∨ v'.ownBlock = some w.heap.size) → wpList Try.prog ops Q rest (a.put o.dst v') w') : wpList Try.prog ops Q (o :: rest) a w := by
  obtain ⟨i, hi, hz0, hz1, hz2⟩ := info_parts info_boolss2
  exact wpList_append_at hgd s x 147 ho base 39 i _ 1 24 Try.underlying147 hi hz0 hz1 hz2 rfl (by decide) v n xs hs hown sv m news hx hr h1 (by unfold maxLen; omega) (by omega) hbase h
theorem cloneB_any (v : Value) (n : Nat) (cs : List Value) (w : World) (h : Row w 1 v n cs) (h1 : ∀ u ∈ cs, u.oneCell' = true) (hn : n ≤ 1000) :
    Calls Try.prog 136 #[v] w (Cloned 4 n cs w) := by
  have he := fun (w : World) (a : Option Addr) (n c : Nat) => Lib.run_eql_slice_nil (P := Try.prog) w 78 4 a n c 0 0 Try.underlying78
  have hr := Lib.hid h
  obtain ⟨hl, A, c, rfl, hc, hcm, hcell⟩ := h
  cases A with
  | none =>
    have hn0 : n = 0 := by
      rcases Nat.eq_zero_or_pos n with h0 | h0
      · exact h0
      · obtain ⟨b, o, hx, -⟩ := hcell h0; cases hx
    subst hn0
    obtain rfl : cs = [] := List.eq_nil_of_length_eq_zero (by simpa using hl)
    clear hl hcell h1 hr
    go_enter Try.func136, Try.ntmps136
    go_wp2_with fail
    go_ret
    exact ⟨_, rfl, World.ownsRow_nil _ _ _ _, Below.refl _ _⟩
  | some p =>
    have Hown0 := Lib.hid (World.ownsRow_lit (base := w.heap.size) (e := 4) (size := 1) w #[] 0 (Nat.le_refl _) (by unfold maxLen; omega) rfl)
    have H1 := Lib.hid h1
    clear hl hcell h1
    go_enter Try.func136, Try.ntmps136
    go_wp2_with (at_builtin; refine append_bits rfl (.tmp 5) (.tmp 6) rfl w.heap.size _ 0 _ rfl Hown0.out _ n cs rfl (hr.out.alloc _) H1.out (by omega) (by simp) ?_; intro v5 w5 hown5 hg5 hat5; have Ho5 := Lib.hid hown5; have Hg5 := Lib.hid hg5; clear hown5 hg5 hat5)
    go_ret
    refine ⟨_, rfl, ?_, ((Below.refl _ _).alloc (Nat.le_refl _) _).grown Hg5.out (by simp) (own_ge0 Hown0.out)⟩
    have := Ho5.out
    simpa using this
theorem cloneSS_any (v : Value) (n : Nat) (cs : List Value) (w : World) (h : Row w 1 v n cs) (h1 : ∀ u ∈ cs, u.oneCell' = true) (hn : n ≤ 1000) :
    Calls Try.prog 135 #[v] w (Cloned 78 n cs w) := by
  have he := fun (w : World) (a : Option Addr) (n c : Nat) => Lib.run_eql_slice_nil (P := Try.prog) w 39 78 a n c 0 0 Try.underlying39
  have hr := Lib.hid h
  obtain ⟨hl, A, c, rfl, hc, hcm, hcell⟩ := h
  cases A with
  | none =>
    have hn0 : n = 0 := by
      rcases Nat.eq_zero_or_pos n with h0 | h0
      · exact h0
      · obtain ⟨b, o, hx, -⟩ := hcell h0; cases hx
    subst hn0
    obtain rfl : cs = [] := List.eq_nil_of_length_eq_zero (by simpa using hl)
    clear hl hcell h1 hr
    go_enter Try.func135, Try.ntmps135
    go_wp2_with fail
    go_ret
    exact ⟨_, rfl, World.ownsRow_nil _ _ _ _, Below.refl _ _⟩
  | some p =>
    have Hown0 := Lib.hid (World.ownsRow_lit (base := w.heap.size) (e := 78) (size := 1) w #[] 0 (Nat.le_refl _) (by unfold maxLen; omega) rfl)
    have H1 := Lib.hid h1
    clear hl hcell h1
    go_enter Try.func135, Try.ntmps135
    go_wp2_with (at_builtin; refine append_rows rfl (.tmp 5) (.tmp 6) rfl w.heap.size _ 0 _ rfl Hown0.out _ n cs rfl (hr.out.alloc _) H1.out (by omega) (by simp) ?_; intro v5 w5 hown5 hg5 hat5; have Ho5 := Lib.hid hown5; have Hg5 := Lib.hid hg5; clear hown5 hg5 hat5)
    go_ret
    refine ⟨_, rfl, ?_, ((Below.refl _ _).alloc (Nat.le_refl _) _).grown Hg5.out (by simp) (own_ge0 Hown0.out)⟩
    have := Ho5.out
    simpa using this
end Go.Proofs.Ytmlcbikljlhhkaa

namespace Go.Proofs.Ytmlcbikljlhhkaa
open Go.RowKit
set_option maxRecDepth 100000
/-! A breadth-first search under way: its queue, its paths, its set of seen states. -/
def rowsOf (ins : Nat) (p : List Nat) : List (List Bool) := p.map fun x => Cir.bits x ins
theorem rowsOf_snoc (ins : Nat) (p : List Nat) (x : Nat) : rowsOf ins (p ++ [x]) = rowsOf ins p ++ [Cir.bits x ins] := by unfold rowsOf; simp
theorem rowsOf_length (ins : Nat) (p : List Nat) : (rowsOf ins p).length = p.length := by unfold rowsOf; simp
structure VB (B mb ins N : Nat) (l : List (Nat × List Nat)) (vq vp : Value) (pv : List Value) (F : Nat → Prop) (w : World) : Prop where
  q : w.ownsRow B 3 1 vq l.length (nints (Cir.vsts l))
  p : w.ownsRow B 39 1 vp l.length pv
  s : SetAt w mb N (fun x => Cir.memB (Cir.vsts l) x)
  r : ∀ (i s : Nat) (x : List Nat) (u : Value), l[i]? = some (s, x) → pv[i]? = some u → SSIn bools F w u (rowsOf ins x)
  f : ∀ g, F g → g < w.heap.size ∧ vq.ownBlock ≠ some g ∧ vp.ownBlock ≠ some g ∧ g ≠ mb
  a : Apart vq vp
  am : vq.ownBlock ≠ some mb ∧ vp.ownBlock ≠ some mb
theorem VB.pl {B mb ins N : Nat} {l : List (Nat × List Nat)} {vq vp : Value} {pv : List Value} {F : Nat → Prop} {w : World} (h : VB B mb ins N l vq vp pv F w) : pv.length = l.length := by
  have := h.p.1; omega
theorem VB.below {B mb ins N : Nat} {l : List (Nat × List Nat)} {vq vp : Value} {pv : List Value} {F : Nat → Prop} {w w' : World} (h : VB B mb ins N l vq vp pv F w) (hb : Below w.heap.size w w') : VB B mb ins N l vq vp pv F w' :=
  ⟨own_below h.q hb, own_below h.p hb, h.s.below hb, fun i s x u hx hu => (h.r i s x u hx hu).below hb, fun g hg => ⟨Nat.lt_of_lt_of_le (h.f g hg).1 hb.size, (h.f g hg).2⟩, h.a, h.am⟩
theorem VB.mono {B mb ins N N' : Nat} {l : List (Nat × List Nat)} {vq vp : Value} {pv : List Value} {F : Nat → Prop} {w : World} (h : VB B mb ins N l vq vp pv F w) (hN : N ≤ N') : VB B mb ins N' l vq vp pv F w :=
  ⟨h.q, h.p, h.s.mono hN, h.r, h.f, h.a, h.am⟩
/-- A state more. -/
theorem VB.push {B mb ins N n j : Nat} {l : List (Nat × List Nat)} {x : List Nat} {vq vp vq' vp' u : Value} {pv : List Value} {F F' : Nat → Prop} {w w1 w3 w5 : World} {o1 o2 : Obj} (h : VB B mb ins N l vq vp pv F w)
    (hu : SSIn bools F' w u (rowsOf ins (x ++ [j]))) (hF : ∀ g, F g → F' g) (hF' : ∀ g, F' g → g < w.heap.size ∧ vq.ownBlock ≠ some g ∧ vp.ownBlock ≠ some g ∧ g ≠ mb)
    (s1 : SetAt w1 mb (N + 1) (fun z => Cir.memB (Cir.vsts l) z || z == n)) (g1 : w.grownBy w1 (some mb))
    (own3 : w3.ownsRow B 3 1 vq' (l.length + 1) (nints (Cir.vsts l) ++ [.int .i64 (n : Int)])) (g3 : (w1.alloc o1).grownBy w3 vq.ownBlock) (at3 : vq'.ownBlock = vq.ownBlock ∨ vq'.ownBlock = some (w1.alloc o1).heap.size)
    (own5 : w5.ownsRow B 39 1 vp' (l.length + 1) (pv ++ [u])) (g5 : (w3.alloc o2).grownBy w5 vp.ownBlock) (at5 : vp'.ownBlock = vp.ownBlock ∨ vp'.ownBlock = some (w3.alloc o2).heap.size) :
    VB B mb ins (N + 1) (l ++ [(n, x ++ [j])]) vq' vp' (pv ++ [u]) F' w5 := by
  have z1 := g1.size
  have z3 := g3.size
  have z5 := g5.size
  rw [World.size_alloc] at z3 z5
  have hvs : Cir.vsts (l ++ [(n, x ++ [j])]) = Cir.vsts l ++ [n] := by unfold Cir.vsts; simp
  have mbl := h.s.lt
  have hq' : ∀ g, vq'.ownBlock = some g → vq.ownBlock = some g ∨ g = w1.heap.size + 1 := fun g hg => by
    rcases at3 with e | e
    · exact .inl (e.symm.trans hg)
    · rw [World.size_alloc] at e; exact .inr (Option.some.inj (hg.symm.trans e))
  have hp' : ∀ g, vp'.ownBlock = some g → vp.ownBlock = some g ∨ g = w3.heap.size + 1 := fun g hg => by
    rcases at5 with e | e
    · exact .inl (e.symm.trans hg)
    · rw [World.size_alloc] at e; exact .inr (Option.some.inj (hg.symm.trans e))
  have hql : ∀ g, vq.ownBlock = some g → g < w.heap.size := fun g hg => (h.q.lt g hg).2
  have hpl : ∀ g, vp.ownBlock = some g → g < w.heap.size := fun g hg => (h.p.lt g hg).2
  have ho : Only (fun g => g = mb ∨ vq.ownBlock = some g ∨ vp.ownBlock = some g) w w5 := by
    have a1 : Only (fun g => g = mb ∨ vq.ownBlock = some g ∨ vp.ownBlock = some g) w w1 := Only.grown g1 fun k hk => .inl (Option.some.inj hk).symm
    have a2 := Only.of_below (fun g => g = mb ∨ vq.ownBlock = some g ∨ vp.ownBlock = some g) (bel_new w1 o1)
    have a3 : Only (fun g => g = mb ∨ vq.ownBlock = some g ∨ vp.ownBlock = some g) (w1.alloc o1) w3 := Only.grown g3 fun k hk => .inr (.inl hk)
    have a4 := Only.of_below (fun g => g = mb ∨ vq.ownBlock = some g ∨ vp.ownBlock = some g) (bel_new w3 o2)
    have a5 : Only (fun g => g = mb ∨ vq.ownBlock = some g ∨ vp.ownBlock = some g) (w3.alloc o2) w5 := Only.grown g5 fun k hk => .inr (.inr hk)
    exact (((a1.trans a2).trans a3).trans a4).trans a5
  have hE : ∀ g, F' g → ¬ (g = mb ∨ vq.ownBlock = some g ∨ vp.ownBlock = some g) := fun g hg he => by
    have := hF' g hg
    rcases he with he | he | he
    · exact this.2.2.2 he
    · exact this.2.1 he
    · exact this.2.2.1 he
  refine ⟨?_, ?_, ?_, fun i s y z hy hz => ?_, fun g hg => ?_, fun g h1 h2 => ?_, ?_, ?_⟩
  · rw [List.length_append, List.length_singleton, hvs, nints_snoc]
    refine own_kept (own_below own3 (bel_new _ _)) g5 fun g h1 h2 => ?_
    rcases hq' g h1 with e | e
    · exact h.a g e h2
    · have := hpl g h2; omega
  · rw [List.length_append, List.length_singleton]
    exact own5
  · have s3 : SetAt w3 mb (N + 1) _ := (s1.below (bel_new w1 o1)).only (Only.grown (E := fun g => vq.ownBlock = some g) g3 fun k hk => hk) (h.am.1)
    have s5 := (s3.below (bel_new w3 o2)).only (Only.grown (E := fun g => vp.ownBlock = some g) g5 fun k hk => hk) (h.am.2)
    exact s5.congr fun z => by rw [hvs, Cir.memB_snoc]
  · rcases Nat.lt_or_ge i l.length with hi | hi
    · rw [List.getElem?_append_left hi] at hy
      rw [List.getElem?_append_left (by rw [h.pl]; exact hi)] at hz
      exact ((h.r i s y z hy hz).mono hF).only ho hE
    · have hil : i = l.length := by
        rcases Nat.lt_or_ge l.length i with hh | hh
        · rw [List.getElem?_eq_none (by simp; omega)] at hy; cases hy
        · omega
      subst hil
      rw [List.getElem?_append_right (Nat.le_refl _), Nat.sub_self] at hy
      rw [List.getElem?_append_right (by rw [h.pl]; exact Nat.le_refl _), h.pl, Nat.sub_self] at hz
      obtain ⟨rfl, rfl⟩ := Prod.mk.inj (Option.some.inj hy)
      obtain rfl := Option.some.inj hz
      exact hu.only ho hE
  · have := hF' g hg
    refine ⟨by omega, fun h1 => ?_, fun h1 => ?_, this.2.2.2⟩
    · rcases hq' g h1 with e | e
      · exact this.2.1 e
      · omega
    · rcases hp' g h1 with e | e
      · exact this.2.2.1 e
      · omega
  · rcases hq' g h1 with e | e
    · rcases hp' g h2 with e2 | e2
      · exact h.a g e e2
      · have := hql g e; omega
    · rcases hp' g h2 with e2 | e2
      · have := hpl g e2; omega
      · omega
  · intro h1
    rcases hq' _ h1 with e | e
    · exact h.am.1 e
    · omega
  · intro h1
    rcases hp' _ h1 with e | e
    · exact h.am.2 e
    · omega
open Go.Maps in
theorem run_look_set {w : World} {b n : Nat} {S : Nat → Bool} (h : SetAt w b n S) (k : Nat) (hk : (k : Int) ≤ 9223372036854775807) : (Instr.lookup 108 (.map (some b)) (.int .i64 (k : Int)) false).run Try.prog w = .ok (.bool (S k)) w := by
  obtain ⟨D, h1, h2, h3, -⟩ := h
  obtain ⟨v, ps, hrun, hv⟩ := h1.lookup set_keyed Try.underlying108 (zero_bool w) (plainElem_bool Try.underlying4 false) (keyOf_int_mk Try.underlying3 (i64_wf hk))
  rw [h3 k] at hv
  have hvb : v = .bool (S k) := by
    unfold plainElem at hv
    rw [Try.underlying4] at hv
    cases v <;> simp at hv
    rw [hv.1]
  subst hvb
  exact hrun
/-! The closure of FindViolation. -/
theorem num_bit : ∀ (l : List Bool) (o : Nat), (Cir.num l).testBit o = l.getD o false
  | [], o => by simp [Cir.num]
  | b :: l, 0 => by
    rw [Cir.num, Nat.testBit_zero]
    cases b <;> simp <;> omega
  | b :: l, o + 1 => by
    rw [Cir.num, Nat.testBit_succ]
    have : ((if b then 1 else 0) + 2 * Cir.num l) / 2 = Cir.num l := by split <;> omega
    rw [this, num_bit l o]
    simp
theorem outsOf_length (d : Ci) (s x : Nat) : (Cir.outsOf d s x).length = d.outs.length := by unfold Cir.outsOf; rw [lits_length]
theorem viClo_any (g go : Nat) (d : Ci) (o s x : Nat) (w : World) (h : PCirc w g (Cir.toCz d)) (hgo : w.cell? ⟨go, 0, none⟩ = some (.int .i64 o)) (hlt : go < w.heap.size) (hd : Cir.Ok d) (hs : s ≤ 1000) (hx : x ≤ 1000) (ho : o < d.outs.length) :
    Calls Try.prog 102 #[.int .i64 s, .int .i64 x, .pointer (some ⟨g, 0, none⟩), .pointer (some ⟨go, 0, none⟩)] w fun e w' => e = .returned (.tuple #[.int .i64 (Cir.nextOf d s x : Nat), .bool (Cir.bad d o s x)]) ∧ Below w.heap.size w w' := by
  have hC := Lib.hid (cycle_any g d s x w h hd hs hx)
  have l4 := hd.outss
  have hnb := num_bit (Cir.outsOf d s x) o
  have hnl := Cir.num_lt (Cir.outsOf d s x)
  rw [outsOf_length] at hnl
  have hn8 : 2 ^ d.outs.length ≤ 2 ^ 3 := Nat.pow_le_pow_right (show 0 < 2 by decide) l4
  have hN : Cir.num (Cir.outsOf d s x) ≤ 1000000 := by omega
  have hB : (Cir.outsOf d s x).getD o false = Cir.bad d o s x := rfl
  rw [hB] at hnb
  clear hn8 hnl hB h
  generalize Cir.num (Cir.outsOf d s x) = y at *
  generalize Cir.bad d o s x = b at *
  generalize Cir.nextOf d s x = n at *
  have hq : (y : Int) / 2 ^ o = ((y / 2 ^ o : Nat) : Int) := by rw [Int.natCast_ediv, two_pow]
  have hy : y / 2 ^ o ≤ 1000000 := Nat.le_trans (Nat.div_le_self _ _) hN
  have hm : bits .and .i64 ((y / 2 ^ o : Nat) : Int) 1 = ((y / 2 ^ o % 2 : Nat) : Int) := by
    have := i64_and_nat (y / 2 ^ o) 1 (by omega) (by omega)
    rw [Nat.and_one_is_mod] at this
    exact this
  have he : (((y / 2 ^ o % 2 : Nat) : Int) == 1) = b := by
    rw [← hnb, Nat.testBit_eq_decide_div_mod_eq, Bool.eq_iff_iff, beq_iff_eq, decide_eq_true_iff]
    omega
  generalize y / 2 ^ o = y' at hq hm he hy
  generalize y' % 2 = r at hm he
  clear hnb
  go_enter Try.func102, Try.ntmps102
  go_wp2_with fail
  refine hC.out.mono ?_
  rintro e w1 ⟨rfl, hb1⟩
  have c1 := (hb1.cell (p := ⟨go, 0, none⟩) hlt).trans hgo
  have Hb := Lib.hid hb1
  clear hb1 hgo hC
  go_wp2_with fail
  go_region
  go_wp2_with fail
  exact bodyPost_ret (v := .tuple #[.int .i64 n, .bool b]) (by simp [results, Try.results102, go_sem]) rfl ⟨rfl, Hb.out.os, Hb.out.tape, Hb.out.output, Hb.out.size, Hb.out.block⟩
end Go.Proofs.Ytmlcbikljlhhkaa

namespace Go.Proofs.Ytmlcbikljlhhkaa
open Go.RowKit
set_option maxRecDepth 100000
/-! The states behind a clock cycle, by the program. -/
namespace Cir
def reachJ (c : Ci) (o s j y : Nat) : Bool := (List.range j).any fun x => !bad c o s x && nextOf c s x == y
def goodJ (c : Ci) (o s j : Nat) : Bool := (List.range j).all fun x => !bad c o s x
theorem reachJ_succ (c : Ci) (o s j y : Nat) : reachJ c o s (j + 1) y = (reachJ c o s j y || (!bad c o s j && nextOf c s j == y)) := by
  unfold reachJ; rw [List.range_succ, List.any_append]; simp
theorem goodJ_succ (c : Ci) (o s j : Nat) : goodJ c o s (j + 1) = (goodJ c o s j && !bad c o s j) := by
  unfold goodJ; rw [List.range_succ, List.all_append]; simp
/-- What has been done of a set. -/
def done (S L : Nat → Bool) (s : Nat) : Bool := S s && !L s
theorem done_self (S : Nat → Bool) (s : Nat) : done S S s = false := by unfold done; cases S s <;> rfl
theorem done_strike {S L : Nat → Bool} {x : Nat} (hS : S x = true) (s : Nat) : done S (fun z => L z && !(z == x)) s = (done S L s || s == x) := by
  unfold done
  by_cases e : s = x
  · subst e; rw [hS]; simp
  · have : (s == x) = false := by simpa using e
    show (S s && !(L s && !(s == x))) = _
    rw [this]; cases S s <;> cases L s <;> rfl
theorem adv_congr {c : Ci} {o : Nat} {S S' : Nat → Bool} (h : ∀ s, S s = S' s) (y : Nat) : adv c o S y = adv c o S' y := by
  have : S = S' := funext h
  rw [this]
theorem good_congr {c : Ci} {o : Nat} {S S' : Nat → Bool} (h : ∀ s, S s = S' s) : good c o S = good c o S' := by
  have : S = S' := funext h
  rw [this]
theorem adv_none (c : Ci) (o : Nat) (y : Nat) : adv c o (fun _ => false) y = false := by
  unfold adv; simp
theorem good_none (c : Ci) (o : Nat) : good c o (fun _ => false) = true := by
  unfold good; simp
theorem adv_add {c : Ci} {o : Nat} {D : Nat → Bool} {x : Nat} (hx : x < 8) (y : Nat) : adv c o (fun s => D s || s == x) y = (adv c o D y || reachJ c o x (2 ^ c.ins) y) := by
  rw [Bool.eq_iff_iff, Bool.or_eq_true]
  unfold adv reachJ reaches
  simp only [List.any_eq_true, List.mem_range, Bool.and_eq_true, Bool.or_eq_true, beq_iff_eq]
  constructor
  · rintro ⟨s, hs, h1 | rfl, h2⟩
    · exact .inl ⟨s, hs, h1, h2⟩
    · exact .inr h2
  · rintro (⟨s, hs, h1, h2⟩ | h)
    · exact ⟨s, hs, .inl h1, h2⟩
    · exact ⟨x, hx, .inr rfl, h⟩
theorem good_add {c : Ci} {o : Nat} {D : Nat → Bool} {x : Nat} (hx : x < 8) : good c o (fun s => D s || s == x) = (good c o D && goodJ c o x (2 ^ c.ins)) := by
  rw [Bool.eq_iff_iff, Bool.and_eq_true]
  unfold good goodJ goodS
  simp only [List.all_eq_true, List.mem_range, Bool.or_eq_true, Bool.not_eq_true', beq_iff_eq]
  constructor
  · intro h
    refine ⟨fun s hs => ?_, fun y hy => ?_⟩
    · rcases h s hs with h1 | h1
      · left; rw [Bool.or_eq_false_iff] at h1; exact h1.1
      · exact .inr h1
    · rcases h x hx with h1 | h1
      · rw [Bool.or_eq_false_iff] at h1; simp at h1
      · exact h1 y hy
  · rintro ⟨h1, h2⟩ s hs
    by_cases e : s = x
    · subst e; exact .inr h2
    · rcases h1 s hs with h3 | h3
      · left; rw [h3]; simpa using e
      · exact .inr h3
theorem filter_strike : ∀ (l : List Nat) (L : Nat → Bool) (x : Nat), x ∈ l → L x = true → (l.filter (fun z => L z && !(z == x))).length + 1 ≤ (l.filter L).length
  | [], _, _, h, _ => by simp at h
  | a :: l, L, x, h, hL => by
    have mono : ∀ l : List Nat, (l.filter (fun z => L z && !(z == x))).length ≤ (l.filter L).length := fun l => by
      induction l with
      | nil => simp
      | cons b l ih =>
        simp only [List.filter_cons]
        cases hb : L b <;> cases hx : (b == x) <;> simp <;> omega
    by_cases e : a = x
    · subst e
      have h1 := mono l
      simp only [List.filter_cons, hL]
      simp
      omega
    · have h2 : x ∈ l := by
        rcases List.mem_cons.1 h with h3 | h3
        · exact absurd h3.symm e
        · exact h3
      have h1 := filter_strike l L x h2 hL
      have e' : (a == x) = false := by simpa using e
      simp only [List.filter_cons, e']
      cases hb : L a <;> simp <;> omega
def cntL (L : Nat → Bool) : Nat := ((List.range 8).filter L).length
theorem cntL_le (L : Nat → Bool) : cntL L ≤ 8 := by
  unfold cntL
  have := List.length_filter_le L (List.range 8)
  simpa using this
theorem cntL_strike {L : Nat → Bool} {x : Nat} (hx : x < 8) (hL : L x = true) : cntL (fun z => L z && !(z == x)) + 1 ≤ cntL L := filter_strike _ L x (List.mem_range.2 hx) hL
end Cir
def Adv (d : Ci) (o : Nat) (S : Nat → Bool) (w : World) (e : Ending) (w' : World) : Prop := ∃ mb n', e = .returned (.tuple #[.map (some mb), .bool (Cir.good d o S)]) ∧ SetAt w' mb n' (Cir.adv d o S) ∧ n' ≤ 200 ∧ Below w.heap.size w w'
set_option maxHeartbeats 8000000 in
theorem advance_any (g b n : Nat) (d : Ci) (o : Nat) (S : Nat → Bool) (w : World) (h : PCirc w g (Cir.toCz d)) (hd : Cir.Ok d) (ho : o < d.outs.length) (hS : SetAt w b n S) (hS8 : ∀ x, S x = true → x < 8) :
    Calls Try.prog 96 #[.pointer (some ⟨g, 0, none⟩), .int .i64 o, .map (some b)] w (Adv d o S w) := by
  have l1 := hd.ins
  have l2 := hd.nexts
  have l4 := hd.outss
  have HP := Lib.hid h
  obtain ⟨vn, vg, vo, hg, c0, c1, c2, c3, r1, r2, r3⟩ := h
  have C0 : Hid (w.cell? ⟨g, 0, none⟩ = some (.int .i64 d.ins)) := Lib.hid c0
  have Hd := Lib.hid hd
  have Ho := Lib.hid ho
  have HS8 := Lib.hid hS8
  have hbl := hS.lt
  have ho3 : o ≤ 3 := by omega
  obtain ⟨M, e, hM⟩ : ∃ M : Nat, (2 : Int) ^ d.ins = (M : Int) ∧ M = 2 ^ d.ins := ⟨2 ^ d.ins, two_pow d.ins, rfl⟩
  have hM16 : M ≤ 16 := by rw [hM]; exact Nat.pow_le_pow_right (show 0 < 2 by decide) l1
  have hwM := IntWalk.i64_in (M : Int) (by omega)
  have HM := Lib.hid hM
  have hmm := @run_makeMap Try.prog
  have HSm := Lib.hid (hS.below (bel_new w (.map #[] 0)))
  have HA0 := Lib.hid (setAt_made w)
  have hs1 : (w.alloc (.map #[] 0)).heap.size = w.heap.size + 1 := by simp
  have Bm := Lib.hid (bel_new w (.map #[] 0))
  clear r1 r2 r3 hd ho hS8 hM c0 c1 c2 c3 hS
  go_enter Try.func96, Try.ntmps96
  go_wp2_with (first
    | (at_range; refine wpList_range_set rfl (.tmp 15) rfl b n S rfl HSm.out ?_; intro w2 cnt hr2 hb2 hz2; have Hr2 := Lib.hid hr2; have Hb2 := Lib.hid hb2; clear hr2 hb2; refine Stop.out ?_))
  refine ⟨?_⟩
  rw [hs1] at hz2
  have Hr2 : Hid (RSet w2 b (w.heap.size + 1) n S S cnt) := Lib.hid (by have := Hr2.out; rwa [hs1] at this)
  have HA2 := Lib.hid (HA0.out.below Hb2.out)
  have B2 := Lib.hid (Bm.out.trans (Hb2.out.mono Bm.out.size))
  clear HA0 Bm Hb2 hs1 HSm hmm
  have HAd : Hid (SetAt w2 w.heap.size 0 (Cir.adv d o (Cir.done S S))) := Lib.hid (HA2.out.congr fun y => by rw [Cir.adv_congr (Cir.done_self S) y, Cir.adv_none])
  have HGd : Hid (Cir.good d o (Cir.done S S) = true) := Lib.hid (by rw [Cir.good_congr (Cir.done_self S), Cir.good_none])
  clear HA2
  go_wp2_with fail
  go_loopw [9] (fun gv wr => ∃ (L : Nat → Bool) (cnt m : Nat), gv = .bool (Cir.good d o (Cir.done S L)) ∧ Hid (RSet wr b (w.heap.size + 1) n S L cnt) ∧ Hid (SetAt wr w.heap.size m (Cir.adv d o (Cir.done S L))) ∧ m + 16 * Cir.cntL L ≤ 128 ∧ w.heap.size + 2 ≤ wr.heap.size ∧ Below w.heap.size w wr) (fun _ wr => wr.rangeLeft b (w.heap.size + 1))
  case atStart => exact ⟨S, cnt, 0, by rw [HGd.out], Hr2, HAd, by have := Cir.cntL_le S; omega, by omega, B2.out⟩
  case round =>
    obtain ⟨L, cn, m, rfl, HR, HA, hm, hzr, hb⟩ := hrel
    clear Hr2 HAd HGd B2 hz2
    have Hb := Lib.hid hb
    have hzb := hb.size
    clear hb
    go_wp2_with (first
      | (at_next; refine wpList_next_set rfl (.tmp 16) rfl b (w.heap.size + 1) n S L cn rfl HR.out (fun hdone => ?_) (fun x cv w3 cn3 hxS hxL hr3 hlt3 hg3 hz3 hen3 => ?_) <;> refine Stop.out ?_))
    · refine ⟨?_⟩
      have HAf : Hid (SetAt wr w.heap.size m (Cir.adv d o S)) := Lib.hid (HA.out.congr fun y => Cir.adv_congr (fun s => by unfold Cir.done; rw [hdone s]; simp) y)
      have HGf : Hid (Cir.good d o (Cir.done S L) = Cir.good d o S) := Lib.hid (Cir.good_congr fun s => by unfold Cir.done; rw [hdone s]; simp)
      clear hdone HA
      generalize Cir.good d o (Cir.done S L) = gb at *
      go_wp2_with fail
      exact bodyPost_ret (v := .tuple #[.map (some w.heap.size), .bool gb]) (by simp [results, Try.results96, go_sem]) rfl ⟨_, m, by rw [HGf.out], HAf.out, by omega, Hb.out⟩
    · refine ⟨?_⟩
      have hx8 := HS8.out x hxS
      have hcs := Cir.cntL_strike hx8 hxL
      have Hr3 := Lib.hid hr3
      have HlO := Lib.hid HR.out.left
      have Hb3 := Lib.hid (Hb.out.grown hg3 hzb (fun q hq => by have := Option.some.inj hq; omega))
      have HA3 := Lib.hid (HA.out.only (Only.grown (E := fun k => k = w.heap.size + 1) hg3 (fun k hk => (Option.some.inj hk).symm)) (fun e => by omega))
      have q0 := (Hb3.out.cell (p := ⟨g, 0, none⟩) hg).trans C0.out
      have HaddA : Hid (∀ y, Cir.adv d o (Cir.done S (fun z => L z && !(z == x))) y = (Cir.adv d o (Cir.done S L) y || Cir.reachJ d o x (2 ^ d.ins) y)) := Lib.hid (fun y => by rw [Cir.adv_congr (Cir.done_strike hxS) y, Cir.adv_add hx8])
      have HaddG : Hid (Cir.good d o (Cir.done S (fun z => L z && !(z == x))) = (Cir.good d o (Cir.done S L) && Cir.goodJ d o x (2 ^ d.ins))) := Lib.hid (by rw [Cir.good_congr (Cir.done_strike hxS), Cir.good_add hx8])
      have HG0 : Hid ((Cir.good d o (Cir.done S L) && Cir.goodJ d o x 0) = Cir.good d o (Cir.done S L)) := Lib.hid (by unfold Cir.goodJ; simp)
      have HA30 : Hid (SetAt w3 w.heap.size m (fun y => Cir.adv d o (Cir.done S L) y || Cir.reachJ d o x 0 y)) := Lib.hid (HA3.out.congr fun y => by unfold Cir.reachJ; simp)
      obtain ⟨G, hG⟩ : ∃ G, Cir.good d o (Cir.done S L) = G := ⟨_, rfl⟩
      obtain ⟨A, hA⟩ : ∃ A, Cir.adv d o (Cir.done S L) = A := ⟨_, rfl⟩
      rw [hG] at HaddG HG0 ⊢
      rw [hA] at HaddA HA30
      have Hlt3 := Lib.hid hlt3
      clear HR HA HA3 hg3 hr3 hG hA hxS hxL hlt3
      go_wp2_with fail
      clear q0 hen3
      obtain ⟨Wk, hWk⟩ : ∃ Wk, Wk = wr := ⟨_, rfl⟩
      subst hWk
      go_loopw [9, 26] (fun gv i wr => ∃ (j q : Nat), gv = .bool (G && Cir.goodJ d o x j) ∧ i = .int .i64 j ∧ j ≤ M ∧ Hid (RSet wr b (w.heap.size + 1) n S (fun z => L z && !(z == x)) cn3) ∧ Hid (SetAt wr w.heap.size q (fun y => A y || Cir.reachJ d o x j y)) ∧ q ≤ m + j ∧ w.heap.size + 2 ≤ wr.heap.size ∧ Below w.heap.size w wr) (fun _ i _ => M - (intOf i).toNat)
      case atStart => exact ⟨0, m, by rw [HG0.out], rfl, Nat.zero_le _, Hr3, HA30, by omega, by omega, Hb3.out⟩
      case round =>
        obtain ⟨j, q, rfl, rfl, hj, HR, HA, hq, hzr, hb⟩ := hrel
        have Hb := Lib.hid hb
        have hzb := hb.size
        clear hb
        by_cases hlj : j < M
        · have HRs := Lib.hid (Cir.reachJ_succ d o x j)
          have HGs := Lib.hid (Cir.goodJ_succ d o x j)
          have hN8 := Cir.next_lt8 Hd.out x j
          go_wp2_with fail
          refine (cycle_any g d x j _ (HP.out.below Hb.out) Hd.out (by omega) (by omega)).mono ?_
          rintro e w5 ⟨rfl, hb5⟩
          have HR5 := Lib.hid (HR.out.below hb5)
          have HA5 := Lib.hid (HA.out.below hb5)
          have Hb5 := Lib.hid (Hb.out.trans (hb5.mono hzb))
          have hz5 := hb5.size
          have hnb := num_bit (Cir.outsOf d x j) o
          have hnl := Cir.num_lt (Cir.outsOf d x j)
          rw [outsOf_length] at hnl
          have hn8 : 2 ^ d.outs.length ≤ 2 ^ 3 := Nat.pow_le_pow_right (show 0 < 2 by decide) l4
          have hN : Cir.num (Cir.outsOf d x j) ≤ 1000000 := by omega
          have hB : (Cir.outsOf d x j).getD o false = Cir.bad d o x j := rfl
          rw [hB] at hnb
          clear hn8 hnl hB hb5 HR HA
          generalize Cir.num (Cir.outsOf d x j) = y at *
          obtain ⟨bb, hbb⟩ : ∃ bb, Cir.bad d o x j = bb := ⟨_, rfl⟩
          obtain ⟨N, hNN⟩ : ∃ N, Cir.nextOf d x j = N := ⟨_, rfl⟩
          have HRs2 : Hid (∀ z, Cir.reachJ d o x (j + 1) z = (Cir.reachJ d o x j z || (!bb && N == z))) := Lib.hid (fun z => by rw [HRs.out z, hbb, hNN])
          have HGs2 : Hid (Cir.goodJ d o x (j + 1) = (Cir.goodJ d o x j && !bb)) := Lib.hid (by rw [HGs.out, hbb])
          rw [hbb] at hnb
          rw [hNN] at hN8 ⊢
          have hq2 : (y : Int) / 2 ^ o = ((y / 2 ^ o : Nat) : Int) := by rw [Int.natCast_ediv, two_pow]
          have hy : y / 2 ^ o ≤ 1000000 := Nat.le_trans (Nat.div_le_self _ _) hN
          have hm2 : bits .and .i64 ((y / 2 ^ o : Nat) : Int) 1 = ((y / 2 ^ o % 2 : Nat) : Int) := by
            have := i64_and_nat (y / 2 ^ o) 1 (by omega) (by omega)
            rw [Nat.and_one_is_mod] at this
            exact this
          have he : (((y / 2 ^ o % 2 : Nat) : Int) == 1) = bb := by
            rw [← hnb, Nat.testBit_eq_decide_div_mod_eq, Bool.eq_iff_iff, beq_iff_eq, decide_eq_true_iff]
            omega
          generalize y / 2 ^ o = y' at hq2 hm2 he hy
          have hr2 : y' % 2 < 2 := Nat.mod_lt _ (by decide)
          generalize y' % 2 = r at hm2 he hr2
          clear hnb hbb hNN HRs HGs
          generalize Cir.goodJ d o x j = gj at *
          cases bb
          · obtain rfl : r = 0 := by
              have : ¬ r = 1 := fun e1 => by subst e1; simp at he
              omega
            clear he hr2
            go_wp2_with (first
              | (at_mapUpdate; refine wpList_add_set _ rfl (.tmp 41) (.tmp 42) _ (.inl rfl) _ _ _ rfl HA5.out (by omega) N (by omega) rfl rfl ?_; intro w6 hset6 hg6; have Hset6 := Lib.hid hset6; have Hg6 := Lib.hid hg6; clear hset6 hg6))
            go_roundw
            case rel => exact ⟨j + 1, q + 1, by rw [HGs2.out]; simp, by go_num, by omega, Lib.hid (HR5.out.kept Hg6.out (fun e => by have h1 := HR5.out.lt.2.1; have := Option.some.inj e; omega) (fun e => by have := Option.some.inj e; omega)), Lib.hid (Hset6.out.congr fun z => by rw [HRs2.out z]; cases A z <;> cases Cir.reachJ d o x j z <;> simp [Bool.beq_comm]), by omega, Nat.le_trans (by omega) Hg6.out.size, Hb5.out.grown Hg6.out Hb5.out.size (fun k hk => by have := Option.some.inj hk; omega)⟩
            case measure => simp [intOf] <;> omega
          · obtain rfl : r = 1 := by
              have := eq_of_beq he
              omega
            clear he hr2
            go_wp2_with fail
            go_roundw
            case rel => exact ⟨j + 1, q, by rw [HGs2.out]; simp, by go_num, by omega, HR5, Lib.hid (HA5.out.congr fun z => by rw [HRs2.out z]; simp), by omega, by omega, Hb5.out⟩
            case measure => simp [intOf] <;> omega
        · obtain rfl : j = M := by omega
          have HAe : Hid (SetAt wr w.heap.size q (Cir.adv d o (Cir.done S (fun z => L z && !(z == x))))) := Lib.hid (HA.out.congr fun y => by rw [HaddA.out y, HM.out])
          have HGe : Hid ((G && Cir.goodJ d o x j) = Cir.good d o (Cir.done S (fun z => L z && !(z == x)))) := Lib.hid (by rw [HaddG.out, HM.out])
          rw [HGe.out]
          go_wp2_with fail
          go_roundw
          case rel => exact ⟨_, cn3, q, rfl, HR, HAe, by omega, by omega, Hb.out⟩
          case measure => rw [HR.out.left, HlO.out]; exact Hlt3.out
end Go.Proofs.Ytmlcbikljlhhkaa

namespace Go.Proofs.Ytmlcbikljlhhkaa
open Go.RowKit
set_option maxRecDepth 100000
/-! What laws do with slices of slices of booleans. -/
theorem info_boolss : (Try.prog.info? 78).map (fun i => (i.zero, i.size, i.bytes)) = some (some (.slice none 0 0), 1, 24) := by kernel_rfl
def OwnBoolSS (B T : Nat) (w : World) (v : Value) (xss : List (List Bool)) : Prop := OwnSS bools 78 4 B T w v xss
theorem szBoolSS_any (v : Value) (xss : List (List Bool)) (left : Nat) (w : World) (h : SSAt bools w v xss) (hl : left ≤ 1048576) :
    Calls Try.prog 27 #[v, .int .i64 left] w fun e w' => (∃ r : Int, e = .returned (.int .i64 r) ∧ (r = -1 ∨ (0 ≤ r ∧ r + xss.length + total xss = left))) ∧ w = w' := by
  obtain ⟨A, c, hv, hc, hcm⟩ := h.shape
  subst hv
  unfold maxLen at hcm
  have H := Lib.hid h
  clear h
  by_cases h0 : xss.length ≤ left
  · have hq : ¬ ((left : Int) - (xss.length : Int) < 0) := by omega
    go_enter Try.func27, Try.ntmps27
    go_wp2_with fail
    go_loop [1, 5] (fun t i => ∃ k q : Nat, k ≤ xss.length ∧ i = .int .i64 k ∧ t = .int .i64 q ∧ Hid (q + xss.length + total (xss.take k) = left)) (fun _ i => xss.length - (intOf i).toNat)
    case atStart => exact ⟨0, left - xss.length, Nat.zero_le _, rfl, by go_num, Lib.hid (by simp [total]; omega)⟩
    case round =>
      obtain ⟨k, q, hk, rfl, rfl, hs⟩ := hrel
      by_cases hlt : k < xss.length
      · obtain ⟨x, hx⟩ := at_some hlt
        obtain ⟨b, o, Bx, m, rfl, hbl, hc1, hm1, hm2, hr⟩ := ss_open H.out (Below.refl _ _) hx
        have Hr := Lib.hid hr
        have hT := Lib.hid (total_take_succ hx)
        have hq2 : q ≤ 1048576 := by have := hs.out; omega
        clear hr hx
        by_cases hfit : x.length ≤ q
        · have hq3 : ¬ ((q : Int) - (x.length : Int) < 0) := by omega
          go_wp2_with fail
          refine (szBoolS_ok _ x.length _ _ q Hr.out (by omega) (by omega)).mono ?_
          rintro e w' ⟨rfl, rfl⟩
          go_wp2_with fail
          go_round
          case rel => exact ⟨k + 1, q - x.length, by omega, by go_num, by go_num, Lib.hid (by rw [hT.out]; have := hs.out; omega)⟩
          case measure => simp [intOf] <;> omega
        · go_wp2_with fail
          refine (szBoolS_no _ x.length _ _ q Hr.out (by omega) (by omega) (by omega)).mono ?_
          rintro e w' ⟨rfl, rfl⟩
          go_wp2_with fail
          go_ret
          exact ⟨⟨_, rfl, .inl rfl⟩, rfl⟩
      · obtain rfl : k = xss.length := by omega
        have hs' : q + xss.length + total xss = left := by have := hs.out; rwa [List.take_length] at this
        go_wp2_with fail
        go_ret
        exact ⟨⟨_, rfl, .inr ⟨by omega, by omega⟩⟩, rfl⟩
  · go_enter Try.func27, Try.ntmps27
    go_wp2_with fail
    go_ret
    exact ⟨⟨_, rfl, .inl rfl⟩, rfl⟩
set_option maxHeartbeats 4000000 in
theorem toBoolSS_any (v : Value) (xss : List (List Bool)) (w : World) (h : SSAt bools w v xss) (hl : xss.length ≤ 1048576) (hl2 : total xss ≤ 1048576) :
    Calls Try.prog 29 #[v] w fun e w' => (∃ v', e = .returned v' ∧ OwnBoolSS w.heap.size w'.heap.size w' v' xss) ∧ Below w.heap.size w w' := by
  obtain ⟨A, c, hv, hc, hcm⟩ := h.shape
  subst hv
  have hmk := run_make_row' (P := Try.prog) 39 78 (.slice none 0 0) 24 Try.underlying39 info_boolss rfl .i64 .i64 xss.length (by omega) (by omega)
  have H := Lib.hid h
  clear h
  go_enter Try.func29, Try.ntmps29
  go_wp2_with fail
  have hown0 : Hid ((w.alloc (.cells (madeCells #[Value.slice none 0 0] xss.length) 78)).ownsRow w.heap.size 78 1 (.slice (some ⟨w.heap.size, 0, none⟩) xss.length xss.length) xss.length ([] ++ List.replicate (xss.length - 0) (.slice none 0 0))) := Lib.hid (by
    have := World.ownsRow_lit (base := w.heap.size) (e := 78) (size := 1) w (madeCells #[Value.slice none 0 0] xss.length) xss.length (Nat.le_refl _) (by unfold maxLen; omega) (by simp [madeCells])
    rw [made_one] at this ⊢
    exact this)
  have B0 := Lib.hid ((Below.refl w.heap.size w).alloc (Nat.le_refl _) (.cells (madeCells #[Value.slice none 0 0] xss.length) 78))
  have z0 : (w.alloc (.cells (madeCells #[Value.slice none 0 0] xss.length) 78)).heap.size = w.heap.size + 1 := by simp
  generalize w.alloc (.cells (madeCells #[Value.slice none 0 0] xss.length) 78) = W at *
  clear hmk
  go_loopw [4] (fun i wr => ∃ (k : Nat) (vs : List Value), k ≤ xss.length ∧ i = .int .i64 k ∧ Hid (vs.length = k) ∧ Hid (wr.ownsRow w.heap.size 78 1 (.slice (some ⟨w.heap.size, 0, none⟩) xss.length xss.length) xss.length (vs ++ List.replicate (xss.length - k) (.slice none 0 0))) ∧
      Hid (∀ (i : Nat) (x : List Bool) (u : Value), xss[i]? = some x → vs[i]? = some u → wr.ownsRow (w.heap.size + 1) 4 1 u x.length (bools x)) ∧ Hid (vs.Pairwise Apart) ∧ Hid (∀ u ∈ vs, ∀ g, u.ownBlock = some g → w.heap.size < g ∧ g < wr.heap.size) ∧ Below w.heap.size w wr ∧ w.heap.size < wr.heap.size) (fun i _ => xss.length - (intOf i).toNat)
  case atStart => exact ⟨0, [], Nat.zero_le _, rfl, Lib.hid rfl, hown0, Lib.hid (by simp), Lib.hid List.Pairwise.nil, Lib.hid (by simp), B0.out, by omega⟩
  case round =>
    obtain ⟨k, vs, hk, rfl, hvl, Ho, Hin, Hap, Hlt, hb, hzw⟩ := hrel
    clear hown0 B0
    by_cases hlt : k < xss.length
    · obtain ⟨x, hx⟩ := at_some hlt
      obtain ⟨b, o, Bx, m, rfl, hbl, hc1, hm1, hm2, hr⟩ := ss_open H.out hb hx
      have Hr := Lib.hid hr
      have Hx := Lib.hid hx
      have hxl : x.length ≤ 1048576 := Nat.le_trans (total_mem (List.mem_of_getElem? hx)) hl2
      have Hb := Lib.hid hb
      have hz := hb.size
      clear hr hx hb
      go_wp2_with fail
      refine (toBoolS_any _ x _ Hr.out hxl).mono ?_
      rintro e w2 ⟨v2, rfl, hown2, hb2⟩
      obtain ⟨A2, c2, hv2, _, _⟩ := (Row.of_own hown2).shape
      subst hv2
      have Ho2 := Lib.hid (own_below Ho.out hb2)
      have Hu := Lib.hid hown2
      have Hin2 : Hid (∀ (i : Nat) (x : List Bool) (u : Value), xss[i]? = some x → vs[i]? = some u → w2.ownsRow (w.heap.size + 1) 4 1 u x.length (bools x)) := Lib.hid fun i x u hx hu => own_below (Hin.out i x u hx hu) hb2
      have Hb2 := Lib.hid (Hb.out.trans (hb2.mono hz))
      have z2 := hb2.size
      obtain ⟨u0, _, hd0, hf0⟩ := own_slot Ho2.out (j := k) (by omega)
      have Hst := Lib.hid (Ho2.out.stored k (.slice A2 x.length c2))
      have Hset := Lib.hid (set_mid_at vs (.slice none 0 0) (.slice A2 x.length c2) (xss.length - k) k hvl.out.symm (by omega))
      clear hown2 hb2
      go_wp2_with fail
      go_roundw
      case rel =>
        have hg := Hst.out.2
        refine ⟨k + 1, vs ++ [.slice A2 x.length c2], by omega, by go_num, Lib.hid (by simp [hvl.out]), Lib.hid ?_, Lib.hid ?_, Lib.hid ?_, Lib.hid ?_, Hb2.out.grown hg Hb2.out.size (fun q hq => by have := Option.some.inj hq; omega), by have := hg.size; omega⟩
        · have := Hst.out.1
          rw [Hset.out, show xss.length - k - 1 = xss.length - (k + 1) by omega] at this
          exact this
        · intro i x' u' hx' hu'
          rcases Nat.lt_or_ge i k with hi | hi
          · rw [List.getElem?_append_left (by rw [hvl.out]; exact hi)] at hu'
            exact own_kept (Hin2.out i x' u' hx' hu') hg fun g hg' e => by
              have h1 := (Hlt.out u' (List.mem_of_getElem? hu') g hg').1
              have h2 := Option.some.inj e
              omega
          · rw [List.getElem?_append_right (by rw [hvl.out]; exact hi), hvl.out] at hu'
            rcases hj : i - k with _ | j
            · rw [hj] at hu'
              obtain rfl : i = k := by omega
              rw [Hx.out] at hx'
              simp at hu' hx'
              subst hu' hx'
              exact own_kept (own_mono Hu.out (by omega)) hg fun g hg' e => by
                have h1 := (Hu.out.lt g hg').1
                have h2 := Option.some.inj e
                omega
            · rw [hj] at hu'
              simp at hu'
        · rw [List.pairwise_append]
          refine ⟨Hap.out, by simp, fun a ha b hb => ?_⟩
          rw [List.mem_singleton.1 hb]
          intro g hg1 hg2
          have h1 := (Hlt.out a ha g hg1).2
          have h2 := (Hu.out.lt g hg2).1
          omega
        · intro u hu g hgu
          have hsz := hg.size
          rcases List.mem_append.1 hu with h | h
          · have := Hlt.out u h g hgu
            omega
          · rw [List.mem_singleton.1 h] at hgu
            have := Hu.out.lt g hgu
            omega
      case measure => simp [intOf] <;> omega
    · obtain rfl : k = xss.length := by omega
      go_wp2_with fail
      go_ret
      refine ⟨⟨_, rfl, vs, hvl.out, ?_, fun i x u hx hu => own_mono (Hin.out i x u hx hu) (by omega), Hap.out, ?_, ?_, fun u hu g hg => (Hlt.out u hu g hg).2⟩, hb⟩
      · have := Ho.out
        rwa [Nat.sub_self, List.replicate_zero, List.append_nil] at this
      · intro u hu g hg e
        have h1 := (Hlt.out u hu g hg).1
        have h2 := Option.some.inj e
        simp at h2
        omega
      · intro g hg
        have := Option.some.inj hg
        simp at this
        omega
theorem take_eq_getB {α : Type} {xs ys : List α} {k : Nat} {x : α} (h : xs.take k = ys.take k) (hx : xs[k]? = some x) (hy : ys[k]? = some x) : xs.take (k + 1) = ys.take (k + 1) := by
  rw [take_snoc hx, take_snoc hy, h]
set_option maxHeartbeats 4000000 in
theorem eqBoolSS_any (v v2 : Value) (xss yss : List (List Bool)) (w : World) (h : SSAt bools w v xss) (h2 : SSAt bools w v2 yss) (hlen : ∀ x ∈ xss, x.length ≤ 1048576) :
    Calls Try.prog 31 #[v, v2] w fun e w' => e = .returned (.bool (decide (xss = yss))) ∧ Below w.heap.size w w' := by
  obtain ⟨A, c, hv, hc, hcm⟩ := h.shape
  obtain ⟨A2, c2, hv2, hc2, hcm2⟩ := h2.shape
  subst hv hv2
  unfold maxLen at hcm hcm2
  have H := Lib.hid h
  have H2 := Lib.hid h2
  clear h h2
  obtain ⟨res, hres⟩ : ∃ res, decide (xss = yss) = res := ⟨_, rfl⟩
  rw [hres]
  have HR := Lib.hid hres
  clear hres
  by_cases hl : xss.length = yss.length
  · have HL := Lib.hid hl
    have hl1 : ((xss.length : Int) != (yss.length : Int)) = false := by rw [hl]; simp
    have hl2 : xss.length ≤ yss.length := by omega
    have hl3 : yss.length ≤ xss.length := by omega
    clear hl
    go_enter Try.func31, Try.ntmps31
    go_wp2_with fail
    go_loopw [5] (fun i wr => ∃ k : Nat, k ≤ xss.length ∧ i = .int .i64 k ∧ Hid (xss.take k = yss.take k) ∧ Below w.heap.size w wr) (fun i _ => xss.length - (intOf i).toNat)
    case atStart => exact ⟨0, Nat.zero_le _, rfl, Lib.hid rfl, Below.refl _ _⟩
    case round =>
      obtain ⟨k, hk, rfl, htk, hb⟩ := hrel
      by_cases hlt : k < xss.length
      · obtain ⟨x, hx⟩ := at_some hlt
        obtain ⟨y, hy⟩ := at_some (show k < yss.length by omega)
        obtain ⟨b, o, Bx, m, rfl, hbl, hc1, hm1, hm2, hr⟩ := ss_open H.out hb hx
        obtain ⟨b', o', Bx', m', rfl, hbl', hc1', hm1', hm2', hr'⟩ := ss_open H2.out hb hy
        have hxl := hlen x (List.mem_of_getElem? hx)
        have Hx := Lib.hid hx
        have Hy := Lib.hid hy
        have Hb := Lib.hid hb
        have hz := hb.size
        have g1 := gw_cell hc1 (show b < wr.heap.size by omega)
        have g2 := gw_cell hc1' (show b' < wr.heap.size by omega)
        have HC : Hid (∀ n : GW wr, Calls Try.prog 86 #[.slice Bx x.length m, .slice Bx' y.length m'] (gw n) fun e w' => e = .returned (.bool (decide (x = y))) ∧ Drew (gw n) w') := Lib.hid fun n => eqBoolS_any _ _ x y _ (hr.below (gw_below n)) (hr'.below (gw_below n)) hxl
        clear hx hy hb hr hr'
        cases hd : decide (x = y)
        · rw [hd] at HC
          obtain rfl : res = false := by rw [← HR.out]; exact decide_eq_false (take_ne Hx.out Hy.out (of_decide_eq_false hd))
          go_wp2_with fail
          refine wp_region_grow (by kernel_rfl) (by kernel_rfl) ?_
          repeat (go_big_quiet_step ((go_at_call 86; exact grow_drew (HC.out _))))
          refine wpQuiet_nil ?_
          intro _ hw'
          obtain ⟨nq, hw''⟩ := hw'
          subst hw''
          have hgq := gw_below nq
          generalize gw nq = wq at *
          clear nq
          have Hb5 := Lib.hid (Hb.out.trans (hgq.mono hz))
          clear hgq g1 g2
          go_wp2_with fail
          go_ret
          exact ⟨rfl, Hb5.out⟩
        · rw [hd] at HC
          have hxy := of_decide_eq_true hd
          subst hxy
          have Hn := Lib.hid (take_eq_getB htk.out Hx.out Hy.out)
          clear hd
          go_wp2_with fail
          refine wp_region_grow (by kernel_rfl) (by kernel_rfl) ?_
          repeat (go_big_quiet_step ((go_at_call 86; exact grow_drew (HC.out _))))
          refine wpQuiet_nil ?_
          intro _ hw'
          obtain ⟨nq, hw''⟩ := hw'
          subst hw''
          have hgq := gw_below nq
          generalize gw nq = wq at *
          clear nq
          have Hb5 := Lib.hid (Hb.out.trans (hgq.mono hz))
          clear hgq g1 g2
          go_wp2_with fail
          go_roundw
          case rel => exact ⟨k + 1, by omega, by go_num, Hn, Hb5.out⟩
          case measure => simp [intOf] <;> omega
      · obtain rfl : k = xss.length := by omega
        obtain rfl : res = true := by
          rw [← HR.out]
          refine decide_eq_true ?_
          have := htk.out
          rwa [List.take_length, List.take_of_length_le (by omega)] at this
        go_wp2_with fail
        go_ret
        exact ⟨rfl, hb⟩
  · have hl1 : ((xss.length : Int) != (yss.length : Int)) = true := by simp; omega
    obtain rfl : res = false := by rw [← HR.out]; exact decide_eq_false fun e => hl (by rw [e])
    go_enter Try.func31, Try.ntmps31
    go_wp2_with fail
    go_ret
    exact ⟨rfl, Below.refl _ _⟩
end Go.Proofs.Ytmlcbikljlhhkaa

namespace Go.Proofs.Ytmlcbikljlhhkaa
open Go.RowKit
set_option maxRecDepth 100000
/-! The search of FindViolation. -/
def Searched (ins : Nat) (r : Option (List Nat)) (w : World) (e : Ending) (w' : World) : Prop :=
  match r with
  | none => e = .returned (.tuple #[.slice none 0 0, .bool false]) ∧ Below w.heap.size w w'
  | some p => ∃ v, e = .returned (.tuple #[v, .bool true]) ∧ OwnBoolSS w.heap.size w'.heap.size w' v (rowsOf ins p) ∧ Below w.heap.size w w'
theorem SSIn.one {F : Nat → Prop} {w : World} {xss : List (List Bool)} {vs : List Value} (h1 : vs.length = xss.length) (h3 : ∀ (i : Nat) (x : List Bool) (u : Value), xss[i]? = some x → vs[i]? = some u → RowIn F w 1 u x.length (bools x)) : ∀ u ∈ vs, u.oneCell' = true := fun u hu => by
  obtain ⟨i, hi, rfl⟩ := List.mem_iff_getElem.1 hu
  obtain ⟨_, A, c, hv, -⟩ := (h3 i _ _ (List.getElem?_eq_getElem (by omega)) (List.getElem?_eq_getElem hi)).1
  rw [hv]; rfl
set_option maxHeartbeats 16000000 in
theorem searchV_any (g go : Nat) (d : Ci) (o : Nat) (w : World) (h : PCirc w g (Cir.toCz d)) (hgo : w.cell? ⟨go, 0, none⟩ = some (.int .i64 o)) (hlt : go < w.heap.size) (hd : Cir.Ok d) (ho : o < d.outs.length) :
    Calls Try.prog 101 #[.int .i64 d.ins, .int .i64 0, .func (.func 102) #[] #[.pointer (some ⟨g, 0, none⟩), .pointer (some ⟨go, 0, none⟩)]] w (Searched d.ins (Cir.viol d o) w) := by
  have l1 := hd.ins
  have l2 := hd.nexts
  have HP := Lib.hid h
  have Hgo := Lib.hid hgo
  have Hd := Lib.hid hd
  have Ho := Lib.hid ho
  obtain ⟨M, e, hM⟩ : ∃ M : Nat, (2 : Int) ^ d.ins = (M : Int) ∧ M = 2 ^ d.ins := ⟨2 ^ d.ins, two_pow d.ins, rfl⟩
  have hM16 : M ≤ 16 := by rw [hM]; exact Nat.pow_le_pow_right (show 0 < 2 by decide) l1
  have hwM := IntWalk.i64_in (M : Int) (by omega)
  have HM := Lib.hid hM
  have hmm := @run_makeMap Try.prog
  have hwins := IntWalk.i64_in (d.ins : Int) (by omega)
  clear h hgo hd ho hM
  have Hset0 : Hid (SetAt (((w.alloc (.cells #[.int .i64 0] 3)).alloc (.cells #[.slice none 0 0] 39)).alloc (.map #[] 0)) (w.heap.size + 1 + 1) 0 (fun _ => false)) := Lib.hid (by have := setAt_made ((w.alloc (.cells #[.int .i64 0] 3)).alloc (.cells #[.slice none 0 0] 39)); rwa [World.size_alloc, World.size_alloc] at this)
  have Hq0 : Hid ((((w.alloc (.cells #[.int .i64 0] 3)).alloc (.cells #[.slice none 0 0] 39)).alloc (.map #[] 0)).ownsRow w.heap.size 3 1 (.slice (some ⟨w.heap.size, 0, none⟩) 1 1) 1 [.int .i64 0]) := Lib.hid (((World.ownsRow_lit (base := w.heap.size) (e := 3) (size := 1) w #[.int .i64 0] 1 (Nat.le_refl _) (by unfold maxLen; omega) rfl).alloc _).alloc _)
  have Hp0 : Hid ((((w.alloc (.cells #[.int .i64 0] 3)).alloc (.cells #[.slice none 0 0] 39)).alloc (.map #[] 0)).ownsRow w.heap.size 39 1 (.slice (some ⟨w.heap.size + 1, 0, none⟩) 1 1) 1 [.slice none 0 0]) := Lib.hid (by
    have := (World.ownsRow_lit (base := w.heap.size) (e := 39) (size := 1) (w.alloc (.cells #[.int .i64 0] 3)) #[.slice none 0 0] 1 (by simp) (by unfold maxLen; omega) rfl).alloc (.map #[] 0)
    rwa [World.size_alloc] at this)
  have hsz : (((w.alloc (.cells #[.int .i64 0] 3)).alloc (.cells #[.slice none 0 0] 39)).alloc (.map #[] 0)).heap.size = w.heap.size + 3 := by simp
  have Bm : Hid (Below w.heap.size w (((w.alloc (.cells #[.int .i64 0] 3)).alloc (.cells #[.slice none 0 0] 39)).alloc (.map #[] 0))) := Lib.hid ((((Below.refl _ _).alloc (Nat.le_refl _) _).alloc (by simp) _).alloc (by simp; omega) _)
  go_enter Try.func101, Try.ntmps101
  go_wp2_with (with_reducible refine wpList_add_set _ rfl (.tmp 22) _ _ (.inr rfl) _ _ _ rfl Hset0.out (by omega) 0 (by omega) rfl rfl ?_; intro w2 hset2 hg2)
  have HV0 : Hid (VB w.heap.size (w.heap.size + 1 + 1) d.ins 1 [(0, [])] (.slice (some ⟨w.heap.size, 0, none⟩) 1 1) (.slice (some ⟨w.heap.size + 1, 0, none⟩) 1 1) [.slice none 0 0] (fun _ => False) w2) := Lib.hid (by
    have hz2 := hg2.size
    refine ⟨own_kept Hq0.out hg2 (fun g h1 h2 => ?_), own_kept Hp0.out hg2 (fun g h1 h2 => ?_), hset2.congr (fun x => by rw [show Cir.vsts [(0, [])] = [0] from rfl, Cir.memB_zero, Bool.false_or]), fun i s x u h1 h2 => ?_, fun g hg => hg.elim, fun g h1 h2 => ?_, ?_, ?_⟩
    · have := Option.some.inj h1; have := Option.some.inj h2; simp only at *; omega
    · have := Option.some.inj h1; have := Option.some.inj h2; simp only at *; omega
    · cases i with
      | zero =>
        obtain ⟨rfl, rfl⟩ := Prod.mk.inj (Option.some.inj h1)
        obtain rfl := Option.some.inj h2
        exact SSIn.nil _ _ _
      | succ i => simp at h1
    · have := Option.some.inj h1; have := Option.some.inj h2; simp only at *; omega
    · intro h1; have := Option.some.inj h1; simp only at *; omega
    · intro h1; have := Option.some.inj h1; simp only at *; omega)
  have B2 := Lib.hid (Bm.out.grown hg2 Bm.out.size (fun q hq => by have := Option.some.inj hq; omega))
  have z2 := hg2.size
  rw [hsz] at z2
  clear hset2 hg2 Hset0 Hq0 Hp0 Bm hmm hsz
  have hR0 : Hid (Cir.viol d o = Cir.vbfs d o (9 - 0) 0 [(0, [])]) := Lib.hid rfl
  generalize Cir.viol d o = res at *
  go_wp2_with fail
  go_loopw [8, 9, 11] (fun vq vp i wr => ∃ (q p : Value) (k m : Nat) (l : List (Nat × List Nat)) (pv : List Value) (F : Nat → Prop), q = vq ∧ p = vp ∧ i = .int .i64 k ∧ k ≤ l.length ∧ 1 ≤ l.length ∧ l.length ≤ 8 ∧ m ≤ 1 + k * 16 ∧ Hid (Cir.Vs d l) ∧ Hid (res = Cir.vbfs d o (9 - k) k l) ∧ Hid (VB w.heap.size (w.heap.size + 1 + 1) d.ins m l vq vp pv F wr) ∧ Below w.heap.size w wr) (fun _ _ i _ => 8 - (intOf i).toNat)
  case atStart => exact ⟨_, _, 0, 1, [(0, [])], _, _, rfl, rfl, rfl, by simp, by simp, by simp, by omega, Lib.hid (Cir.Vs.zero d), hR0, HV0, B2.out⟩
  case round =>
    obtain ⟨vq, vp, k, m, l, pv, F, hq, hp, rfl, hk, hpos, hl8, hm16, Hvs, hres, HV, hb⟩ := hrel
    subst hq hp
    clear HV0 B2 hR0
    have Hb := Lib.hid hb
    have hzb := hb.size
    clear hb
    by_cases hlt2 : k < l.length
    · obtain ⟨⟨s, p⟩, hs⟩ := at_some hlt2
      have Hgs := Lib.hid hs
      have hf : 9 - k = 9 - (k + 1) + 1 := by omega
      rw [hf] at hres
      have hdl : decide (k < l.length) = true := decide_eq_true hlt2
      obtain ⟨gq, cq, hvq, hgq, hgq2, hcq, hcqm⟩ := own_open HV.out.q (by omega)
      subst hvq
      unfold maxLen at hcqm
      clear hs hf
      go_wp2_with fail
      obtain ⟨Wk, hWk⟩ : ∃ Wk, Wk = wr := ⟨_, rfl⟩
      subst hWk
      go_loopw [8, 9, 33] (fun vq2 vp2 i2 wr2 => ∃ (q2 p2 : Value) (j m2 : Nat) (pv2 : List Value) (F2 : Nat → Prop), q2 = vq2 ∧ p2 = vp2 ∧ i2 = .int .i64 j ∧ j ≤ M ∧ m2 ≤ m + j ∧ Hid (∀ y, y < j → Cir.bad d o s y = false) ∧ Hid (VB w.heap.size (w.heap.size + 1 + 1) d.ins m2 (Cir.vpushes d s p j l) vq2 vp2 pv2 F2 wr2) ∧ Below w.heap.size w wr2) (fun _ _ i _ => M - (intOf i).toNat)
      case atStart => exact ⟨_, _, 0, m, pv, F, rfl, rfl, rfl, Nat.zero_le _, by omega, Lib.hid (fun y hy => by omega), HV, Hb.out⟩
      case round =>
        obtain ⟨q2, p2, j, m2, pv2, F2, hq2, hp2, rfl, hj, hm2, Hnb, HV2, hb2⟩ := hrel
        subst hq2 hp2
        have Hb2 := Lib.hid hb2
        have hzb2 := hb2.size
        clear HV hb2
        have Hvs2 := Lib.hid (Hvs.out.pushes Hgs.out j (by rw [← HM.out]; exact hj))
        have hL8 := Hvs2.out.size Hd.out
        have Hgj := Lib.hid (Cir.vpushes_get (c := d) (s := s) (p := p) (j := j) Hgs.out)
        have Hsu := Lib.hid (Cir.vpushes_succ d s p j l)
        have hkL := (List.getElem?_eq_some_iff.1 Hgj.out).1
        by_cases hlj : j < M
        · obtain ⟨L2, hL2⟩ : ∃ L2, Cir.vpushes d s p (j + 1) l = L2 := ⟨_, rfl⟩
          rw [hL2] at Hsu
          have HL2 := Lib.hid hL2
          clear hL2
          generalize Cir.vpushes d s p j l = L at *
          obtain ⟨gq, cq, hvq, hgq, hgq2, hcq, hcqm⟩ := own_open HV2.out.q (by omega)
          subst hvq
          obtain ⟨gp, cp, hvp, hgp, hgp2, hcp, hcpm⟩ := own_open HV2.out.p (by omega)
          subst hvp
          unfold maxLen at hcqm hcpm
          obtain ⟨u0, hu0, hd0, hf0⟩ := own_slot HV2.out.q (j := k) (by omega)
          have hu0' : u0 = .int .i64 (s : Int) := by
            have h1 := Cir.vsts_get Hgj.out
            have h2 : (nints (Cir.vsts L))[k]? = some (.int .i64 (s : Int)) := by unfold nints ints nats; rw [List.map_map, List.getElem?_map, h1]; rfl
            exact Option.some.inj (hu0.symm.trans h2)
          subst hu0'
          obtain ⟨u1, hu1, hd1, hf1⟩ := own_slot HV2.out.p (j := k) (by omega)
          have HS := Lib.hid (HV2.out.r k s p u1 Hgj.out hu1)
          have hs8 : s < 8 := by
            have h1 := Hvs2.out.sts.lt s (List.mem_of_getElem? (Cir.vsts_get Hgj.out))
            have h2 : 2 ^ d.next.length ≤ 2 ^ 3 := Nat.pow_le_pow_right (show 0 < 2 by decide) l2
            omega
          have hN8 : Cir.nextOf d s j < 8 := by
            have h1 := Cir.nextOf_lt d s j
            have h2 : 2 ^ d.next.length ≤ 2 ^ 3 := Nat.pow_le_pow_right (show 0 < 2 by decide) l2
            omega
          have hp8 := Hvs2.out.len k s p Hgj.out
          clear hu0 hu1 hf0 hf1
          go_wp2_with fail
          refine (viClo_any g go d o s j _ (HP.out.below Hb2.out) ((Hb2.out.cell (p := ⟨go, 0, none⟩) hlt).trans Hgo.out) (Nat.lt_of_lt_of_le hlt hzb2) Hd.out (by omega) (by omega) Ho.out).mono ?_
          rintro e w5 ⟨rfl, hb5⟩
          have HV5 := Lib.hid (HV2.out.below hb5)
          have HS5 := Lib.hid (HS.out.below hb5)
          have Hb5 := Lib.hid (Hb2.out.trans (hb5.mono hzb2))
          have hz5 := hb5.size
          have c5 := (hb5.cell (p := ⟨gp, k, none⟩) hgp2).trans hd1
          obtain ⟨Ap, np, hvu, hcu, hcum⟩ := HS5.out.at.shape
          subst hvu
          rw [rowsOf_length] at hcu
          unfold maxLen at hcum
          obtain ⟨vs5, hvl5, hrow5, hel5⟩ := HS5.out
          rw [rowsOf_length] at hvl5
          have One5 := Lib.hid (SSIn.one (by rw [rowsOf_length]; exact hvl5) hel5)
          have Row5 : Hid (Row w5 1 (.slice Ap (rowsOf d.ins p).length np) p.length vs5) := Lib.hid (by have := hrow5.1; rwa [rowsOf_length] at this ⊢)
          have Hrow5 := Lib.hid hrow5
          have Hel5 := Lib.hid hel5
          clear hrow5 hel5
          obtain ⟨N, hNe⟩ : ∃ N, Cir.nextOf d s j = N := ⟨_, rfl⟩
          rw [hNe] at hN8 Hsu
          have HNe := Lib.hid hNe
          clear hb5 hd0 hd1 HV2 HS
          rw [hNe]
          clear hNe
          cases hbad : Cir.bad d o s j
          · have Hnb2 : Hid (∀ y, y < j + 1 → Cir.bad d o s y = false) := Lib.hid (fun y hy => by
              rcases Nat.lt_or_ge y j with h | h
              · exact Hnb.out y h
              · obtain rfl : y = j := by omega
                exact hbad)
            clear hbad Hnb
            cases hc : Cir.memB (Cir.vsts L) N
            · have HPu := Lib.hid (Cir.vpush_no (p := p ++ [j]) hc)
              have hlk := run_look_set HV5.out.s N (by omega)
              rw [hc] at hlk
              go_wp2_with fail
              refine (cloneSS_any _ p.length _ _ (by have := Row5.out; exact this) One5.out (by omega)).mono ?_
              rintro e w6 ⟨v6, rfl, ho6, hb6⟩
              have hz6 := hb6.size
              have Ho6 := Lib.hid ho6
              have Hb6 := Lib.hid hb6
              clear ho6 hb6
              go_wp2_with fail
              refine (bitsOf_any j d.ins _ (by omega) (by omega)).mono ?_
              rintro e w7 ⟨v7, rfl, ho7, hb7⟩
              have hz7 := hb7.size
              have Ho6b := Lib.hid (own_below Ho6.out hb7)
              have Hb7 := Lib.hid (Hb6.out.trans (hb7.mono hz6))
              have Ho7 := Lib.hid (own_mono ho7 hz6)
              have Hge7 := Lib.hid (own_ge0 ho7)
              obtain ⟨A7, c7, hv7⟩ := slice_of_own Ho7.out
              subst hv7
              have Hlit := Lib.hid (Row.of_own (World.ownsRow_lit (base := w7.heap.size) (e := 78) (size := 1) w7 #[.slice A7 (Cir.bits j d.ins).length c7] 1 (Nat.le_refl _) (by unfold maxLen; omega) rfl))
              clear ho7 hb7
              go_wp2_with (first | (at_builtin; refine append_rows rfl (.tmp 57) (.tmp 61) rfl w5.heap.size _ p.length _ rfl (Ho6b.out.alloc _) _ 1 [.slice A7 (Cir.bits j d.ins).length c7] rfl Hlit.out (by simp [Value.oneCell']) (by omega) (by simp; omega) ?_; intro v8 w8 hown8 hg8 hat8; obtain ⟨A8, c8, hv8⟩ := slice_of_own hown8; subst hv8; have Hp8 := Lib.hid hown8; have Hg8 := Lib.hid hg8; have hz8 := hg8.size; rw [World.size_alloc] at hz8; have Ho8 := Lib.hid (own_kept (Ho7.out.alloc (.cells #[.slice A7 (Cir.bits j d.ins).length c7] 78)) hg8 (fun g h1 h2 => by have h3 := Hge7.out g h1; have h4 := (Ho6.out.lt g h2).2; omega)); have Hb8 := Lib.hid ((Hb7.out.alloc (Nat.le_trans hz6 hz7) _).grown hg8 (by simp; omega) (own_ge0 Ho6b.out)); clear hown8 hg8 hat8) | (at_mapUpdate; refine Stop.out ?_))
              have HS8 : Hid (SSIn bools (fun g => F2 g ∨ (w5.heap.size ≤ g ∧ g < w8.heap.size)) w8 (.slice A8 (p.length + 1) c8) (rowsOf d.ins (p ++ [j]))) := Lib.hid (by
                rw [rowsOf_snoc]
                exact SSIn.snoc (by rw [rowsOf_length]; exact hvl5) (fun i x u hx hu => (Hel5.out i x u hx hu).below Hb8.out) Ho8.out (by rw [rowsOf_length]; exact Hp8.out))
              have HV8 := Lib.hid (HV5.out.below Hb8.out)
              have HF8 : Hid (∀ g, (F2 g ∨ (w5.heap.size ≤ g ∧ g < w8.heap.size)) → g < w8.heap.size ∧ (Value.slice (some ⟨gq, 0, none⟩) L.length cq).ownBlock ≠ some g ∧ (Value.slice (some ⟨gp, 0, none⟩) L.length cp).ownBlock ≠ some g ∧ g ≠ w.heap.size + 1 + 1) := Lib.hid (fun g hg => by
                rcases hg with hg | hg
                · exact HV8.out.f g hg
                · have h3 := HV5.out.s.lt
                  refine ⟨hg.2, fun h => ?_, fun h => ?_, by omega⟩
                  · have h2 := (HV5.out.q.lt g h).2; omega
                  · have h2 := (HV5.out.p.lt g h).2; omega)
              have Hb58 := Lib.hid (Hb5.out.trans (Hb8.out.mono (by omega)))
              refine ⟨?_⟩
              have hz58 := Hb8.out.size
              clear Ho6 Ho6b Ho7 Hge7 Hlit Hp8 Ho8 Hg8 HV5 HS5 Row5 Hrow5 Hel5 One5 Hb6 Hb7 hz6 hz7
              go_wp2_with (first
                | (at_mapUpdate; refine wpList_add_set _ rfl (.tmp 77) (.tmp 78) _ (.inl rfl) _ _ _ rfl HV8.out.s (by omega) N (by omega) rfl rfl ?_; intro w9 hset9 hg9; have Hset9 := Lib.hid hset9; have Hg9 := Lib.hid hg9; have hz9 := hg9.size; have Hq9 := Lib.hid (own_kept HV8.out.q hg9 (fun g h1 h2 => HV8.out.am.1 (h1.trans h2.symm))); have Hp9 := Lib.hid (own_kept HV8.out.p hg9 (fun g h1 h2 => HV8.out.am.2 (h1.trans h2.symm))); have Hl9 := Lib.hid (Row.of_own (World.ownsRow_lit (base := w9.heap.size) (e := 3) (size := 1) w9 #[.int .i64 N] 1 (Nat.le_refl _) (by unfold maxLen; omega) rfl)); clear hset9 hg9)
                | (at_builtin; refine append_ints rfl (.tmp 79) (.tmp 81) rfl w.heap.size _ L.length (nints (Cir.vsts L)) rfl (Hq9.out.alloc _) _ 1 [.int .i64 N] rfl Hl9.out (by simp [Value.oneCell']) (by omega) (by simp; omega) ?_; intro va wa howna hga hata; obtain ⟨Aa, ca, hva⟩ := slice_of_own howna; subst hva; have Hqa := Lib.hid howna; have Hga := Lib.hid hga; have Hata := Lib.hid hata; have hza := hga.size; rw [World.size_alloc] at hza; have Hpa := Lib.hid (own_kept (Hp9.out.alloc (.cells #[.int .i64 N] 3)) hga (fun g h1 h2 => HV8.out.a g h2 h1)); have Hla := Lib.hid (Row.of_own (World.ownsRow_lit (base := wa.heap.size) (e := 39) (size := 1) wa #[.slice A8 (p.length + 1) c8] 1 (Nat.le_refl _) (by unfold maxLen; omega) rfl)); clear howna hga hata)
                | (at_builtin; refine append_paths rfl (.tmp 83) (.tmp 85) rfl w.heap.size _ L.length pv2 rfl (Hpa.out.alloc _) _ 1 [.slice A8 (p.length + 1) c8] rfl Hla.out (by simp [Value.oneCell']) (by omega) (by simp; omega) ?_; intro vb wb hownb hgb hatb; obtain ⟨Ab, cb, hvb⟩ := slice_of_own hownb; subst hvb; have Hpb := Lib.hid hownb; have Hgb := Lib.hid hgb; have Hatb := Lib.hid hatb; clear hownb hgb hatb))
              go_roundw
              case rel => exact ⟨_, _, j + 1, m2 + 1, pv2 ++ [.slice A8 (p.length + 1) c8], _, rfl, rfl, by go_num, by omega, by omega, Hnb2, Lib.hid (by rw [HL2.out, Hsu.out, HPu.out]; exact HV8.out.push HS8.out (fun g h => .inl h) HF8.out Hset9.out Hg9.out Hqa.out Hga.out Hata.out Hpb.out Hgb.out Hatb.out), by
                have b1 := Hb58.out.grown Hg9.out Hb58.out.size (fun q hq => by have := Option.some.inj hq; omega)
                have b2 := (b1.alloc b1.size (.cells #[.int .i64 N] 3)).grown Hga.out (b1.alloc b1.size _).size (own_ge0 Hq9.out)
                exact (b2.alloc b2.size (.cells #[.slice A8 (p.length + 1) c8] 39)).grown Hgb.out (b2.alloc b2.size _).size (own_ge0 Hpa.out)⟩
              case measure => simp [intOf] <;> omega
            · have HPu := Lib.hid (Cir.vpush_yes (p := p ++ [j]) hc)
              have hlk := run_look_set HV5.out.s N (by omega)
              rw [hc] at hlk
              go_wp2_with fail
              go_roundw
              case rel => exact ⟨_, _, j + 1, m2, pv2, F2, rfl, rfl, by go_num, by omega, by omega, Hnb2, Lib.hid (by rw [HL2.out, Hsu.out, HPu.out]; exact HV5.out), Hb5.out⟩
              case measure => simp [intOf] <;> omega
          · have Hf := Lib.hid (Cir.vfind_some (M := 2 ^ d.ins) (by rw [← HM.out]; exact hlj) hbad Hnb.out)
            clear hbad Hnb
            have Hr : res = some (p ++ [j]) := by rw [hres.out]; exact Cir.vbfs_hit Hgs.out Hf.out
            clear hres
            subst Hr
            go_wp2_with fail
            refine (cloneSS_any _ p.length _ _ (by have := Row5.out; exact this) One5.out (by omega)).mono ?_
            rintro e w6 ⟨v6, rfl, ho6, hb6⟩
            have hz6 := hb6.size
            have Ho6 := Lib.hid ho6
            have Hb6 := Lib.hid hb6
            clear ho6 hb6
            go_wp2_with fail
            refine (bitsOf_any j d.ins _ (by omega) (by omega)).mono ?_
            rintro e w7 ⟨v7, rfl, ho7, hb7⟩
            have hz7 := hb7.size
            have Ho6b := Lib.hid (own_below Ho6.out hb7)
            have Hb7 := Lib.hid (Hb6.out.trans (hb7.mono hz6))
            have Ho7 := Lib.hid (own_mono ho7 hz6)
            have Hge7 := Lib.hid (own_ge0 ho7)
            obtain ⟨A7, c7, hv7⟩ := slice_of_own Ho7.out
            subst hv7
            have Hlit := Lib.hid (Row.of_own (World.ownsRow_lit (base := w7.heap.size) (e := 78) (size := 1) w7 #[.slice A7 (Cir.bits j d.ins).length c7] 1 (Nat.le_refl _) (by unfold maxLen; omega) rfl))
            clear ho7 hb7
            go_wp2_with (at_builtin; refine append_rows rfl (.tmp 57) (.tmp 61) rfl w5.heap.size _ p.length _ rfl (Ho6b.out.alloc _) _ 1 [.slice A7 (Cir.bits j d.ins).length c7] rfl Hlit.out (by simp [Value.oneCell']) (by omega) (by simp; omega) ?_; intro v8 w8 hown8 hg8 hat8; obtain ⟨A8, c8, hv8⟩ := slice_of_own hown8; subst hv8; have Hp8 := Lib.hid hown8; have Hg8 := Lib.hid hg8; have hz8 := hg8.size; rw [World.size_alloc] at hz8; have Ho8 := Lib.hid (own_kept (Ho7.out.alloc (.cells #[.slice A7 (Cir.bits j d.ins).length c7] 78)) hg8 (fun g h1 h2 => by have h3 := Hge7.out g h1; have h4 := (Ho6.out.lt g h2).2; omega)); have Hb8 := Lib.hid ((Hb7.out.alloc (Nat.le_trans hz6 hz7) _).grown hg8 (by simp; omega) (own_ge0 Ho6b.out)); clear hown8 hg8 hat8)
            have HS8 : Hid (SSIn bools (fun g => F2 g ∨ (w5.heap.size ≤ g ∧ g < w8.heap.size)) w8 (.slice A8 (p.length + 1) c8) (rowsOf d.ins (p ++ [j]))) := Lib.hid (by
              rw [rowsOf_snoc]
              exact SSIn.snoc (by rw [rowsOf_length]; exact hvl5) (fun i x u hx hu => (Hel5.out i x u hx hu).below Hb8.out) Ho8.out (by rw [rowsOf_length]; exact Hp8.out))
            have HV8 := Lib.hid (HV5.out.below Hb8.out)
            have HF8 : Hid (∀ g, (F2 g ∨ (w5.heap.size ≤ g ∧ g < w8.heap.size)) → g < w8.heap.size ∧ (Value.slice (some ⟨gq, 0, none⟩) L.length cq).ownBlock ≠ some g ∧ (Value.slice (some ⟨gp, 0, none⟩) L.length cp).ownBlock ≠ some g ∧ g ≠ w.heap.size + 1 + 1) := Lib.hid (fun g hg => by
              rcases hg with hg | hg
              · exact HV8.out.f g hg
              · have h3 := HV5.out.s.lt
                refine ⟨hg.2, fun h => ?_, fun h => ?_, by omega⟩
                · have h2 := (HV5.out.q.lt g h).2; omega
                · have h2 := (HV5.out.p.lt g h).2; omega)
            have Hb58 := Lib.hid (Hb5.out.trans (Hb8.out.mono (by omega)))
            have hz58 := Hb8.out.size
            have hlp : (rowsOf d.ins (p ++ [j])).length = p.length + 1 := by rw [rowsOf_length, List.length_append, List.length_singleton]
            have HSS : Hid (SSAt bools w8 (.slice A8 (p.length + 1) c8) (rowsOf d.ins (p ++ [j]))) := Lib.hid HS8.out.at
            have Hbits : Hid (∀ x ∈ rowsOf d.ins (p ++ [j]), x.length = d.ins) := Lib.hid (fun x hx => by
              unfold rowsOf at hx
              obtain ⟨y, _, rfl⟩ := List.mem_map.1 hx
              exact Cir.bits_length _ _)
            generalize hRe : rowsOf d.ins (p ++ [j]) = R at *
            have HRe := Lib.hid hRe
            clear hRe
            clear Ho6 Ho6b Ho7 Hge7 Hlit Hp8 Ho8 Hg8 HV5 HS5 Row5 Hrow5 Hel5 One5 Hb6 Hb7 hz6 hz7 HS8 HV8 HF8 Hf
            obtain ⟨Wz, hWz⟩ : ∃ Wz, Wz = w8 := ⟨_, rfl⟩
            subst hWz
            go_loopw [16, 66] (fun v i wr3 => ∃ (vv : Value) (q : Nat), vv = v ∧ i = .int .i64 q ∧ q ≤ p.length + 1 ∧ Hid (OwnSE bools 78 4 Wz.heap.size (fun g => g < wr3.heap.size) wr3 v (R.take q)) ∧ Below Wz.heap.size Wz wr3) (fun _ i _ => p.length + 1 - (intOf i).toNat)
            case atStart => exact ⟨_, 0, rfl, rfl, Nat.zero_le _, Lib.hid (OwnSE.nil _ _ _ _ _ _), Below.refl _ _⟩
            case round =>
              obtain ⟨vv, q, hvv, rfl, hq, HO, hb3⟩ := hrel
              subst hvv
              have Hb3 := Lib.hid hb3
              have hz3 := hb3.size
              by_cases hlq : q < p.length + 1
              · obtain ⟨x, hx⟩ := at_some (show q < R.length by omega)
                obtain ⟨b, o', Bx, mx, hAx, hbl, hc1, hm1, hm2, hrx⟩ := ss_open HSS.out hb3 hx
                cases hAx
                have hxl : x.length ≤ 1000 := by have := Hbits.out x (List.mem_of_getElem? hx); omega
                have HSn : Hid (R.take (q + 1) = R.take q ++ [x]) := Lib.hid (take_snoc hx)
                have Hrx := Lib.hid hrx
                have HtL : Hid ((R.take q).length = q) := Lib.hid (by rw [List.length_take]; omega)
                clear hb3 hrx hx
                generalize R.take q = Rq at *
                go_wp2_with fail
                refine (cloneB_any _ x.length _ _ Hrx.out (bools_one x) (by omega)).mono ?_
                rintro e wc ⟨vc, rfl, hoc, hbc⟩
                have hzc := hbc.size
                have HOc := Lib.hid (OwnSE.below HO.out hbc)
                have Hoc := Lib.hid (own_mono hoc hz3)
                have Hgec := Lib.hid (own_ge0 hoc)
                have Hbc := Lib.hid (Hb3.out.trans (hbc.mono hz3))
                obtain ⟨Ac, cc, hvc⟩ := slice_of_own hoc
                subst hvc
                have Hlc := Lib.hid (Row.of_own (World.ownsRow_lit (base := wc.heap.size) (e := 78) (size := 1) wc #[.slice Ac x.length cc] 1 (Nat.le_refl _) (by unfold maxLen; omega) rfl))
                have hHOl := HOc.out.below (bel_new wc (.cells #[.slice Ac x.length cc] 78))
                obtain ⟨us, q1, q2, q3, q4, q5, q6, q7⟩ := hHOl
                rw [HtL.out] at q2
                have Q2 := Lib.hid q2
                have Q := Lib.hid (And.intro q1 (And.intro q3 (And.intro q4 (And.intro q5 (And.intro q6 q7)))))
                have Hol := Lib.hid (Hoc.out.alloc (.cells #[.slice Ac x.length cc] 78))
                clear hoc hbc HO HOc q1 q2 q3 q4 q5 q6 q7
                go_wp2_with (at_builtin; refine append_rows rfl (.tmp 70) (.tmp 73) rfl Wz.heap.size _ q us rfl Q2.out _ 1 [.slice Ac x.length cc] rfl Hlc.out (by simp [Value.oneCell']) (by omega) (by simp; omega) ?_; intro v9 w9 hown9 hg9 hat9; have HSE := Lib.hid (se_append Q.out.1 Q.out.2.1 Q.out.2.2.1 Q.out.2.2.2.1 Q.out.2.2.2.2.1 Q.out.2.2.2.2.2 Hol.out (fun g h1 h2 => by have := Hgec.out g h1; omega) (by rw [HtL.out]; exact hown9) hg9 hat9); have Hg9 := Lib.hid hg9; have hz9 := hg9.size; rw [World.size_alloc] at hz9; have Hol9 := Lib.hid (fun g h => (Hol.out.lt g h).2); have Hown9 := Lib.hid hown9; clear hown9 hg9 hat9)
                go_roundw
                case rel => exact ⟨_, q + 1, rfl, by go_num, by omega, Lib.hid (by
                  rw [HSn.out]
                  refine HSE.out.mono (Nat.le_refl _) (fun g hg => ?_)
                  rcases hg with hg | hg | hg
                  · omega
                  · have h := Hol9.out g hg; rw [World.size_alloc] at h; omega
                  · exact (Hown9.out.lt g hg).2), (Hbc.out.alloc Hbc.out.size _).grown Hg9.out (Hbc.out.alloc Hbc.out.size _).size (own_ge0 Q2.out)⟩
                case measure => simp [intOf] <;> omega
              · obtain rfl : q = p.length + 1 := by omega
                have HOf : Hid (OwnSE bools 78 4 w.heap.size (fun g => g < wr.heap.size) wr vv R) := Lib.hid (by
                  have := HO.out
                  rw [List.take_of_length_le (by omega)] at this
                  exact this.mono (by omega) (fun g h => h))
                clear hb3
                go_wp2_with fail
                exact bodyPost_ret (v := .tuple #[vv, .bool true]) (by simp [results, Try.results101, go_sem]) rfl ⟨_, rfl, by rw [HRe.out]; exact HOf.out, Hb58.out.trans (Hb3.out.mono (by omega))⟩
        · obtain rfl : j = M := by omega
          have Hf := Lib.hid (Cir.vfind_none (M := 2 ^ d.ins) (by rw [← HM.out]; exact Hnb.out))
          have HMr : Hid (res = Cir.vbfs d o (9 - (k + 1)) (k + 1) (Cir.vpushes d s p j l)) := Lib.hid (by rw [hres.out, Cir.vbfs_step Hgs.out Hf.out, HM.out])
          clear Hnb
          generalize Cir.vpushes d s p j l = L at *
          go_wp2_with fail
          go_roundw
          case rel => exact ⟨_, _, k + 1, m2, L, pv2, F2, rfl, rfl, by go_num, by omega, by omega, hL8, by omega, Hvs2, HMr, HV2, Hb2.out⟩
          case measure => simp [intOf] <;> omega
    · obtain rfl : k = l.length := by omega
      have hr : res = none := by rw [hres.out, Cir.vbfs_end]
      obtain ⟨gq, cq, hvq, hgq, hgq2, hcq, hcqm⟩ := own_open HV.out.q (by have := hpos; omega)
      subst hvq
      unfold maxLen at hcqm
      subst hr
      go_wp2_with fail
      exact bodyPost_ret (v := .tuple #[.slice none 0 0, .bool false]) (by simp [results, Try.results101, go_sem]) rfl ⟨rfl, Hb.out⟩
end Go.Proofs.Ytmlcbikljlhhkaa

namespace Go.Proofs.Ytmlcbikljlhhkaa
open Go.RowKit
set_option maxRecDepth 100000
/-! FindViolation, by the program. -/
namespace Cir
def violI (c : Cz) (o : Int) : Option (List Nat) := if valid c = true ∧ 0 ≤ o ∧ o < c.outs.length then viol (nat c) o.toNat else none
end Cir
def vrows (ins : Nat) : Option (List Nat) → List (List Bool)
  | none => []
  | some p => rowsOf ins p
def OwnViol (ins : Nat) (r : Option (List Nat)) (w : World) (e : Ending) (w' : World) : Prop := ∃ v, e = .returned (.agg #[.bool r.isSome, v]) ∧ OwnBoolSS w.heap.size w'.heap.size w' v (vrows ins r) ∧ Below w.heap.size w w'
theorem OwnSS.set {α : Type} {enc : List α → List Value} {to ti : TypeId} {B T : Nat} {w : World} {v : Value} {xss : List (List α)} {g i : Nat} {u : Value} (h : OwnSS enc to ti B T w v xss) (hg : g < B) : OwnSS enc to ti B T (w.setCell ⟨g, i, none⟩ u) v xss := by
  refine h.only (E := fun k => k = g) (Only.grown (set_grown w g i u) fun k hk => (Option.some.inj hk).symm) (fun k hk _ e => by omega)
theorem viol_cases {c : Cz} {o : Int} (h : ¬ (Cir.valid c = true ∧ 0 ≤ o ∧ o < c.outs.length)) : Cir.valid c = false ∨ (Cir.valid c = true ∧ o < 0) ∨ (Cir.valid c = true ∧ 0 ≤ o ∧ (c.outs.length : Int) ≤ o) := by
  cases hv : Cir.valid c
  · exact .inl rfl
  · rw [hv] at h
    rcases Int.lt_or_le o 0 with h1 | h1
    · exact .inr (.inl ⟨rfl, h1⟩)
    · rcases Int.lt_or_le o c.outs.length with h2 | h2
      · exact absurd ⟨rfl, h1, h2⟩ h
      · exact .inr (.inr ⟨rfl, h1, h2⟩)
set_option maxHeartbeats 4000000
theorem implViol_ok (v : Value) (d : Ci) (o : Nat) (w : World) (h : CircAt w v (Cir.toCz d)) (hd : Cir.Ok d) (hv : Cir.valid (Cir.toCz d) = true) (ho : o < d.outs.length) :
    Calls Try.prog 44 #[v, .int .i64 o] w (OwnViol d.ins (Cir.viol d o) w) := by
  have l1 := hd.ins
  have HC := Lib.hid h
  obtain ⟨vn, vg, vo, rfl, r1, r2, r3⟩ := h
  obtain ⟨Ao, co, rfl, hco, hcom⟩ := NatsAt.shape (xs := d.outs) r3
  have hins : (Cir.toCz d).ins = (d.ins : Int) := rfl
  have HP := Lib.hid (PCirc.boxed (c := Cir.toCz d) 30 r1 r2 r3)
  rw [hins] at HC HP ⊢
  have hb0 := bel_new w (.cells #[.int .i64 d.ins, vn, vg, .slice Ao d.outs.length co] 30)
  have hb1 := bel_new (w.alloc (.cells #[.int .i64 d.ins, vn, vg, .slice Ao d.outs.length co] 30)) (.cells #[.int .i64 o] 3)
  have hb2 := bel_new ((w.alloc (.cells #[.int .i64 d.ins, vn, vg, .slice Ao d.outs.length co] 30)).alloc (.cells #[.int .i64 o] 3)) (.cells #[.bool false, .slice none 0 0] 55)
  have hb12 := hb1.trans (hb2.mono hb1.size)
  have B0 := Lib.hid (hb0.trans (hb12.mono hb0.size))
  have HP := Lib.hid (HP.out.below hb12)
  have PC := Lib.hid ((PCells.boxed w d.ins vn vg (.slice Ao d.outs.length co) 30).below hb12)
  have hsz : (((w.alloc (.cells #[.int .i64 d.ins, vn, vg, .slice Ao d.outs.length co] 30)).alloc (.cells #[.int .i64 o] 3)).alloc (.cells #[.bool false, .slice none 0 0] 55)).heap.size = w.heap.size + 1 + 1 + 1 := by simp
  have hR : (((w.alloc (.cells #[.int .i64 d.ins, vn, vg, .slice Ao d.outs.length co] 30)).alloc (.cells #[.int .i64 o] 3)).alloc (.cells #[.bool false, .slice none 0 0] 55)).heap[w.heap.size + 1 + 1]? = some (.cells #[.bool false, .slice none 0 0] 55 (0, 0)) := by
    have := heap_alloc_new ((w.alloc (.cells #[.int .i64 d.ins, vn, vg, .slice Ao d.outs.length co] 30)).alloc (.cells #[.int .i64 o] 3)) (.cells #[.bool false, .slice none 0 0] 55)
    rwa [World.size_alloc, World.size_alloc] at this
  have HRes := Lib.hid hR
  have hGo : (((w.alloc (.cells #[.int .i64 d.ins, vn, vg, .slice Ao d.outs.length co] 30)).alloc (.cells #[.int .i64 o] 3)).alloc (.cells #[.bool false, .slice none 0 0] 55)).cell? ⟨w.heap.size + 1, 0, none⟩ = some (.int .i64 o) := by
    have h1 := heap_alloc_new (w.alloc (.cells #[.int .i64 d.ins, vn, vg, .slice Ao d.outs.length co] 30)) (.cells #[.int .i64 o] 3)
    rw [World.size_alloc] at h1
    have h2 := (hb2.block (w.heap.size + 1) (by simp)).trans h1
    exact blk_cell h2 0
  have HGo := Lib.hid hGo
  obtain ⟨z, p0, p1, p2, p3⟩ := PC.out
  have HC0 := Lib.hid (HC.out.below B0.out)
  have HV := Lib.hid (implValid_any _ _ _ HC0.out)
  rw [hv] at HV
  have Hd := Lib.hid hd
  have Ho := Lib.hid ho
  have t1 : decide ((o : Int) < 0) = false := decide_eq_false (by omega)
  have t2 : decide (d.outs.length ≤ o) = false := decide_eq_false (by omega)
  clear r1 r2 r3 hd hins hv HC hb0 hb1 hb2 hb12 hR ho hco hcom hGo
  go_enter Try.func44, Try.ntmps44
  go_wp2_with fail
  generalize ((w.alloc (.cells #[.int .i64 d.ins, vn, vg, .slice Ao d.outs.length co] 30)).alloc (.cells #[.int .i64 o] 3)).alloc (.cells #[.bool false, .slice none 0 0] 55) = W at *
  refine HV.out.mono ?_
  rintro e w1 ⟨rfl, hb1⟩
  have B1 := Lib.hid (B0.out.trans (hb1.mono B0.out.size))
  have HP1 := Lib.hid (HP.out.below hb1)
  have HRes1 := Lib.hid ((hb1.block _ (by omega)).trans HRes.out)
  have PC1 := Lib.hid (PC.out.below hb1)
  have c1 := (hb1.cell (p := ⟨w.heap.size + 1, 0, none⟩) (by simp only; omega)).trans HGo.out
  have HGo1 := Lib.hid c1
  have z1 := hb1.size
  clear hb1 p0 p1 p2 p3 z HV HP HC0 HRes PC HGo
  obtain ⟨z, p0, p1, p2, p3⟩ := PC1.out
  go_wp2_with fail
  refine (searchV_any w.heap.size (w.heap.size + 1) d o _ HP1.out HGo1.out (by omega) Hd.out Ho.out).mono ?_
  intro e w2 hS
  generalize Cir.viol d o = R at *
  cases R with
  | none =>
    obtain ⟨rfl, hb2⟩ := hS
    have hR2 := (hb2.block (w.heap.size + 1 + 1) (by omega)).trans HRes1.out
    have o0 := blk_cell hR2 0
    have o1 := blk_cell hR2 1
    have b0 := blk_free hR2 0
    have b1 := blk_free hR2 1
    simp at o0 o1
    have B2 := Lib.hid (B1.out.trans (hb2.mono B1.out.size))
    clear hb2 hR2 p0 p1 p2 p3
    go_wp2_with fail
    refine bodyPost_ret (v := .agg #[.bool false, .slice none 0 0]) (by simp [results, Try.results44, go_sem, o0, o1]) rfl ⟨_, rfl, OwnSS.nil _ _ _ _ _ _, ?_⟩
    exact ((B2.out.setCell (by simp only; omega) _).setCell (by simp only; omega) _)
  | some p =>
    obtain ⟨v2, rfl, hO, hb2⟩ := hS
    have hR2 := (hb2.block (w.heap.size + 1 + 1) (by omega)).trans HRes1.out
    have o0 := blk_cell hR2 0
    have o1 := blk_cell hR2 1
    have b0 := blk_free hR2 0
    have b1 := blk_free hR2 1
    simp at o0 o1
    have B2 := Lib.hid (B1.out.trans (hb2.mono B1.out.size))
    have HO := Lib.hid hO
    obtain ⟨A2, c2, hv2, -⟩ := hO.at.shape
    subst hv2
    clear hb2 hR2 p0 p1 p2 p3 hO
    go_wp2_with fail
    refine bodyPost_ret (v := .agg #[.bool true, .slice A2 (rowsOf d.ins p).length c2]) (by simp [results, Try.results44, go_sem, o0, o1]) rfl ⟨_, rfl, ?_, ?_⟩
    · exact (OwnSS.set (OwnSS.set (HO.out) (by omega)) (by omega)).mono (by omega) (by simp [World.setCell])
    · exact ((B2.out.setCell (by simp only; omega) _).setCell (by simp only; omega) _)
end Go.Proofs.Ytmlcbikljlhhkaa

namespace Go.Proofs.Ytmlcbikljlhhkaa
open Go.RowKit
set_option maxRecDepth 100000
set_option maxHeartbeats 4000000
/-! FindViolation, by the program: no violation for arguments that are none; any arguments. -/
theorem implViol_no (v : Value) (c : Cz) (o : Int) (w : World) (h : CircAt w v c) (hno : Cir.valid c = false ∨ (Cir.valid c = true ∧ o < 0) ∨ (Cir.valid c = true ∧ 0 ≤ o ∧ (c.outs.length : Int) ≤ o)) :
    Calls Try.prog 44 #[v, .int .i64 o] w (OwnViol (Cir.nat c).ins none w) := by
  have HC := Lib.hid h
  obtain ⟨An, cn, Ag, cg, Ao, co, rfl⟩ := h.shape
  have hb0 := bel_new w (.cells #[.int .i64 c.ins, .slice An c.next.length cn, .slice Ag c.gates.length cg, .slice Ao c.outs.length co] 30)
  have hb1 := bel_new (w.alloc (.cells #[.int .i64 c.ins, .slice An c.next.length cn, .slice Ag c.gates.length cg, .slice Ao c.outs.length co] 30)) (.cells #[.int .i64 o] 3)
  have hb2 := bel_new ((w.alloc (.cells #[.int .i64 c.ins, .slice An c.next.length cn, .slice Ag c.gates.length cg, .slice Ao c.outs.length co] 30)).alloc (.cells #[.int .i64 o] 3)) (.cells #[.bool false, .slice none 0 0] 55)
  have hb12 := hb1.trans (hb2.mono hb1.size)
  have B0 := Lib.hid (hb0.trans (hb12.mono hb0.size))
  have PC := Lib.hid ((PCells.boxed w c.ins (.slice An c.next.length cn) (.slice Ag c.gates.length cg) (.slice Ao c.outs.length co) 30).below hb12)
  have hsz : (((w.alloc (.cells #[.int .i64 c.ins, .slice An c.next.length cn, .slice Ag c.gates.length cg, .slice Ao c.outs.length co] 30)).alloc (.cells #[.int .i64 o] 3)).alloc (.cells #[.bool false, .slice none 0 0] 55)).heap.size = w.heap.size + 1 + 1 + 1 := by simp
  have hR : (((w.alloc (.cells #[.int .i64 c.ins, .slice An c.next.length cn, .slice Ag c.gates.length cg, .slice Ao c.outs.length co] 30)).alloc (.cells #[.int .i64 o] 3)).alloc (.cells #[.bool false, .slice none 0 0] 55)).heap[w.heap.size + 1 + 1]? = some (.cells #[.bool false, .slice none 0 0] 55 (0, 0)) := by
    have := heap_alloc_new ((w.alloc (.cells #[.int .i64 c.ins, .slice An c.next.length cn, .slice Ag c.gates.length cg, .slice Ao c.outs.length co] 30)).alloc (.cells #[.int .i64 o] 3)) (.cells #[.bool false, .slice none 0 0] 55)
    rwa [World.size_alloc, World.size_alloc] at this
  have HRes := Lib.hid hR
  have hGo : (((w.alloc (.cells #[.int .i64 c.ins, .slice An c.next.length cn, .slice Ag c.gates.length cg, .slice Ao c.outs.length co] 30)).alloc (.cells #[.int .i64 o] 3)).alloc (.cells #[.bool false, .slice none 0 0] 55)).cell? ⟨w.heap.size + 1, 0, none⟩ = some (.int .i64 o) := by
    have h1 := heap_alloc_new (w.alloc (.cells #[.int .i64 c.ins, .slice An c.next.length cn, .slice Ag c.gates.length cg, .slice Ao c.outs.length co] 30)) (.cells #[.int .i64 o] 3)
    rw [World.size_alloc] at h1
    have h2 := (hb2.block (w.heap.size + 1) (by simp)).trans h1
    exact blk_cell h2 0
  have HGo := Lib.hid hGo
  obtain ⟨z, p0, p1, p2, p3⟩ := PC.out
  have HV := Lib.hid (implValid_any _ _ _ (HC.out.below B0.out))
  have Hno := Lib.hid hno
  clear HC hb0 hb1 hb2 hb12 hR hGo hno
  rcases Hno.out with hv | ⟨hv, h1⟩ | ⟨hv, h1, h2⟩
  ·
    skip
    rw [hv] at HV
    skip
    clear hv Hno
    go_enter Try.func44, Try.ntmps44
    go_wp2_with fail
    generalize ((w.alloc (.cells #[.int .i64 c.ins, .slice An c.next.length cn, .slice Ag c.gates.length cg, .slice Ao c.outs.length co] 30)).alloc (.cells #[.int .i64 o] 3)).alloc (.cells #[.bool false, .slice none 0 0] 55) = W at *
    refine HV.out.mono ?_
    rintro e w1 ⟨rfl, hb1⟩
    have B1 := Lib.hid (B0.out.trans (hb1.mono B0.out.size))
    have PC1 := Lib.hid (PC.out.below hb1)
    have c1 := (hb1.cell (p := ⟨w.heap.size + 1, 0, none⟩) (by simp only; omega)).trans HGo.out
    have hR1 := (hb1.block _ (by omega)).trans HRes.out
    have z1 := hb1.size
    have o0 := blk_cell hR1 0
    have o1 := blk_cell hR1 1
    have b0 := blk_free hR1 0
    have b1 := blk_free hR1 1
    simp at o0 o1
    clear hb1 hR1 p0 p1 p2 p3 z HV HRes PC HGo
    obtain ⟨z, p0, p1, p2, p3⟩ := PC1.out
    go_wp2_with fail
    refine bodyPost_ret (v := .agg #[.bool false, .slice none 0 0]) (by simp [results, Try.results44, go_sem, o0, o1]) rfl ⟨_, rfl, OwnSS.nil _ _ _ _ _ _, ?_⟩
    exact ((B1.out.setCell (by simp only; omega) _).setCell (by simp only; omega) _)
  ·
    have t1 : decide (o < 0) = true := decide_eq_true h1
    rw [hv] at HV
    clear h1
    clear hv Hno
    go_enter Try.func44, Try.ntmps44
    go_wp2_with fail
    generalize ((w.alloc (.cells #[.int .i64 c.ins, .slice An c.next.length cn, .slice Ag c.gates.length cg, .slice Ao c.outs.length co] 30)).alloc (.cells #[.int .i64 o] 3)).alloc (.cells #[.bool false, .slice none 0 0] 55) = W at *
    refine HV.out.mono ?_
    rintro e w1 ⟨rfl, hb1⟩
    have B1 := Lib.hid (B0.out.trans (hb1.mono B0.out.size))
    have PC1 := Lib.hid (PC.out.below hb1)
    have c1 := (hb1.cell (p := ⟨w.heap.size + 1, 0, none⟩) (by simp only; omega)).trans HGo.out
    have hR1 := (hb1.block _ (by omega)).trans HRes.out
    have z1 := hb1.size
    have o0 := blk_cell hR1 0
    have o1 := blk_cell hR1 1
    have b0 := blk_free hR1 0
    have b1 := blk_free hR1 1
    simp at o0 o1
    clear hb1 hR1 p0 p1 p2 p3 z HV HRes PC HGo
    obtain ⟨z, p0, p1, p2, p3⟩ := PC1.out
    go_wp2_with fail
    refine bodyPost_ret (v := .agg #[.bool false, .slice none 0 0]) (by simp [results, Try.results44, go_sem, o0, o1]) rfl ⟨_, rfl, OwnSS.nil _ _ _ _ _ _, ?_⟩
    exact ((B1.out.setCell (by simp only; omega) _).setCell (by simp only; omega) _)
  ·
    have t1 : decide (o < 0) = false := decide_eq_false (by omega)
    rw [hv] at HV
    have t2 : decide ((c.outs.length : Int) ≤ o) = true := decide_eq_true h2
    clear h1 h2
    clear hv Hno
    go_enter Try.func44, Try.ntmps44
    go_wp2_with fail
    generalize ((w.alloc (.cells #[.int .i64 c.ins, .slice An c.next.length cn, .slice Ag c.gates.length cg, .slice Ao c.outs.length co] 30)).alloc (.cells #[.int .i64 o] 3)).alloc (.cells #[.bool false, .slice none 0 0] 55) = W at *
    refine HV.out.mono ?_
    rintro e w1 ⟨rfl, hb1⟩
    have B1 := Lib.hid (B0.out.trans (hb1.mono B0.out.size))
    have PC1 := Lib.hid (PC.out.below hb1)
    have c1 := (hb1.cell (p := ⟨w.heap.size + 1, 0, none⟩) (by simp only; omega)).trans HGo.out
    have hR1 := (hb1.block _ (by omega)).trans HRes.out
    have z1 := hb1.size
    have o0 := blk_cell hR1 0
    have o1 := blk_cell hR1 1
    have b0 := blk_free hR1 0
    have b1 := blk_free hR1 1
    simp at o0 o1
    clear hb1 hR1 p0 p1 p2 p3 z HV HRes PC HGo
    obtain ⟨z, p0, p1, p2, p3⟩ := PC1.out
    go_wp2_with fail
    refine bodyPost_ret (v := .agg #[.bool false, .slice none 0 0]) (by simp [results, Try.results44, go_sem, o0, o1]) rfl ⟨_, rfl, OwnSS.nil _ _ _ _ _ _, ?_⟩
    exact ((B1.out.setCell (by simp only; omega) _).setCell (by simp only; omega) _)
theorem implViol_any (v : Value) (c : Cz) (o : Int) (w : World) (h : CircAt w v c) :
    Calls Try.prog 44 #[v, .int .i64 o] w (OwnViol (Cir.nat c).ins (Cir.violI c o) w) := by
  by_cases hc : Cir.valid c = true ∧ 0 ≤ o ∧ o < c.outs.length
  · obtain ⟨d1, d2⟩ := Cir.nat_ok hc.1
    obtain ⟨m, rfl⟩ := Int.eq_ofNat_of_zero_le hc.2.1
    have hr : Cir.violI c (m : Int) = Cir.viol (Cir.nat c) m := by unfold Cir.violI; rw [if_pos hc]; rfl
    rw [hr]
    exact implViol_ok v (Cir.nat c) m w (by rw [← d1]; exact h) d2 (by rw [← d1]; exact hc.1) (by have := hc.2.2; unfold Cir.nat; simp only [List.length_map]; omega)
  · have hr : Cir.violI c o = none := by unfold Cir.violI; rw [if_neg hc]
    rw [hr]
    exact implViol_no v c o w h (viol_cases hc)
/-! The rows of inputs that lead to a violation, by the reference. -/
def TBits (B : Nat) (xs : List Bool) : Ty := fun w v => RowIn (From B) w 1 v xs.length (bools xs)
theorem stb_bits (B : Nat) (xs : List Bool) : Stb (fun _ => False) (TBits B xs) := fun _ _ _ h ho => RowIn.below h (only_below ho)
def TFront (B : Nat) (xs : List Bool) : Ty := fun w v => ∃ g u, v = .slice (some ⟨g, 0, none⟩) 1 1 ∧ B ≤ g ∧ g < w.heap.size ∧ w.cell? ⟨g, 0, none⟩ = some u ∧ RowIn (From B) w 1 u xs.length (bools xs)
theorem stb_front (B : Nat) (xs : List Bool) : Stb (fun _ => False) (TFront B xs) := by
  rintro v w w' ⟨g, u, rfl, hB, hg, hc, hb⟩ ho
  have hbl := only_below ho
  exact ⟨g, u, rfl, hB, Nat.lt_of_lt_of_le hg ho.size, (hbl.cell (p := ⟨g, 0, none⟩) hg).trans hc, hb.below hbl⟩
def TSS (B : Nat) (xss : List (List Bool)) : Ty := fun w v => SSIn bools (From B) w v xss
theorem stb_ss (B : Nat) (xss : List (List Bool)) : Stb (fun _ => False) (TSS B xss) := fun _ _ _ h ho => h.below (only_below ho)
/-- append of a row of rows to a single one. -/
theorem run_front {w : World} {xs : List Bool} {xss : List (List Bool)} {v y : Value} {B : Nat} (ty : TypeId) (hx : TFront B xs w v) (hy : SSIn bools (From B) w y xss) (hBw : B ≤ w.heap.size) (hn : 0 < xss.length) (hm : xss.length ≤ 1000) :
    ∃ v' w', (Builtin.append_ #[39, 39] ty #[v, y]).run Try.prog w = .ok v' w' ∧ SSIn bools (From B) w' v' (xs :: xss) ∧ Below w.heap.size w w' := by
  obtain ⟨i, hi, hz0, hz1, hz2⟩ := info_parts info_bools2
  obtain ⟨g, u, rfl, hB, hg, hc, hb⟩ := hx
  obtain ⟨vs, hvl, hr, hel⟩ := hy
  obtain ⟨b, o, c, rfl, h1, h2, h3, h4⟩ := Row.open hr.1 hn
  have hcells : vs.length = xss.length * i.size := by rw [hz1]; have := hr.1.len; omega
  have hrun := run_append_grow (P := Try.prog) w 39 ty 78 i _ Try.underlying39 hi hz0 ⟨g, 0, none⟩ 1 1 [u] (by rw [hz1]; rfl) (fun j q hq => by
      cases j with
      | zero => obtain rfl := Option.some.inj hq; exact hc
      | succ j => simp at hq) ⟨b, o, none⟩ xss.length c vs hcells (fun j q hq => by have h5 := h4 j q hq; cases j <;> simpa [Addr.add] using h5) (by omega) (by omega) (by
      rw [hz2]
      exact growslice_fits (by omega) (by omega))
  refine ⟨_, _, hrun, ?_, ?_⟩
  · have hge := grownCap_ge w (1 + xss.length) 1 78
    have hle := grownCap_le_maxLen w (1 + xss.length) 1 78 (by unfold maxLen; omega)
    have hb2 : Below w.heap.size w (w.drew.alloc (.cells ([u].toArray ++ vs.toArray ++ Builtin.zeroCells (Value.cells (.slice none 0 0)) (grownCap w (1 + xss.length) 1 78 - (1 + xss.length))) 78)) := ⟨rfl, rfl, rfl, by simp, fun k hk => heap_alloc_old w.drew _ hk⟩
    refine ⟨u :: vs, by simp [hvl], ⟨⟨by simp [hvl], _, _, by rw [List.length_cons, Nat.add_comm xss.length 1], by rw [List.length_cons]; omega, hle, fun _ => ⟨w.heap.size, 0, rfl, by simp, fun j q hq => ?_⟩⟩, fun _ g hg => ?_⟩, fun i x z hx hz => ?_⟩
    · have h5 := heap_alloc_new w.drew (.cells ([u].toArray ++ vs.toArray ++ Builtin.zeroCells (Value.cells (.slice none 0 0)) (grownCap w (1 + xss.length) 1 78 - (1 + xss.length))) 78)
      have h6 := blk_cell h5 (0 + j)
      refine h6.trans ?_
      rw [Nat.zero_add, ← Array.getElem?_toList]
      simp only [Array.toList_append]
      rw [List.getElem?_append_left (by have := (List.getElem?_eq_some_iff.1 hq).1; simpa using this)]
      simpa using hq
    · obtain rfl := Option.some.inj hg
      exact hBw
    · cases i with
      | zero =>
        obtain rfl := Option.some.inj hx
        obtain rfl := Option.some.inj hz
        exact hb.below hb2
      | succ i => exact (hel i x z hx hz).below hb2
  · exact ⟨rfl, rfl, rfl, by simp, fun k hk => heap_alloc_old w.drew _ hk⟩
end Go.Proofs.Ytmlcbikljlhhkaa

namespace Go.Proofs.Ytmlcbikljlhhkaa
open Go.RowKit
set_option maxRecDepth 100000
section
variable {S : RS} {Fin : List Ty → Prop} {o : Oper} {l : List Oper} {i : Nat} {τs : List Ty}
/-- A slice of one row, in a region. -/
theorem rs_front0 (hO : S.Ok) (hid : i ≠ S.d ∨ ∀ ov w, S.J ov w) (hE : S.E = fun _ => False) (B : Nat) (hB : B ≤ S.w0.heap.size) (xs : List Bool)
    (h : ∀ ρ w, Only S.E S.w0 w → Known S.ops (tys τs) S.a0 ρ w i o.op.operands.toList → ∃ u, RowIn (From B) w 1 u xs.length (bools xs) ∧ (execOp ρ o).run S.P w = .ok (.value (.slice (some ⟨w.heap.size, 0, none⟩) 1 1)) (w.alloc (.cells #[u] 78)))
    (rest : RSeq S Fin l (i + 1) (TFront B xs :: τs)) : RSeq S Fin (o :: l) i τs := by
  refine rs_alloc hO hid (TFront B xs) (by rw [hE]; exact stb_front B xs) (fun ρ w ho hK => ?_) rest
  obtain ⟨u, h1, h2⟩ := h ρ w ho hK
  exact ⟨_, _, h2, w.heap.size, u, rfl, Nat.le_trans hB ho.size, by simp, blk_cell (heap_alloc_new w _) 0, h1.below (bel_new _ _)⟩
/-- A row in front of rows, in a region. -/
theorem rs_front (hO : S.Ok) (hid : i ≠ S.d ∨ ∀ ov w, S.J ov w) (hE : S.E = fun _ => False) (hF : S.F = fun _ => False) (hrd : S.rd = none) (hP : S.P = Try.prog) (x y : Nat) (B : Nat) (hB : B ≤ S.w0.heap.size) (xs : List Bool) (xss : List (List Bool)) (c : Value)
    (ho : o.op = .call { callee := .builtin .append, args := #[.tmp x, .tmp y], argTypes := #[39, 39] }) (jx jy : Nat) (hx : writer S.ops i x = some jx) (hy : writer S.ops i y = some jy) (hTx : tys τs jx = TFront B xs) (hTy : tys τs jy = TEq c)
    (hs : SSIn bools (From B) S.w0 c xss) (hn : 0 < xss.length) (hm : xss.length ≤ 1000)
    (rest : RSeq S Fin l (i + 1) (TSS B (xs :: xss) :: τs)) : RSeq S Fin (o :: l) i τs := by
  refine rs_plain hO hid (TSS B (xs :: xss)) (by rw [hE]; exact stb_ss B _) (fun k ρ w hk hr hon hK => ?_) rest
  rw [ho] at hK
  have h1 := hK.1
  have h2 := hK.2.1
  rw [hx] at h1
  rw [hy] at h2
  simp only [hTx] at h1
  simp only [hTy] at h2
  have h2' : ρ (.tmp y) = c := h2
  rw [hE] at hon
  obtain ⟨v', w', hrun, hss, hbl⟩ := run_front o.type h1 (hs.below (only_below hon)) (Nat.le_trans hB hon.size) hn hm
  have hre : (execOp ρ o).run S.P w = .ok (.value v') w' := by
    unfold execOp
    rw [hP]
    simp only [ho, resolve, invoke, builtin, Sem.run_bind, Sem.run_pure, Result.andThen_ok, List.map_toArray, List.map_cons, List.map_nil, h2', hrun]
  unfold Good
  rw [hre]
  refine ⟨hss, ?_, ?_⟩
  · rw [hrd]; trivial
  · rw [hF]; exact Only.of_below _ hbl
end
end Go.Proofs.Ytmlcbikljlhhkaa

namespace Go.Proofs.Ytmlcbikljlhhkaa
open Go.RowKit
set_option maxRecDepth 100000
set_option maxHeartbeats 8000000 in
theorem l16Rows_any (v vf vh : Value) (d : Ci) (l : List (Nat × List Nat)) (fr how : List Nat) (k s x : Nat) (p : List Nat) (w : World) (h : CircAt w v (Cir.toCz d)) (hi : d.ins ≤ 4) (hf : NatsAt w vf fr) (hh : NatsAt w vh how) (hB : Cir.Back l fr how) (hk : l[k]? = some (s, p)) (hl : l.length ≤ 8) (hx : x ≤ 1000) (hy : ∀ y ∈ how, y ≤ 1000) :
    Calls Try.prog 98 #[v, vf, vh, .int .i64 k, .int .i64 x] w fun e w' => (∃ u, e = .returned u ∧ SSIn bools (From w.heap.size) w' u (rowsOf d.ins (p ++ [x]))) ∧ Below w.heap.size w w' := by
  obtain ⟨vn, vg, vo, rfl, r1, r2, r3⟩ := h
  obtain ⟨Af, cf, rfl, hcf, hcfm⟩ := NatsAt.shape hf
  obtain ⟨Ah, ch, rfl, hch, hchm⟩ := NatsAt.shape hh
  unfold maxLen at hcfm hchm
  have hins : (Cir.toCz d).ins = (d.ins : Int) := rfl
  rw [hins]
  have B0 := Lib.hid (bel_new w (.cells #[.int .i64 d.ins, vn, vg, vo] 30))
  have PC := Lib.hid (PCells.boxed w d.ins vn vg vo 30)
  have hsz : (w.alloc (.cells #[.int .i64 d.ins, vn, vg, vo] 30)).heap.size = w.heap.size + 1 := by simp
  have HF := Lib.hid (hf.below B0.out)
  have HH := Lib.hid (hh.below B0.out)
  have HB := Lib.hid hB
  have Hk := Lib.hid hk
  have Hy := Lib.hid hy
  have e1 := hB.l1
  have e2 := hB.l2
  have hkl := (List.getElem?_eq_some_iff.1 hk).1
  obtain ⟨z, p0, p1, p2, p3⟩ := PC.out
  clear r1 r2 r3 hins hf hh hB hk hy
  go_enter Try.func98, Try.ntmps98
  go_wp2_with fail
  generalize w.alloc (.cells #[.int .i64 d.ins, vn, vg, vo] 30) = W at *
  refine (l4Bits_any x d.ins _ (by omega) (by omega)).mono ?_
  rintro e w1 ⟨v1, rfl, ho1, hb1⟩
  obtain ⟨A1, c1, hv1⟩ := slice_of_own ho1
  subst hv1
  have hbl := bel_new w1 (.cells #[.slice A1 (Cir.bits x d.ins).length c1] 78)
  have hbW := hb1.trans (hbl.mono hb1.size)
  have HS0 : Hid (SSIn bools (From w.heap.size) (w1.alloc (.cells #[.slice A1 (Cir.bits x d.ins).length c1] 78)) (.slice (some ⟨w1.heap.size, 0, none⟩) 1 1) (rowsOf d.ins [x])) := Lib.hid ⟨[.slice A1 (Cir.bits x d.ins).length c1], rfl, (RowIn.of_own (World.ownsRow_lit (base := w1.heap.size) (e := 78) (size := 1) w1 #[.slice A1 (Cir.bits x d.ins).length c1] 1 (Nat.le_refl _) (by unfold maxLen; omega) rfl)).mono (fun g hg => by have := hg.1; have := hb1.size; unfold From; omega), fun i y u hy hu => by
    cases i with
    | zero =>
      obtain rfl := Option.some.inj hy
      obtain rfl := Option.some.inj hu
      exact ((RowIn.of_own ho1).mono (fun g hg => by have := hg.1; unfold From; omega)).below hbl
    | succ i => simp [rowsOf] at hy⟩
  have HbW := Lib.hid hbW
  have zW := hb1.size
  clear hbW hbl hb1 ho1 p0 p1 p2 p3 z
  go_wp2_with fail
  generalize w1.alloc (.cells #[.slice A1 (Cir.bits x d.ins).length c1] 78) = w2 at *
  go_loopw [3, 11] (fun i u wr => ∃ (q s' : Nat) (p' tail : List Nat) (uu : Value), uu = u ∧ i = .int .i64 q ∧ Hid (l[q]? = some (s', p')) ∧ Hid (p ++ [x] = p' ++ tail) ∧ 0 < tail.length ∧ tail.length + q ≤ 1 + k ∧ Hid (SSIn bools (From w.heap.size) wr u (rowsOf d.ins tail)) ∧ Below W.heap.size W wr) (fun i _ _ => (intOf i).toNat)
  case atStart => exact ⟨k, s, p, [x], _, rfl, rfl, Hk, Lib.hid rfl, by simp, by rw [List.length_singleton]; omega, HS0, HbW.out⟩
  case round =>
    obtain ⟨q, s', p', tail, uu, huu, rfl, Hq, Ht, ht0, ht1, HS, hb⟩ := hrel
    subst huu
    have Hb := Lib.hid hb
    have hzb := hb.size
    clear HS0 HbW
    have PCr := Lib.hid (PC.out.below hb)
    obtain ⟨z, p0, p1, p2, p3⟩ := PCr.out
    have hql := (List.getElem?_eq_some_iff.1 Hq.out).1
    clear hb
    by_cases hq0 : 0 < q
    · obtain ⟨i, y, s2, p2', f1, f2, f3, f4, f5⟩ := HB.out.step q s' p' Hq.out hq0
      have Hf4 := Lib.hid f4
      have Ht2 : Hid (p ++ [x] = p2' ++ (y :: tail)) := Lib.hid (by rw [Ht.out, f5]; simp)
      have hyl := Hy.out y (List.mem_of_getElem? f3)
      have F1 := Lib.hid f1
      obtain ⟨bh, oh, y', rfl, hbhl, hyx, hys⟩ := nats_cell (nats_row HH.out) rfl (show q < how.length by omega)
      obtain rfl : y' = y := Option.some.inj (hyx.out.symm.trans f3)
      obtain ⟨bf, of, i', rfl, hbfl, hix, his⟩ := nats_cell (nats_row HF.out) rfl (show q < fr.length by omega)
      obtain rfl : i' = i := Option.some.inj (hix.out.symm.trans F1.out)
      have hlen : (rowsOf d.ins tail).length = tail.length := rowsOf_length _ _
      obtain ⟨Au, cu, hvu, -⟩ := HS.out.at.shape
      subst hvu
      have hcons : rowsOf d.ins (y' :: tail) = Cir.bits y' d.ins :: rowsOf d.ins tail := rfl
      have Hcons := Lib.hid hcons
      have hc1 := (Hb.out.cell (p := ⟨bh, oh + q, none⟩) hbhl).trans hys
      have hdq : decide (0 < q) = true := decide_eq_true hq0
      clear f1 f3 f4 f5 hcons Ht hys
      generalize rowsOf d.ins tail = R at *
      go_wp2_with fail
      obtain ⟨w4, hw4⟩ : ∃ w4, w4 = wr := ⟨_, rfl⟩
      subst hw4
      refine wp_region_rs (quietRS Try.prog _ w4 _) quietRS_ok (by kernel_rfl) (by kernel_rfl) (by kernel_rfl) (Nat.le_of_ble_eq_true rfl) trivial trivial ?_
      refine rs_old quietRS_ok quiet_any _ (.inl rfl) _ rfl rfl ?_
      refine rs_old quietRS_ok quiet_any _ (.inl rfl) _ rfl rfl ?_
      apply rs_eq quietRS_ok quiet_any
      · intro ρ w' ho hK
        have ho : Only _ w4 w' := ho
        obtain ⟨h0, h1, -⟩ := hK
        have h0' : ρ (.tmp 19) = _ := h0
        have h1' : ρ (.tmp 20) = _ := h1
        go_simp
        try exact rfl
      apply rs_eq quietRS_ok quiet_any
      · intro ρ w' ho hK
        have ho : Only _ w4 w' := ho
        obtain ⟨h0, -⟩ := hK
        have h0' : ρ (.tmp 21) = _ := h0
        have hb := only_below ho
        have q0 := (hb.cell (p := ⟨w.heap.size, 0, none⟩) z).trans p0
        have q4 := (hb.cell (p := ⟨bh, oh + q, none⟩) (Nat.lt_of_lt_of_le hbhl hzb)).trans hc1
        go_simp
        try exact rfl
      apply rs_eq quietRS_ok quiet_any
      · intro ρ w' ho hK
        have ho : Only _ w4 w' := ho
        obtain ⟨h0, -⟩ := hK
        have h0' : ρ (.tmp 5) = _ := h0
        go_simp
        try exact rfl
      apply rs_eq quietRS_ok quiet_any
      · intro ρ w' ho hK
        have ho : Only _ w4 w' := ho
        obtain ⟨h0, -⟩ := hK
        have h0' : ρ (.tmp 23) = _ := h0
        have hb := only_below ho
        have q0 := (hb.cell (p := ⟨w.heap.size, 0, none⟩) z).trans p0
        have q4 := (hb.cell (p := ⟨bh, oh + q, none⟩) (Nat.lt_of_lt_of_le hbhl hzb)).trans hc1
        go_simp
        try exact rfl
      refine rs_call quietRS_ok quiet_any (TBits w.heap.size (Cir.bits y' d.ins)) (stb_bits _ _) 64 _ _ rfl (fun ρ w' ho hK => by
        have ho : Only _ w4 w' := ho
        obtain ⟨h0, h1, h2, -⟩ := hK
        have h0' : ρ (.func 64) = .func (.func 64) #[] #[] := h0
        have h1' : ρ (.tmp 22) = _ := h1
        have h2' : ρ (.tmp 24) = _ := h2
        refine ⟨#[ρ (.tmp 22), ρ (.tmp 24)], ?_, ?_⟩
        · go_simp
        · rw [h1', h2']
          refine (l4Bits_any y' d.ins w' (by omega) (by omega)).mono ?_
          rintro e w2 ⟨v2, rfl, hO, hb⟩
          exact ⟨v2, rfl, (RowIn.of_own hO).mono (fun g hg => by have := hg.1; have := ho.size; unfold From; omega), hb⟩) ?_
      refine rs_front0 quietRS_ok quiet_any rfl w.heap.size (show w.heap.size ≤ w4.heap.size by omega) (Cir.bits y' d.ins) (fun ρ w' ho hK => by
        obtain ⟨h0, -⟩ := hK
        have h0' : RowIn (From w.heap.size) w' 1 (ρ (.tmp 25)) (Cir.bits y' d.ins).length (bools (Cir.bits y' d.ins)) := h0
        obtain ⟨A9, c9, e9, -, -⟩ := Row.shape h0'.1
        refine ⟨.slice A9 _ c9, e9 ▸ h0', ?_⟩
        clear h0' h0
        go_simp) ?_
      refine rs_old quietRS_ok quiet_any _ (.inl rfl) _ rfl rfl ?_
      refine rs_front quietRS_ok quiet_any rfl rfl rfl rfl 26 27 w.heap.size (show w.heap.size ≤ w4.heap.size by omega) _ R _ rfl _ _ rfl rfl rfl rfl HS.out (by omega) (by omega) ?_
      refine rs_same quietRS_ok quiet_any 28 9 (.inr rfl) rfl _ rfl ?_
      intro f w9 k9 hk9 hI9 ht9 hcp9
      have E0 : f 0 = _ := ht9 0 (Nat.le_of_ble_eq_true rfl)
      have E1 : f 1 = _ := ht9 1 (Nat.le_of_ble_eq_true rfl)
      have E2 : f 2 = _ := ht9 2 (Nat.le_of_ble_eq_true rfl)
      have E3 : f 3 = _ := ht9 3 (Nat.le_of_ble_eq_true rfl)
      have E4 : f 4 = _ := ht9 4 (Nat.le_of_ble_eq_true rfl)
      have E5 : f 5 = _ := ht9 5 (Nat.le_of_ble_eq_true rfl)
      have E6 : (TBits w.heap.size (Cir.bits y' d.ins)) w9 (f 6) := ht9 6 (Nat.le_of_ble_eq_true rfl)
      have E7 : (TFront w.heap.size (Cir.bits y' d.ins)) w9 (f 7) := ht9 7 (Nat.le_of_ble_eq_true rfl)
      have E8 : f 8 = _ := ht9 8 (Nat.le_of_ble_eq_true rfl)
      have E9 : (TSS w.heap.size (Cir.bits y' d.ins :: R)) w9 (f 9) := ht9 9 (Nat.le_of_ble_eq_true rfl)
      have E10 : (TSS w.heap.size (Cir.bits y' d.ins :: R)) w9 (f 10) := ht9 10 (Nat.le_of_ble_eq_true rfl)
      have Ho9 : Only _ w4 w9 := hI9.2.1
      have C10 : f 10 = f 9 := (hcp9 10 _ 28 9 rfl rfl rfl rfl).2
      simp only [putAll, E0, E1, E2, E3, E4, E5, E8, C10, Nat.zero_add, Nat.reduceAdd, Act.put, List.setIfInBounds_toArray, List.set_cons_succ, List.set_cons_zero]
      clear E0 E1 E2 E3 E4 E5 E8
      clear hI9 ht9 hcp9 hk9
      generalize f 6 = r6 at *
      generalize f 7 = r7 at *
      generalize f 9 = r9 at *
      have hb9 := only_below Ho9
      have HS9 := Lib.hid (show SSIn bools (From w.heap.size) w9 r9 (Cir.bits y' d.ins :: R) from E9)
      have Hb9 := Lib.hid (Hb.out.trans (hb9.mono hzb))
      have hc2 := (Hb9.out.cell (p := ⟨bf, of + q, none⟩) hbfl).trans his
      clear hb9 Ho9 E9 E7 E6 p0 p1 p2 p3 z
      obtain ⟨w5, hw5⟩ : ∃ w5, w5 = w9 := ⟨_, rfl⟩
      subst hw5
      go_wp2_with fail
      go_roundw
      case rel => exact ⟨i', s2, p2', y' :: tail, _, rfl, rfl, Hf4, Ht2, by simp, by rw [List.length_cons]; omega, Lib.hid (by rw [Hcons.out]; exact HS9.out), Hb9.out⟩
      case measure => simp [intOf] <;> omega
    · obtain rfl : q = 0 := by omega
      obtain ⟨s0, h0⟩ := HB.out.zero
      have hp : p' = [] := by rw [h0] at Hq; exact (Prod.mk.inj (Option.some.inj Hq.out)).2.symm
      have HT : Hid (p ++ [x] = tail) := Lib.hid (by rw [Ht.out, hp]; rfl)
      clear hp h0
      obtain ⟨Au, cu, hvu, -⟩ := HS.out.at.shape
      subst hvu
      go_wp2_with fail
      go_ret
      exact ⟨⟨_, rfl, by rw [HT.out]; exact HS.out⟩, B0.out.trans (Hb.out.mono B0.out.size)⟩
end Go.Proofs.Ytmlcbikljlhhkaa
