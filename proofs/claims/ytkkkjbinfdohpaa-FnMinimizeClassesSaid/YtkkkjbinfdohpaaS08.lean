import Derived.Test.YtkkkjbinfdohpaaS07
import Derived.Test.YtkkkjbinfdohpaaS06
import Derived.Test.YtkkkjbinfdohpaaS01
import Derived.Test.YtkkkjbinfdohpaaProg
import Derived.Test.YtkkkjbinfdohpaaS02
set_option linter.unusedVariables false
set_option linter.unusedSimpArgs false
set_option maxRecDepth 100000
set_option maxHeartbeats 16000000
namespace Go.Proofs.Ytkkkjbinfdohpaa
namespace Cir
def outN (c : Ci) : Nat → List Nat → List Nat
  | _, [] => []
  | s, x :: xs => num (outsOf c s x) :: outN c (nextOf c s x) xs
theorem outN_get (c : Ci) : ∀ (xs : List Nat) (s i : Nat), (outN c s xs)[i]? = (xs[i]?).map fun x => num (outsOf c (runN c s (xs.take i)) x)
 | [], _, i => by simp [outN]
 | x :: xs, s, 0 => rfl
 | x :: xs, s, i + 1 => by
  rw [outN, List.getElem?_cons_succ, outN_get c xs, List.getElem?_cons_succ, List.take_succ_cons]
  rfl
theorem machN_step {c : Ci} (hc : Ok c) {k s x : Nat} (hs : (reach c)[k]? = some s) (hx : x < 2 ^ c.ins) : Mac.stepO (machN c) k (x : Nat) = (num (outsOf c s x) : Nat) ∧ (reach c)[Mac.stepN (machN c) k (x : Nat)]? = some (nextOf c s x) := by
 constructor
 ·unfold Mac.stepO machN rowO nats
  simp only [List.getD_eq_getElem?_getD, List.getElem?_map, hs, Option.map_some, Option.getD_some, Int.toNat_natCast, List.getElem?_range hx]
  rfl
 ·obtain ⟨i, h1, h2, -⟩ := idxOf_mem (reach_closed hc (List.mem_of_getElem? hs) hx)
  have : Mac.stepN (machN c) k (x : Nat) = i := by
   unfold Mac.stepN machN rowI rowN
   simp only [List.getD_eq_getElem?_getD, List.getElem?_map, hs, Option.map_some, Option.getD_some, Int.toNat_natCast, List.getElem?_range hx, h1]
  rw [this, h2]
theorem mach_outs {c : Ci} (hc : Ok c) : ∀ (xs : List Nat) (s k : Nat), Inputs c xs → (reach c)[k]? = some s → Mac.outs (machN c) k (nats xs) = nats (outN c s xs)
 | [], _, _, _, _ => rfl
 | x :: xs, s, k, hp, hk => by
  obtain ⟨h1, h2⟩ := machN_step hc hk (hp x (by simp))
  show Mac.stepO (machN c) k (x : Nat) :: Mac.outs (machN c) (Mac.stepN (machN c) k (x : Nat)) (nats xs) = _
  rw [h1, mach_outs hc xs _ _ (fun y hy => hp y (List.mem_cons_of_mem _ hy)) h2]
  rfl
theorem reach_pos (c : Ci) : 0 < (reach c).length := (List.getElem?_eq_some_iff.1 (bfs_get (c := c) 9 0 (l := [0]) (i := 0) rfl)).1
theorem reach_first (c : Ci) : (reach c)[0]? = some 0 := bfs_get (c := c) 9 0 (l := [0]) (i := 0) rfl
theorem machN_valid {c : Ci} (hc : Ok c) : Mac.valid (machN c) = true := by
 have h8 := (reach_sts c).len hc
 have h0 := reach_pos c
 have hi := hc.ins
 have ho : 2 ^ c.outs.length ≤ 2 ^ 3 := Nat.pow_le_pow_right (show 0 < 2 by decide) hc.outss
 unfold Mac.valid
 rw [Bool.and_eq_true, Bool.and_eq_true]
 refine ⟨?_, List.all_eq_true.2 fun r hr => ?_, List.all_eq_true.2 fun r hr => ?_⟩
 ·show decide (0 ≤ (c.ins : Int) ∧ (c.ins : Int) ≤ 4 ∧ 1 ≤ ((reach c).map (rowI c)).length ∧ ((reach c).map (rowI c)).length ≤ 8 ∧ ((reach c).map fun s => nats (rowO c s)).length = ((reach c).map (rowI c)).length) = true
  rw [decide_eq_true_iff, List.length_map, List.length_map]
  exact ⟨by omega, by omega, by omega, by omega, rfl⟩
 ·obtain ⟨s, hs, rfl⟩ := List.mem_map.1 (show r ∈ (reach c).map (rowI c) from hr)
  unfold Mac.rowOk Mac.lenOk
  rw [Bool.and_eq_true, decide_eq_true_iff]
  refine ⟨by unfold rowI rowN machN; simp, List.all_eq_true.2 fun y hy => ?_⟩
  unfold rowI rowN at hy
  rw [List.map_map] at hy
  obtain ⟨x, hx, rfl⟩ := List.mem_map.1 hy
  obtain ⟨i, h1, h2, -⟩ := idxOf_mem (reach_closed hc hs (List.mem_range.1 hx))
  have := (List.getElem?_eq_some_iff.1 h2).1
  unfold Mac.inOk machN
  rw [decide_eq_true_iff]
  simp only [Function.comp_apply, h1, List.length_map]
  omega
 ·obtain ⟨s, hs, rfl⟩ := List.mem_map.1 (show r ∈ (reach c).map (fun s => nats (rowO c s)) from hr)
  unfold Mac.rowOk Mac.lenOk
  rw [Bool.and_eq_true, decide_eq_true_iff]
  refine ⟨by unfold rowO nats machN; simp, List.all_eq_true.2 fun y hy => ?_⟩
  unfold rowO nats at hy
  rw [List.map_map] at hy
  obtain ⟨x, hx, rfl⟩ := List.mem_map.1 hy
  have hl := num_lt (outsOf c s x)
  rw [show (outsOf c s x).length = c.outs.length from lits_len _ _] at hl
  unfold Mac.inOk
  rw [decide_eq_true_iff]
  simp only [Function.comp_apply, Int.ofNat_eq_natCast]
  omega
end Cir
end Go.Proofs.Ytkkkjbinfdohpaa
namespace Go.Proofs.Ytkkkjbinfdohpaa
namespace Mac
def cg (C : List Nat) (s : Nat) : Nat := C.getD s 0
def least (R : Nat → Bool) : Nat → Nat → Nat
  | 0, j => j
  | f + 1, j => if R j then j else least R f (j + 1)
theorem least_spec (R : Nat → Bool) : ∀ (f j : Nat), j ≤ least R f j ∧ least R f j ≤ j + f ∧ (least R f j < j + f → R (least R f j) = true) ∧ ∀ t, j ≤ t → t < least R f j → R t = false
 | 0, j => ⟨Nat.le_refl _, Nat.le_refl _, fun h => absurd h (Nat.lt_irrefl _), fun t h1 h2 => by unfold least at h2; omega⟩
 | f + 1, j => by
  unfold least
  split
  ·rename_i h
   exact ⟨Nat.le_refl _, by omega, fun _ => h, fun t h1 h2 => by omega⟩
  ·rename_i h
   obtain ⟨h1, h2, h3, h4⟩ := least_spec R f (j + 1)
   refine ⟨by omega, by omega, fun h' => h3 (by omega), fun t h5 h6 => ?_⟩
   by_cases e : t = j
   ·subst e; simpa using h
   ·exact h4 t (by omega) h6
theorem least_eq {R : Nat → Bool} {s j : Nat} (hj : j ≤ s) (h : ∀ t, t < j → R t = false) (hR : j = s ∨ R j = true) : least R s 0 = j := by
 obtain ⟨-, h2, h3, h4⟩ := least_spec R s 0
 rcases Nat.lt_trichotomy (least R s 0) j with h5 | h5 | h5
 ·have h6 := h _ h5
  rw [h3 (by omega)] at h6
  cases h6
 ·exact h5
 ·rcases hR with rfl | hR
  ·omega
  ·have := h4 j (by omega) h5
   rw [hR] at this
   cases this
section
variable {κ : Type} [DecidableEq κ]
def mkK (key : Nat → κ) (n : Nat) : List Nat := (List.range n).map fun s => least (fun t => decide (key t = key s)) s 0
theorem mkK_len (key : Nat → κ) (n : Nat) : (mkK key n).length = n := by unfold mkK; simp
theorem mkK_get (key : Nat → κ) {n s : Nat} (hs : s < n) : (mkK key n)[s]? = some (least (fun t => decide (key t = key s)) s 0) := by
 unfold mkK
 rw [List.getElem?_map, List.getElem?_range hs]
 rfl
theorem mkK_cg (key : Nat → κ) {n s : Nat} (hs : s < n) : cg (mkK key n) s = least (fun t => decide (key t = key s)) s 0 := by
 unfold cg
 rw [List.getD_eq_getElem?_getD, mkK_get key hs]
 rfl
theorem mkK_facts (key : Nat → κ) {n s : Nat} (hs : s < n) : cg (mkK key n) s ≤ s ∧ key (cg (mkK key n) s) = key s ∧ ∀ t, t < cg (mkK key n) s → key t ≠ key s := by
 rw [mkK_cg key hs]
 obtain ⟨-, h2, h3, h4⟩ := least_spec (fun t => decide (key t = key s)) s 0
 refine ⟨by omega, ?_, fun t ht e => ?_⟩
 ·by_cases h : least (fun t => decide (key t = key s)) s 0 < s
  ·simpa using h3 (by omega)
  ·rw [show least (fun t => decide (key t = key s)) s 0 = s by omega]
 ·have := h4 t (by omega) ht
  simp [e] at this
theorem mkK_iff (key : Nat → κ) {n a b : Nat} (ha : a < n) (hb : b < n) : cg (mkK key n) a = cg (mkK key n) b ↔ key a = key b := by
 obtain ⟨a1, a2, a3⟩ := mkK_facts key ha
 obtain ⟨b1, b2, b3⟩ := mkK_facts key hb
 constructor
 ·intro h
  rw [← a2, ← b2, h]
 ·intro h
  rcases Nat.lt_trichotomy (cg (mkK key n) a) (cg (mkK key n) b) with h5 | h5 | h5
  ·exact absurd (a2.trans h) (b3 _ h5)
  ·exact h5
  ·exact absurd (b2.trans h.symm) (a3 _ h5)
end
structure Cl (n : Nat) (C : List Nat) : Prop where
  len : C.length = n
  le : ∀ s, s < n → cg C s ≤ s
  root : ∀ s, s < n → cg C (cg C s) = cg C s
theorem mkK_cl {κ : Type} [DecidableEq κ] (key : Nat → κ) (n : Nat) : Cl n (mkK key n) :=
 ⟨mkK_len key n, fun s hs => (mkK_facts key hs).1, fun s hs => by
  obtain ⟨h1, h2, h3⟩ := mkK_facts key hs
  exact (mkK_iff key (by omega) hs).2 h2⟩
theorem Cl.ext {n : Nat} {C C' : List Nat} (h : Cl n C) (h' : Cl n C') (he : ∀ a b, a < n → b < n → (cg C a = cg C b ↔ cg C' a = cg C' b)) : C = C' := by
 have hc : ∀ s, s < n → cg C s = cg C' s := fun s hs => by
  have h1 := h.le s hs
  have h2 := h'.le s hs
  have e1 := (he (cg C s) s (by omega) hs).1 (h.root s hs)
  have e2 := (he (cg C' s) s (by omega) hs).2 (h'.root s hs)
  have h3 := h'.le (cg C s) (by omega)
  have h4 := h.le (cg C' s) (by omega)
  omega
 apply List.ext_getElem
 ·rw [h.len, h'.len]
 ·intro i h1 h2
  have := hc i (by rw [← h.len]; exact h1)
  unfold cg at this
  rwa [List.getD_eq_getElem?_getD, List.getD_eq_getElem?_getD, List.getElem?_eq_getElem h1, List.getElem?_eq_getElem h2, Option.getD_some, Option.getD_some] at this
def Finer (n : Nat) (C' C : List Nat) : Prop := ∀ a b, a < n → b < n → cg C' a = cg C' b → cg C a = cg C b
def roots (n : Nat) (C : List Nat) : Nat := (List.range n).countP fun s => cg C s == s
theorem count_lt {p q : Nat → Bool} : ∀ (l : List Nat), (∀ s ∈ l, p s = true → q s = true) → l.countP p ≤ l.countP q ∧ ((∃ s ∈ l, q s = true ∧ p s = false) → l.countP p < l.countP q)
 | [], _ => ⟨Nat.le_refl _, fun ⟨s, hs, _⟩ => by simp at hs⟩
 | a :: l, h => by
  obtain ⟨h1, h2⟩ := count_lt l (fun s hs => h s (List.mem_cons_of_mem _ hs))
  have ha := h a (by simp)
  rw [List.countP_cons, List.countP_cons]
  refine ⟨?_, ?_⟩
  ·cases hp : p a
   ·simp; omega
   ·rw [ha hp]; simp; omega
  ·rintro ⟨s, hs, hq, hp⟩
   rcases List.mem_cons.1 hs with rfl | hs
   ·rw [hq, hp]; simp; omega
   ·have := h2 ⟨s, hs, hq, hp⟩
    cases hp : p a
    ·simp; omega
    ·rw [ha hp]; simp; omega
theorem roots_lt {n : Nat} {C C' : List Nat} (h : Cl n C) (h' : Cl n C') (hf : Finer n C' C) (hne : C' ≠ C) : roots n C < roots n C' := by
 unfold roots
 have hroot : ∀ s ∈ List.range n, (cg C s == s) = true → (cg C' s == s) = true := fun s hs hr => by
  have hs := List.mem_range.1 hs
  rw [beq_iff_eq] at hr ⊢
  have h1 := h'.le s hs
  have h2 := hf (cg C' s) s (by omega) hs (h'.root s hs)
  have h3 := h.le (cg C' s) (by omega)
  omega
 refine (count_lt _ hroot).2 ?_
 apply Classical.byContradiction
 intro hno
 apply hne
 have hall : ∀ s, s < n → cg C' s = s → cg C s = s := fun s hs e => by
  apply Classical.byContradiction
  intro hc
  exact hno ⟨s, List.mem_range.2 hs, by simpa using e, by simpa using hc⟩
 refine (Cl.ext h h' fun a b ha hb => ⟨fun e => ?_, hf a b ha hb⟩).symm
 -- the root of a in C' is a root in C
 have g : ∀ s, s < n → cg C s = cg C' s := fun s hs => by
  have h1 := h'.le s hs
  have h2 := hf (cg C' s) s (by omega) hs (h'.root s hs)
  have h3 := hall (cg C' s) (by omega) (h'.root s hs)
  omega
 rw [← g a ha, ← g b hb, e]
theorem roots_le (n : Nat) (C : List Nat) : roots n C ≤ n := by
 unfold roots
 exact Nat.le_trans List.countP_le_length (by simp)
theorem roots_pos {n : Nat} {C : List Nat} (h : Cl n C) (hn : 0 < n) : 0 < roots n C := by
 unfold roots
 rw [List.countP_pos_iff]
 exact ⟨0, List.mem_range.2 hn, by have := h.le 0 hn; simp; omega⟩
theorem seq_still {n : Nat} {f : Nat → List Nat} (hn : 0 < n) (hc : ∀ k, Cl n (f k)) (hf : ∀ k, Finer n (f (k + 1)) (f k)) : ∀ K, (∀ k, k < K → f (k + 1) ≠ f k) → K + 1 ≤ roots n (f K)
 | 0, _ => roots_pos (hc 0) hn
 | K + 1, h => by
  have h1 := seq_still hn hc hf K (fun k hk => h k (by omega))
  have h2 := roots_lt (hc K) (hc (K + 1)) (hf K) (h K (by omega))
  omega
theorem seq_stable {f : Nat → List Nat} {G : List Nat → List Nat} (hG : ∀ k, f (k + 1) = G (f k)) {k : Nat} (h : f (k + 1) = f k) : ∀ d, f (k + d) = f k
 | 0 => rfl
 | d + 1 => by
  have e1 : f (k + (d + 1)) = G (f (k + d)) := hG (k + d)
  rw [e1, seq_stable hG h d, ← hG k, h]
theorem seq_bound {n : Nat} {f : Nat → List Nat} (hn : 0 < n) (hc : ∀ k, Cl n (f k)) (hf : ∀ k, Finer n (f (k + 1)) (f k)) {K : Nat} (h : ∀ k, k < K → f (k + 1) ≠ f k) : K < n := by
 have := seq_still hn hc hf K h
 have := roots_le n (f K)
 omega
theorem seq_end {n : Nat} {f : Nat → List Nat} {G : List Nat → List Nat} (hn : 0 < n) (hG : ∀ k, f (k + 1) = G (f k)) (hc : ∀ k, Cl n (f k)) (hf : ∀ k, Finer n (f (k + 1)) (f k)) (d : Nat) : f (n + d + 1) = f (n + d) ∧ ∀ k, f (k + 1) = f k → f k = f (n + d) := by
 obtain ⟨k, hk, he⟩ : ∃ k, k < n ∧ f (k + 1) = f k := by
  apply Classical.byContradiction
  intro hno
  have := seq_bound (K := n) hn hc hf (fun k hk e => hno ⟨k, hk, e⟩)
  omega
 have e1 : ∀ j, n ≤ j → f j = f k := fun j hj => by
  obtain ⟨d, rfl⟩ : ∃ d, j = k + d := ⟨j - k, by omega⟩
  exact seq_stable hG he d
 refine ⟨by rw [e1 _ (by omega), e1 (n + d) (by omega)], fun j hj => ?_⟩
 rcases Nat.lt_or_ge j (n + d) with h | h
 ·obtain ⟨e, he⟩ : ∃ e, n + d = j + e := ⟨n + d - j, by omega⟩
  rw [he, seq_stable hG hj e]
 ·rw [e1 j (by omega), e1 (n + d) (by omega)]
end Mac
end Go.Proofs.Ytkkkjbinfdohpaa
namespace Go.Proofs.Ytkkkjbinfdohpaa
namespace Mac
def nrow (next : List (List Int)) (a : Nat) : List Int := next.getD a []
def key0 (out : List (List Int)) (a : Nat) : List Int := out.getD a []
def keyI (next : List (List Int)) (C : List Nat) (a : Nat) : Nat × List Nat := (cg C a, (nrow next a).map fun y => cg C y.toNat)
def keyS (next out : List (List Int)) (C : List Nat) (a : Nat) : Nat × List Int × List Nat := (cg C a, key0 out a, (nrow next a).map fun y => cg C y.toNat)
def seqI (next out : List (List Int)) : Nat → List Nat
  | 0 => mkK (key0 out) next.length
  | k + 1 => mkK (keyI next (seqI next out k)) next.length
def seqS (next out : List (List Int)) : Nat → List Nat
  | 0 => List.replicate next.length 0
  | k + 1 => mkK (keyS next out (seqS next out k)) next.length
def classI (next out : List (List Int)) : List Nat := seqI next out (next.length + 1)
def classS (next out : List (List Int)) : List Nat := seqS next out (next.length + 1)
theorem seqI_cl (next out : List (List Int)) : ∀ k, Cl next.length (seqI next out k)
 | 0 => mkK_cl _ _
 | _ + 1 => mkK_cl _ _
theorem seqS_cl (next out : List (List Int)) : ∀ k, Cl next.length (seqS next out k)
 | 0 => ⟨by simp [seqS], fun s hs => by simp [seqS, cg, List.getD_eq_getElem?_getD, List.getElem?_replicate, hs], fun s hs => by
   have h0 : ∀ s, cg (List.replicate next.length 0) s = 0 := fun s => by
    unfold cg
    rw [List.getD_eq_getElem?_getD, List.getElem?_replicate]
    split <;> rfl
   unfold seqS
   rw [h0, h0]⟩
 | _ + 1 => mkK_cl _ _
theorem seqI_finer (next out : List (List Int)) (k : Nat) : Finer next.length (seqI next out (k + 1)) (seqI next out k) := fun a b ha hb h => by
 have := (mkK_iff _ ha hb).1 h
 exact congrArg Prod.fst this
theorem seqS_finer (next out : List (List Int)) (k : Nat) : Finer next.length (seqS next out (k + 1)) (seqS next out k) := fun a b ha hb h => by
 have := (mkK_iff _ ha hb).1 h
 exact congrArg Prod.fst this
theorem seqI_end (next out : List (List Int)) (hn : 0 < next.length) : seqI next out (next.length + 2) = classI next out ∧ ∀ k, seqI next out (k + 1) = seqI next out k → seqI next out k = classI next out :=
 seq_end (G := fun C => mkK (keyI next C) next.length) hn (fun _ => rfl) (seqI_cl next out) (seqI_finer next out) 1
theorem seqS_end (next out : List (List Int)) (hn : 0 < next.length) : seqS next out (next.length + 2) = classS next out ∧ ∀ k, seqS next out (k + 1) = seqS next out k → seqS next out k = classS next out :=
 seq_end (G := fun C => mkK (keyS next out C) next.length) hn (fun _ => rfl) (seqS_cl next out) (seqS_finer next out) 1
structure Tab where
  n : Nat
  M : Nat
  nx : Nat → Nat → Nat
  ou : Nat → Nat → Int
  pos : 0 < M
  lt : ∀ s x, s < n → nx s x < n
  nmod : ∀ s x, nx s (x % M) = nx s x
  omod : ∀ s x, ou s (x % M) = ou s x
def beh (T : Tab) : Nat → List Nat → List Int
  | _, [] => []
  | s, x :: xs => T.ou s x :: beh T (T.nx s x) xs
structure Rows (T : Tab) (next out : List (List Int)) : Prop where
  len : next.length = T.n
  row : ∀ a, a < T.n → nrow next a = (List.range T.M).map fun x => ((T.nx a x : Nat) : Int)
  outs : ∀ a, a < T.n → key0 out a = (List.range T.M).map (T.ou a)
theorem map_range_inj {α : Type} {M : Nat} {f g : Nat → α} : (List.range M).map f = (List.range M).map g ↔ ∀ x, x < M → f x = g x := by
 constructor
 ·intro h x hx
  have := congrArg (fun l => l[x]?) h
  simpa [List.getElem?_map, List.getElem?_range hx] using this
 ·intro h
  exact List.map_congr_left fun x hx => h x (List.mem_range.1 hx)
theorem key0_iff {T : Tab} {next out : List (List Int)} (h : Rows T next out) {a b : Nat} (ha : a < T.n) (hb : b < T.n) : key0 out a = key0 out b ↔ ∀ x, T.ou a x = T.ou b x := by
 rw [h.outs a ha, h.outs b hb, map_range_inj]
 exact ⟨fun h x => by rw [← T.omod a, ← T.omod b]; exact h _ (Nat.mod_lt _ T.pos), fun h x _ => h x⟩
theorem row_iff {T : Tab} {next out : List (List Int)} (h : Rows T next out) (C : List Nat) {a b : Nat} (ha : a < T.n) (hb : b < T.n) : (nrow next a).map (fun y => cg C y.toNat) = (nrow next b).map (fun y => cg C y.toNat) ↔ ∀ x, cg C (T.nx a x) = cg C (T.nx b x) := by
 rw [h.row a ha, h.row b hb, List.map_map, List.map_map, map_range_inj]
 simp only [Function.comp, Int.toNat_natCast]
 exact ⟨fun h x => by rw [← T.nmod a, ← T.nmod b]; exact h _ (Nat.mod_lt _ T.pos), fun h x _ => h x⟩
theorem beh_of_stable {T : Tab} {C : List Nat} (h1 : ∀ a b, a < T.n → b < T.n → cg C a = cg C b → ∀ x, T.ou a x = T.ou b x) (h2 : ∀ a b, a < T.n → b < T.n → cg C a = cg C b → ∀ x, cg C (T.nx a x) = cg C (T.nx b x)) : ∀ (xs : List Nat) (a b : Nat), a < T.n → b < T.n → cg C a = cg C b → beh T a xs = beh T b xs
 | [], _, _, _, _, _ => rfl
 | x :: xs, a, b, ha, hb, h => by
  rw [beh, beh, h1 a b ha hb h x, beh_of_stable h1 h2 xs _ _ (T.lt _ _ ha) (T.lt _ _ hb) (h2 a b ha hb h x)]
theorem beh_next {T : Tab} {a b : Nat} (h : beh T a = beh T b) (x : Nat) : beh T (T.nx a x) = beh T (T.nx b x) := by
 funext xs
 have := congrFun h (x :: xs)
 rw [beh, beh] at this
 exact (List.cons.inj this).2
theorem beh_out {T : Tab} {a b : Nat} (h : beh T a = beh T b) (x : Nat) : T.ou a x = T.ou b x := by
 have := congrFun h [x]
 rw [beh, beh] at this
 exact (List.cons.inj this).1
theorem seqI_beh {T : Tab} {next out : List (List Int)} (h : Rows T next out) {a b : Nat} (ha : a < T.n) (hb : b < T.n) (he : beh T a = beh T b) : ∀ k, cg (seqI next out k) a = cg (seqI next out k) b := by
 intro k
 induction k generalizing a b with
 | zero =>
  unfold seqI
  rw [mkK_iff _ (by rw [h.len]; exact ha) (by rw [h.len]; exact hb), key0_iff h ha hb]
  exact beh_out he
 | succ k ih =>
  unfold seqI
  rw [mkK_iff _ (by rw [h.len]; exact ha) (by rw [h.len]; exact hb)]
  unfold keyI
  rw [Prod.mk.injEq, row_iff h _ ha hb]
  exact ⟨ih ha hb he, fun x => ih (T.lt _ _ ha) (T.lt _ _ hb) (beh_next he x)⟩
theorem seqS_beh {T : Tab} {next out : List (List Int)} (h : Rows T next out) {a b : Nat} (ha : a < T.n) (hb : b < T.n) (he : beh T a = beh T b) : ∀ k, cg (seqS next out k) a = cg (seqS next out k) b := by
 intro k
 induction k generalizing a b with
 | zero =>
  unfold seqS cg
  rw [List.getD_eq_getElem?_getD, List.getD_eq_getElem?_getD, List.getElem?_replicate, List.getElem?_replicate]
  split <;> split <;> rfl
 | succ k ih =>
  unfold seqS
  rw [mkK_iff _ (by rw [h.len]; exact ha) (by rw [h.len]; exact hb)]
  unfold keyS
  rw [Prod.mk.injEq, Prod.mk.injEq, row_iff h _ ha hb, key0_iff h ha hb]
  exact ⟨ih ha hb he, beh_out he, fun x => ih (T.lt _ _ ha) (T.lt _ _ hb) (beh_next he x)⟩
theorem seqI_out {T : Tab} {next out : List (List Int)} (h : Rows T next out) {a b : Nat} (ha : a < T.n) (hb : b < T.n) : ∀ k, cg (seqI next out k) a = cg (seqI next out k) b → ∀ x, T.ou a x = T.ou b x
 | 0, he => (key0_iff h ha hb).1 ((mkK_iff _ (by rw [h.len]; exact ha) (by rw [h.len]; exact hb)).1 he)
 | k + 1, he => seqI_out h ha hb k (seqI_finer next out k a b (by rw [h.len]; exact ha) (by rw [h.len]; exact hb) he)
theorem classI_iff {T : Tab} {next out : List (List Int)} (h : Rows T next out) {a b : Nat} (ha : a < T.n) (hb : b < T.n) : cg (classI next out) a = cg (classI next out) b ↔ beh T a = beh T b := by
 refine ⟨fun he => ?_, fun he => seqI_beh h ha hb he _⟩
 funext xs
 refine beh_of_stable (C := classI next out) (fun a b ha hb h' => seqI_out h ha hb _ h') (fun a b ha hb h' => ?_) xs a b ha hb he
 rw [← (seqI_end next out (by rw [h.len]; omega)).1] at h'
 have := (mkK_iff _ (by rw [h.len]; exact ha) (by rw [h.len]; exact hb)).1 h'
 unfold keyI at this
 rw [Prod.mk.injEq, row_iff h _ ha hb] at this
 exact this.2
theorem classS_iff {T : Tab} {next out : List (List Int)} (h : Rows T next out) {a b : Nat} (ha : a < T.n) (hb : b < T.n) : cg (classS next out) a = cg (classS next out) b ↔ beh T a = beh T b := by
 refine ⟨fun he => ?_, fun he => seqS_beh h ha hb he _⟩
 funext xs
 have key : ∀ a b, a < T.n → b < T.n → cg (classS next out) a = cg (classS next out) b → (∀ x, T.ou a x = T.ou b x) ∧ ∀ x, cg (classS next out) (T.nx a x) = cg (classS next out) (T.nx b x) := fun a b ha hb h' => by
  rw [← (seqS_end next out (by rw [h.len]; omega)).1] at h'
  have := (mkK_iff _ (by rw [h.len]; exact ha) (by rw [h.len]; exact hb)).1 h'
  unfold keyS at this
  rw [Prod.mk.injEq, Prod.mk.injEq, row_iff h _ ha hb, key0_iff h ha hb] at this
  exact this.2
 exact beh_of_stable (C := classS next out) (fun a b ha hb h' => (key a b ha hb h').1) (fun a b ha hb h' => (key a b ha hb h').2) xs a b ha hb he
theorem class_same {T : Tab} {next out : List (List Int)} (h : Rows T next out) : classS next out = classI next out :=
 Cl.ext (seqS_cl next out _) (seqI_cl next out _) fun a b ha hb => by
  rw [h.len] at ha hb
  rw [classS_iff h ha hb, classI_iff h ha hb]
end Mac
end Go.Proofs.Ytkkkjbinfdohpaa
namespace Go.Proofs.Ytkkkjbinfdohpaa
namespace Mac
section
variable {α : Type} [DecidableEq α]
def pushG (l : List α) (a : α) : List α := if a ∈ l then l else l ++ [a]
def pushesG (l xs : List α) : List α := xs.foldl pushG l
def bfsG (succ : α → List α) : Nat → Nat → List α → List α
  | 0, _, l => l
  | f + 1, k, l => match l[k]? with
    | none => l
    | some s => bfsG succ f (k + 1) (pushesG l (succ s))
def idxG (l : List α) (a : α) : Nat := l.findIdx fun b => decide (b = a)
theorem mem_pushG {l : List α} {a x : α} : x ∈ pushG l a ↔ x ∈ l ∨ x = a := by
 unfold pushG
 split
 ·rename_i h
  exact ⟨.inl, fun h' => h'.elim id fun e => e ▸ h⟩
 ·simp
theorem mem_pushesG {x : α} : ∀ (xs l : List α), x ∈ pushesG l xs ↔ x ∈ l ∨ x ∈ xs
 | [], l => by simp [pushesG]
 | a :: xs, l => by
  have := mem_pushesG xs (pushG l a) (x := x)
  unfold pushesG at this ⊢
  rw [List.foldl_cons, this, mem_pushG, List.mem_cons, or_assoc]
theorem pushG_nodup {l : List α} (h : l.Nodup) (a : α) : (pushG l a).Nodup := by
 unfold pushG
 split
 ·exact h
 ·rename_i hn
  rw [List.nodup_append]
  refine ⟨h, by simp, fun x hx y hy => ?_⟩
  simp at hy
  subst hy
  exact fun e => hn (e ▸ hx)
theorem pushesG_nodup : ∀ (xs : List α) {l : List α}, l.Nodup → (pushesG l xs).Nodup
 | [], _, h => h
 | a :: xs, l, h => pushesG_nodup xs (pushG_nodup h a)
theorem pushG_prefix (l : List α) (a : α) : ∃ m, pushG l a = l ++ m := by
 unfold pushG
 split
 ·exact ⟨[], by simp⟩
 ·exact ⟨[a], rfl⟩
theorem pushesG_prefix : ∀ (xs l : List α), ∃ m, pushesG l xs = l ++ m
 | [], l => ⟨[], by simp [pushesG]⟩
 | a :: xs, l => by
  obtain ⟨m, hm⟩ := pushG_prefix l a
  obtain ⟨m', hm'⟩ := pushesG_prefix xs (pushG l a)
  refine ⟨m ++ m', ?_⟩
  show pushesG (pushG l a) xs = _
  rw [hm', hm, List.append_assoc]
theorem bfsG_prefix (succ : α → List α) : ∀ (f k : Nat) (l : List α), ∃ m, bfsG succ f k l = l ++ m
 | 0, _, l => ⟨[], by simp [bfsG]⟩
 | f + 1, k, l => by
  rw [bfsG]
  split
  ·exact ⟨[], by simp⟩
  ·rename_i s _
   obtain ⟨m, hm⟩ := pushesG_prefix (succ s) l
   obtain ⟨m', hm'⟩ := bfsG_prefix succ f (k + 1) (pushesG l (succ s))
   exact ⟨m ++ m', by rw [hm', hm, List.append_assoc]⟩
theorem bfsG_step {succ : α → List α} {f k : Nat} {l : List α} {s : α} (h : l[k]? = some s) : bfsG succ (f + 1) k l = bfsG succ f (k + 1) (pushesG l (succ s)) := by
 rw [bfsG, h]
theorem bfsG_end {succ : α → List α} {f : Nat} {l : List α} : bfsG succ f l.length l = l := by
 cases f with
 | zero => rfl
 | succ f => rw [bfsG, List.getElem?_eq_none (Nat.le_refl _)]
theorem bfsG_nodup (succ : α → List α) : ∀ (f k : Nat) {l : List α}, l.Nodup → (bfsG succ f k l).Nodup
 | 0, _, _, h => h
 | f + 1, k, l, h => by
  rw [bfsG]
  split
  ·exact h
  ·exact bfsG_nodup succ f (k + 1) (pushesG_nodup _ h)
theorem bfsG_all {succ : α → List α} {P : α → Prop} (hs : ∀ a, P a → ∀ b ∈ succ a, P b) : ∀ (f k : Nat) {l : List α}, (∀ a ∈ l, P a) → ∀ a ∈ bfsG succ f k l, P a
 | 0, _, _, h => h
 | f + 1, k, l, h => by
  rw [bfsG]
  split
  ·exact h
  ·rename_i s hk
   exact bfsG_all hs f (k + 1) fun a ha => ((mem_pushesG _ _).1 ha).elim (h a) (hs s (h s (List.mem_of_getElem? hk)) a)
theorem bfsG_closed {succ : α → List α} {P : α → Prop} {N : Nat} (hs : ∀ a, P a → ∀ b ∈ succ a, P b) (hN : ∀ l : List α, l.Nodup → (∀ a ∈ l, P a) → l.length ≤ N) : ∀ (f k : Nat) (l : List α), N < f + k → l.Nodup → (∀ a ∈ l, P a) → k ≤ l.length → (∀ i s, i < k → l[i]? = some s → ∀ b ∈ succ s, b ∈ l) → ∀ s ∈ bfsG succ f k l, ∀ b ∈ succ s, b ∈ bfsG succ f k l
 | 0, k, l, hf, hn, hl, hk, _ => absurd (hN l hn hl) (by omega)
 | f + 1, k, l, hf, hn, hl, hk, h => by
  rw [bfsG]
  cases hs' : l[k]? with
  | none =>
   intro s hm b hb
   have hm : s ∈ l := hm
   obtain ⟨i, hi, rfl⟩ := List.mem_iff_getElem.1 hm
   have hkl : l.length ≤ k := by simpa using hs'
   exact h i _ (by omega) (List.getElem?_eq_getElem hi) b hb
  | some s =>
   obtain ⟨m, hm⟩ := pushesG_prefix (succ s) l
   have hkl := (List.getElem?_eq_some_iff.1 hs').1
   refine bfsG_closed hs hN f (k + 1) (pushesG l (succ s)) (by omega) (pushesG_nodup _ hn) (fun a ha => ((mem_pushesG _ _).1 ha).elim (hl a) (hs s (hl s (List.mem_of_getElem? hs')) a)) (by rw [hm, List.length_append]; omega) (fun i t hi ht b hb => ?_)
   rw [hm, List.getElem?_append_left (by omega)] at ht
   by_cases e : i = k
   ·subst e
    rw [hs'] at ht
    obtain rfl := Option.some.inj ht
    exact (mem_pushesG _ _).2 (.inr hb)
   ·exact (mem_pushesG _ _).2 (.inl (h i t (by omega) ht b hb))
theorem idxG_get {l : List α} {a : α} (h : a ∈ l) : l[idxG l a]? = some a ∧ idxG l a < l.length := by
 have hl : idxG l a < l.length := List.findIdx_lt_length_of_exists ⟨a, h, by simp⟩
 refine ⟨?_, hl⟩
 have := List.findIdx_getElem (xs := l) (p := fun b => decide (b = a)) (w := hl)
 rw [List.getElem?_eq_getElem hl]
 exact congrArg some (of_decide_eq_true this)
theorem idxG_append {l m : List α} {a : α} (h : a ∈ l) : idxG (l ++ m) a = idxG l a := by
 have h2 := (idxG_get h).2
 unfold idxG at h2 ⊢
 rw [List.findIdx_append, if_pos h2]
theorem idxG_new {l : List α} {a : α} (h : a ∉ l) : idxG (l ++ [a]) a = l.length := by
 have h1 : idxG l a = l.length := by
  unfold idxG
  rw [List.findIdx_eq_length]
  intro b hb
  simp only [decide_eq_false_iff_not]
  rintro rfl
  exact h hb
 unfold idxG at h1 ⊢
 rw [List.findIdx_append, if_neg (by omega)]
 simp [List.findIdx_cons]
end
section
variable {α β : Type} [DecidableEq α] [DecidableEq β] {f : α → β} {P : α → Prop}
set_option linter.unusedSectionVars false in
theorem map_mem (inj : ∀ a b, P a → P b → f a = f b → a = b) {l : List α} (hl : ∀ a ∈ l, P a) {a : α} (ha : P a) : f a ∈ l.map f ↔ a ∈ l := by
 rw [List.mem_map]
 exact ⟨fun ⟨b, hb, e⟩ => inj b a (hl b hb) ha e ▸ hb, fun h => ⟨a, h, rfl⟩⟩
theorem map_pushG (inj : ∀ a b, P a → P b → f a = f b → a = b) {l : List α} (hl : ∀ a ∈ l, P a) {a : α} (ha : P a) : (pushG l a).map f = pushG (l.map f) (f a) := by
 unfold pushG
 by_cases h : a ∈ l
 ·rw [if_pos h, if_pos ((map_mem inj hl ha).2 h)]
 ·rw [if_neg h, if_neg (fun h' => h ((map_mem inj hl ha).1 h')), List.map_append, List.map_singleton]
theorem map_pushesG (inj : ∀ a b, P a → P b → f a = f b → a = b) : ∀ (xs l : List α), (∀ a ∈ l, P a) → (∀ a ∈ xs, P a) → (pushesG l xs).map f = pushesG (l.map f) (xs.map f)
 | [], _, _, _ => rfl
 | a :: xs, l, hl, hx => by
  have := map_pushesG inj xs (pushG l a) (fun b hb => (mem_pushG.1 hb).elim (hl b) fun e => e ▸ hx a (by simp)) (fun b hb => hx b (List.mem_cons_of_mem _ hb))
  show (pushesG (pushG l a) xs).map f = pushesG (pushG (l.map f) (f a)) (xs.map f)
  rw [this, map_pushG inj hl (hx a (by simp))]
theorem map_bfsG (inj : ∀ a b, P a → P b → f a = f b → a = b) {s1 : α → List α} {s2 : β → List β} (hs : ∀ a, P a → ∀ b ∈ s1 a, P b) (hc : ∀ a, P a → (s1 a).map f = s2 (f a)) : ∀ (n k : Nat) (l : List α), (∀ a ∈ l, P a) → (bfsG s1 n k l).map f = bfsG s2 n k (l.map f)
 | 0, _, _, _ => rfl
 | n + 1, k, l, hl => by
  rw [bfsG, bfsG, List.getElem?_map]
  cases hk : l[k]? with
  | none => rfl
  | some s =>
   have hP := hl s (List.mem_of_getElem? hk)
   simp only [Option.map_some]
   rw [map_bfsG inj hs hc n (k + 1) _ (fun a ha => ((mem_pushesG _ _).1 ha).elim (hl a) (hs s hP a)), map_pushesG inj _ _ hl (hs s hP), hc s hP]
theorem map_idxG (inj : ∀ a b, P a → P b → f a = f b → a = b) {a : α} (ha : P a) : ∀ (l : List α), (∀ a ∈ l, P a) → idxG (l.map f) (f a) = idxG l a
 | [], _ => rfl
 | b :: l, hl => by
  have ih := map_idxG inj ha l (fun a h => hl a (List.mem_cons_of_mem _ h))
  unfold idxG at ih ⊢
  rw [List.map_cons, List.findIdx_cons, List.findIdx_cons, ih]
  by_cases h : b = a
  ·subst h; simp
  ·have : f b ≠ f a := fun e => h (inj b a (hl b (by simp)) ha e)
   simp [h, this]
end
theorem nodup_lt : ∀ (N : Nat) (l : List Nat), l.Nodup → (∀ x ∈ l, x < N) → l.length ≤ N
 | 0, l, _, h => by
  cases l with
  | nil => simp
  | cons a l => exact absurd (h a (by simp)) (by omega)
 | N + 1, l, hn, h => by
  by_cases hm : N ∈ l
  ·have h1 := nodup_lt N (l.erase N) (hn.erase N) (fun x hx => by
    have h2 := (List.Nodup.mem_erase_iff hn).1 hx
    have h3 := h x h2.2
    have h4 := h2.1
    omega)
   rw [List.length_erase_of_mem hm] at h1
   omega
  ·have := nodup_lt N l hn (fun x hx => by
    have h3 := h x hx
    have h4 : x ≠ N := fun e => hm (e ▸ hx)
    omega)
   omega
def succL (next : List (List Int)) (C : List Nat) (s : Nat) : List Nat := (nrow next s).map fun y => cg C y.toNat
def ordL (next : List (List Int)) (C : List Nat) : List Nat := bfsG (succL next C) 9 0 [0]
def minL (ins : Int) (next out : List (List Int)) (C : List Nat) : Mz :=
  ⟨ins, (ordL next C).map fun s => (succL next C s).map fun c => ((idxG (ordL next C) c : Nat) : Int), (ordL next C).map (key0 out)⟩
def zeroM : Mz := ⟨0, [], []⟩
def minI (m : Mz) : Mz := if valid m then minL m.ins m.next m.out (classI m.next m.out) else zeroM
def minS (m : Mz) : Mz := if valid m then minL m.ins m.next m.out (classS m.next m.out) else zeroM
def nextB (β : List Nat → List Int) (x : Nat) : List Nat → List Int := fun xs => (β (x :: xs)).tail
def outB (β : List Nat → List Int) (x : Nat) : Int := (β [x]).headD 0
open Classical in
noncomputable def succB (M : Nat) (β : List Nat → List Int) : List (List Nat → List Int) := (List.range M).map (nextB β)
open Classical in
noncomputable def ordB (M : Nat) (β : List Nat → List Int) : List (List Nat → List Int) := bfsG (succB M) 9 0 [β]
open Classical in
noncomputable def buildB (ins : Int) (M : Nat) (β : List Nat → List Int) : Mz :=
  ⟨ins, (ordB M β).map fun γ => (succB M γ).map fun c => ((idxG (ordB M β) c : Nat) : Int), (ordB M β).map fun γ => (List.range M).map (outB γ)⟩
theorem nextB_beh (T : Tab) (s x : Nat) : nextB (beh T s) x = beh T (T.nx s x) := rfl
section
variable {T : Tab} {next out : List (List Int)} (h : Rows T next out)
include h
theorem class_le {s : Nat} (hs : s < T.n) : cg (classI next out) s ≤ s := (seqI_cl next out _).le s (by rw [h.len]; exact hs)
theorem class_root {s : Nat} (hs : s < T.n) : cg (classI next out) (cg (classI next out) s) = cg (classI next out) s := (seqI_cl next out _).root s (by rw [h.len]; exact hs)
theorem class_beh {s : Nat} (hs : s < T.n) : beh T (cg (classI next out) s) = beh T s :=
 (classI_iff h (Nat.lt_of_le_of_lt (class_le h hs) hs) hs).1 (class_root h hs)
theorem class_zero (h0 : 0 < T.n) : cg (classI next out) 0 = 0 := Nat.le_zero.1 (class_le h h0)
theorem succL_eq {s : Nat} (hs : s < T.n) : succL next (classI next out) s = (List.range T.M).map fun x => cg (classI next out) (T.nx s x) := by
 unfold succL
 rw [h.row s hs, List.map_map]
 rfl
def Rep (T : Tab) (C : List Nat) (s : Nat) : Prop := s < T.n ∧ cg C s = s
theorem rep_succ {s : Nat} (hs : Rep T (classI next out) s) : ∀ b ∈ succL next (classI next out) s, Rep T (classI next out) b := fun b hb => by
 rw [succL_eq h hs.1, List.mem_map] at hb
 obtain ⟨x, -, rfl⟩ := hb
 have h1 := T.lt s x hs.1
 exact ⟨Nat.lt_of_le_of_lt (class_le h h1) h1, class_root h h1⟩
theorem rep_inj (a b : Nat) (ha : Rep T (classI next out) a) (hb : Rep T (classI next out) b) (he : beh T a = beh T b) : a = b := by
 rw [← ha.2, ← hb.2]
 exact (classI_iff h ha.1 hb.1).2 he
open Classical in
theorem succ_beh {s : Nat} (hs : Rep T (classI next out) s) : (succL next (classI next out) s).map (beh T) = succB T.M (beh T s) := by
 rw [succL_eq h hs.1, List.map_map]
 unfold succB
 apply List.map_congr_left
 intro x _
 rw [nextB_beh]
 exact class_beh h (T.lt s x hs.1)
theorem ord_rep (h0 : 0 < T.n) : ∀ s ∈ ordL next (classI next out), Rep T (classI next out) s :=
 bfsG_all (fun _ ha => rep_succ h ha) 9 0 fun a ha => by
  rw [List.mem_singleton.1 ha]
  exact ⟨h0, class_zero h h0⟩
set_option linter.unusedSectionVars false in
theorem ord_nodup : (ordL next (classI next out)).Nodup := bfsG_nodup _ 9 0 (by simp)
theorem ord_closed (h0 : 0 < T.n) (h8 : T.n ≤ 8) : ∀ s ∈ ordL next (classI next out), ∀ b ∈ succL next (classI next out) s, b ∈ ordL next (classI next out) :=
 bfsG_closed (P := Rep T (classI next out)) (N := 8) (fun _ ha => rep_succ h ha) (fun l hn hl => Nat.le_trans (nodup_lt T.n l hn fun a ha => (hl a ha).1) h8) 9 0 [0] (by omega) (by simp) (fun a ha => by
  rw [List.mem_singleton.1 ha]
  exact ⟨h0, class_zero h h0⟩) (Nat.zero_le _) (fun i s hi => absurd hi (by omega))
set_option linter.unusedSectionVars false in
theorem ord_zero : (ordL next (classI next out))[0]? = some 0 := by
 obtain ⟨m, hm⟩ := bfsG_prefix (succL next (classI next out)) 9 0 [0]
 unfold ordL
 rw [hm]
 rfl
open Classical in
theorem ord_beh (h0 : 0 < T.n) : (ordL next (classI next out)).map (beh T) = ordB T.M (beh T 0) := by
 unfold ordL ordB
 rw [map_bfsG (P := Rep T (classI next out)) (rep_inj h) (s2 := succB T.M) (fun _ ha => rep_succ h ha) (fun _ ha => succ_beh h ha) 9 0 [0] (fun a ha => by
  rw [List.mem_singleton.1 ha]
  exact ⟨h0, class_zero h h0⟩)]
 rfl
open Classical in
theorem min_build (ins : Int) (h0 : 0 < T.n) : minL ins next out (classI next out) = buildB ins T.M (beh T 0) := by
 unfold minL buildB
 rw [← ord_beh h h0, List.map_map, List.map_map]
 congr 1
 ·apply List.map_congr_left
  intro s hs
  have hr := ord_rep h h0 s hs
  simp only [Function.comp]
  rw [← succ_beh h hr, List.map_map]
  apply List.map_congr_left
  intro c hc
  simp only [Function.comp]
  rw [map_idxG (P := Rep T (classI next out)) (rep_inj h) (rep_succ h hr c hc) _ (ord_rep h h0)]
 ·apply List.map_congr_left
  intro s hs
  rw [h.outs s (ord_rep h h0 s hs).1]
  rfl
end
end Mac
end Go.Proofs.Ytkkkjbinfdohpaa
namespace Go.Proofs.Ytkkkjbinfdohpaa
namespace Mac
def tabOf (m : Mz) (h : valid m = true) : Tab where
  n := m.next.length
  M := 2 ^ m.ins.toNat
  nx s x := stepN m s ((x % 2 ^ m.ins.toNat : Nat) : Int)
  ou s x := stepO m s ((x % 2 ^ m.ins.toNat : Nat) : Int)
  pos := Nat.pow_pos (by decide)
  lt s x hs := by
    obtain ⟨r, q, y, o, h1, h2, h3, h4, h5, h6, h7, h8, h9, h10, h11⟩ := valid_row h hs (Nat.mod_lt x (Nat.pow_pos (by decide)))
    rw [h10]
    exact h6
  nmod s x := by rw [Nat.mod_mod]
  omod s x := by rw [Nat.mod_mod]
theorem rows_of (m : Mz) (h : valid m = true) : Rows (tabOf m h) m.next m.out := by
 refine ⟨rfl, fun a ha => ?_, fun a ha => ?_⟩
 ·obtain ⟨r, q, y, o, h1, h2, h3, h4, -⟩ := valid_row h ha (show 0 < 2 ^ m.ins.toNat from Nat.pow_pos (by decide))
  unfold nrow
  rw [List.getD_eq_getElem?_getD, h1, Option.getD_some]
  apply List.ext_getElem
  ·simp [h3, tabOf]
  ·intro i hi1 hi2
   obtain ⟨r', q', y', o', g1, g2, g3, g4, g5, g6, g7, g8, g9, g10, g11⟩ := valid_row h ha (show i < 2 ^ m.ins.toNat by omega)
   rw [h1] at g1
   obtain rfl := Option.some.inj g1
   rw [List.getElem?_eq_getElem hi1] at g5
   rw [Option.some.inj g5]
   simp only [List.getElem_map, List.getElem_range, tabOf]
   rw [Nat.mod_eq_of_lt (show i < 2 ^ m.ins.toNat by omega), g10]
 ·obtain ⟨r, q, y, o, h1, h2, h3, h4, -⟩ := valid_row h ha (show 0 < 2 ^ m.ins.toNat from Nat.pow_pos (by decide))
  unfold key0
  rw [List.getD_eq_getElem?_getD, h2, Option.getD_some]
  apply List.ext_getElem
  ·simp [h4, tabOf]
  ·intro i hi1 hi2
   obtain ⟨r', q', y', o', g1, g2, g3, g4, g5, g6, g7, g8, g9, g10, g11⟩ := valid_row h ha (show i < 2 ^ m.ins.toNat by omega)
   rw [h2] at g2
   obtain rfl := Option.some.inj g2
   rw [List.getElem?_eq_getElem hi1] at g7
   rw [Option.some.inj g7]
   simp only [List.getElem_map, List.getElem_range, tabOf]
   rw [Nat.mod_eq_of_lt (show i < 2 ^ m.ins.toNat by omega), g11]
theorem valid_sizes {m : Mz} (h : valid m = true) : 0 ≤ m.ins ∧ m.ins ≤ 4 ∧ 1 ≤ m.next.length ∧ m.next.length ≤ 8 ∧ m.out.length = m.next.length := by
 unfold valid at h
 rw [Bool.and_eq_true] at h
 have h0 := h.1
 unfold sizes at h0
 rwa [decide_eq_true_eq] at h0
def behM (m : Mz) (s : Nat) : List Nat → List Int
  | [] => []
  | x :: xs => stepO m s ((x % 2 ^ m.ins.toNat : Nat) : Int) :: behM m (stepN m s ((x % 2 ^ m.ins.toNat : Nat) : Int)) xs
theorem behM_eq (m : Mz) (h : valid m = true) : ∀ (xs : List Nat) (s : Nat), behM m s xs = beh (tabOf m h) s xs
 | [], _ => rfl
 | x :: xs, s => by
  rw [behM, beh, behM_eq m h xs]
  rfl
theorem behM_fun (m : Mz) (h : valid m = true) (s : Nat) : behM m s = beh (tabOf m h) s := funext fun xs => behM_eq m h xs s
theorem minI_build {m : Mz} (h : valid m = true) : minI m = buildB m.ins (2 ^ m.ins.toNat) (behM m 0) := by
 unfold minI
 rw [if_pos h, behM_fun m h]
 exact min_build (rows_of m h) m.ins (by have := valid_sizes h; show 0 < m.next.length; omega)
theorem minI_same {m m' : Mz} (h : valid m = true) (h' : valid m' = true) (hi : m.ins = m'.ins) (hb : behM m 0 = behM m' 0) : minI m = minI m' := by
 rw [minI_build h, minI_build h', hi, hb]
section
variable {m : Mz} (h : valid m = true)
include h
theorem succ_len {s : Nat} (hs : s < m.next.length) : (succL m.next (classI m.next m.out) s).length = 2 ^ m.ins.toNat := by
 rw [succL_eq (rows_of m h) hs]
 simp [tabOf]
theorem min_ins : (minI m).ins = m.ins := by
 unfold minI
 rw [if_pos h]
 rfl
theorem min_step {i s x : Nat} (hi : (ordL m.next (classI m.next m.out))[i]? = some s) (hx : x < 2 ^ m.ins.toNat) : ∃ t, (ordL m.next (classI m.next m.out))[stepN (minI m) i x]? = some t ∧ behM m t = behM m (stepN m s x) ∧ stepO (minI m) i x = stepO m s x := by
 have hp := valid_sizes h
 have hR := rows_of m h
 have h0 : 0 < (tabOf m h).n := (show 0 < m.next.length by omega)
 have hmem := List.mem_of_getElem? hi
 have hrep := ord_rep hR h0 s hmem
 have e : minI m = minL m.ins m.next m.out (classI m.next m.out) := by unfold minI; rw [if_pos h]
 have hn : (minI m).next[i]? = some ((succL m.next (classI m.next m.out) s).map fun c => ((idxG (ordL m.next (classI m.next m.out)) c : Nat) : Int)) := by
  rw [e]
  unfold minL
  simp only
  rw [List.getElem?_map, hi]
  rfl
 have ho : (minI m).out[i]? = some (key0 m.out s) := by
  rw [e]
  unfold minL
  simp only
  rw [List.getElem?_map, hi]
  rfl
 have hsx : (succL m.next (classI m.next m.out) s)[x]? = some (cg (classI m.next m.out) ((tabOf m h).nx s x)) := by
  rw [succL_eq hR hrep.1, List.getElem?_map, List.getElem?_range (show x < (tabOf m h).M from hx)]
  rfl
 have hnx : (tabOf m h).nx s x = stepN m s x := by show stepN m s ((x % 2 ^ m.ins.toNat : Nat) : Int) = _; rw [Nat.mod_eq_of_lt hx]
 have hc : cg (classI m.next m.out) ((tabOf m h).nx s x) ∈ ordL m.next (classI m.next m.out) := ord_closed hR h0 (show m.next.length ≤ 8 by omega) s hmem _ (List.mem_of_getElem? hsx)
 refine ⟨cg (classI m.next m.out) ((tabOf m h).nx s x), ?_, ?_, ?_⟩
 ·unfold stepN
  simp only [List.getD_eq_getElem?_getD, hn, Option.getD_some, Int.toNat_natCast, List.getElem?_map, hsx, Option.map_some]
  exact (idxG_get hc).1
 ·rw [behM_fun m h, behM_fun m h, class_beh hR ((tabOf m h).lt s x hrep.1), hnx]
 ·unfold stepO
  simp only [List.getD_eq_getElem?_getD, ho, Option.getD_some]
  unfold key0
  rw [List.getD_eq_getElem?_getD]
theorem min_beh : ∀ (xs : List Nat) (i s : Nat), (ordL m.next (classI m.next m.out))[i]? = some s → behM (minI m) i xs = behM m s xs
 | [], _, _, _ => rfl
 | x :: xs, i, s, hi => by
  have hx : x % 2 ^ m.ins.toNat < 2 ^ m.ins.toNat := Nat.mod_lt _ (Nat.pow_pos (by decide))
  obtain ⟨t, h1, h2, h3⟩ := min_step h hi hx
  rw [behM, behM, min_ins h, h3, min_beh xs _ t h1, h2]
theorem min_beh0 : behM (minI m) 0 = behM m 0 := funext fun xs => min_beh h xs 0 0 (ord_zero (rows_of m h))
end
theorem outs_beh (m : Mz) : ∀ (xs : List Nat) (s : Nat), (∀ x ∈ xs, x < 2 ^ m.ins.toNat) → outs m s (xs.map fun x => ((x : Nat) : Int)) = behM m s xs
 | [], _, _ => rfl
 | x :: xs, s, hx => by
  rw [List.map_cons, outs, behM, Nat.mod_eq_of_lt (hx x (by simp)), outs_beh m xs _ fun y hy => hx y (List.mem_cons_of_mem _ hy)]
end Mac
end Go.Proofs.Ytkkkjbinfdohpaa
namespace Go.Proofs.Ytkkkjbinfdohpaa
namespace Cir
def pnx (a b : Ci) (s : Nat × Nat) (x : Nat) : Nat × Nat := (nextOf a s.1 x, nextOf b s.2 x)
def pbad (a b : Ci) (s : Nat × Nat) (x : Nat) : Bool := num (outsOf a s.1 x) != num (outsOf b s.2 x)
def psts (l : List ((Nat × Nat) × List Nat)) : List (Nat × Nat) := l.map (·.1)
def pmem (l : List (Nat × Nat)) (n : Nat × Nat) : Bool := decide (n ∈ l)
def ppush (l : List ((Nat × Nat) × List Nat)) (n : Nat × Nat) (p : List Nat) : List ((Nat × Nat) × List Nat) := if pmem (psts l) n then l else l ++ [(n, p)]
def ppushes (a b : Ci) (s : Nat × Nat) (p : List Nat) : Nat → List ((Nat × Nat) × List Nat) → List ((Nat × Nat) × List Nat)
  | 0, l => l
  | j + 1, l => ppush (ppushes a b s p j l) (pnx a b s j) (p ++ [j])
def pfind (a b : Ci) (s : Nat × Nat) (M : Nat) : Option Nat := (List.range M).find? (pbad a b s)
def pbfs (a b : Ci) : Nat → Nat → List ((Nat × Nat) × List Nat) → Option (List Nat)
  | 0, _, _ => none
  | f + 1, k, l => match l[k]? with
    | none => none
    | some (s, p) => match pfind a b s (2 ^ a.ins) with
      | some x => some (p ++ [x])
      | none => pbfs a b f (k + 1) (ppushes a b s p (2 ^ a.ins) l)
def pdist (a b : Ci) : Option (List Nat) := pbfs a b 65 0 [((0, 0), [])]
theorem pmem_iff {l : List (Nat × Nat)} {n : Nat × Nat} : pmem l n = true ↔ n ∈ l := by unfold pmem; simp
theorem pmem_snoc (l : List (Nat × Nat)) (n x : Nat × Nat) : pmem (l ++ [n]) x = (pmem l x || decide (x = n)) := by unfold pmem; rw [Bool.eq_iff_iff]; simp
theorem pmem_zero (x : Nat × Nat) : pmem [(0, 0)] x = decide (x = (0, 0)) := by unfold pmem; rw [Bool.eq_iff_iff]; simp
theorem psts_get {l : List ((Nat × Nat) × List Nat)} {k : Nat} {s : Nat × Nat} {p : List Nat} (h : l[k]? = some (s, p)) : (psts l)[k]? = some s := by
 unfold psts; rw [List.getElem?_map, h]; rfl
theorem psts_length (l : List ((Nat × Nat) × List Nat)) : (psts l).length = l.length := by unfold psts; simp
theorem ppush_no {l : List ((Nat × Nat) × List Nat)} {n : Nat × Nat} {p : List Nat} (h : pmem (psts l) n = false) : ppush l n p = l ++ [(n, p)] := by
 unfold ppush; rw [h]; rfl
theorem ppush_yes {l : List ((Nat × Nat) × List Nat)} {n : Nat × Nat} {p : List Nat} (h : pmem (psts l) n = true) : ppush l n p = l := by
 unfold ppush; rw [h]; rfl
theorem ppushes_succ (a b : Ci) (s : Nat × Nat) (p : List Nat) (j : Nat) (l : List ((Nat × Nat) × List Nat)) : ppushes a b s p (j + 1) l = ppush (ppushes a b s p j l) (pnx a b s j) (p ++ [j]) := rfl
theorem ppush_prefix (l : List ((Nat × Nat) × List Nat)) (n : Nat × Nat) (p : List Nat) : ∃ m, ppush l n p = l ++ m := by
 unfold ppush
 split
 ·exact ⟨[], by simp⟩
 ·exact ⟨_, rfl⟩
theorem ppushes_prefix (a b : Ci) (s : Nat × Nat) (p : List Nat) (l : List ((Nat × Nat) × List Nat)) : ∀ j, ∃ m, ppushes a b s p j l = l ++ m
 | 0 => ⟨[], by simp [ppushes]⟩
 | j + 1 => by
  obtain ⟨m, hm⟩ := ppushes_prefix a b s p l j
  obtain ⟨m', hm'⟩ := ppush_prefix (ppushes a b s p j l) (pnx a b s j) (p ++ [j])
  exact ⟨m ++ m', by rw [ppushes, hm', hm, List.append_assoc]⟩
theorem ppushes_get {a b : Ci} {s : Nat × Nat} {p : List Nat} {l : List ((Nat × Nat) × List Nat)} {j k : Nat} {x : (Nat × Nat) × List Nat} (h : l[k]? = some x) : (ppushes a b s p j l)[k]? = some x := by
 obtain ⟨m, hm⟩ := ppushes_prefix a b s p l j
 rw [hm, List.getElem?_append_left (List.getElem?_eq_some_iff.1 h).1, h]
theorem mem_ppush {l : List ((Nat × Nat) × List Nat)} {n : Nat × Nat} {p : List Nat} {x : Nat × Nat} : x ∈ psts (ppush l n p) ↔ x ∈ psts l ∨ x = n := by
 cases h : pmem (psts l) n
 ·rw [ppush_no h]
  unfold psts
  simp
 ·rw [ppush_yes h]
  exact ⟨.inl, fun h' => h'.elim id fun e => e ▸ pmem_iff.1 h⟩
theorem mem_ppushes {a b : Ci} {s : Nat × Nat} {p : List Nat} {l : List ((Nat × Nat) × List Nat)} {y : Nat × Nat} : ∀ {j : Nat}, y ∈ psts (ppushes a b s p j l) ↔ y ∈ psts l ∨ ∃ x, x < j ∧ pnx a b s x = y
 | 0 => by
  show y ∈ psts l ↔ _
  exact ⟨.inl, fun h => h.elim id fun ⟨x, hx, _⟩ => absurd hx (by omega)⟩
 | j + 1 => by
  rw [ppushes_succ, mem_ppush, mem_ppushes (j := j)]
  constructor
  ·rintro ((h | ⟨x, hx, h⟩) | h)
   ·exact .inl h
   ·exact .inr ⟨x, by omega, h⟩
   ·exact .inr ⟨j, by omega, h.symm⟩
  ·rintro (h | ⟨x, hx, h⟩)
   ·exact .inl (.inl h)
   ·rcases Nat.lt_or_ge x j with hj | hj
    ·exact .inl (.inr ⟨x, hj, h⟩)
    ·exact .inr (by rw [← h, show x = j from by omega])
theorem nodup_pairs (l : List (Nat × Nat)) (h : l.Nodup) (hl : ∀ s ∈ l, s.1 < 8 ∧ s.2 < 8) : l.length ≤ 64 := by
 have h1 : (l.map fun s => s.1 * 8 + s.2).Nodup := by
  refine List.pairwise_map.2 (List.Pairwise.imp_of_mem (fun {x y} hx hy hne e => hne ?_) h)
  have h1 := hl x hx
  have h2 := hl y hy
  obtain ⟨x1, x2⟩ := x
  obtain ⟨y1, y2⟩ := y
  simp only at *
  have e1 : x1 = y1 := by omega
  have e2 : x2 = y2 := by omega
  rw [e1, e2]
 have := nodup_lt 64 _ h1 fun x hx => by
  obtain ⟨s, hs, rfl⟩ := List.mem_map.1 hx
  have := hl s hs
  omega
 rwa [List.length_map] at this
structure Ps (a b : Ci) (l : List ((Nat × Nat) × List Nat)) : Prop where
  nod : (psts l).Nodup
  lt : ∀ s ∈ psts l, s.1 < 8 ∧ s.2 < 8
  len : ∀ (k : Nat) (s : Nat × Nat) (p : List Nat), l[k]? = some (s, p) → p.length ≤ k
  inp : ∀ (k : Nat) (s : Nat × Nat) (p : List Nat), l[k]? = some (s, p) → ∀ x ∈ p, x < 2 ^ a.ins
  run : ∀ (k : Nat) (s : Nat × Nat) (p : List Nat), l[k]? = some (s, p) → s = (runN a 0 p, runN b 0 p)
theorem Ps.size {a b : Ci} {l : List ((Nat × Nat) × List Nat)} (h : Ps a b l) : l.length ≤ 64 := by
 have := nodup_pairs _ h.nod h.lt
 rwa [psts_length] at this
theorem Ps.zero (a b : Ci) : Ps a b [((0, 0), [])] := by
 refine ⟨by simp [psts], fun s hs => ?_, fun k s p h => ?_, fun k s p h => ?_, fun k s p h => ?_⟩
 ·simp [psts] at hs; subst hs; simp
 all_goals
  cases k with
  | zero => simp at h; obtain ⟨rfl, rfl⟩ := h; simp [runN]
  | succ k => simp at h
theorem nx8 {d : Ci} (hd : Ok d) (s x : Nat) : nextOf d s x < 8 := by
 have h1 := nextOf_lt d s x
 have h2 : 2 ^ d.next.length ≤ 2 ^ 3 := Nat.pow_le_pow_right (show 0 < 2 by decide) hd.nexts
 omega
theorem Ps.push {a b : Ci} (ha : Ok a) (hb : Ok b) {l : List ((Nat × Nat) × List Nat)} (h : Ps a b l) {k : Nat} {s : Nat × Nat} {p : List Nat} (hk : l[k]? = some (s, p)) {x : Nat} (hx : x < 2 ^ a.ins) : Ps a b (ppush l (pnx a b s x) (p ++ [x])) := by
 cases hm : pmem (psts l) (pnx a b s x)
 ·rw [ppush_no hm]
  have hn : pnx a b s x ∉ psts l := fun h' => by rw [pmem_iff.2 h'] at hm; cases hm
  have hps : psts (l ++ [(pnx a b s x, p ++ [x])]) = psts l ++ [pnx a b s x] := by unfold psts; simp
  have hnew : ∀ k' s' p', (l ++ [(pnx a b s x, p ++ [x])])[k']? = some (s', p') → l[k']? = some (s', p') ∨ (k' = l.length ∧ s' = pnx a b s x ∧ p' = p ++ [x]) := fun k' s' p' h' => by
   rcases Nat.lt_or_ge k' l.length with hl | hl
   ·rw [List.getElem?_append_left hl] at h'
    exact .inl h'
   ·rw [List.getElem?_append_right hl] at h'
    have hz : k' - l.length = 0 := by
     rcases Nat.eq_zero_or_pos (k' - l.length) with hz | hz
     ·exact hz
     ·rw [List.getElem?_eq_none (by simp; omega)] at h'; cases h'
    rw [hz] at h'
    simp at h'
    exact .inr ⟨by omega, h'.1.symm, h'.2.symm⟩
  have hkl := (List.getElem?_eq_some_iff.1 hk).1
  refine ⟨?_, fun s' hs' => ?_, fun k' s' p' h' => ?_, fun k' s' p' h' => ?_, fun k' s' p' h' => ?_⟩
  ·rw [hps, List.nodup_append]
   refine ⟨h.nod, by simp, fun y hy z hz => ?_⟩
   rw [List.mem_singleton.1 hz]
   exact fun e => hn (e ▸ hy)
  ·rw [hps] at hs'
   rcases List.mem_append.1 hs' with h1 | h1
   ·exact h.lt s' h1
   ·rw [List.mem_singleton.1 h1]
    exact ⟨nx8 ha _ _, nx8 hb _ _⟩
  ·rcases hnew k' s' p' h' with h1 | ⟨rfl, rfl, rfl⟩
   ·exact h.len _ _ _ h1
   ·have := h.len _ _ _ hk
    simp; omega
  ·rcases hnew k' s' p' h' with h1 | ⟨rfl, rfl, rfl⟩
   ·exact h.inp _ _ _ h1
   ·intro y hy
    rcases List.mem_append.1 hy with hy | hy
    ·exact h.inp _ _ _ hk y hy
    ·rw [List.mem_singleton.1 hy]; exact hx
  ·rcases hnew k' s' p' h' with h1 | ⟨rfl, rfl, rfl⟩
   ·exact h.run _ _ _ h1
   ·have := h.run _ _ _ hk
    subst this
    rw [runN_snoc, runN_snoc]
    rfl
 ·rw [ppush_yes hm]; exact h
theorem Ps.pushes {a b : Ci} (ha : Ok a) (hb : Ok b) {l : List ((Nat × Nat) × List Nat)} (h : Ps a b l) {k : Nat} {s : Nat × Nat} {p : List Nat} (hk : l[k]? = some (s, p)) : ∀ j, j ≤ 2 ^ a.ins → Ps a b (ppushes a b s p j l)
 | 0, _ => h
 | j + 1, hj => (Ps.pushes ha hb h hk j (by omega)).push ha hb (ppushes_get hk) (by omega)
theorem pfind_none {a b : Ci} {s : Nat × Nat} {M : Nat} (h : ∀ x, x < M → pbad a b s x = false) : pfind a b s M = none := by
 unfold pfind
 rw [List.find?_eq_none]
 intro x hx
 rw [h x (List.mem_range.1 hx)]
 simp
theorem pfind_no {a b : Ci} {s : Nat × Nat} {M : Nat} (h : pfind a b s M = none) {x : Nat} (hx : x < M) : pbad a b s x = false := by
 unfold pfind at h
 rw [List.find?_eq_none] at h
 simpa using h x (List.mem_range.2 hx)
theorem pfind_hit {a b : Ci} {s : Nat × Nat} {M x : Nat} (h : pfind a b s M = some x) : x < M ∧ pbad a b s x = true := by
 unfold pfind at h
 exact ⟨List.mem_range.1 (List.mem_of_find?_eq_some h), List.find?_some h⟩
theorem pfind_some {a b : Ci} {s : Nat × Nat} {M x : Nat} (hx : x < M) (hb : pbad a b s x = true) (h : ∀ y, y < x → pbad a b s y = false) : pfind a b s M = some x := find_range _ M x hx hb h
theorem pbfs_hit {a b : Ci} {f k x : Nat} {s : Nat × Nat} {p : List Nat} {l : List ((Nat × Nat) × List Nat)} (hk : l[k]? = some (s, p)) (h : pfind a b s (2 ^ a.ins) = some x) : pbfs a b (f + 1) k l = some (p ++ [x]) := by
 rw [pbfs, hk]; simp only [h]
theorem pbfs_step {a b : Ci} {f k : Nat} {s : Nat × Nat} {p : List Nat} {l : List ((Nat × Nat) × List Nat)} (hk : l[k]? = some (s, p)) (h : pfind a b s (2 ^ a.ins) = none) : pbfs a b (f + 1) k l = pbfs a b f (k + 1) (ppushes a b s p (2 ^ a.ins) l) := by
 rw [pbfs, hk]; simp only [h]
theorem pbfs_end {a b : Ci} {f : Nat} {l : List ((Nat × Nat) × List Nat)} : pbfs a b f l.length l = none := by
 cases f with
 | zero => rfl
 | succ f => rw [pbfs, List.getElem?_eq_none (Nat.le_refl _)]
theorem pbfs_closed {a b : Ci} (ha : Ok a) (hb : Ok b) : ∀ (f k : Nat) (l : List ((Nat × Nat) × List Nat)), 65 ≤ f + k → Ps a b l → k ≤ l.length → (∀ i s p, i < k → l[i]? = some (s, p) → ∀ x, x < 2 ^ a.ins → pbad a b s x = false ∧ pnx a b s x ∈ psts l) → pbfs a b f k l = none →
  ∃ L : List (Nat × Nat), (∀ s ∈ psts l, s ∈ L) ∧ ∀ s ∈ L, ∀ x, x < 2 ^ a.ins → pbad a b s x = false ∧ pnx a b s x ∈ L
 | 0, k, l, hf, hl, hk, _, _ => absurd hl.size (by omega)
 | f + 1, k, l, hf, hl, hk, h, hr => by
  cases hs : l[k]? with
  | none =>
   refine ⟨psts l, fun s hs => hs, fun s hm x hx => ?_⟩
   obtain ⟨i, hi, hgi⟩ := List.mem_iff_getElem.1 hm
   rw [psts_length] at hi
   have hkl : l.length ≤ k := by simpa using hs
   obtain ⟨⟨s', p⟩, hsp⟩ : ∃ y, l[i]? = some y := ⟨_, List.getElem?_eq_getElem hi⟩
   have e : s' = s := by
    have := psts_get hsp
    rw [List.getElem?_eq_getElem (by rw [psts_length]; exact hi), hgi] at this
    exact (Option.some.inj this).symm
   subst e
   exact h i _ p (by omega) hsp x hx
  | some t =>
   obtain ⟨t, p⟩ := t
   have hkl := (List.getElem?_eq_some_iff.1 hs).1
   cases hfd : pfind a b t (2 ^ a.ins) with
   | some x => rw [pbfs_hit hs hfd] at hr; cases hr
   | none =>
    rw [pbfs_step hs hfd] at hr
    obtain ⟨m, hm⟩ := ppushes_prefix a b t p l (2 ^ a.ins)
    obtain ⟨L, h1, h2⟩ := pbfs_closed ha hb f (k + 1) _ (by omega) (hl.pushes ha hb hs _ (Nat.le_refl _)) (by rw [hm, List.length_append]; omega) (fun i s q hi hs' x hx => by
     have hil : i < l.length := by omega
     rw [hm, List.getElem?_append_left hil] at hs'
     rcases Nat.lt_or_ge i k with h1 | h1
     ·have := h i s q h1 hs' x hx
      exact ⟨this.1, mem_ppushes.2 (.inl this.2)⟩
     ·obtain rfl : i = k := by omega
      rw [hs] at hs'
      obtain ⟨rfl, rfl⟩ := Prod.mk.inj (Option.some.inj hs')
      exact ⟨pfind_no hfd hx, mem_ppushes.2 (.inr ⟨x, hx, rfl⟩)⟩) hr
    exact ⟨L, fun s hs => h1 s (mem_ppushes.2 (.inl hs)), h2⟩
theorem pbfs_found {a b : Ci} (ha : Ok a) (hb : Ok b) : ∀ (f k : Nat) (l : List ((Nat × Nat) × List Nat)), Ps a b l → ∀ p, pbfs a b f k l = some p → ∃ q x, p = q ++ [x] ∧ (∀ y ∈ p, y < 2 ^ a.ins) ∧ pbad a b (runN a 0 q, runN b 0 q) x = true
 | 0, _, _, _, p, h => by cases h
 | f + 1, k, l, hl, p, h => by
  cases hk : l[k]? with
  | none => rw [pbfs, hk] at h; cases h
  | some t =>
   obtain ⟨t, q⟩ := t
   cases hfd : pfind a b t (2 ^ a.ins) with
   | none =>
    rw [pbfs_step hk hfd] at h
    exact pbfs_found ha hb f (k + 1) _ (hl.pushes ha hb hk _ (Nat.le_refl _)) p h
   | some x =>
    rw [pbfs_hit hk hfd] at h
    obtain rfl := Option.some.inj h
    have h1 := pfind_hit hfd
    have h2 := hl.run _ _ _ hk
    subst h2
    refine ⟨q, x, rfl, fun y hy => ?_, h1.2⟩
    rcases List.mem_append.1 hy with hy | hy
    ·exact hl.inp _ _ _ hk y hy
    ·rw [List.mem_singleton.1 hy]; exact h1.1
def Alike (a b : Ci) : Prop := ∀ xs, Inputs a xs → outN a 0 xs = outN b 0 xs
theorem pdist_none {a b : Ci} (ha : Ok a) (hb : Ok b) : pdist a b = none ↔ Alike a b := by
 constructor
 ·intro h
  obtain ⟨L, h1, h2⟩ := pbfs_closed ha hb 65 0 _ (by omega) (Ps.zero a b) (Nat.zero_le _) (fun i s p hi => absurd hi (by omega)) h
  have key : ∀ (xs : List Nat) (s : Nat × Nat), s ∈ L → Inputs a xs → outN a s.1 xs = outN b s.2 xs := by
   intro xs
   induction xs with
   | nil => intro s _ _; rfl
   | cons x xs ih =>
    intro s hs hx
    obtain ⟨g1, g2⟩ := h2 s hs x (hx x (by simp))
    unfold pbad at g1
    have g1 : num (outsOf a s.1 x) = num (outsOf b s.2 x) := by simpa using g1
    rw [outN, outN, g1]
    congr 1
    exact ih _ g2 fun y hy => hx y (List.mem_cons_of_mem _ hy)
  exact fun xs hx => key xs (0, 0) (h1 _ (by simp [psts])) hx
 ·intro h
  cases hd : pdist a b with
  | none => rfl
  | some p =>
   obtain ⟨q, x, rfl, hp, hbad⟩ := pbfs_found ha hb 65 0 _ (Ps.zero a b) _ hd
   have h1 := h _ hp
   have h2 := congrArg (fun l => l[q.length]?) h1
   simp only [outN_get] at h2
   unfold pbad at hbad
   simp at h2
   simp [h2] at hbad
end Cir
namespace Mac
theorem behM_mod (m : Mz) : ∀ (xs : List Nat) (s : Nat), behM m s xs = behM m s (xs.map fun x => x % 2 ^ m.ins.toNat)
 | [], _ => rfl
 | x :: xs, s => by
  rw [List.map_cons, behM, behM, Nat.mod_mod, behM_mod m xs]
end Mac
namespace Cir
theorem beh_mach {d : Ci} (hd : Ok d) (xs : List Nat) : Mac.behM (machN d) 0 xs = nats (outN d 0 (xs.map fun x => x % 2 ^ d.ins)) := by
 have hi : (machN d).ins.toNat = d.ins := rfl
 have hp : Inputs d (xs.map fun x => x % 2 ^ d.ins) := fun x hx => by
  obtain ⟨y, _, rfl⟩ := List.mem_map.1 hx
  exact Nat.mod_lt _ (Nat.pow_pos (by decide))
 rw [Mac.behM_mod, hi, ← Mac.outs_beh (machN d) _ 0 (by rw [hi]; exact hp)]
 exact mach_outs hd _ 0 0 hp (reach_first d)
theorem nats_inj {l l' : List Nat} (h : nats l = nats l') : l = l' := by
 have := congrArg (List.map Int.toNat) h
 unfold nats at this
 simpa [Function.comp_def] using this
theorem min_alike {a b : Ci} (ha : Ok a) (hb : Ok b) (hi : a.ins = b.ins) : Mac.minI (machN a) = Mac.minI (machN b) ↔ Alike a b := by
 have va := machN_valid ha
 have vb := machN_valid hb
 constructor
 ·intro h xs hx
  have h1 : Mac.behM (machN a) 0 = Mac.behM (machN b) 0 := by rw [← Mac.min_beh0 va, h, Mac.min_beh0 vb]
  have h2 := congrFun h1 xs
  rw [beh_mach ha, beh_mach hb, ← hi] at h2
  have h3 := nats_inj h2
  have h4 : xs.map (fun x => x % 2 ^ a.ins) = xs := by
   conv => rhs; rw [← List.map_id xs]
   exact List.map_congr_left fun x hm => Nat.mod_eq_of_lt (hx x hm)
  rwa [h4] at h3
 ·intro h
  refine Mac.minI_same va vb (by show (a.ins : Int) = b.ins; rw [hi]) (funext fun xs => ?_)
  rw [beh_mach ha, beh_mach hb, ← hi, h _ fun x hx => by
   obtain ⟨y, _, rfl⟩ := List.mem_map.1 hx
   exact Nat.mod_lt _ (Nat.pow_pos (by decide))]
def tabC (d : Ci) : Mac.Tab where
  n := 2 ^ d.next.length
  M := 2 ^ d.ins
  nx s x := nextOf d s (x % 2 ^ d.ins)
  ou s x := ((num (outsOf d s (x % 2 ^ d.ins)) : Nat) : Int)
  pos := Nat.pow_pos (by decide)
  lt s x _ := nextOf_lt d s _
  nmod s x := by rw [Nat.mod_mod]
  omod s x := by rw [Nat.mod_mod]
def allN (d : Ci) : List (List Int) := (List.range (2 ^ d.next.length)).map fun s => nats (rowN d s)
def allO (d : Ci) : List (List Int) := (List.range (2 ^ d.next.length)).map fun s => nats (rowO d s)
def clsC (d : Ci) : List Nat := Mac.classI (allN d) (allO d)
theorem rows_all (d : Ci) : Mac.Rows (tabC d) (allN d) (allO d) := by
 refine ⟨by unfold allN tabC; simp, fun a h => ?_, fun a h => ?_⟩
 ·unfold Mac.nrow allN
  rw [List.getD_eq_getElem?_getD, List.getElem?_map, List.getElem?_range (show a < 2 ^ d.next.length from h), Option.map_some, Option.getD_some]
  unfold nats rowN tabC
  rw [List.map_map]
  apply List.map_congr_left
  intro x hx
  simp [Nat.mod_eq_of_lt (List.mem_range.1 hx)]
 ·unfold Mac.key0 allO
  rw [List.getD_eq_getElem?_getD, List.getElem?_map, List.getElem?_range (show a < 2 ^ d.next.length from h), Option.map_some, Option.getD_some]
  unfold nats rowO tabC
  rw [List.map_map]
  apply List.map_congr_left
  intro x hx
  simp [Nat.mod_eq_of_lt (List.mem_range.1 hx)]
theorem beh_all (d : Ci) : ∀ (xs : List Nat) (s : Nat), Mac.beh (tabC d) s xs = nats (outN d s (xs.map fun x => x % 2 ^ d.ins))
 | [], _ => rfl
 | x :: xs, s => by
  rw [Mac.beh, beh_all d xs]
  rfl
theorem beh_same {d : Ci} (hd : Ok d) : Mac.behM (machN d) 0 = Mac.beh (tabC d) 0 := funext fun xs => by rw [beh_mach hd, beh_all]
def seenC (d : Ci) (l : List Nat) : List Nat := Mac.pushesG [] (l.map fun s => Mac.cg (clsC d) s)
theorem sub_length {l l' : List Nat} (h : l.Nodup) (hs : ∀ x ∈ l, x ∈ l') : l.length ≤ l'.length := by
 induction l generalizing l' with
 | nil => simp
 | cons a l ih =>
  have ha := hs a (by simp)
  rw [List.nodup_cons] at h
  have := ih h.2 (l' := l'.erase a) fun x hx => (List.mem_erase_of_ne (fun e => h.1 (by rw [← e]; exact hx))).2 (hs x (List.mem_cons_of_mem _ hx))
  rw [List.length_erase_of_mem ha] at this
  have hpos := List.length_pos_of_mem ha
  rw [List.length_cons]
  omega
theorem min_count {d : Ci} (hd : Ok d) : (Mac.minI (machN d)).next.length = (seenC d (reach d)).length := by
 have hv := machN_valid hd
 have hR := rows_all d
 have hn8 : 2 ^ d.next.length ≤ 2 ^ 3 := Nat.pow_le_pow_right (show 0 < 2 by decide) hd.nexts
 have hpos : 0 < 2 ^ d.next.length := Nat.pow_pos (by decide)
 have e1 : (Mac.minI (machN d)).next.length = (Mac.ordL (allN d) (clsC d)).length := by
  rw [Mac.minI_build hv, beh_same hd]
  have := Mac.ord_beh hR (show 0 < (tabC d).n from hpos)
  have h2 : (Mac.ordL (allN d) (clsC d)).length = (Mac.ordB (tabC d).M (Mac.beh (tabC d) 0)).length := by rw [← this, List.length_map]; rfl
  rw [h2]
  unfold Mac.buildB
  rw [List.length_map]
  rfl
 rw [e1]
 have hcl : ∀ s ∈ Mac.ordL (allN d) (clsC d), ∀ b ∈ Mac.succL (allN d) (clsC d) s, b ∈ Mac.ordL (allN d) (clsC d) := Mac.ord_closed hR hpos (show 2 ^ d.next.length ≤ 8 by omega)
 have hrl : ∀ s ∈ reach d, s < 2 ^ d.next.length := (reach_sts d).lt
 -- the class of a following state
 have hnx : ∀ s, s ∈ reach d → ∀ x, x < 2 ^ d.ins → Mac.cg (clsC d) ((tabC d).nx (Mac.cg (clsC d) s) x) = Mac.cg (clsC d) (nextOf d s x) := fun s hs x hx => by
  have hs' := hrl s hs
  have hc : Mac.cg (clsC d) s < (tabC d).n := Nat.lt_of_le_of_lt (Mac.class_le hR (show s < (tabC d).n from hs')) hs'
  have hb := Mac.class_beh hR (show s < (tabC d).n from hs')
  have h2 := Mac.beh_next hb x
  have h3 := (Mac.classI_iff hR ((tabC d).lt _ x hc) ((tabC d).lt _ x hs')).2 h2
  have h4 : (tabC d).nx s x = nextOf d s x := by show nextOf d s (x % 2 ^ d.ins) = _; rw [Nat.mod_eq_of_lt hx]
  rw [h4] at h3
  exact h3
 have hmem : ∀ y, y ∈ Mac.ordL (allN d) (clsC d) ↔ y ∈ seenC d (reach d) := fun y => by
  unfold seenC
  rw [Mac.mem_pushesG]
  constructor
  ·intro hy
   right
   refine Mac.bfsG_all (P := fun y => y ∈ (reach d).map fun s => Mac.cg (clsC d) s) (fun a ha b hb => ?_) 9 0 (l := [0]) (fun a ha => ?_) y hy
   ·obtain ⟨s, hs, rfl⟩ := List.mem_map.1 ha
    have hs' := hrl s hs
    rw [show Mac.succL (allN d) (clsC d) (Mac.cg (clsC d) s) = _ from Mac.succL_eq hR (Nat.lt_of_le_of_lt (Mac.class_le hR (show s < (tabC d).n from hs')) hs')] at hb
    obtain ⟨x, hx, rfl⟩ := List.mem_map.1 hb
    have hx := List.mem_range.1 hx
    refine List.mem_map.2 ⟨nextOf d s x, reach_closed hd hs hx, (hnx s hs x hx).symm⟩
   ·rw [List.mem_singleton.1 ha]
    exact List.mem_map.2 ⟨0, reach_zero d, Mac.class_zero hR hpos⟩
  ·rintro (hy | hy)
   ·simp at hy
   obtain ⟨s, hs, rfl⟩ := List.mem_map.1 hy
   obtain ⟨p, hp, rfl⟩ := reach_run hs
   have key : ∀ (xs : List Nat) (s : Nat), s ∈ reach d → Inputs d xs → Mac.cg (clsC d) s ∈ Mac.ordL (allN d) (clsC d) → Mac.cg (clsC d) (runN d s xs) ∈ Mac.ordL (allN d) (clsC d) := by
    intro xs
    induction xs with
    | nil => intro s _ _ h; exact h
    | cons x xs ih =>
     intro s hs hx h
     have hx0 := hx x (by simp)
     have hs' := hrl s hs
     refine ih _ (reach_closed hd hs hx0) (fun y hy => hx y (List.mem_cons_of_mem _ hy)) ?_
     refine hcl _ h _ ?_
     rw [show Mac.succL (allN d) (clsC d) (Mac.cg (clsC d) s) = _ from Mac.succL_eq hR (Nat.lt_of_le_of_lt (Mac.class_le hR (show s < (tabC d).n from hs')) hs')]
     exact List.mem_map.2 ⟨x, List.mem_range.2 hx0, hnx s hs x hx0⟩
   refine key p 0 (reach_zero d) hp ?_
   have h0 : Mac.cg (clsC d) 0 = 0 := Mac.class_zero hR hpos
   rw [h0]
   exact List.mem_of_getElem? (Mac.ord_zero hR)
 have n1 : (Mac.ordL (allN d) (clsC d)).Nodup := Mac.ord_nodup hR
 have n2 : (seenC d (reach d)).Nodup := Mac.pushesG_nodup _ (by simp)
 exact Nat.le_antisymm (sub_length n1 fun x hx => (hmem x).1 hx) (sub_length n2 fun x hx => (hmem x).2 hx)
end Cir
end Go.Proofs.Ytkkkjbinfdohpaa
namespace Go.Proofs.Ytkkkjbinfdohpaa
open Go.RowKit Go.Maps
def DrewTwo (R : Nat) (w : World) (e : Ending) (w' : World) : Prop := ∃ va vb ca cb, e = .returned (.tuple #[va, vb]) ∧ CircOwn 0 w' va ca ∧ CircOwn 0 w' vb cb ∧ Only (fun g => g = R) w w'
theorem OwnC.circ {B : Nat} {v : Value} {c : Cz} {w : World} (h : OwnC B v c w) : CircOwn 0 w v c := by
 obtain ⟨vN, vG, vO, e, h1, h2, h3, -⟩ := h
 exact ⟨vN, vG, vO, e, own_mono h1 (Nat.zero_le _), own_mono h2 (Nat.zero_le _), own_mono h3 (Nat.zero_le _)⟩
theorem CircOwn.tag {B : Nat} {w w' : World} {v : Value} {c : Cz} {k : Nat} {old : Array Value} {t : TypeId} {fr : Nat × Nat} (h : CircOwn B w v c) (hk : w.heap[k]? = some (.cells old t fr)) (h1 : 3 ≠ t) (h2 : 64 ≠ t) (ho : Only (fun g => g = k) w w') : CircOwn B w' v c := by
 obtain ⟨vn, vg, vo, e, e1, e2, e3⟩ := h
 exact ⟨vn, vg, vo, e, own_only e1 ho (fun g hg e => own_ne_tag e1 hk h1 (by rw [hg, e])), own_only e2 ho (fun g hg e => own_ne_tag e2 hk h2 (by rw [hg, e])), own_only e3 ho (fun g hg e => own_ne_tag e3 hk h1 (by rw [hg, e]))⟩
theorem CircOwn.shape {B : Nat} {w : World} {v : Value} {c : Cz} (h : CircOwn B w v c) : ∃ An cn Ag cg Ao co, v = .agg #[.int .i64 c.ins, .slice An c.next.length cn, .slice Ag c.gates.length cg, .slice Ao c.outs.length co] := by
 obtain ⟨vN, vG, vO, rfl, h1, h2, h3⟩ := h
 obtain ⟨An, cn, rfl⟩ := slice_of_own h1
 obtain ⟨Ag, cg, rfl⟩ := slice_of_own h2
 obtain ⟨Ao, co, rfl⟩ := slice_of_own h3
 exact ⟨An, cn, Ag, cg, Ao, co, rfl⟩
theorem CircOwn.rd {B R P : Nat} {w w' : World} {v : Value} {c : Cz} (h : CircOwn B w v c) (hr : Rd w R P) (hg : w.grownBy w' (some R)) : CircOwn B w' v c := by
 obtain ⟨A, q, p, bs, hh, -⟩ := hr
 exact h.tag hh (by decide) (by decide) (Only.grown hg fun k hk => (Option.some.inj hk).symm)
theorem CircOwn.only {B : Nat} {E : Nat → Prop} {w w' : World} {v : Value} {c : Cz} (h : CircOwn B w v c) (ho : Only E w w') (hE : ∀ g, g < w.heap.size → ¬ E g) : CircOwn B w' v c := by
 obtain ⟨vn, vg, vo, e, e1, e2, e3⟩ := h
 exact ⟨vn, vg, vo, e, own_only e1 ho (fun g hg => hE g (e1.lt g hg).2), own_only e2 ho (fun g hg => hE g (e2.lt g hg).2), own_only e3 ho (fun g hg => hE g (e3.lt g hg).2)⟩
theorem cubes_of : ∀ (n : Nat) (cs : List Value), cs.length = n * 2 → (∀ u ∈ cs, ∃ x : Int, u = .int .i64 x) → ∃ ks : List (Int × Int), ks.length = n ∧ cs = cubes ks
 | 0, cs, h, _ => ⟨[], rfl, by have := List.eq_nil_of_length_eq_zero (l := cs) (by omega); rw [this]; rfl⟩
 | n + 1, cs, h, hu => by
  match cs, h, hu with
  | a :: b :: cs, h, hu =>
   obtain ⟨x, rfl⟩ := hu a (by simp)
   obtain ⟨y, rfl⟩ := hu b (by simp)
   obtain ⟨ks, h1, h2⟩ := cubes_of n cs (by simp at h; omega) (fun u hm => hu u (by simp [hm]))
   exact ⟨(x, y) :: ks, by simp [h1], by rw [h2]; rfl⟩
  | [a], h, _ => simp at h; omega
  | [], h, _ => simp at h
theorem cubes_ints (ks : List (Int × Int)) : ∀ u ∈ cubes ks, ∃ x : Int, u = .int .i64 x := by
 intro u hu
 unfold cubes at hu
 obtain ⟨k, -, hk⟩ := List.mem_flatMap.1 hu
 simp at hk
 rcases hk with rfl | rfl
 ·exact ⟨_, rfl⟩
 ·exact ⟨_, rfl⟩
theorem set_ints {cs : List Value} (h : ∀ u ∈ cs, ∃ x : Int, u = .int .i64 x) (j : Nat) (y : Int) : ∀ u ∈ cs.set j (.int .i64 y), ∃ x : Int, u = .int .i64 x := fun u hu => by
 rcases List.mem_or_eq_of_mem_set hu with h1 | h1
 ·exact h u h1
 ·exact ⟨y, h1⟩
end Go.Proofs.Ytkkkjbinfdohpaa
namespace Go.Proofs.Ytkkkjbinfdohpaa
namespace Two
def has (k : Nat × Nat) (x : Nat) : Bool := x &&& k.1 == k.2
def fine (k : Nat × Nat) : Bool := k.2 &&& k.1 == k.2
def within (k : Nat × Nat) (t n : Nat) : Bool := (List.range (2 ^ n)).all fun x => !has k x || t.testBit x
def gen (a b : Nat × Nat) : Bool := a.1 &&& b.1 == b.1 && a.2 &&& b.1 == b.2
def addTo (k : Nat × Nat) (t : Nat) : Nat → Nat
  | 0 => t
  | m + 1 => if has k m then addTo k t m ||| 2 ^ m else addTo k t m
def tableOf (l : List (Nat × Nat)) (n : Nat) : Nat := l.foldl (fun t k => addTo k t (2 ^ n)) 0
end Two
end Go.Proofs.Ytkkkjbinfdohpaa
namespace Go.Proofs.Ytkkkjbinfdohpaa
open Go.RowKit
def hasI (c v x : Int) : Bool := decide (0 ≤ x) && (bits .and .i64 x c == v)
def cubeV (c v : Int) : Value := .agg #[.int .i64 c, .int .i64 v]
end Go.Proofs.Ytkkkjbinfdohpaa
namespace Go.Proofs.Ytkkkjbinfdohpaa
open Go.RowKit
def okI (N : Nat) (k : Int × Int) : Bool := decide (0 ≤ k.1 ∧ k.1 < (2 : Int) ^ N) && (bits .andNot .i64 k.2 k.1 == 0)
def natK (k : Int × Int) : Nat × Nat := (k.1.toNat, k.2.toNat)
def intK (k : Nat × Nat) : Int × Int := (k.1, k.2)
def WfK (k : Int × Int) : Prop := -9223372036854775808 ≤ k.2 ∧ k.2 ≤ 9223372036854775807
def covFrom (N : Nat) (l : List (Int × Int)) (t : Nat) : Int := if l.all (okI N) then ((l.foldl (fun t k => Two.addTo (natK k) t (2 ^ N)) t : Nat) : Int) else -1
def coverI (n : Int) (ks : List (Int × Int)) : Int := if 0 ≤ n ∧ n ≤ 4 ∧ ks.length ≤ 100 then covFrom n.toNat ks 0 else -1
end Go.Proofs.Ytkkkjbinfdohpaa
namespace Go.Proofs.Ytkkkjbinfdohpaa
open Go.RowKit
end Go.Proofs.Ytkkkjbinfdohpaa
namespace Go.Proofs.Ytkkkjbinfdohpaa
open Go.RowKit
def orRow (l : List (Nat × Nat)) (x t : Nat) : Nat := l.foldl (fun t k => if Two.has k x then t ||| 2 ^ x else t) t
def specTab (l : List (Nat × Nat)) : Nat → Nat
  | 0 => 0
  | m + 1 => orRow l m (specTab l m)
end Go.Proofs.Ytkkkjbinfdohpaa
namespace Go.Proofs.Ytkkkjbinfdohpaa
end Go.Proofs.Ytkkkjbinfdohpaa
namespace Go.Proofs.Ytkkkjbinfdohpaa
namespace Two
def cand (t n : Nat) (k : Nat × Nat) : Bool := fine k && within k t n
def pstep (t n : Nat) (out : List (Nat × Nat)) (k : Nat × Nat) : List (Nat × Nat) := if cand t n k && !out.any (fun b => gen k b) then out ++ [k] else out
def istep (t n : Nat) (out : List (Nat × Nat)) (k : Nat × Nat) : List (Nat × Nat) := if cand t n k then out ++ [k] else out
section
variable (f : List (Nat × Nat) → Nat × Nat → List (Nat × Nat))
def rowF (out : List (Nat × Nat)) (c : Nat) : Nat → List (Nat × Nat)
  | 0 => out
  | v + 1 => f (rowF out c v) (c, v)
def tabF (m : Nat) : Nat → List (Nat × Nat)
  | 0 => []
  | c + 1 => rowF f (tabF m c) c m
def rowP (c m : Nat) : List (Nat × Nat) := (List.range m).map fun v => (c, v)
def pairsF (m : Nat) : Nat → List (Nat × Nat)
  | 0 => []
  | c + 1 => pairsF m c ++ rowP c m
end
def implicants (t n : Nat) : List (Nat × Nat) := (pairsF (2 ^ n) (2 ^ n)).filter (cand t n)
def prime (t n : Nat) (a : Nat × Nat) : Bool := (implicants t n).all fun b => a == b || !gen a b
def primes (t n : Nat) : List (Nat × Nat) := (implicants t n).filter (prime t n)
def primeAt (L : List (Nat × Nat)) (i : Nat) : Nat → Bool
  | 0 => true
  | j + 1 => primeAt L i j && (i == j || !gen (L.getD i (0, 0)) (L.getD j (0, 0)))
def outAt (L : List (Nat × Nat)) : Nat → List (Nat × Nat)
  | 0 => []
  | i + 1 => if primeAt L i L.length then outAt L i ++ [L.getD i (0, 0)] else outAt L i
end Two
end Go.Proofs.Ytkkkjbinfdohpaa