import Derived.Test.YtlbfejdbfhgifaaS05
import Derived.Test.YtlbfejdbfhgifaaS04
import Derived.Test.YtlbfejdbfhgifaaS02
set_option linter.unusedVariables false
set_option linter.unusedSimpArgs false
namespace Go.Proofs.Ytlbfejdbfhgifaa
/-! Runs of machines, plainly. -/
namespace Mac
def stepN (m : Mz) (s : Nat) (x : Int) : Nat := ((m.next.getD s []).getD x.toNat 0).toNat
def stepO (m : Mz) (s : Nat) (x : Int) : Int := (m.out.getD s []).getD x.toNat 0
/-- The state behind some inputs, and the outputs. -/
def st (m : Mz) (ins : List Int) : Nat := ins.foldl (stepN m) 0
def outs (m : Mz) : Nat → List Int → List Int
  | _, [] => []
  | s, x :: xs => stepO m s x :: outs m (stepN m s x) xs
theorem outs_append (m : Mz) : ∀ (xs ys : List Int) (s : Nat), outs m s (xs ++ ys) = outs m s xs ++ outs m (xs.foldl (stepN m) s) ys
  | [], _, _ => rfl
  | x :: xs, ys, s => by rw [List.cons_append, outs, outs, outs_append m xs ys, List.foldl_cons, List.cons_append]
theorem outs_length (m : Mz) : ∀ (xs : List Int) (s : Nat), (outs m s xs).length = xs.length
  | [], _ => rfl
  | x :: xs, s => by rw [outs, List.length_cons, outs_length m xs, List.length_cons]
def inRange (m : Mz) (x : Int) : Bool := inOk ((2 ^ m.ins.toNat : Nat) : Int) x
def runOk (m : Mz) (ins : List Int) : Bool := valid m && decide (ins.length ≤ 40) && ins.all (inRange m)
def runI (m : Mz) (ins : List Int) : List Int := if runOk m ins then outs m 0 ins else []
theorem runI_length (m : Mz) (ins : List Int) : (runI m ins).length ≤ 40 := by
  unfold runI
  split
  · rename_i h
    unfold runOk at h
    simp at h
    rw [outs_length]
    exact h.1.2
  · simp
/-- What a valid machine's rows hold. -/
theorem valid_row {m : Mz} (h : valid m = true) {s : Nat} (hs : s < m.next.length) {x : Nat} (hx : x < 2 ^ m.ins.toNat) :
    ∃ r q y o, m.next[s]? = some r ∧ m.out[s]? = some q ∧ r.length = 2 ^ m.ins.toNat ∧ q.length = 2 ^ m.ins.toNat ∧ r[x]? = some ((y : Nat) : Int) ∧ y < m.next.length ∧ q[x]? = some o ∧ 0 ≤ o ∧ o < 8 ∧ stepN m s x = y ∧ stepO m s x = o := by
  unfold valid at h
  rw [Bool.and_eq_true, Bool.and_eq_true] at h
  obtain ⟨h0, h1, h2⟩ := h
  unfold sizes at h0
  rw [decide_eq_true_eq] at h0
  obtain ⟨_, _, _, _, h5⟩ := h0
  have hso : s < m.out.length := by omega
  have e1 : m.next[s]? = some m.next[s] := List.getElem?_eq_getElem hs
  have e2 : m.out[s]? = some m.out[s] := List.getElem?_eq_getElem hso
  have g1 := List.all_eq_true.1 h1 _ (List.getElem_mem hs)
  have g2 := List.all_eq_true.1 h2 _ (List.getElem_mem hso)
  generalize m.next[s] = r at e1 g1
  generalize m.out[s] = q at e2 g2
  unfold rowOk lenOk at g1 g2
  rw [Bool.and_eq_true, decide_eq_true_eq] at g1 g2
  have l1 : r.length = 2 ^ m.ins.toNat := by omega
  have l2 : q.length = 2 ^ m.ins.toNat := by omega
  have f1 : r[x]? = some (r[x]'(by omega)) := List.getElem?_eq_getElem _
  have f2 : q[x]? = some (q[x]'(by omega)) := List.getElem?_eq_getElem _
  have k1 := List.all_eq_true.1 g1.2 _ (List.getElem_mem (show x < r.length by omega))
  have k2 := List.all_eq_true.1 g2.2 _ (List.getElem_mem (show x < q.length by omega))
  generalize r[x]'(by omega) = y at f1 k1
  generalize q[x]'(by omega) = o at f2 k2
  unfold inOk at k1 k2
  rw [decide_eq_true_eq] at k1 k2
  obtain ⟨y', rfl⟩ := Int.eq_ofNat_of_zero_le k1.1
  refine ⟨r, q, y', o, e1, e2, l1, l2, f1, by omega, f2, k2.1, k2.2, ?_, ?_⟩
  · unfold stepN
    simp [List.getD_eq_getElem?_getD, e1, f1]
  · unfold stepO
    simp [List.getD_eq_getElem?_getD, e2, f2]
theorem st_snoc {m : Mz} {ins : List Int} {k : Nat} {x : Int} (h : ins[k]? = some x) : st m (ins.take (k + 1)) = stepN m (st m (ins.take k)) x := by
  unfold st
  rw [List.take_add_one, h, List.foldl_append]
  rfl
theorem outs_snoc {m : Mz} {ins : List Int} {k : Nat} {x : Int} (h : ins[k]? = some x) : outs m 0 (ins.take (k + 1)) = outs m 0 (ins.take k) ++ [stepO m (st m (ins.take k)) x] := by
  rw [List.take_add_one, h, outs_append]
  rfl
theorem inRange_nat {m : Mz} {x : Int} (h : inRange m x = true) : ∃ n : Nat, x = n ∧ n < 2 ^ m.ins.toNat := by
  unfold inRange inOk at h
  rw [decide_eq_true_eq] at h
  obtain ⟨n, rfl⟩ := Int.eq_ofNat_of_zero_le h.1
  exact ⟨n, rfl, by omega⟩
end Mac
end Go.Proofs.Ytlbfejdbfhgifaa

namespace Go.Proofs.Ytlbfejdbfhgifaa
/-! Partition refinement, plainly. -/
namespace Mac
def cg (C : List Nat) (s : Nat) : Nat := C.getD s 0
/-- The first t up to s for which R holds; s if there is none. -/
def least (R : Nat → Bool) : Nat → Nat → Nat
  | 0, j => j
  | f + 1, j => if R j then j else least R f (j + 1)
theorem least_spec (R : Nat → Bool) : ∀ (f j : Nat), j ≤ least R f j ∧ least R f j ≤ j + f ∧ (least R f j < j + f → R (least R f j) = true) ∧ ∀ t, j ≤ t → t < least R f j → R t = false
  | 0, j => ⟨Nat.le_refl _, Nat.le_refl _, fun h => absurd h (Nat.lt_irrefl _), fun t h1 h2 => by unfold least at h2; omega⟩
  | f + 1, j => by
    unfold least
    split
    · rename_i h
      exact ⟨Nat.le_refl _, by omega, fun _ => h, fun t h1 h2 => by omega⟩
    · rename_i h
      obtain ⟨h1, h2, h3, h4⟩ := least_spec R f (j + 1)
      refine ⟨by omega, by omega, fun h' => h3 (by omega), fun t h5 h6 => ?_⟩
      by_cases e : t = j
      · subst e; simpa using h
      · exact h4 t (by omega) h6
theorem least_eq {R : Nat → Bool} {s j : Nat} (hj : j ≤ s) (h : ∀ t, t < j → R t = false) (hR : j = s ∨ R j = true) : least R s 0 = j := by
  obtain ⟨-, h2, h3, h4⟩ := least_spec R s 0
  rcases Nat.lt_trichotomy (least R s 0) j with h5 | h5 | h5
  · have h6 := h _ h5
    rw [h3 (by omega)] at h6
    cases h6
  · exact h5
  · rcases hR with rfl | hR
    · omega
    · have := h4 j (by omega) h5
      rw [hR] at this
      cases this
section
variable {κ : Type} [DecidableEq κ]
/-- Every index's first index with the same key. -/
def mkK (key : Nat → κ) (n : Nat) : List Nat := (List.range n).map fun s => least (fun t => decide (key t = key s)) s 0
theorem mkK_len (key : Nat → κ) (n : Nat) : (mkK key n).length = n := by unfold mkK; simp
theorem mkK_get (key : Nat → κ) {n s : Nat} (hs : s < n) : (mkK key n)[s]? = some (least (fun t => decide (key t = key s)) s 0) := by
  unfold mkK
  rw [List.getElem?_map, List.getElem?_range hs]
  rfl
theorem mkK_cg (key : Nat → κ) {n s : Nat} (hs : s < n) : cg (mkK key n) s = least (fun t => decide (key t = key s)) s 0 := by
  unfold cg
  rw [List.getD_eq_getElem?_getD, mkK_get key hs]
  rfl
theorem mkK_facts (key : Nat → κ) {n s : Nat} (hs : s < n) : cg (mkK key n) s ≤ s ∧ key (cg (mkK key n) s) = key s ∧ ∀ t, t < cg (mkK key n) s → key t ≠ key s := by
  rw [mkK_cg key hs]
  obtain ⟨-, h2, h3, h4⟩ := least_spec (fun t => decide (key t = key s)) s 0
  refine ⟨by omega, ?_, fun t ht e => ?_⟩
  · by_cases h : least (fun t => decide (key t = key s)) s 0 < s
    · simpa using h3 (by omega)
    · rw [show least (fun t => decide (key t = key s)) s 0 = s by omega]
  · have := h4 t (by omega) ht
    simp [e] at this
theorem mkK_iff (key : Nat → κ) {n a b : Nat} (ha : a < n) (hb : b < n) : cg (mkK key n) a = cg (mkK key n) b ↔ key a = key b := by
  obtain ⟨a1, a2, a3⟩ := mkK_facts key ha
  obtain ⟨b1, b2, b3⟩ := mkK_facts key hb
  constructor
  · intro h
    rw [← a2, ← b2, h]
  · intro h
    rcases Nat.lt_trichotomy (cg (mkK key n) a) (cg (mkK key n) b) with h5 | h5 | h5
    · exact absurd (a2.trans h) (b3 _ h5)
    · exact h5
    · exact absurd (b2.trans h.symm) (a3 _ h5)
theorem mkK_congr {κ' : Type} [DecidableEq κ'] (key : Nat → κ) (key' : Nat → κ') (n : Nat) (h : ∀ a b, a < n → b < n → (key a = key b ↔ key' a = key' b)) : mkK key n = mkK key' n := by
  unfold mkK
  apply List.map_congr_left
  intro s hs
  have hs := List.mem_range.1 hs
  obtain ⟨-, h2, h3, h4⟩ := least_spec (fun t => decide (key' t = key' s)) s 0
  refine least_eq (by omega) (fun t ht => ?_) ?_
  · have := h4 t (by omega) ht
    simp only [decide_eq_false_iff_not] at this ⊢
    rwa [h t s (by omega) hs]
  · by_cases hl : least (fun t => decide (key' t = key' s)) s 0 < s
    · right
      have := h3 (by omega)
      simp only [decide_eq_true_eq] at this ⊢
      rwa [h _ s (by omega) hs]
    · left; omega
end
/-- A list of classes: everybody's first like one. -/
structure Cl (n : Nat) (C : List Nat) : Prop where
  len : C.length = n
  le : ∀ s, s < n → cg C s ≤ s
  root : ∀ s, s < n → cg C (cg C s) = cg C s
theorem mkK_cl {κ : Type} [DecidableEq κ] (key : Nat → κ) (n : Nat) : Cl n (mkK key n) :=
  ⟨mkK_len key n, fun s hs => (mkK_facts key hs).1, fun s hs => by
    obtain ⟨h1, h2, h3⟩ := mkK_facts key hs
    exact (mkK_iff key (by omega) hs).2 h2⟩
theorem Cl.ext {n : Nat} {C C' : List Nat} (h : Cl n C) (h' : Cl n C') (he : ∀ a b, a < n → b < n → (cg C a = cg C b ↔ cg C' a = cg C' b)) : C = C' := by
  have hc : ∀ s, s < n → cg C s = cg C' s := fun s hs => by
    have h1 := h.le s hs
    have h2 := h'.le s hs
    have e1 := (he (cg C s) s (by omega) hs).1 (h.root s hs)
    have e2 := (he (cg C' s) s (by omega) hs).2 (h'.root s hs)
    have h3 := h'.le (cg C s) (by omega)
    have h4 := h.le (cg C' s) (by omega)
    omega
  apply List.ext_getElem
  · rw [h.len, h'.len]
  · intro i h1 h2
    have := hc i (by rw [← h.len]; exact h1)
    unfold cg at this
    rwa [List.getD_eq_getElem?_getD, List.getD_eq_getElem?_getD, List.getElem?_eq_getElem h1, List.getElem?_eq_getElem h2, Option.getD_some, Option.getD_some] at this
def Finer (n : Nat) (C' C : List Nat) : Prop := ∀ a b, a < n → b < n → cg C' a = cg C' b → cg C a = cg C b
def roots (n : Nat) (C : List Nat) : Nat := (List.range n).countP fun s => cg C s == s
theorem count_lt {p q : Nat → Bool} : ∀ (l : List Nat), (∀ s ∈ l, p s = true → q s = true) → l.countP p ≤ l.countP q ∧ ((∃ s ∈ l, q s = true ∧ p s = false) → l.countP p < l.countP q)
  | [], _ => ⟨Nat.le_refl _, fun ⟨s, hs, _⟩ => by simp at hs⟩
  | a :: l, h => by
    obtain ⟨h1, h2⟩ := count_lt l (fun s hs => h s (List.mem_cons_of_mem _ hs))
    have ha := h a (by simp)
    rw [List.countP_cons, List.countP_cons]
    refine ⟨?_, ?_⟩
    · cases hp : p a
      · simp; omega
      · rw [ha hp]; simp; omega
    · rintro ⟨s, hs, hq, hp⟩
      rcases List.mem_cons.1 hs with rfl | hs
      · rw [hq, hp]; simp; omega
      · have := h2 ⟨s, hs, hq, hp⟩
        cases hp : p a
        · simp; omega
        · rw [ha hp]; simp; omega
theorem roots_lt {n : Nat} {C C' : List Nat} (h : Cl n C) (h' : Cl n C') (hf : Finer n C' C) (hne : C' ≠ C) : roots n C < roots n C' := by
  unfold roots
  have hroot : ∀ s ∈ List.range n, (cg C s == s) = true → (cg C' s == s) = true := fun s hs hr => by
    have hs := List.mem_range.1 hs
    rw [beq_iff_eq] at hr ⊢
    have h1 := h'.le s hs
    have h2 := hf (cg C' s) s (by omega) hs (h'.root s hs)
    have h3 := h.le (cg C' s) (by omega)
    omega
  refine (count_lt _ hroot).2 ?_
  apply Classical.byContradiction
  intro hno
  apply hne
  have hall : ∀ s, s < n → cg C' s = s → cg C s = s := fun s hs e => by
    apply Classical.byContradiction
    intro hc
    exact hno ⟨s, List.mem_range.2 hs, by simpa using e, by simpa using hc⟩
  refine (Cl.ext h h' fun a b ha hb => ⟨fun e => ?_, hf a b ha hb⟩).symm
  -- the root of a in C' is a root in C
  have g : ∀ s, s < n → cg C s = cg C' s := fun s hs => by
    have h1 := h'.le s hs
    have h2 := hf (cg C' s) s (by omega) hs (h'.root s hs)
    have h3 := hall (cg C' s) (by omega) (h'.root s hs)
    omega
  rw [← g a ha, ← g b hb, e]
theorem roots_le (n : Nat) (C : List Nat) : roots n C ≤ n := by
  unfold roots
  exact Nat.le_trans List.countP_le_length (by simp)
theorem roots_pos {n : Nat} {C : List Nat} (h : Cl n C) (hn : 0 < n) : 0 < roots n C := by
  unfold roots
  rw [List.countP_pos_iff]
  exact ⟨0, List.mem_range.2 hn, by have := h.le 0 hn; simp; omega⟩
/-- A sequence of finer and finer classes stands still soon. -/
theorem seq_still {n : Nat} {f : Nat → List Nat} (hn : 0 < n) (hc : ∀ k, Cl n (f k)) (hf : ∀ k, Finer n (f (k + 1)) (f k)) : ∀ K, (∀ k, k < K → f (k + 1) ≠ f k) → K + 1 ≤ roots n (f K)
  | 0, _ => roots_pos (hc 0) hn
  | K + 1, h => by
    have h1 := seq_still hn hc hf K (fun k hk => h k (by omega))
    have h2 := roots_lt (hc K) (hc (K + 1)) (hf K) (h K (by omega))
    omega
theorem seq_stable {f : Nat → List Nat} {G : List Nat → List Nat} (hG : ∀ k, f (k + 1) = G (f k)) {k : Nat} (h : f (k + 1) = f k) : ∀ d, f (k + d) = f k
  | 0 => rfl
  | d + 1 => by
    have e1 : f (k + (d + 1)) = G (f (k + d)) := hG (k + d)
    rw [e1, seq_stable hG h d, ← hG k, h]
/-- No more rounds than n. -/
theorem seq_bound {n : Nat} {f : Nat → List Nat} (hn : 0 < n) (hc : ∀ k, Cl n (f k)) (hf : ∀ k, Finer n (f (k + 1)) (f k)) {K : Nat} (h : ∀ k, k < K → f (k + 1) ≠ f k) : K < n := by
  have := seq_still hn hc hf K h
  have := roots_le n (f K)
  omega
theorem seq_end {n : Nat} {f : Nat → List Nat} {G : List Nat → List Nat} (hn : 0 < n) (hG : ∀ k, f (k + 1) = G (f k)) (hc : ∀ k, Cl n (f k)) (hf : ∀ k, Finer n (f (k + 1)) (f k)) (d : Nat) : f (n + d + 1) = f (n + d) ∧ ∀ k, f (k + 1) = f k → f k = f (n + d) := by
  obtain ⟨k, hk, he⟩ : ∃ k, k < n ∧ f (k + 1) = f k := by
    apply Classical.byContradiction
    intro hno
    have := seq_bound (K := n) hn hc hf (fun k hk e => hno ⟨k, hk, e⟩)
    omega
  have e1 : ∀ j, n ≤ j → f j = f k := fun j hj => by
    obtain ⟨d, rfl⟩ : ∃ d, j = k + d := ⟨j - k, by omega⟩
    exact seq_stable hG he d
  refine ⟨by rw [e1 _ (by omega), e1 (n + d) (by omega)], fun j hj => ?_⟩
  rcases Nat.lt_or_ge j (n + d) with h | h
  · obtain ⟨e, he⟩ : ∃ e, n + d = j + e := ⟨n + d - j, by omega⟩
    rw [he, seq_stable hG hj e]
  · rw [e1 j (by omega), e1 (n + d) (by omega)]
end Mac
end Go.Proofs.Ytlbfejdbfhgifaa

namespace Go.Proofs.Ytlbfejdbfhgifaa
/-! The classes of a machine's states, plainly. -/
namespace Mac
/-- Rows by their numbers. -/
def nrow (next : List (List Int)) (a : Nat) : List Int := next.getD a []
def key0 (out : List (List Int)) (a : Nat) : List Int := out.getD a []
def keyI (next : List (List Int)) (C : List Nat) (a : Nat) : Nat × List Nat := (cg C a, (nrow next a).map fun y => cg C y.toNat)
def keyS (next out : List (List Int)) (C : List Nat) (a : Nat) : Nat × List Int × List Nat := (cg C a, key0 out a, (nrow next a).map fun y => cg C y.toNat)
/-- The program's rounds. -/
def seqI (next out : List (List Int)) : Nat → List Nat
  | 0 => mkK (key0 out) next.length
  | k + 1 => mkK (keyI next (seqI next out k)) next.length
/-- The reference's rounds. -/
def seqS (next out : List (List Int)) : Nat → List Nat
  | 0 => List.replicate next.length 0
  | k + 1 => mkK (keyS next out (seqS next out k)) next.length
def classI (next out : List (List Int)) : List Nat := seqI next out (next.length + 1)
def classS (next out : List (List Int)) : List Nat := seqS next out (next.length + 1)
theorem seqI_cl (next out : List (List Int)) : ∀ k, Cl next.length (seqI next out k)
  | 0 => mkK_cl _ _
  | _ + 1 => mkK_cl _ _
theorem seqS_cl (next out : List (List Int)) : ∀ k, Cl next.length (seqS next out k)
  | 0 => ⟨by simp [seqS], fun s hs => by simp [seqS, cg, List.getD_eq_getElem?_getD, List.getElem?_replicate, hs], fun s hs => by
      have h0 : ∀ s, cg (List.replicate next.length 0) s = 0 := fun s => by
        unfold cg
        rw [List.getD_eq_getElem?_getD, List.getElem?_replicate]
        split <;> rfl
      unfold seqS
      rw [h0, h0]⟩
  | _ + 1 => mkK_cl _ _
theorem seqI_finer (next out : List (List Int)) (k : Nat) : Finer next.length (seqI next out (k + 1)) (seqI next out k) := fun a b ha hb h => by
  have := (mkK_iff _ ha hb).1 h
  exact congrArg Prod.fst this
theorem seqS_finer (next out : List (List Int)) (k : Nat) : Finer next.length (seqS next out (k + 1)) (seqS next out k) := fun a b ha hb h => by
  have := (mkK_iff _ ha hb).1 h
  exact congrArg Prod.fst this
theorem seqI_end (next out : List (List Int)) (hn : 0 < next.length) : seqI next out (next.length + 2) = classI next out ∧ ∀ k, seqI next out (k + 1) = seqI next out k → seqI next out k = classI next out :=
  seq_end (G := fun C => mkK (keyI next C) next.length) hn (fun _ => rfl) (seqI_cl next out) (seqI_finer next out) 1
theorem seqI_bound (next out : List (List Int)) (hn : 0 < next.length) {K : Nat} (h : ∀ k, k < K → seqI next out (k + 1) ≠ seqI next out k) : K < next.length :=
  seq_bound hn (seqI_cl next out) (seqI_finer next out) h
theorem seqS_end (next out : List (List Int)) (hn : 0 < next.length) : seqS next out (next.length + 2) = classS next out ∧ ∀ k, seqS next out (k + 1) = seqS next out k → seqS next out k = classS next out :=
  seq_end (G := fun C => mkK (keyS next out C) next.length) hn (fun _ => rfl) (seqS_cl next out) (seqS_finer next out) 1
/-! ### Behaviours -/
/-- The rows of machines, by number; inputs are taken modulo M. -/
structure Tab where
  n : Nat
  M : Nat
  nx : Nat → Nat → Nat
  ou : Nat → Nat → Int
  pos : 0 < M
  lt : ∀ s x, s < n → nx s x < n
  nmod : ∀ s x, nx s (x % M) = nx s x
  omod : ∀ s x, ou s (x % M) = ou s x
def beh (T : Tab) : Nat → List Nat → List Int
  | _, [] => []
  | s, x :: xs => T.ou s x :: beh T (T.nx s x) xs
/-- The lists are the rows of T. -/
structure Rows (T : Tab) (next out : List (List Int)) : Prop where
  len : next.length = T.n
  row : ∀ a, a < T.n → nrow next a = (List.range T.M).map fun x => ((T.nx a x : Nat) : Int)
  outs : ∀ a, a < T.n → key0 out a = (List.range T.M).map (T.ou a)
theorem map_range_inj {α : Type} {M : Nat} {f g : Nat → α} : (List.range M).map f = (List.range M).map g ↔ ∀ x, x < M → f x = g x := by
  constructor
  · intro h x hx
    have := congrArg (fun l => l[x]?) h
    simpa [List.getElem?_map, List.getElem?_range hx] using this
  · intro h
    exact List.map_congr_left fun x hx => h x (List.mem_range.1 hx)
theorem key0_iff {T : Tab} {next out : List (List Int)} (h : Rows T next out) {a b : Nat} (ha : a < T.n) (hb : b < T.n) : key0 out a = key0 out b ↔ ∀ x, T.ou a x = T.ou b x := by
  rw [h.outs a ha, h.outs b hb, map_range_inj]
  exact ⟨fun h x => by rw [← T.omod a, ← T.omod b]; exact h _ (Nat.mod_lt _ T.pos), fun h x _ => h x⟩
theorem row_iff {T : Tab} {next out : List (List Int)} (h : Rows T next out) (C : List Nat) {a b : Nat} (ha : a < T.n) (hb : b < T.n) : (nrow next a).map (fun y => cg C y.toNat) = (nrow next b).map (fun y => cg C y.toNat) ↔ ∀ x, cg C (T.nx a x) = cg C (T.nx b x) := by
  rw [h.row a ha, h.row b hb, List.map_map, List.map_map, map_range_inj]
  simp only [Function.comp, Int.toNat_natCast]
  exact ⟨fun h x => by rw [← T.nmod a, ← T.nmod b]; exact h _ (Nat.mod_lt _ T.pos), fun h x _ => h x⟩
theorem beh_of_stable {T : Tab} {C : List Nat} (h1 : ∀ a b, a < T.n → b < T.n → cg C a = cg C b → ∀ x, T.ou a x = T.ou b x) (h2 : ∀ a b, a < T.n → b < T.n → cg C a = cg C b → ∀ x, cg C (T.nx a x) = cg C (T.nx b x)) : ∀ (xs : List Nat) (a b : Nat), a < T.n → b < T.n → cg C a = cg C b → beh T a xs = beh T b xs
  | [], _, _, _, _, _ => rfl
  | x :: xs, a, b, ha, hb, h => by
    rw [beh, beh, h1 a b ha hb h x, beh_of_stable h1 h2 xs _ _ (T.lt _ _ ha) (T.lt _ _ hb) (h2 a b ha hb h x)]
theorem beh_next {T : Tab} {a b : Nat} (h : beh T a = beh T b) (x : Nat) : beh T (T.nx a x) = beh T (T.nx b x) := by
  funext xs
  have := congrFun h (x :: xs)
  rw [beh, beh] at this
  exact (List.cons.inj this).2
theorem beh_out {T : Tab} {a b : Nat} (h : beh T a = beh T b) (x : Nat) : T.ou a x = T.ou b x := by
  have := congrFun h [x]
  rw [beh, beh] at this
  exact (List.cons.inj this).1
theorem seqI_beh {T : Tab} {next out : List (List Int)} (h : Rows T next out) {a b : Nat} (ha : a < T.n) (hb : b < T.n) (he : beh T a = beh T b) : ∀ k, cg (seqI next out k) a = cg (seqI next out k) b := by
  intro k
  induction k generalizing a b with
  | zero =>
    unfold seqI
    rw [mkK_iff _ (by rw [h.len]; exact ha) (by rw [h.len]; exact hb), key0_iff h ha hb]
    exact beh_out he
  | succ k ih =>
    unfold seqI
    rw [mkK_iff _ (by rw [h.len]; exact ha) (by rw [h.len]; exact hb)]
    unfold keyI
    rw [Prod.mk.injEq, row_iff h _ ha hb]
    exact ⟨ih ha hb he, fun x => ih (T.lt _ _ ha) (T.lt _ _ hb) (beh_next he x)⟩
theorem seqS_beh {T : Tab} {next out : List (List Int)} (h : Rows T next out) {a b : Nat} (ha : a < T.n) (hb : b < T.n) (he : beh T a = beh T b) : ∀ k, cg (seqS next out k) a = cg (seqS next out k) b := by
  intro k
  induction k generalizing a b with
  | zero =>
    unfold seqS cg
    rw [List.getD_eq_getElem?_getD, List.getD_eq_getElem?_getD, List.getElem?_replicate, List.getElem?_replicate]
    split <;> split <;> rfl
  | succ k ih =>
    unfold seqS
    rw [mkK_iff _ (by rw [h.len]; exact ha) (by rw [h.len]; exact hb)]
    unfold keyS
    rw [Prod.mk.injEq, Prod.mk.injEq, row_iff h _ ha hb, key0_iff h ha hb]
    exact ⟨ih ha hb he, beh_out he, fun x => ih (T.lt _ _ ha) (T.lt _ _ hb) (beh_next he x)⟩
theorem seqI_out {T : Tab} {next out : List (List Int)} (h : Rows T next out) {a b : Nat} (ha : a < T.n) (hb : b < T.n) : ∀ k, cg (seqI next out k) a = cg (seqI next out k) b → ∀ x, T.ou a x = T.ou b x
  | 0, he => (key0_iff h ha hb).1 ((mkK_iff _ (by rw [h.len]; exact ha) (by rw [h.len]; exact hb)).1 he)
  | k + 1, he => seqI_out h ha hb k (seqI_finer next out k a b (by rw [h.len]; exact ha) (by rw [h.len]; exact hb) he)
/-- The classes are those of the states' behaviours. -/
theorem classI_iff {T : Tab} {next out : List (List Int)} (h : Rows T next out) {a b : Nat} (ha : a < T.n) (hb : b < T.n) : cg (classI next out) a = cg (classI next out) b ↔ beh T a = beh T b := by
  refine ⟨fun he => ?_, fun he => seqI_beh h ha hb he _⟩
  funext xs
  refine beh_of_stable (C := classI next out) (fun a b ha hb h' => seqI_out h ha hb _ h') (fun a b ha hb h' => ?_) xs a b ha hb he
  rw [← (seqI_end next out (by rw [h.len]; omega)).1] at h'
  have := (mkK_iff _ (by rw [h.len]; exact ha) (by rw [h.len]; exact hb)).1 h'
  unfold keyI at this
  rw [Prod.mk.injEq, row_iff h _ ha hb] at this
  exact this.2
theorem classS_iff {T : Tab} {next out : List (List Int)} (h : Rows T next out) {a b : Nat} (ha : a < T.n) (hb : b < T.n) : cg (classS next out) a = cg (classS next out) b ↔ beh T a = beh T b := by
  refine ⟨fun he => ?_, fun he => seqS_beh h ha hb he _⟩
  funext xs
  have key : ∀ a b, a < T.n → b < T.n → cg (classS next out) a = cg (classS next out) b → (∀ x, T.ou a x = T.ou b x) ∧ ∀ x, cg (classS next out) (T.nx a x) = cg (classS next out) (T.nx b x) := fun a b ha hb h' => by
    rw [← (seqS_end next out (by rw [h.len]; omega)).1] at h'
    have := (mkK_iff _ (by rw [h.len]; exact ha) (by rw [h.len]; exact hb)).1 h'
    unfold keyS at this
    rw [Prod.mk.injEq, Prod.mk.injEq, row_iff h _ ha hb, key0_iff h ha hb] at this
    exact this.2
  exact beh_of_stable (C := classS next out) (fun a b ha hb h' => (key a b ha hb h').1) (fun a b ha hb h' => (key a b ha hb h').2) xs a b ha hb he
theorem class_same {T : Tab} {next out : List (List Int)} (h : Rows T next out) : classS next out = classI next out :=
  Cl.ext (seqS_cl next out _) (seqI_cl next out _) fun a b ha hb => by
    rw [h.len] at ha hb
    rw [classS_iff h ha hb, classI_iff h ha hb]
end Mac
end Go.Proofs.Ytlbfejdbfhgifaa

namespace Go.Proofs.Ytlbfejdbfhgifaa
/-! The minimized machine, plainly. -/
namespace Mac
section
variable {α : Type} [DecidableEq α]
def pushG (l : List α) (a : α) : List α := if a ∈ l then l else l ++ [a]
def pushesG (l xs : List α) : List α := xs.foldl pushG l
def bfsG (succ : α → List α) : Nat → Nat → List α → List α
  | 0, _, l => l
  | f + 1, k, l => match l[k]? with
    | none => l
    | some s => bfsG succ f (k + 1) (pushesG l (succ s))
def idxG (l : List α) (a : α) : Nat := l.findIdx fun b => decide (b = a)
theorem mem_pushG {l : List α} {a x : α} : x ∈ pushG l a ↔ x ∈ l ∨ x = a := by
  unfold pushG
  split
  · rename_i h
    exact ⟨.inl, fun h' => h'.elim id fun e => e ▸ h⟩
  · simp
theorem mem_pushesG {x : α} : ∀ (xs l : List α), x ∈ pushesG l xs ↔ x ∈ l ∨ x ∈ xs
  | [], l => by simp [pushesG]
  | a :: xs, l => by
    have := mem_pushesG xs (pushG l a) (x := x)
    unfold pushesG at this ⊢
    rw [List.foldl_cons, this, mem_pushG, List.mem_cons, or_assoc]
theorem pushG_nodup {l : List α} (h : l.Nodup) (a : α) : (pushG l a).Nodup := by
  unfold pushG
  split
  · exact h
  · rename_i hn
    rw [List.nodup_append]
    refine ⟨h, by simp, fun x hx y hy => ?_⟩
    simp at hy
    subst hy
    exact fun e => hn (e ▸ hx)
theorem pushesG_nodup : ∀ (xs : List α) {l : List α}, l.Nodup → (pushesG l xs).Nodup
  | [], _, h => h
  | a :: xs, l, h => pushesG_nodup xs (pushG_nodup h a)
theorem pushG_prefix (l : List α) (a : α) : ∃ m, pushG l a = l ++ m := by
  unfold pushG
  split
  · exact ⟨[], by simp⟩
  · exact ⟨[a], rfl⟩
theorem pushesG_prefix : ∀ (xs l : List α), ∃ m, pushesG l xs = l ++ m
  | [], l => ⟨[], by simp [pushesG]⟩
  | a :: xs, l => by
    obtain ⟨m, hm⟩ := pushG_prefix l a
    obtain ⟨m', hm'⟩ := pushesG_prefix xs (pushG l a)
    refine ⟨m ++ m', ?_⟩
    show pushesG (pushG l a) xs = _
    rw [hm', hm, List.append_assoc]
theorem bfsG_prefix (succ : α → List α) : ∀ (f k : Nat) (l : List α), ∃ m, bfsG succ f k l = l ++ m
  | 0, _, l => ⟨[], by simp [bfsG]⟩
  | f + 1, k, l => by
    rw [bfsG]
    split
    · exact ⟨[], by simp⟩
    · rename_i s _
      obtain ⟨m, hm⟩ := pushesG_prefix (succ s) l
      obtain ⟨m', hm'⟩ := bfsG_prefix succ f (k + 1) (pushesG l (succ s))
      exact ⟨m ++ m', by rw [hm', hm, List.append_assoc]⟩
theorem bfsG_step {succ : α → List α} {f k : Nat} {l : List α} {s : α} (h : l[k]? = some s) : bfsG succ (f + 1) k l = bfsG succ f (k + 1) (pushesG l (succ s)) := by
  rw [bfsG, h]
theorem bfsG_end {succ : α → List α} {f : Nat} {l : List α} : bfsG succ f l.length l = l := by
  cases f with
  | zero => rfl
  | succ f => rw [bfsG, List.getElem?_eq_none (Nat.le_refl _)]
theorem bfsG_nodup (succ : α → List α) : ∀ (f k : Nat) {l : List α}, l.Nodup → (bfsG succ f k l).Nodup
  | 0, _, _, h => h
  | f + 1, k, l, h => by
    rw [bfsG]
    split
    · exact h
    · exact bfsG_nodup succ f (k + 1) (pushesG_nodup _ h)
theorem bfsG_all {succ : α → List α} {P : α → Prop} (hs : ∀ a, P a → ∀ b ∈ succ a, P b) : ∀ (f k : Nat) {l : List α}, (∀ a ∈ l, P a) → ∀ a ∈ bfsG succ f k l, P a
  | 0, _, _, h => h
  | f + 1, k, l, h => by
    rw [bfsG]
    split
    · exact h
    · rename_i s hk
      exact bfsG_all hs f (k + 1) fun a ha => ((mem_pushesG _ _).1 ha).elim (h a) (hs s (h s (List.mem_of_getElem? hk)) a)
theorem bfsG_closed {succ : α → List α} {P : α → Prop} {N : Nat} (hs : ∀ a, P a → ∀ b ∈ succ a, P b) (hN : ∀ l : List α, l.Nodup → (∀ a ∈ l, P a) → l.length ≤ N) : ∀ (f k : Nat) (l : List α), N < f + k → l.Nodup → (∀ a ∈ l, P a) → k ≤ l.length → (∀ i s, i < k → l[i]? = some s → ∀ b ∈ succ s, b ∈ l) → ∀ s ∈ bfsG succ f k l, ∀ b ∈ succ s, b ∈ bfsG succ f k l
  | 0, k, l, hf, hn, hl, hk, _ => absurd (hN l hn hl) (by omega)
  | f + 1, k, l, hf, hn, hl, hk, h => by
    rw [bfsG]
    cases hs' : l[k]? with
    | none =>
      intro s hm b hb
      have hm : s ∈ l := hm
      obtain ⟨i, hi, rfl⟩ := List.mem_iff_getElem.1 hm
      have hkl : l.length ≤ k := by simpa using hs'
      exact h i _ (by omega) (List.getElem?_eq_getElem hi) b hb
    | some s =>
      obtain ⟨m, hm⟩ := pushesG_prefix (succ s) l
      have hkl := (List.getElem?_eq_some_iff.1 hs').1
      refine bfsG_closed hs hN f (k + 1) (pushesG l (succ s)) (by omega) (pushesG_nodup _ hn) (fun a ha => ((mem_pushesG _ _).1 ha).elim (hl a) (hs s (hl s (List.mem_of_getElem? hs')) a)) (by rw [hm, List.length_append]; omega) (fun i t hi ht b hb => ?_)
      rw [hm, List.getElem?_append_left (by omega)] at ht
      by_cases e : i = k
      · subst e
        rw [hs'] at ht
        obtain rfl := Option.some.inj ht
        exact (mem_pushesG _ _).2 (.inr hb)
      · exact (mem_pushesG _ _).2 (.inl (h i t (by omega) ht b hb))
theorem idxG_get {l : List α} {a : α} (h : a ∈ l) : l[idxG l a]? = some a ∧ idxG l a < l.length := by
  have hl : idxG l a < l.length := List.findIdx_lt_length_of_exists ⟨a, h, by simp⟩
  refine ⟨?_, hl⟩
  have := List.findIdx_getElem (xs := l) (p := fun b => decide (b = a)) (w := hl)
  rw [List.getElem?_eq_getElem hl]
  exact congrArg some (of_decide_eq_true this)
theorem idxG_append {l m : List α} {a : α} (h : a ∈ l) : idxG (l ++ m) a = idxG l a := by
  have h2 := (idxG_get h).2
  unfold idxG at h2 ⊢
  rw [List.findIdx_append, if_pos h2]
theorem idxG_new {l : List α} {a : α} (h : a ∉ l) : idxG (l ++ [a]) a = l.length := by
  have h1 : idxG l a = l.length := by
    unfold idxG
    rw [List.findIdx_eq_length]
    intro b hb
    simp only [decide_eq_false_iff_not]
    rintro rfl
    exact h hb
  unfold idxG at h1 ⊢
  rw [List.findIdx_append, if_neg (by omega)]
  simp [List.findIdx_cons]
end
section
variable {α β : Type} [DecidableEq α] [DecidableEq β] {f : α → β} {P : α → Prop}
set_option linter.unusedSectionVars false in
theorem map_mem (inj : ∀ a b, P a → P b → f a = f b → a = b) {l : List α} (hl : ∀ a ∈ l, P a) {a : α} (ha : P a) : f a ∈ l.map f ↔ a ∈ l := by
  rw [List.mem_map]
  exact ⟨fun ⟨b, hb, e⟩ => inj b a (hl b hb) ha e ▸ hb, fun h => ⟨a, h, rfl⟩⟩
theorem map_pushG (inj : ∀ a b, P a → P b → f a = f b → a = b) {l : List α} (hl : ∀ a ∈ l, P a) {a : α} (ha : P a) : (pushG l a).map f = pushG (l.map f) (f a) := by
  unfold pushG
  by_cases h : a ∈ l
  · rw [if_pos h, if_pos ((map_mem inj hl ha).2 h)]
  · rw [if_neg h, if_neg (fun h' => h ((map_mem inj hl ha).1 h')), List.map_append, List.map_singleton]
theorem map_pushesG (inj : ∀ a b, P a → P b → f a = f b → a = b) : ∀ (xs l : List α), (∀ a ∈ l, P a) → (∀ a ∈ xs, P a) → (pushesG l xs).map f = pushesG (l.map f) (xs.map f)
  | [], _, _, _ => rfl
  | a :: xs, l, hl, hx => by
    have := map_pushesG inj xs (pushG l a) (fun b hb => (mem_pushG.1 hb).elim (hl b) fun e => e ▸ hx a (by simp)) (fun b hb => hx b (List.mem_cons_of_mem _ hb))
    show (pushesG (pushG l a) xs).map f = pushesG (pushG (l.map f) (f a)) (xs.map f)
    rw [this, map_pushG inj hl (hx a (by simp))]
theorem map_bfsG (inj : ∀ a b, P a → P b → f a = f b → a = b) {s1 : α → List α} {s2 : β → List β} (hs : ∀ a, P a → ∀ b ∈ s1 a, P b) (hc : ∀ a, P a → (s1 a).map f = s2 (f a)) : ∀ (n k : Nat) (l : List α), (∀ a ∈ l, P a) → (bfsG s1 n k l).map f = bfsG s2 n k (l.map f)
  | 0, _, _, _ => rfl
  | n + 1, k, l, hl => by
    rw [bfsG, bfsG, List.getElem?_map]
    cases hk : l[k]? with
    | none => rfl
    | some s =>
      have hP := hl s (List.mem_of_getElem? hk)
      simp only [Option.map_some]
      rw [map_bfsG inj hs hc n (k + 1) _ (fun a ha => ((mem_pushesG _ _).1 ha).elim (hl a) (hs s hP a)), map_pushesG inj _ _ hl (hs s hP), hc s hP]
theorem map_idxG (inj : ∀ a b, P a → P b → f a = f b → a = b) {a : α} (ha : P a) : ∀ (l : List α), (∀ a ∈ l, P a) → idxG (l.map f) (f a) = idxG l a
  | [], _ => rfl
  | b :: l, hl => by
    have ih := map_idxG inj ha l (fun a h => hl a (List.mem_cons_of_mem _ h))
    unfold idxG at ih ⊢
    rw [List.map_cons, List.findIdx_cons, List.findIdx_cons, ih]
    by_cases h : b = a
    · subst h; simp
    · have : f b ≠ f a := fun e => h (inj b a (hl b (by simp)) ha e)
      simp [h, this]
end
theorem nodup_lt : ∀ (N : Nat) (l : List Nat), l.Nodup → (∀ x ∈ l, x < N) → l.length ≤ N
  | 0, l, _, h => by
    cases l with
    | nil => simp
    | cons a l => exact absurd (h a (by simp)) (by omega)
  | N + 1, l, hn, h => by
    by_cases hm : N ∈ l
    · have h1 := nodup_lt N (l.erase N) (hn.erase N) (fun x hx => by
        have h2 := (List.Nodup.mem_erase_iff hn).1 hx
        have h3 := h x h2.2
        have h4 := h2.1
        omega)
      rw [List.length_erase_of_mem hm] at h1
      omega
    · have := nodup_lt N l hn (fun x hx => by
        have h3 := h x hx
        have h4 : x ≠ N := fun e => hm (e ▸ hx)
        omega)
      omega
/-! ### The machine -/
def succL (next : List (List Int)) (C : List Nat) (s : Nat) : List Nat := (nrow next s).map fun y => cg C y.toNat
def ordL (next : List (List Int)) (C : List Nat) : List Nat := bfsG (succL next C) 9 0 [0]
def minL (ins : Int) (next out : List (List Int)) (C : List Nat) : Mz :=
  ⟨ins, (ordL next C).map fun s => (succL next C s).map fun c => ((idxG (ordL next C) c : Nat) : Int), (ordL next C).map (key0 out)⟩
def zeroM : Mz := ⟨0, [], []⟩
def minI (m : Mz) : Mz := if valid m then minL m.ins m.next m.out (classI m.next m.out) else zeroM
def minS (m : Mz) : Mz := if valid m then minL m.ins m.next m.out (classS m.next m.out) else zeroM
/-! ### Behaviours -/
def nextB (β : List Nat → List Int) (x : Nat) : List Nat → List Int := fun xs => (β (x :: xs)).tail
def outB (β : List Nat → List Int) (x : Nat) : Int := (β [x]).headD 0
open Classical in
noncomputable def succB (M : Nat) (β : List Nat → List Int) : List (List Nat → List Int) := (List.range M).map (nextB β)
open Classical in
noncomputable def ordB (M : Nat) (β : List Nat → List Int) : List (List Nat → List Int) := bfsG (succB M) 9 0 [β]
open Classical in
noncomputable def buildB (ins : Int) (M : Nat) (β : List Nat → List Int) : Mz :=
  ⟨ins, (ordB M β).map fun γ => (succB M γ).map fun c => ((idxG (ordB M β) c : Nat) : Int), (ordB M β).map fun γ => (List.range M).map (outB γ)⟩
theorem nextB_beh (T : Tab) (s x : Nat) : nextB (beh T s) x = beh T (T.nx s x) := rfl
theorem outB_beh (T : Tab) (s x : Nat) : outB (beh T s) x = T.ou s x := rfl
section
variable {T : Tab} {next out : List (List Int)} (h : Rows T next out)
include h
theorem class_le {s : Nat} (hs : s < T.n) : cg (classI next out) s ≤ s := (seqI_cl next out _).le s (by rw [h.len]; exact hs)
theorem class_root {s : Nat} (hs : s < T.n) : cg (classI next out) (cg (classI next out) s) = cg (classI next out) s := (seqI_cl next out _).root s (by rw [h.len]; exact hs)
theorem class_beh {s : Nat} (hs : s < T.n) : beh T (cg (classI next out) s) = beh T s :=
  (classI_iff h (Nat.lt_of_le_of_lt (class_le h hs) hs) hs).1 (class_root h hs)
theorem class_zero (h0 : 0 < T.n) : cg (classI next out) 0 = 0 := Nat.le_zero.1 (class_le h h0)
theorem succL_eq {s : Nat} (hs : s < T.n) : succL next (classI next out) s = (List.range T.M).map fun x => cg (classI next out) (T.nx s x) := by
  unfold succL
  rw [h.row s hs, List.map_map]
  rfl
/-- A state that stands for its class. -/
def Rep (T : Tab) (C : List Nat) (s : Nat) : Prop := s < T.n ∧ cg C s = s
theorem rep_succ {s : Nat} (hs : Rep T (classI next out) s) : ∀ b ∈ succL next (classI next out) s, Rep T (classI next out) b := fun b hb => by
  rw [succL_eq h hs.1, List.mem_map] at hb
  obtain ⟨x, -, rfl⟩ := hb
  have h1 := T.lt s x hs.1
  exact ⟨Nat.lt_of_le_of_lt (class_le h h1) h1, class_root h h1⟩
theorem rep_inj (a b : Nat) (ha : Rep T (classI next out) a) (hb : Rep T (classI next out) b) (he : beh T a = beh T b) : a = b := by
  rw [← ha.2, ← hb.2]
  exact (classI_iff h ha.1 hb.1).2 he
open Classical in
theorem succ_beh {s : Nat} (hs : Rep T (classI next out) s) : (succL next (classI next out) s).map (beh T) = succB T.M (beh T s) := by
  rw [succL_eq h hs.1, List.map_map]
  unfold succB
  apply List.map_congr_left
  intro x _
  rw [nextB_beh]
  exact class_beh h (T.lt s x hs.1)
theorem ord_rep (h0 : 0 < T.n) : ∀ s ∈ ordL next (classI next out), Rep T (classI next out) s :=
  bfsG_all (fun _ ha => rep_succ h ha) 9 0 fun a ha => by
    rw [List.mem_singleton.1 ha]
    exact ⟨h0, class_zero h h0⟩
set_option linter.unusedSectionVars false in
theorem ord_nodup : (ordL next (classI next out)).Nodup := bfsG_nodup _ 9 0 (by simp)
theorem ord_len (h0 : 0 < T.n) : (ordL next (classI next out)).length ≤ T.n := nodup_lt _ _ (ord_nodup h) fun s hs => (ord_rep h h0 s hs).1
theorem ord_closed (h0 : 0 < T.n) (h8 : T.n ≤ 8) : ∀ s ∈ ordL next (classI next out), ∀ b ∈ succL next (classI next out) s, b ∈ ordL next (classI next out) :=
  bfsG_closed (P := Rep T (classI next out)) (N := 8) (fun _ ha => rep_succ h ha) (fun l hn hl => Nat.le_trans (nodup_lt T.n l hn fun a ha => (hl a ha).1) h8) 9 0 [0] (by omega) (by simp) (fun a ha => by
    rw [List.mem_singleton.1 ha]
    exact ⟨h0, class_zero h h0⟩) (Nat.zero_le _) (fun i s hi => absurd hi (by omega))
set_option linter.unusedSectionVars false in
theorem ord_zero : (ordL next (classI next out))[0]? = some 0 := by
  obtain ⟨m, hm⟩ := bfsG_prefix (succL next (classI next out)) 9 0 [0]
  unfold ordL
  rw [hm]
  rfl
open Classical in
theorem ord_beh (h0 : 0 < T.n) : (ordL next (classI next out)).map (beh T) = ordB T.M (beh T 0) := by
  unfold ordL ordB
  rw [map_bfsG (P := Rep T (classI next out)) (rep_inj h) (s2 := succB T.M) (fun _ ha => rep_succ h ha) (fun _ ha => succ_beh h ha) 9 0 [0] (fun a ha => by
    rw [List.mem_singleton.1 ha]
    exact ⟨h0, class_zero h h0⟩)]
  rfl
open Classical in
/-- The minimized machine is told by the behaviour alone. -/
theorem min_build (ins : Int) (h0 : 0 < T.n) : minL ins next out (classI next out) = buildB ins T.M (beh T 0) := by
  unfold minL buildB
  rw [← ord_beh h h0, List.map_map, List.map_map]
  congr 1
  · apply List.map_congr_left
    intro s hs
    have hr := ord_rep h h0 s hs
    simp only [Function.comp]
    rw [← succ_beh h hr, List.map_map]
    apply List.map_congr_left
    intro c hc
    simp only [Function.comp]
    rw [map_idxG (P := Rep T (classI next out)) (rep_inj h) (rep_succ h hr c hc) _ (ord_rep h h0)]
  · apply List.map_congr_left
    intro s hs
    rw [h.outs s (ord_rep h h0 s hs).1]
    rfl
end
end Mac
end Go.Proofs.Ytlbfejdbfhgifaa

namespace Go.Proofs.Ytlbfejdbfhgifaa
/-! The minimized machine behaves as the machine does, plainly. -/
namespace Mac
/-- The rows of a valid machine. -/
def tabOf (m : Mz) (h : valid m = true) : Tab where
  n := m.next.length
  M := 2 ^ m.ins.toNat
  nx s x := stepN m s ((x % 2 ^ m.ins.toNat : Nat) : Int)
  ou s x := stepO m s ((x % 2 ^ m.ins.toNat : Nat) : Int)
  pos := Nat.pow_pos (by decide)
  lt s x hs := by
    obtain ⟨r, q, y, o, h1, h2, h3, h4, h5, h6, h7, h8, h9, h10, h11⟩ := valid_row h hs (Nat.mod_lt x (Nat.pow_pos (by decide)))
    rw [h10]
    exact h6
  nmod s x := by rw [Nat.mod_mod]
  omod s x := by rw [Nat.mod_mod]
theorem rows_of (m : Mz) (h : valid m = true) : Rows (tabOf m h) m.next m.out := by
  refine ⟨rfl, fun a ha => ?_, fun a ha => ?_⟩
  · obtain ⟨r, q, y, o, h1, h2, h3, h4, -⟩ := valid_row h ha (show 0 < 2 ^ m.ins.toNat from Nat.pow_pos (by decide))
    unfold nrow
    rw [List.getD_eq_getElem?_getD, h1, Option.getD_some]
    apply List.ext_getElem
    · simp [h3, tabOf]
    · intro i hi1 hi2
      obtain ⟨r', q', y', o', g1, g2, g3, g4, g5, g6, g7, g8, g9, g10, g11⟩ := valid_row h ha (show i < 2 ^ m.ins.toNat by omega)
      rw [h1] at g1
      obtain rfl := Option.some.inj g1
      rw [List.getElem?_eq_getElem hi1] at g5
      rw [Option.some.inj g5]
      simp only [List.getElem_map, List.getElem_range, tabOf]
      rw [Nat.mod_eq_of_lt (show i < 2 ^ m.ins.toNat by omega), g10]
  · obtain ⟨r, q, y, o, h1, h2, h3, h4, -⟩ := valid_row h ha (show 0 < 2 ^ m.ins.toNat from Nat.pow_pos (by decide))
    unfold key0
    rw [List.getD_eq_getElem?_getD, h2, Option.getD_some]
    apply List.ext_getElem
    · simp [h4, tabOf]
    · intro i hi1 hi2
      obtain ⟨r', q', y', o', g1, g2, g3, g4, g5, g6, g7, g8, g9, g10, g11⟩ := valid_row h ha (show i < 2 ^ m.ins.toNat by omega)
      rw [h2] at g2
      obtain rfl := Option.some.inj g2
      rw [List.getElem?_eq_getElem hi1] at g7
      rw [Option.some.inj g7]
      simp only [List.getElem_map, List.getElem_range, tabOf]
      rw [Nat.mod_eq_of_lt (show i < 2 ^ m.ins.toNat by omega), g11]
theorem valid_sizes {m : Mz} (h : valid m = true) : 0 ≤ m.ins ∧ m.ins ≤ 4 ∧ 1 ≤ m.next.length ∧ m.next.length ≤ 8 ∧ m.out.length = m.next.length := by
  unfold valid at h
  rw [Bool.and_eq_true] at h
  have h0 := h.1
  unfold sizes at h0
  rwa [decide_eq_true_eq] at h0
/-- A machine's behaviour. -/
def behM (m : Mz) (s : Nat) : List Nat → List Int
  | [] => []
  | x :: xs => stepO m s ((x % 2 ^ m.ins.toNat : Nat) : Int) :: behM m (stepN m s ((x % 2 ^ m.ins.toNat : Nat) : Int)) xs
theorem behM_eq (m : Mz) (h : valid m = true) : ∀ (xs : List Nat) (s : Nat), behM m s xs = beh (tabOf m h) s xs
  | [], _ => rfl
  | x :: xs, s => by
    rw [behM, beh, behM_eq m h xs]
    rfl
theorem behM_fun (m : Mz) (h : valid m = true) (s : Nat) : behM m s = beh (tabOf m h) s := funext fun xs => behM_eq m h xs s
theorem minI_build {m : Mz} (h : valid m = true) : minI m = buildB m.ins (2 ^ m.ins.toNat) (behM m 0) := by
  unfold minI
  rw [if_pos h, behM_fun m h]
  exact min_build (rows_of m h) m.ins (by have := valid_sizes h; show 0 < m.next.length; omega)
/-- Machines that behave alike have the same minimized machine. -/
theorem minI_same {m m' : Mz} (h : valid m = true) (h' : valid m' = true) (hi : m.ins = m'.ins) (hb : behM m 0 = behM m' 0) : minI m = minI m' := by
  rw [minI_build h, minI_build h', hi, hb]
theorem minS_eq (m : Mz) : minS m = minI m := by
  unfold minS minI
  split
  · rename_i h
    rw [class_same (rows_of m h)]
  · rfl
theorem inOk_iff {l x : Int} : inOk l x = true ↔ 0 ≤ x ∧ x < l := by unfold inOk; exact decide_eq_true_iff
section
variable {m : Mz} (h : valid m = true)
include h
theorem succ_len {s : Nat} (hs : s < m.next.length) : (succL m.next (classI m.next m.out) s).length = 2 ^ m.ins.toNat := by
  rw [succL_eq (rows_of m h) hs]
  simp [tabOf]
theorem min_len : (minI m).next.length ≤ m.next.length ∧ (minI m).out.length = (minI m).next.length ∧ 1 ≤ (minI m).next.length := by
  have hp := valid_sizes h
  unfold minI
  rw [if_pos h]
  unfold minL
  simp only [List.length_map]
  refine ⟨ord_len (rows_of m h) (show 0 < m.next.length by omega), trivial, ?_⟩
  have h0 := ord_zero (rows_of m h)
  have := (List.getElem?_eq_some_iff.1 h0).1
  omega
theorem min_ins : (minI m).ins = m.ins := by
  unfold minI
  rw [if_pos h]
  rfl
theorem min_valid : valid (minI m) = true := by
  have hp := valid_sizes h
  have hl := min_len h
  have hR := rows_of m h
  have h0 : 0 < (tabOf m h).n := (show 0 < m.next.length by omega)
  unfold valid
  rw [Bool.and_eq_true]
  refine ⟨?_, ?_⟩
  · unfold sizes
    rw [decide_eq_true_eq, min_ins h]
    omega
  · rw [Bool.and_eq_true, List.all_eq_true, List.all_eq_true, min_ins h]
    have e : minI m = minL m.ins m.next m.out (classI m.next m.out) := by unfold minI; rw [if_pos h]
    refine ⟨fun r hr => ?_, fun r hr => ?_⟩
    · rw [e] at hr ⊢
      unfold minL at hr ⊢
      simp only [List.mem_map, List.length_map] at hr ⊢
      obtain ⟨s, hs, rfl⟩ := hr
      have hrep := ord_rep hR h0 s hs
      unfold rowOk lenOk
      rw [Bool.and_eq_true, decide_eq_true_eq, List.all_eq_true]
      refine ⟨by rw [List.length_map, succ_len h hrep.1], fun x hx => ?_⟩
      obtain ⟨c, hc, rfl⟩ := List.mem_map.1 hx
      have := (idxG_get (ord_closed hR h0 (show m.next.length ≤ 8 by omega) s hs c hc)).2
      rw [inOk_iff]
      omega
    · rw [e] at hr
      unfold minL at hr
      simp only [List.mem_map] at hr
      obtain ⟨s, hs, rfl⟩ := hr
      have hrep := ord_rep hR h0 s hs
      unfold valid at h
      rw [Bool.and_eq_true, Bool.and_eq_true] at h
      refine List.all_eq_true.1 h.2.2 _ ?_
      unfold key0
      have hso : s < m.out.length := (by have := hrep.1; have h5 := hp.2.2.2.2; show s < m.out.length; rw [h5]; exact this)
      rw [List.getD_eq_getElem?_getD, List.getElem?_eq_getElem hso]
      exact List.getElem_mem hso
/-- A step of the minimized machine. -/
theorem min_step {i s x : Nat} (hi : (ordL m.next (classI m.next m.out))[i]? = some s) (hx : x < 2 ^ m.ins.toNat) : ∃ t, (ordL m.next (classI m.next m.out))[stepN (minI m) i x]? = some t ∧ behM m t = behM m (stepN m s x) ∧ stepO (minI m) i x = stepO m s x := by
  have hp := valid_sizes h
  have hR := rows_of m h
  have h0 : 0 < (tabOf m h).n := (show 0 < m.next.length by omega)
  have hmem := List.mem_of_getElem? hi
  have hrep := ord_rep hR h0 s hmem
  have e : minI m = minL m.ins m.next m.out (classI m.next m.out) := by unfold minI; rw [if_pos h]
  have hn : (minI m).next[i]? = some ((succL m.next (classI m.next m.out) s).map fun c => ((idxG (ordL m.next (classI m.next m.out)) c : Nat) : Int)) := by
    rw [e]
    unfold minL
    simp only
    rw [List.getElem?_map, hi]
    rfl
  have ho : (minI m).out[i]? = some (key0 m.out s) := by
    rw [e]
    unfold minL
    simp only
    rw [List.getElem?_map, hi]
    rfl
  have hsx : (succL m.next (classI m.next m.out) s)[x]? = some (cg (classI m.next m.out) ((tabOf m h).nx s x)) := by
    rw [succL_eq hR hrep.1, List.getElem?_map, List.getElem?_range (show x < (tabOf m h).M from hx)]
    rfl
  have hnx : (tabOf m h).nx s x = stepN m s x := by show stepN m s ((x % 2 ^ m.ins.toNat : Nat) : Int) = _; rw [Nat.mod_eq_of_lt hx]
  have hc : cg (classI m.next m.out) ((tabOf m h).nx s x) ∈ ordL m.next (classI m.next m.out) := ord_closed hR h0 (show m.next.length ≤ 8 by omega) s hmem _ (List.mem_of_getElem? hsx)
  refine ⟨cg (classI m.next m.out) ((tabOf m h).nx s x), ?_, ?_, ?_⟩
  · unfold stepN
    simp only [List.getD_eq_getElem?_getD, hn, Option.getD_some, Int.toNat_natCast, List.getElem?_map, hsx, Option.map_some]
    exact (idxG_get hc).1
  · rw [behM_fun m h, behM_fun m h, class_beh hR ((tabOf m h).lt s x hrep.1), hnx]
  · unfold stepO
    simp only [List.getD_eq_getElem?_getD, ho, Option.getD_some]
    unfold key0
    rw [List.getD_eq_getElem?_getD]
theorem min_beh : ∀ (xs : List Nat) (i s : Nat), (ordL m.next (classI m.next m.out))[i]? = some s → behM (minI m) i xs = behM m s xs
  | [], _, _, _ => rfl
  | x :: xs, i, s, hi => by
    have hx : x % 2 ^ m.ins.toNat < 2 ^ m.ins.toNat := Nat.mod_lt _ (Nat.pow_pos (by decide))
    obtain ⟨t, h1, h2, h3⟩ := min_step h hi hx
    rw [behM, behM, min_ins h, h3, min_beh xs _ t h1, h2]
theorem min_beh0 : behM (minI m) 0 = behM m 0 := funext fun xs => min_beh h xs 0 0 (ord_zero (rows_of m h))
/-- Minimizing again changes nothing. -/
theorem min_again : minI (minI m) = minI m := minI_same (min_valid h) h (min_ins h) (min_beh0 h)
end
/-- Outputs for inputs in range are the behaviour. -/
theorem outs_beh (m : Mz) : ∀ (xs : List Nat) (s : Nat), (∀ x ∈ xs, x < 2 ^ m.ins.toNat) → outs m s (xs.map fun x => ((x : Nat) : Int)) = behM m s xs
  | [], _, _ => rfl
  | x :: xs, s, hx => by
    rw [List.map_cons, outs, behM, Nat.mod_eq_of_lt (hx x (by simp)), outs_beh m xs _ fun y hy => hx y (List.mem_cons_of_mem _ hy)]
end Mac
end Go.Proofs.Ytlbfejdbfhgifaa

namespace Go.Proofs.Ytlbfejdbfhgifaa
open Go.RowKit
set_option maxRecDepth 100000
/-! What laws do with slices of slices of ints. -/
theorem szIntSS_any (v : Value) (xss : List (List Int)) (left : Nat) (w : World) (h : SSAt ints w v xss) (hl : left ≤ 1048576) :
    Calls Try.prog 60 #[v, .int .i64 left] w fun e w' => (∃ r : Int, e = .returned (.int .i64 r) ∧ (r = -1 ∨ (0 ≤ r ∧ r + xss.length + total xss = left))) ∧ w = w' := by
  obtain ⟨A, c, hv, hc, hcm⟩ := h.shape
  subst hv
  unfold maxLen at hcm
  have H := Lib.hid h
  clear h
  by_cases h0 : xss.length ≤ left
  · have hq : ¬ ((left : Int) - (xss.length : Int) < 0) := by omega
    go_enter Try.func60, Try.ntmps60
    go_wp2_with fail
    go_loop [1, 5] (fun t i => ∃ k q : Nat, k ≤ xss.length ∧ i = .int .i64 k ∧ t = .int .i64 q ∧ Hid (q + xss.length + total (xss.take k) = left)) (fun _ i => xss.length - (intOf i).toNat)
    case atStart => exact ⟨0, left - xss.length, Nat.zero_le _, rfl, by go_num, Lib.hid (by simp [total]; omega)⟩
    case round =>
      obtain ⟨k, q, hk, rfl, rfl, hs⟩ := hrel
      by_cases hlt : k < xss.length
      · obtain ⟨x, hx⟩ := at_some hlt
        obtain ⟨b, o, Bx, m, rfl, hbl, hc1, hm1, hm2, hr⟩ := ss_open H.out (Below.refl _ _) hx
        have Hr := Lib.hid hr
        have hT := Lib.hid (total_take_succ hx)
        have hq2 : q ≤ 1048576 := by have := hs.out; omega
        clear hr hx
        by_cases hfit : x.length ≤ q
        · have hq3 : ¬ ((q : Int) - (x.length : Int) < 0) := by omega
          go_wp2_with fail
          refine (szIntS_ok _ x.length _ _ q Hr.out (by omega) (by omega)).mono ?_
          rintro e w' ⟨rfl, rfl⟩
          go_wp2_with fail
          go_round
          case rel => exact ⟨k + 1, q - x.length, by omega, by go_num, by go_num, Lib.hid (by rw [hT.out]; have := hs.out; omega)⟩
          case measure => simp [intOf] <;> omega
        · go_wp2_with fail
          refine (szIntS_no _ x.length _ _ q Hr.out (by omega) (by omega) (by omega)).mono ?_
          rintro e w' ⟨rfl, rfl⟩
          go_wp2_with fail
          go_ret
          exact ⟨⟨_, rfl, .inl rfl⟩, rfl⟩
      · obtain rfl : k = xss.length := by omega
        have hs' : q + xss.length + total xss = left := by have := hs.out; rwa [List.take_length] at this
        go_wp2_with fail
        go_ret
        exact ⟨⟨_, rfl, .inr ⟨by omega, by omega⟩⟩, rfl⟩
  · go_enter Try.func60, Try.ntmps60
    go_wp2_with fail
    go_ret
    exact ⟨⟨_, rfl, .inl rfl⟩, rfl⟩
set_option maxHeartbeats 4000000 in
theorem toIntSS_any (v : Value) (xss : List (List Int)) (w : World) (h : SSAt ints w v xss) (hl : xss.length ≤ 1048576) (hl2 : total xss ≤ 1048576) :
    Calls Try.prog 64 #[v] w fun e w' => (∃ v', e = .returned v' ∧ OwnIntSS w.heap.size w'.heap.size w' v' xss) ∧ Below w.heap.size w w' := by
  obtain ⟨A, c, hv, hc, hcm⟩ := h.shape
  subst hv
  have hmk := run_make_row' (P := Try.prog) 39 22 (.slice none 0 0) 24 Try.underlying39 info_ints rfl .i64 .i64 xss.length (by omega) (by omega)
  have H := Lib.hid h
  clear h
  go_enter Try.func64, Try.ntmps64
  go_wp2_with fail
  have hown0 : Hid ((w.alloc (.cells (madeCells #[Value.slice none 0 0] xss.length) 22)).ownsRow w.heap.size 22 1 (.slice (some ⟨w.heap.size, 0, none⟩) xss.length xss.length) xss.length ([] ++ List.replicate (xss.length - 0) (.slice none 0 0))) := Lib.hid (by
    have := World.ownsRow_lit (base := w.heap.size) (e := 22) (size := 1) w (madeCells #[Value.slice none 0 0] xss.length) xss.length (Nat.le_refl _) (by unfold maxLen; omega) (by simp [madeCells])
    rw [made_one] at this ⊢
    exact this)
  have B0 := Lib.hid ((Below.refl w.heap.size w).alloc (Nat.le_refl _) (.cells (madeCells #[Value.slice none 0 0] xss.length) 22))
  have z0 : (w.alloc (.cells (madeCells #[Value.slice none 0 0] xss.length) 22)).heap.size = w.heap.size + 1 := by simp
  generalize w.alloc (.cells (madeCells #[Value.slice none 0 0] xss.length) 22) = W at *
  clear hmk
  go_loopw [4] (fun i wr => ∃ (k : Nat) (vs : List Value), k ≤ xss.length ∧ i = .int .i64 k ∧ Hid (vs.length = k) ∧ Hid (wr.ownsRow w.heap.size 22 1 (.slice (some ⟨w.heap.size, 0, none⟩) xss.length xss.length) xss.length (vs ++ List.replicate (xss.length - k) (.slice none 0 0))) ∧
      Hid (∀ (i : Nat) (x : List Int) (u : Value), xss[i]? = some x → vs[i]? = some u → wr.ownsRow (w.heap.size + 1) 3 1 u x.length (ints x)) ∧ Hid (vs.Pairwise Apart) ∧ Hid (∀ u ∈ vs, ∀ g, u.ownBlock = some g → w.heap.size < g ∧ g < wr.heap.size) ∧ Below w.heap.size w wr ∧ w.heap.size < wr.heap.size) (fun i _ => xss.length - (intOf i).toNat)
  case atStart => exact ⟨0, [], Nat.zero_le _, rfl, Lib.hid rfl, hown0, Lib.hid (by simp), Lib.hid List.Pairwise.nil, Lib.hid (by simp), B0.out, by omega⟩
  case round =>
    obtain ⟨k, vs, hk, rfl, hvl, Ho, Hin, Hap, Hlt, hb, hzw⟩ := hrel
    clear hown0 B0
    by_cases hlt : k < xss.length
    · obtain ⟨x, hx⟩ := at_some hlt
      obtain ⟨b, o, Bx, m, rfl, hbl, hc1, hm1, hm2, hr⟩ := ss_open H.out hb hx
      have Hr := Lib.hid hr
      have Hx := Lib.hid hx
      have hxl : x.length ≤ 1048576 := Nat.le_trans (total_mem (List.mem_of_getElem? hx)) hl2
      have Hb := Lib.hid hb
      have hz := hb.size
      clear hr hx hb
      go_wp2_with fail
      refine (toIntS_any _ x _ Hr.out hxl).mono ?_
      rintro e w2 ⟨v2, rfl, hown2, hb2⟩
      obtain ⟨A2, c2, hv2, _, _⟩ := (Row.of_own hown2).shape
      subst hv2
      have Ho2 := Lib.hid (own_below Ho.out hb2)
      have Hu := Lib.hid hown2
      have Hin2 : Hid (∀ (i : Nat) (x : List Int) (u : Value), xss[i]? = some x → vs[i]? = some u → w2.ownsRow (w.heap.size + 1) 3 1 u x.length (ints x)) := Lib.hid fun i x u hx hu => own_below (Hin.out i x u hx hu) hb2
      have Hb2 := Lib.hid (Hb.out.trans (hb2.mono hz))
      have z2 := hb2.size
      obtain ⟨u0, _, hd0, hf0⟩ := own_slot Ho2.out (j := k) (by omega)
      have Hst := Lib.hid (Ho2.out.stored k (.slice A2 x.length c2))
      have Hset := Lib.hid (set_mid_at vs (.slice none 0 0) (.slice A2 x.length c2) (xss.length - k) k hvl.out.symm (by omega))
      clear hown2 hb2
      go_wp2_with fail
      go_roundw
      case rel =>
        have hg := Hst.out.2
        refine ⟨k + 1, vs ++ [.slice A2 x.length c2], by omega, by go_num, Lib.hid (by simp [hvl.out]), Lib.hid ?_, Lib.hid ?_, Lib.hid ?_, Lib.hid ?_, Hb2.out.grown hg Hb2.out.size (fun q hq => by have := Option.some.inj hq; omega), by have := hg.size; omega⟩
        · have := Hst.out.1
          rw [Hset.out, show xss.length - k - 1 = xss.length - (k + 1) by omega] at this
          exact this
        · intro i x' u' hx' hu'
          rcases Nat.lt_or_ge i k with hi | hi
          · rw [List.getElem?_append_left (by rw [hvl.out]; exact hi)] at hu'
            exact own_kept (Hin2.out i x' u' hx' hu') hg fun g hg' e => by
              have h1 := (Hlt.out u' (List.mem_of_getElem? hu') g hg').1
              have h2 := Option.some.inj e
              omega
          · rw [List.getElem?_append_right (by rw [hvl.out]; exact hi), hvl.out] at hu'
            rcases hj : i - k with _ | j
            · rw [hj] at hu'
              obtain rfl : i = k := by omega
              rw [Hx.out] at hx'
              simp at hu' hx'
              subst hu' hx'
              exact own_kept (own_mono Hu.out (by omega)) hg fun g hg' e => by
                have h1 := (Hu.out.lt g hg').1
                have h2 := Option.some.inj e
                omega
            · rw [hj] at hu'
              simp at hu'
        · rw [List.pairwise_append]
          refine ⟨Hap.out, by simp, fun a ha b hb => ?_⟩
          rw [List.mem_singleton.1 hb]
          intro g hg1 hg2
          have h1 := (Hlt.out a ha g hg1).2
          have h2 := (Hu.out.lt g hg2).1
          omega
        · intro u hu g hgu
          have hsz := hg.size
          rcases List.mem_append.1 hu with h | h
          · have := Hlt.out u h g hgu
            omega
          · rw [List.mem_singleton.1 h] at hgu
            have := Hu.out.lt g hgu
            omega
      case measure => simp [intOf] <;> omega
    · obtain rfl : k = xss.length := by omega
      go_wp2_with fail
      go_ret
      refine ⟨⟨_, rfl, vs, hvl.out, ?_, fun i x u hx hu => own_mono (Hin.out i x u hx hu) (by omega), Hap.out, ?_, ?_, fun u hu g hg => (Hlt.out u hu g hg).2⟩, hb⟩
      · have := Ho.out
        rwa [Nat.sub_self, List.replicate_zero, List.append_nil] at this
      · intro u hu g hg e
        have h1 := (Hlt.out u hu g hg).1
        have h2 := Option.some.inj e
        simp at h2
        omega
      · intro g hg
        have := Option.some.inj hg
        simp at this
        omega
end Go.Proofs.Ytlbfejdbfhgifaa

namespace Go.Proofs.Ytlbfejdbfhgifaa
open Go.RowKit
set_option maxRecDepth 100000
def SzMach (m : Mz) (w : World) (e : Ending) (w' : World) : Prop :=
  ∃ r : Int, e = .returned (.int .i64 r) ∧ (r = -1 ∨ (0 ≤ r ∧ r ≤ 1048576 ∧ m.next.length + total m.next + m.out.length + total m.out ≤ 1048576)) ∧ Below w.heap.size w w'
theorem szMachine_any (v : Value) (m : Mz) (w : World) (h : MachAt w v m) :
    Calls Try.prog 21 #[v, .int .i64 1048576] w (SzMach m w) := by
  obtain ⟨vn, vo, rfl, h1, h2⟩ := h
  have H1 := Lib.hid (h1.below (bel_alloc w (.cells #[.int .i64 m.ins, vn, vo] 41)))
  have H2 := Lib.hid (h2.below (bel_alloc w (.cells #[.int .i64 m.ins, vn, vo] 41)))
  have B := Lib.hid (bel_alloc w (.cells #[.int .i64 m.ins, vn, vo] 41))
  clear h1 h2
  go_enter Try.func21, Try.ntmps21
  go_wp2_with fail
  refine (szIntSS_any vn _ 1048576 _ H1.out (Nat.le_refl _)).mono ?_
  rintro e w' ⟨⟨r, rfl, hr⟩, rfl⟩
  rcases hr with rfl | ⟨r0, hr⟩
  · go_wp2_with fail
    go_ret
    exact ⟨_, rfl, .inl rfl, B.out⟩
  · obtain ⟨q, rfl⟩ := Int.eq_ofNat_of_zero_le r0
    have hq : ¬ ((q : Int) < 0) := by omega
    have hqq : q + m.next.length + total m.next = 1048576 := by omega
    have Hq := Lib.hid hqq
    have hq2 : q ≤ 1048576 := by omega
    clear hr hqq
    go_wp2_with fail
    refine (szIntSS_any vo _ q _ H2.out hq2).mono ?_
    rintro e w' ⟨⟨r, rfl, hr⟩, rfl⟩
    rcases hr with rfl | ⟨r0', hr⟩
    · go_wp2_with fail
      go_ret
      exact ⟨_, rfl, .inl rfl, B.out⟩
    · obtain ⟨q', rfl⟩ := Int.eq_ofNat_of_zero_le r0'
      have hq' : ¬ ((q' : Int) < 0) := by omega
      have Hr := Lib.hid hr
      clear hr
      go_wp2_with fail
      go_ret
      exact ⟨_, rfl, .inr ⟨by omega, by have := Hr.out; omega, by have := Hr.out; have := Hq.out; omega⟩, B.out⟩
/-- What toMachine makes. -/
def OwnMach (B T : Nat) (v : Value) (m : Mz) (w : World) : Prop :=
  ∃ vn vo M, v = .agg #[.int .i64 m.ins, vn, vo] ∧ B ≤ M ∧ M ≤ T ∧ OwnIntSS B M w vn m.next ∧ OwnIntSS M T w vo m.out
theorem OwnMach.at {B T : Nat} {v : Value} {m : Mz} {w : World} (h : OwnMach B T v m w) : MachAt w v m := by
  obtain ⟨vn, vo, M, hv, _, _, h1, h2⟩ := h
  exact ⟨vn, vo, hv, OwnSS.at h1, OwnSS.at h2⟩
theorem OwnMach.below {B T : Nat} {v : Value} {m : Mz} {w w' : World} (h : OwnMach B T v m w) (hb : Below w.heap.size w w') : OwnMach B T v m w' := by
  obtain ⟨vn, vo, M, hv, e1, e2, h1, h2⟩ := h
  exact ⟨vn, vo, M, hv, e1, e2, OwnSS.below h1 hb, OwnSS.below h2 hb⟩
def ToMach (m : Mz) (w : World) (e : Ending) (w' : World) : Prop := ∃ v, e = .returned v ∧ OwnMach w.heap.size w'.heap.size v m w' ∧ Below w.heap.size w w'
set_option maxHeartbeats 4000000 in
theorem toMachine_any (v : Value) (m : Mz) (w : World) (h : MachAt w v m) (hl : m.next.length + total m.next + m.out.length + total m.out ≤ 1048576) :
    Calls Try.prog 23 #[v] w (ToMach m w) := by
  obtain ⟨vn, vo, rfl, h1, h2⟩ := h
  have H1 := Lib.hid h1
  have H2 := Lib.hid h2
  clear h1 h2
  go_enter Try.func23, Try.ntmps23
  go_wp2_with fail
  generalize hW : (((w.alloc (.cells #[.int .i64 m.ins, vn, vo] 41)).alloc (.cells #[.int .i64 0, .slice none 0 0, .slice none 0 0] 43)).alloc (.cells #[.int .i64 m.ins, .slice none 0 0, .slice none 0 0] 43)) = W
  have hB0 : Below w.heap.size w W := by rw [← hW]; exact (((Below.refl _ _).alloc (Nat.le_refl _) _).alloc (by simp) _).alloc (by simp; omega) _
  have hsz : W.heap.size = w.heap.size + 3 := by rw [← hW]; simp
  have h0 : W.heap[w.heap.size]? = some (.cells #[.int .i64 m.ins, vn, vo] 41 (0, 0)) := by
    rw [← hW, heap_alloc_old _ _ (by simp; omega), heap_alloc_old _ _ (by simp), heap_alloc_new]
  have h1 : W.heap[w.heap.size + 1]? = some (.cells #[.int .i64 0, .slice none 0 0, .slice none 0 0] 43 (0, 0)) := by
    rw [← hW, heap_alloc_old _ _ (by simp)]
    have := heap_alloc_new (w.alloc (.cells #[.int .i64 m.ins, vn, vo] 41)) (.cells #[.int .i64 0, .slice none 0 0, .slice none 0 0] 43)
    rwa [World.size_alloc] at this
  have h2 : W.heap[w.heap.size + 1 + 1]? = some (.cells #[.int .i64 m.ins, .slice none 0 0, .slice none 0 0] 43 (0, 0)) := by
    rw [← hW]
    have := heap_alloc_new ((w.alloc (.cells #[.int .i64 m.ins, vn, vo] 41)).alloc (.cells #[.int .i64 0, .slice none 0 0, .slice none 0 0] 43)) (.cells #[.int .i64 m.ins, .slice none 0 0, .slice none 0 0] 43)
    rwa [World.size_alloc, World.size_alloc] at this
  clear hW
  refine (toIntSS_any vn _ _ (H1.out.below hB0) (by omega) (by omega)).mono ?_
  rintro e w1 ⟨⟨v1, rfl, hO1⟩, hb1⟩
  obtain ⟨A1, q1, hv1, _, _⟩ := (OwnSS.at hO1).shape
  subst hv1
  have k0 := (hb1.block w.heap.size (by omega)).trans h0
  have k1 := (hb1.block (w.heap.size + 1) (by omega)).trans h1
  have k2 := (hb1.block (w.heap.size + 1 + 1) (by omega)).trans h2
  have p2 : w1.cell? ⟨w.heap.size, 2, none⟩ = some vo := blk_cell k0 2
  have c1 : w1.cell? ⟨w.heap.size + 1 + 1, 1, none⟩ = some (.slice none 0 0) := blk_cell k2 1
  have f1 := blk_free k2 1
  have Ho1 := Lib.hid (OwnSS.mono hO1 (show w.heap.size + 3 ≤ W.heap.size by omega) (Nat.le_refl _))
  have HB1 := Lib.hid (hB0.trans (hb1.mono hB0.size))
  have z1 := hb1.size
  have K0 := Lib.hid k0
  have K1 := Lib.hid k1
  have K2 := Lib.hid k2
  clear hO1 hb1 h0 h1 h2 hB0 k0 k1 k2
  go_wp2_with fail
  have K1 := Lib.hid ((heap_setCell_other w1 ⟨w.heap.size + 1 + 1, 1, none⟩ (w.heap.size + 1) (.slice A1 m.next.length q1) (by simp only; omega)).trans K1.out)
  have K2 := Lib.hid (heap_setCell_same w1 (w.heap.size + 1 + 1) 1 _ _ (.slice A1 m.next.length q1) K2.out)
  have HB1 := Lib.hid (HB1.out.setCell (p := ⟨w.heap.size + 1 + 1, 1, none⟩) (by simp only; omega) (.slice A1 m.next.length q1))
  have Ho1 := Lib.hid (OwnSS.only Ho1.out (Only.grown (E := fun g => g = w.heap.size + 1 + 1) (set_grownM w1 (w.heap.size + 1 + 1) 1 (.slice A1 m.next.length q1)) (fun k hk => (Option.some.inj hk).symm)) (fun g hg _ e => by omega))
  have z1' : w1.heap.size = (w1.setCell ⟨w.heap.size + 1 + 1, 1, none⟩ (.slice A1 m.next.length q1)).heap.size := by simp [World.setCell]
  generalize w1.setCell ⟨w.heap.size + 1 + 1, 1, none⟩ (.slice A1 m.next.length q1) = w1' at *
  refine (toIntSS_any vo _ _ (H2.out.below HB1.out) (by omega) (by omega)).mono ?_
  rintro e w2 ⟨⟨v2, rfl, hO2⟩, hb2⟩
  obtain ⟨A2, q2, hv2, _, _⟩ := (OwnSS.at hO2).shape
  subst hv2
  have k1 := (hb2.block (w.heap.size + 1) (by omega)).trans K1.out
  have k2 := (hb2.block (w.heap.size + 1 + 1) (by omega)).trans K2.out
  have c0 : w2.cell? ⟨w.heap.size + 1 + 1, 0, none⟩ = some (.int .i64 m.ins) := blk_cell k2 0
  have c1 : w2.cell? ⟨w.heap.size + 1 + 1, 1, none⟩ = some (.slice A1 m.next.length q1) := blk_cell k2 1
  have c2 : w2.cell? ⟨w.heap.size + 1 + 1, 2, none⟩ = some (.slice none 0 0) := blk_cell k2 2
  have f2 := blk_free k2 2
  have o0 : w2.cell? ⟨w.heap.size + 1, 0, none⟩ = some (.int .i64 0) := blk_cell k1 0
  have o1 : w2.cell? ⟨w.heap.size + 1, 1, none⟩ = some (.slice none 0 0) := blk_cell k1 1
  have o2 : w2.cell? ⟨w.heap.size + 1, 2, none⟩ = some (.slice none 0 0) := blk_cell k1 2
  have b0 := blk_free k1 0
  have b1 := blk_free k1 1
  have b2 := blk_free k1 2
  have Ho12 := Lib.hid (OwnSS.below Ho1.out hb2)
  have Ho2 := Lib.hid hO2
  have HB2 := Lib.hid (HB1.out.trans (hb2.mono HB1.out.size))
  have z2 := hb2.size
  clear hO2 hb2 k1 k2 p2 f1 K0 K1 K2
  go_wp2_with fail
  refine bodyPost_ret (v := .agg #[.int .i64 m.ins, .slice A1 m.next.length q1, .slice A2 m.out.length q2]) (by simp [results, Try.results23, go_sem, o0, o1, o2]) rfl ⟨_, rfl, ⟨_, _, w1'.heap.size, rfl, by omega, by simp [World.setCell]; omega, ?_, ?_⟩, ?_⟩
  · exact own_setSS (own_setSS (own_setSS (own_setSS (OwnSS.mono (B' := w.heap.size + 3) Ho12.out (Nat.le_refl _) (by omega)) (by omega)) (by omega)) (by omega)) (by omega) |>.mono (by omega) (Nat.le_refl _)
  · exact own_setSS (own_setSS (own_setSS (own_setSS Ho2.out (by omega)) (by omega)) (by omega)) (by omega) |>.mono (Nat.le_refl _) (by simp [World.setCell])
  · exact (((HB2.out.setCell (by simp only; omega) _).setCell (by simp only; omega) _).setCell (by simp only; omega) _).setCell (by simp only; omega) _
theorem OwnMach.e {B T : Nat} {v : Value} {m : Mz} {w : World} (h : OwnMach B T v m w) : OwnMachE B T v m w := by
  obtain ⟨vn, vo, M, hv, e1, e2, h1, h2⟩ := h
  exact ⟨vn, vo, _, _, hv, fun g h => by have := h.2; omega, fun g h => by have := h.2; omega, fun g h h' => by have := h.2; have := h'.1; omega, OwnSS.se h1, OwnSE.mono (OwnSS.se h2) e1 (fun g h => h)⟩
end Go.Proofs.Ytlbfejdbfhgifaa

namespace Go.Proofs.Ytlbfejdbfhgifaa
open Go.RowKit
set_option maxRecDepth 100000
/-! MachineValid, both. -/
theorem ints_row {w : World} {B : Option Addr} {n m : Nat} {x : List Int} (h : Row w 1 (.slice B n m) n (ints x)) (hn : n = x.length) {i : Nat} {y : Int} (hy : x[i]? = some y) : ∃ b o, B = some ⟨b, o, none⟩ ∧ b < w.heap.size ∧ w.cell? ⟨b, o + i, none⟩ = some (.int .i64 y) := by
  subst hn
  obtain ⟨hi, _⟩ := List.getElem?_eq_some_iff.1 hy
  obtain ⟨b, o, c', hv, _, _, hbl, hcell⟩ := h.open (by omega)
  injection hv with hv1
  exact ⟨b, o, hv1, hbl, hcell i _ (by unfold ints; rw [List.getElem?_map, hy]; rfl)⟩
set_option maxHeartbeats 4000000 in
theorem rowsWithin_any (v : Value) (xss : List (List Int)) (N L : Nat) (w : World) (h : SSAt ints w v xss) (hN : N ≤ 4) (hL : L ≤ 8) :
    Calls Try.prog 108 #[v, .int .i64 N, .int .i64 L] w fun e w' => e = .returned (.bool (xss.all (Mac.rowOk N L))) ∧ w = w' := by
  obtain ⟨A, c, hv, hc, hcm⟩ := h.shape
  subst hv
  unfold maxLen at hcm
  have H := Lib.hid h
  obtain ⟨M, e, hM⟩ : ∃ M : Nat, (2 : Int) ^ N = (M : Int) ∧ M = 2 ^ N := ⟨2 ^ N, two_pow N, rfl⟩
  have hM16 : M ≤ 16 := by rw [hM]; exact Nat.pow_le_pow_right (show 0 < 2 by decide) hN
  have hwM := IntWalk.i64_in (M : Int) (by omega)
  have HLen : Hid (∀ r : List Int, Mac.rowOk N L r = (decide ((r.length : Int) = (M : Int)) && r.all (Mac.inOk L))) := Lib.hid fun r => by
    unfold Mac.rowOk Mac.lenOk
    rw [Int.toNat_natCast, ← hM]
  have h0 : Hid (xss.all (Mac.rowOk N L) = (xss.drop 0).all (Mac.rowOk N L)) := Lib.hid rfl
  generalize xss.all (Mac.rowOk N L) = res at h0 ⊢
  clear h hM
  go_enter Try.func108, Try.ntmps108
  go_wp2_with fail
  go_loop [13] (fun i => ∃ k : Nat, k ≤ xss.length ∧ i = .int .i64 k ∧ Hid (res = (xss.drop k).all (Mac.rowOk N L))) (fun i => xss.length - (intOf i).toNat)
  case atStart => exact ⟨0, Nat.zero_le _, rfl, h0⟩
  case round =>
    obtain ⟨k, hk, rfl, hres⟩ := hrel
    clear h0
    by_cases hlt : k < xss.length
    · obtain ⟨x, hx⟩ := at_some hlt
      obtain ⟨b, o, Bx, m, rfl, hbl, hc1, hm1, hm2, hr⟩ := ss_open H.out (Below.refl _ _) hx
      have Hr := Lib.hid hr
      have Hstep := Lib.hid (Mac.all_dropG (p := Mac.rowOk N L) hx)
      unfold maxLen at hm2
      clear hr hx
      by_cases hle : (x.length : Int) = (M : Int)
      · have hle2 : ((x.length : Int) != (M : Int)) = false := by rw [hle]; simp
        have Hn : Hid (res = ((x.drop 0).all (Mac.inOk L) && (xss.drop (k + 1)).all (Mac.rowOk N L))) := Lib.hid (by rw [hres.out, Hstep.out, HLen.out x, decide_eq_true hle]; rfl)
        clear hle
        go_wp2_with fail
        go_loop [24] (fun i => ∃ j : Nat, j ≤ x.length ∧ i = .int .i64 j ∧ Hid (res = ((x.drop j).all (Mac.inOk L) && (xss.drop (k + 1)).all (Mac.rowOk N L)))) (fun i => x.length - (intOf i).toNat)
        case atStart => exact ⟨0, Nat.zero_le _, rfl, Hn⟩
        case round =>
          obtain ⟨j, hj, rfl, hres2⟩ := hrel
          clear Hn
          by_cases hlj : j < x.length
          · obtain ⟨y, hy⟩ := at_some hlj
            obtain ⟨b2, o2, rfl, hbl2, hc2⟩ := ints_row Hr.out rfl hy
            have Hs2 := Lib.hid (Mac.all_dropG (p := Mac.inOk L) hy)
            clear hy
            by_cases hy0 : y < 0
            · obtain rfl : res = false := by rw [hres2.out, Hs2.out, show Mac.inOk L y = false from decide_eq_false (by omega)]; rfl
              go_wp2_with fail
              go_ret
              exact ⟨rfl, rfl⟩
            · by_cases hyL : (L : Int) ≤ y
              · obtain rfl : res = false := by rw [hres2.out, Hs2.out, show Mac.inOk L y = false from decide_eq_false (by omega)]; rfl
                go_wp2_with fail
                go_ret
                exact ⟨rfl, rfl⟩
              · have Hn3 : Hid (res = ((x.drop (j + 1)).all (Mac.inOk L) && (xss.drop (k + 1)).all (Mac.rowOk N L))) := Lib.hid (by rw [hres2.out, Hs2.out, show Mac.inOk L y = true from decide_eq_true (by omega)]; rfl)
                go_wp2_with fail
                go_round
                case rel => exact ⟨j + 1, by omega, by go_num, Hn3⟩
                case measure => simp [intOf] <;> omega
          · have Hn3 : Hid (res = (xss.drop (k + 1)).all (Mac.rowOk N L)) := Lib.hid (by rw [hres2.out, List.drop_eq_nil_of_le (by omega : x.length ≤ j)]; rfl)
            go_wp2_with fail
            go_round
            case rel => exact ⟨k + 1, by omega, by go_num, Hn3⟩
            case measure => simp [intOf] <;> omega
      · have hle2 : ((x.length : Int) != (M : Int)) = true := by simp; omega
        obtain rfl : res = false := by rw [hres.out, Hstep.out, HLen.out x, decide_eq_false hle]; rfl
        go_wp2_with fail
        go_ret
        exact ⟨rfl, rfl⟩
    · obtain rfl : res = true := by rw [hres.out, List.drop_eq_nil_of_le (by omega : xss.length ≤ k)]; rfl
      go_wp2_with fail
      go_ret
      exact ⟨rfl, rfl⟩
theorem mach_sizes {m : Mz} (h : Mac.sizes m = true) : 0 ≤ m.ins ∧ m.ins ≤ 4 ∧ 1 ≤ m.next.length ∧ m.next.length ≤ 8 ∧ m.out.length = m.next.length := by
  unfold Mac.sizes at h
  simpa using h
set_option maxHeartbeats 4000000 in
theorem implMValid_any (v : Value) (m : Mz) (w : World) (h : MachAt w v m) :
    Calls Try.prog 65 #[v] w fun e w' => e = .returned (.bool (Mac.valid m)) ∧ Below w.heap.size w w' := by
  obtain ⟨An, cn, Ao, co, rfl, lcn, lco, lcn2, lco2⟩ := h.shape
  obtain ⟨vn, vo, hv, r1, r2⟩ := h
  simp only [Value.agg.injEq, Array.mk.injEq, List.cons.injEq, and_true, true_and] at hv
  obtain ⟨rfl, rfl⟩ := hv
  unfold maxLen at lcn lco
  have B0 := Lib.hid (bel_alloc w (.cells #[.int .i64 m.ins, .slice An m.next.length cn, .slice Ao m.out.length co] 43))
  obtain ⟨z, p0, p1, p2⟩ := MCells.boxed w m.ins (.slice An m.next.length cn) (.slice Ao m.out.length co) 43
  have R1 := Lib.hid (r1.below B0.out)
  have R2 := Lib.hid (r2.below B0.out)
  generalize hW : w.alloc (.cells #[.int .i64 m.ins, .slice An m.next.length cn, .slice Ao m.out.length co] 43) = W at *
  clear r1 r2
  cases hs : Mac.sizes m
  · have hv : Mac.valid m = false := by unfold Mac.valid; rw [hs]; rfl
    rw [hv]
    rcases Mac.sizes_cases hs with g | ⟨g0, g1⟩ | ⟨g0, g1, g2⟩ | ⟨g0, g1, g2, g3⟩ | ⟨g0, g1, g2, g3, g4⟩
    case inr.inr.inr.inr =>
      have g5 : ((m.out.length : Int) != m.next.length) = true := by simpa using g4
      clear hs hv g4
      go_enter Try.func65, Try.ntmps65
      go_wp2_with fail
      go_ret
      exact ⟨rfl, B0.out⟩
    all_goals
      clear hs hv
      go_enter Try.func65, Try.ntmps65
      go_wp2_with fail
      go_ret
      exact ⟨rfl, B0.out⟩
  · obtain ⟨s1, s2, s3, s4, s5⟩ := mach_sizes hs
    have hv : Mac.valid m = (m.next.all (Mac.rowOk m.ins m.next.length) && m.out.all (Mac.rowOk m.ins 8)) := by unfold Mac.valid; rw [hs]; rfl
    rw [hv]
    obtain ⟨N, hN⟩ := Int.eq_ofNat_of_zero_le s1
    have hN4 : N ≤ 4 := by omega
    have C1 : Hid (∀ w, SSAt ints w (.slice An m.next.length cn) m.next → Calls Try.prog 108 #[.slice An m.next.length cn, .int .i64 m.ins, .int .i64 m.next.length] w fun e w' => e = .returned (.bool (m.next.all (Mac.rowOk m.ins m.next.length))) ∧ w = w') := Lib.hid fun w h => by rw [hN]; exact rowsWithin_any _ _ N _ w h hN4 s4
    have C2 : Hid (∀ w, SSAt ints w (.slice Ao m.out.length co) m.out → Calls Try.prog 108 #[.slice Ao m.out.length co, .int .i64 m.ins, .int .i64 8] w fun e w' => e = .returned (.bool (m.out.all (Mac.rowOk m.ins 8))) ∧ w = w') := Lib.hid fun w h => by rw [hN]; exact rowsWithin_any _ _ N 8 w h hN4 (Nat.le_refl _)
    have g5 : ((m.out.length : Int) != m.next.length) = false := by simp; omega
    have t1 : ¬ (m.ins < 0) := by omega
    have t2 : ¬ (4 < m.ins) := by omega
    have t3 : ¬ ((m.next.length : Int) < 1) := by omega
    have t4 : ¬ (8 < (m.next.length : Int)) := by omega
    have S5 := Lib.hid s5
    generalize m.next.all (Mac.rowOk m.ins m.next.length) = a1 at *
    generalize m.out.all (Mac.rowOk m.ins 8) = a2 at *
    clear hs hv hN s5 s1 s2 s3 s4
    cases a1
    · go_enter Try.func65, Try.ntmps65
      go_wp2_with fail
      refine (C1.out _ R1.out).mono ?_
      rintro e w' ⟨rfl, rfl⟩
      go_wp2_with fail
      go_ret
      exact ⟨rfl, B0.out⟩
    · go_enter Try.func65, Try.ntmps65
      go_wp2_with fail
      refine (C1.out _ R1.out).mono ?_
      rintro e w' ⟨rfl, rfl⟩
      go_wp2_with fail
      refine (C2.out _ R2.out).mono ?_
      rintro e w' ⟨rfl, rfl⟩
      go_wp2_with fail
      go_ret
      exact ⟨rfl, B0.out⟩
end Go.Proofs.Ytlbfejdbfhgifaa

namespace Go.Proofs.Ytlbfejdbfhgifaa
open Go.RowKit
set_option maxRecDepth 100000
theorem in_le (n x : Int) : decide (0 ≤ x ∧ x ≤ n - 1) = Mac.inOk n x := by
  unfold Mac.inOk
  exact decide_eq_decide.2 ⟨fun h => by omega, fun h => by omega⟩
theorem in_le8 (x : Int) : decide (0 ≤ x ∧ x ≤ 7) = Mac.inOk 8 x := in_le 8 x
set_option maxHeartbeats 8000000 in
theorem specMValid_any (v : Value) (m : Mz) (w : World) (h : MachAt w v m) :
    Calls Try.prog 61 #[v] w fun e w' => e = .returned (.bool (Mac.valid m)) ∧ Below w.heap.size w w' := by
  obtain ⟨An, cn, Ao, co, rfl, lcn, lco, lcn2, lco2⟩ := h.shape
  obtain ⟨vn, vo, hv, r1, r2⟩ := h
  simp only [Value.agg.injEq, Array.mk.injEq, List.cons.injEq, and_true, true_and] at hv
  obtain ⟨rfl, rfl⟩ := hv
  unfold maxLen at lcn lco
  have B0 := Lib.hid (bel_alloc w (.cells #[.int .i64 m.ins, .slice An m.next.length cn, .slice Ao m.out.length co] 43))
  have PC := Lib.hid (MCells.boxed w m.ins (.slice An m.next.length cn) (.slice Ao m.out.length co) 43)
  obtain ⟨z, p0, p1, p2⟩ := PC.out
  have R1 := Lib.hid (r1.below B0.out)
  have R2 := Lib.hid (r2.below B0.out)
  generalize hW : w.alloc (.cells #[.int .i64 m.ins, .slice An m.next.length cn, .slice Ao m.out.length co] 43) = W at *
  clear r1 r2
  cases hs : Mac.sizes m
  · have hv : Mac.valid m = false := by unfold Mac.valid; rw [hs]; rfl
    rw [hv]
    have hsc : (decide (0 ≤ m.ins ∧ m.ins ≤ 4) = false) ∨ (decide (0 ≤ m.ins ∧ m.ins ≤ 4) = true ∧ decide ((1 : Int) ≤ m.next.length ∧ (m.next.length : Int) ≤ 8) = false) ∨ (decide (0 ≤ m.ins ∧ m.ins ≤ 4) = true ∧ decide ((1 : Int) ≤ m.next.length ∧ (m.next.length : Int) ≤ 8) = true ∧ ((m.out.length : Int) != m.next.length) = true) := by
      rcases Mac.sizes_cases hs with g | ⟨g0, g1⟩ | ⟨g0, g1, g2⟩ | ⟨g0, g1, g2, g3⟩ | ⟨g0, g1, g2, g3, g4⟩
      · exact .inl (decide_eq_false (by omega))
      · exact .inl (decide_eq_false (by omega))
      · exact .inr (.inl ⟨decide_eq_true ⟨g0, g1⟩, decide_eq_false (by omega)⟩)
      · exact .inr (.inl ⟨decide_eq_true ⟨g0, g1⟩, decide_eq_false (by omega)⟩)
      · exact .inr (.inr ⟨decide_eq_true ⟨g0, g1⟩, decide_eq_true ⟨g2, g3⟩, by simpa using g4⟩)
    clear hs hv
    rcases hsc with h1 | ⟨h1, h2⟩ | ⟨h1, h2, h3⟩
    · have H1 := Lib.hid h1
      clear h1
      go_enter Try.func61, Try.ntmps61
      go_wp2_with fail
      refine (l1In_any _ _ _ _).mono ?_
      rintro e w' ⟨rfl, rfl⟩
      rw [H1.out]
      go_wp2_with fail
      go_ret
      exact ⟨rfl, B0.out⟩
    · have H1 := Lib.hid h1
      have H2 := Lib.hid h2
      clear h1 h2
      go_enter Try.func61, Try.ntmps61
      go_wp2_with fail
      refine (l1In_any _ _ _ _).mono ?_
      rintro e w' ⟨rfl, rfl⟩
      rw [H1.out]
      go_wp2_with fail
      refine (l1In_any _ _ _ _).mono ?_
      rintro e w' ⟨rfl, rfl⟩
      rw [H2.out]
      go_wp2_with fail
      go_ret
      exact ⟨rfl, B0.out⟩
    · have H1 := Lib.hid h1
      have H2 := Lib.hid h2
      clear h1 h2
      go_enter Try.func61, Try.ntmps61
      go_wp2_with fail
      refine (l1In_any _ _ _ _).mono ?_
      rintro e w' ⟨rfl, rfl⟩
      rw [H1.out]
      go_wp2_with fail
      refine (l1In_any _ _ _ _).mono ?_
      rintro e w' ⟨rfl, rfl⟩
      rw [H2.out]
      go_wp2_with fail
      go_ret
      exact ⟨rfl, B0.out⟩
  · obtain ⟨s1, s2, s3, s4, s5⟩ := mach_sizes hs
    have hv : Mac.valid m = ((m.next.zip m.out).drop 0).all (Mac.pairOk m.ins m.next.length) := by rw [Mac.valid_zip, hs]; rfl
    have H0 := Lib.hid hv
    have H1 : Hid (decide (0 ≤ m.ins ∧ m.ins ≤ 4) = true) := Lib.hid (decide_eq_true ⟨s1, s2⟩)
    have H2 : Hid (decide ((1 : Int) ≤ m.next.length ∧ (m.next.length : Int) ≤ 8) = true) := Lib.hid (decide_eq_true ⟨by omega, by omega⟩)
    have g5 : ((m.out.length : Int) != m.next.length) = false := by simp; omega
    have S5 := Lib.hid s5
    generalize Mac.valid m = res at *
    obtain ⟨N, hN⟩ := Int.eq_ofNat_of_zero_le s1
    have hN4 : N ≤ 4 := by omega
    obtain ⟨M, e, hM⟩ : ∃ M : Nat, (2 : Int) ^ N = (M : Int) ∧ M = 2 ^ N := ⟨2 ^ N, two_pow N, rfl⟩
    have hM16 : M ≤ 16 := by rw [hM]; exact Nat.pow_le_pow_right (show 0 < 2 by decide) hN4
    have hwM := IntWalk.i64_in (M : Int) (by omega)
    have HLen : Hid (∀ p : List Int × List Int, Mac.pairOk m.ins m.next.length p = (decide ((p.1.length : Int) = (M : Int)) && decide ((p.2.length : Int) = (M : Int)) && (p.1.zip p.2).all (Mac.entOk m.next.length))) := Lib.hid fun p => by
      unfold Mac.pairOk Mac.lenOk
      rw [hN, Int.toNat_natCast, ← hM]
    have HI1 := Lib.hid fun x : Int => in_le (m.next.length : Int) x
    have HI2 := Lib.hid in_le8
    rw [hN] at p0 PC H1 hW
    rw [hN]
    clear hs hv hM s5 s1 s2 hN
    go_enter Try.func61, Try.ntmps61
    go_wp2_with fail
    refine (l1In_any _ _ _ _).mono ?_
    rintro e w' ⟨rfl, rfl⟩
    rw [H1.out]
    go_wp2_with fail
    refine (l1In_any _ _ _ _).mono ?_
    rintro e w' ⟨rfl, rfl⟩
    rw [H2.out]
    go_wp2_with fail
    clear hW
    go_loopw [4] (fun i wr => ∃ k : Nat, k ≤ m.next.length ∧ i = .int .i64 k ∧ Hid (res = ((m.next.zip m.out).drop k).all (Mac.pairOk m.ins m.next.length)) ∧ Below W.heap.size W wr) (fun i _ => m.next.length - (intOf i).toNat)
    case atStart => exact ⟨0, Nat.zero_le _, rfl, H0, Below.refl _ _⟩
    case round =>
      obtain ⟨k, hk, rfl, hres, hb⟩ := hrel
      clear H0 p0 p1 p2
      by_cases hlt : k < m.next.length
      · obtain ⟨x, hx⟩ := at_some hlt
        obtain ⟨y, hy⟩ := at_some (show k < m.out.length by rw [S5.out]; exact hlt)
        have hko : k < m.out.length := by rw [S5.out]; exact hlt
        obtain ⟨b, o, Bx, mx, rfl, hbl, hc1, hm1, hm2, hr⟩ := ss_open R1.out hb hx
        obtain ⟨b', o', By, my, rfl, hbl', hc1', hm1', hm2', hr'⟩ := ss_open R2.out hb hy
        have Hr := Lib.hid hr
        have Hr' := Lib.hid hr'
        have Hstep := Lib.hid (Mac.all_dropG (p := Mac.pairOk m.ins m.next.length) (Mac.zip_get hx hy))
        obtain ⟨zr, p0, p1, p2⟩ := PC.out.below hb
        have g0 := gw_cell p0 zr
        have g1 := gw_cell p1 zr
        have g2 := gw_cell p2 zr
        have g3 := gw_cell hc1 (show b < wr.heap.size by have := hb.size; omega)
        have g4 := gw_cell hc1' (show b' < wr.heap.size by have := hb.size; omega)
        have Hb := Lib.hid hb
        have hz := hb.size
        unfold maxLen at hm2 hm2'
        have hko2 : k < co := by omega
        have hkn2 : k < cn := by omega
        clear hr hr' hx hy hb p0 p1 p2 hc1 hc1'
        by_cases hle : (x.length : Int) = (M : Int)
        · by_cases hle' : (y.length : Int) = (M : Int)
          · have hx2 : ((x.length : Int) != (M : Int)) = false := by rw [hle]; simp
            have hy2 : ((y.length : Int) != (M : Int)) = false := by rw [hle']; simp
            have Hn : Hid (res = (((x.zip y).drop 0).all (Mac.entOk m.next.length) && ((m.next.zip m.out).drop (k + 1)).all (Mac.pairOk m.ins m.next.length))) := Lib.hid (by rw [hres.out, Hstep.out, HLen.out (x, y), decide_eq_true hle, decide_eq_true hle']; rfl)
            have HMx : Hid (x.length = M) := Lib.hid (by omega)
            have HMy : Hid (y.length = M) := Lib.hid (by omega)
            clear hle hle'
            go_wp2_with fail
            refine wp_region_grow (by kernel_rfl) (by kernel_rfl) ?_
            repeat (go_big_quiet_step ((fail)))
            refine wpQuiet_nil ?_
            intro _ hw'
            obtain ⟨nq, hw''⟩ := hw'
            subst hw''
            have hgq := gw_below nq
            generalize gw nq = wq at *
            clear nq
            obtain ⟨W1, hW1⟩ : ∃ W1, W1 = wq := ⟨_, rfl⟩
            subst hW1
            have Hb1 := Lib.hid (Hb.out.trans (hgq.mono hz))
            have Hrq := Lib.hid (Hr.out.below hgq)
            have Hrq' := Lib.hid (Hr'.out.below hgq)
            obtain ⟨-, p0, p1, p2⟩ := PC.out.below Hb1.out
            have q3 := (hgq.cell (p := ⟨b, o + k, none⟩) (show b < wr.heap.size by omega)).trans (g3 ⟨wr, Below.refl _ _⟩)
            have q4 := (hgq.cell (p := ⟨b', o' + k, none⟩) (show b' < wr.heap.size by omega)).trans (g4 ⟨wr, Below.refl _ _⟩)
            clear hgq g0 g1 g2 g3 g4
            go_wp2_with fail
            go_loop [5] (fun i => ∃ j : Nat, j ≤ M ∧ i = .int .i64 j ∧ Hid (res = (((x.zip y).drop j).all (Mac.entOk m.next.length) && ((m.next.zip m.out).drop (k + 1)).all (Mac.pairOk m.ins m.next.length)))) (fun i => M - (intOf i).toNat)
            case atStart => exact ⟨0, Nat.zero_le _, rfl, Hn⟩
            case round =>
              obtain ⟨j, hj, rfl, hres2⟩ := hrel
              clear Hn
              by_cases hlj : j < M
              · obtain ⟨xe, hxe⟩ := at_some (show j < x.length by rw [HMx.out]; exact hlj)
                obtain ⟨ye, hye⟩ := at_some (show j < y.length by rw [HMy.out]; exact hlj)
                have hjx : j < x.length := by rw [HMx.out]; exact hlj
                have hjy : j < y.length := by rw [HMy.out]; exact hlj
                have hjx2 : j < mx := by omega
                have hjy2 : j < my := by omega
                obtain ⟨b2, o2, rfl, hbl2, hc2⟩ := ints_row Hrq.out rfl hxe
                obtain ⟨b3, o3, rfl, hbl3, hc3⟩ := ints_row Hrq'.out rfl hye
                have Hs2 := Lib.hid (Mac.all_dropG (p := Mac.entOk m.next.length) (Mac.zip_get hxe hye))
                have HE : Hid (Mac.entOk m.next.length (xe, ye) = (Mac.inOk m.next.length xe && Mac.inOk 8 ye)) := Lib.hid rfl
                clear hxe hye
                cases h1 : Mac.inOk m.next.length xe
                · have HH1 := Lib.hid h1
                  obtain rfl : res = false := by rw [hres2.out, Hs2.out, HE.out, h1]; rfl
                  clear h1
                  go_wp2_with fail
                  refine (l1In_any _ _ _ _).mono ?_
                  rintro e w' ⟨rfl, rfl⟩
                  rw [HI1.out, HH1.out]
                  go_wp2_with fail
                  go_ret
                  exact ⟨rfl, B0.out.trans (Hb1.out.mono B0.out.size)⟩
                · have HH1 := Lib.hid h1
                  cases h2 : Mac.inOk 8 ye
                  · have HH2 := Lib.hid h2
                    obtain rfl : res = false := by rw [hres2.out, Hs2.out, HE.out, h1, h2]; rfl
                    clear h1 h2
                    go_wp2_with fail
                    refine (l1In_any _ _ _ _).mono ?_
                    rintro e w' ⟨rfl, rfl⟩
                    rw [HI1.out, HH1.out]
                    go_wp2_with fail
                    refine (l1In_any _ _ _ _).mono ?_
                    rintro e w' ⟨rfl, rfl⟩
                    rw [HI2.out, HH2.out]
                    go_wp2_with fail
                    go_ret
                    exact ⟨rfl, B0.out.trans (Hb1.out.mono B0.out.size)⟩
                  · have HH2 := Lib.hid h2
                    have Hn3 : Hid (res = (((x.zip y).drop (j + 1)).all (Mac.entOk m.next.length) && ((m.next.zip m.out).drop (k + 1)).all (Mac.pairOk m.ins m.next.length))) := Lib.hid (by rw [hres2.out, Hs2.out, HE.out, h1, h2]; rfl)
                    clear h1 h2
                    go_wp2_with fail
                    refine (l1In_any _ _ _ _).mono ?_
                    rintro e w' ⟨rfl, rfl⟩
                    rw [HI1.out, HH1.out]
                    go_wp2_with fail
                    refine (l1In_any _ _ _ _).mono ?_
                    rintro e w' ⟨rfl, rfl⟩
                    rw [HI2.out, HH2.out]
                    go_wp2_with fail
                    go_round
                    case rel => exact ⟨j + 1, by omega, by go_num, Hn3⟩
                    case measure => simp [intOf] <;> omega
              · have Hn3 : Hid (res = ((m.next.zip m.out).drop (k + 1)).all (Mac.pairOk m.ins m.next.length)) := Lib.hid (by rw [hres2.out, List.drop_eq_nil_of_le (by rw [List.length_zip, HMx.out]; omega)]; rfl)
                go_wp2_with fail
                go_roundw
                case rel => exact ⟨k + 1, by omega, by go_num, Hn3, Hb1.out⟩
                case measure => simp [intOf] <;> omega
          · have hx2 : ((x.length : Int) != (M : Int)) = false := by rw [hle]; simp
            have hy2 : ((y.length : Int) != (M : Int)) = true := by simp; omega
            obtain rfl : res = false := by rw [hres.out, Hstep.out, HLen.out (x, y), decide_eq_true hle, decide_eq_false hle']; rfl
            clear hle hle'
            go_wp2_with fail
            refine wp_region_grow (by kernel_rfl) (by kernel_rfl) ?_
            repeat (go_big_quiet_step ((fail)))
            refine wpQuiet_nil ?_
            intro _ hw'
            obtain ⟨nq, hw''⟩ := hw'
            subst hw''
            have hgq := gw_below nq
            generalize gw nq = wq at *
            clear nq
            have Hb1 := Lib.hid (Hb.out.trans (hgq.mono hz))
            clear hgq g0 g1 g2 g3 g4
            go_wp2_with fail
            go_ret
            exact ⟨rfl, B0.out.trans (Hb1.out.mono B0.out.size)⟩
        · have hx2 : ((x.length : Int) != (M : Int)) = true := by simp; omega
          obtain rfl : res = false := by rw [hres.out, Hstep.out, HLen.out (x, y), decide_eq_false hle]; rfl
          clear hle
          go_wp2_with fail
          refine wp_region_grow (by kernel_rfl) (by kernel_rfl) ?_
          repeat (go_big_quiet_step ((fail)))
          refine wpQuiet_nil ?_
          intro _ hw'
          obtain ⟨nq, hw''⟩ := hw'
          subst hw''
          have hgq := gw_below nq
          generalize gw nq = wq at *
          clear nq
          have Hb1 := Lib.hid (Hb.out.trans (hgq.mono hz))
          clear hgq g0 g1 g2 g3 g4
          go_wp2_with fail
          go_ret
          exact ⟨rfl, B0.out.trans (Hb1.out.mono B0.out.size)⟩
      · obtain rfl : res = true := by rw [hres.out, List.drop_eq_nil_of_le (by rw [List.length_zip]; omega)]; rfl
        go_wp2_with fail
        go_ret
        exact ⟨rfl, B0.out.trans (hb.mono B0.out.size)⟩
end Go.Proofs.Ytlbfejdbfhgifaa

namespace Go.Proofs.Ytlbfejdbfhgifaa
open Go.RowKit
set_option maxRecDepth 100000
/-! The classes of a machine's states, by the program: the comparisons. -/
theorem sliceEq_any (v v2 : Value) (xs ys : List Int) (w : World) (h : IntsAt w v xs) (h2 : IntsAt w v2 ys) :
    Calls Try.prog 111 #[v, v2] w fun e w' => e = .returned (.bool (decide (xs = ys))) ∧ Drew w w' := by
  obtain ⟨A, c, hv, hc, hcm⟩ := h.shape
  obtain ⟨A2, c2, hv2, hc2, hcm2⟩ := h2.shape
  subst hv hv2
  unfold maxLen at hcm hcm2
  by_cases he : xs.length = ys.length
  · have hb := Lib.hid he
    have he1 : ((xs.length : Int) != (ys.length : Int)) = false := by rw [he]; simp
    have he2 : xs.length ≤ ys.length := by omega
    clear he
    go_enter Try.func111, Try.ntmps111
    go_wp2_with fail
    go_loopw [13] (fun i wr => ∃ (k : Nat), k ≤ xs.length ∧ i = .int .i64 k ∧ xs.take k = ys.take k ∧ Drew w wr) (fun i _ => xs.length - (intOf i).toNat)
    case atStart => exact ⟨0, Nat.zero_le _, rfl, rfl, Drew.refl _⟩
    case round =>
      obtain ⟨k, hk, rfl, htk, hd⟩ := hrel
      by_cases hlt : k < xs.length
      · obtain ⟨b, o, c', hv, _, _, hbl, hcell⟩ := h.open (by omega)
        obtain ⟨rfl, _⟩ : A = some ⟨b, o, none⟩ ∧ True := by injection hv with e1; exact ⟨e1, trivial⟩
        obtain ⟨b2, o2, c2', hv2, _, _, hbl2, hcell2⟩ := h2.open (by omega)
        obtain ⟨rfl, _⟩ : A2 = some ⟨b2, o2, none⟩ ∧ True := by injection hv2 with e1; exact ⟨e1, trivial⟩
        obtain ⟨x, hx, hs⟩ := ints_at hlt
        obtain ⟨y, hy, hs2⟩ := ints_at (xs := ys) (i := k) (by omega)
        have hsrc : wr.cell? ⟨b, o + k, none⟩ = some (.int .i64 x) := (hd.cell _).trans (hcell k _ hs)
        have hsrc2 : wr.cell? ⟨b2, o2 + k, none⟩ = some (.int .i64 y) := (hd.cell _).trans (hcell2 k _ hs2)
        have Hx := Lib.hid hx
        have Hy := Lib.hid hy
        have Ht := Lib.hid htk
        clear hcell hcell2 hv hv2 hs hs2 hx hy htk h h2
        go_wp2_with fail
        go_quiet (fail)
        go_wp2_with fail
        · go_ret
          have hn : x ≠ y := bne_iff_ne.1 (by assumption)
          exact ⟨ret_bool (decide_eq_false (take_ne Hx.out Hy.out hn)).symm, hd.more _⟩
        · go_roundw
          case rel =>
            have hn : x = y := by have hz : (x != y) = false := by assumption
                                  simpa using hz
            exact ⟨k + 1, by omega, by go_num, by rw [take_snoc Hx.out, take_snoc Hy.out, Ht.out, hn], hd.more _⟩
          case measure => simp [intOf]; omega
      · go_wp2_with fail
        go_ret
        have e : xs = ys := by
          rw [List.take_of_length_le (by omega), List.take_of_length_le (by have := hb.out; omega)] at htk
          exact htk
        exact ⟨ret_bool (decide_eq_true e).symm, hd⟩
  · have hn : xs ≠ ys := fun e => he (by rw [e])
    have Hn := Lib.hid hn
    have he1 : ((xs.length : Int) != (ys.length : Int)) = true := by rw [bne_iff_ne]; omega
    clear he hn
    go_enter Try.func111, Try.ntmps111
    go_wp2_with fail
    go_ret
    exact ⟨ret_bool (decide_eq_false Hn.out).symm, Drew.refl _⟩
theorem key0_get {out : List (List Int)} {s : Nat} {r : List Int} (h : out[s]? = some r) : Mac.key0 out s = r := by
  unfold Mac.key0
  rw [List.getD_eq_getElem?_getD, h, Option.getD_some]
theorem nrow_get {next : List (List Int)} {s : Nat} {r : List Int} (h : next[s]? = some r) : Mac.nrow next s = r := by
  unfold Mac.nrow
  rw [List.getD_eq_getElem?_getD, h, Option.getD_some]
/-- The first closure: a row like row s of the outputs. -/
theorem sameRow_any (v vo : Value) (x : List Int) (out : List (List Int)) (s g3 g6 : Nat) (w : World) (h : IntsAt w v x) (ho : SSAt ints w vo out) (c3 : w.cell? ⟨g3, 0, none⟩ = some vo) (z3 : g3 < w.heap.size) (c6 : w.cell? ⟨g6, 0, none⟩ = some (.int .i64 s)) (z6 : g6 < w.heap.size) (hs : s < out.length) :
    Calls Try.prog 110 #[v, .pointer (some ⟨g3, 0, none⟩), .pointer (some ⟨g6, 0, none⟩)] w fun e w' => e = .returned (.bool (decide (x = Mac.key0 out s))) ∧ Drew w w' := by
  obtain ⟨A, c, rfl, hc, hcm⟩ := ho.shape
  unfold maxLen at hcm
  obtain ⟨y, hy⟩ := at_some hs
  obtain ⟨b, o, Bx, m, rfl, hbl, hc1, hm1, hm2, hr⟩ := ss_open ho (Below.refl _ _) hy
  have HE := Lib.hid (sliceEq_any v (.slice Bx y.length m) x y w h hr)
  have HK := Lib.hid (key0_get hy)
  clear hr hy ho h
  go_enter Try.func110, Try.ntmps110
  go_wp2_with fail
  refine HE.out.mono ?_
  rintro e w' ⟨rfl, hd⟩
  go_wp2_with fail
  go_ret
  exact ⟨by rw [HK.out]; rfl, hd⟩
/-- The first row like row s. -/
theorem idxRow_any (vo : Value) (out : List (List Int)) (s g3 g6 : Nat) (w : World) (ho : SSAt ints w vo out) (c3 : w.cell? ⟨g3, 0, none⟩ = some vo) (z3 : g3 < w.heap.size) (c6 : w.cell? ⟨g6, 0, none⟩ = some (.int .i64 s)) (z6 : g6 < w.heap.size) (hs : s < out.length) (hl : out.length ≤ 1000) :
    Calls Try.prog 109 #[vo, .func (.func 110) #[] #[.pointer (some ⟨g3, 0, none⟩), .pointer (some ⟨g6, 0, none⟩)]] w fun e w' => e = .returned (.int .i64 (Mac.least (fun t => decide (Mac.key0 out t = Mac.key0 out s)) s 0 : Nat)) ∧ Drew w w' := by
  have C3 := Lib.hid c3
  have C6 := Lib.hid c6
  have HO := Lib.hid ho
  obtain ⟨A, c, rfl, hc, hcm⟩ := ho.shape
  unfold maxLen at hcm
  have HL : Hid (∀ j, j ≤ s → (∀ t, t < j → Mac.key0 out t ≠ Mac.key0 out s) → Mac.key0 out j = Mac.key0 out s → Mac.least (fun t => decide (Mac.key0 out t = Mac.key0 out s)) s 0 = j) := Lib.hid fun j hj hn he => Mac.least_eq hj (fun t ht => decide_eq_false (hn t ht)) (.inr (decide_eq_true he))
  generalize Mac.least (fun t => decide (Mac.key0 out t = Mac.key0 out s)) s 0 = L at *
  clear ho c3 c6
  go_enter Try.func109, Try.ntmps109
  go_wp2_with fail
  go_loopw [8] (fun i wr => ∃ k : Nat, k ≤ s ∧ i = .int .i64 k ∧ Hid (∀ t, t < k → Mac.key0 out t ≠ Mac.key0 out s) ∧ Drew w wr) (fun i _ => out.length - (intOf i).toNat)
  case atStart => exact ⟨0, Nat.zero_le _, rfl, Lib.hid (fun t h => absurd h (Nat.not_lt_zero t)), Drew.refl _⟩
  case round =>
    obtain ⟨k, hk, rfl, Hn, hd⟩ := hrel
    have hlt : k < out.length := by omega
    obtain ⟨y, hy⟩ := at_some hlt
    obtain ⟨b, o, Bx, m, rfl, hbl, hc1, hm1, hm2, hr⟩ := ss_open HO.out (hd.below _) hy
    have hd3 := (hd.cell ⟨g3, 0, none⟩).trans C3.out
    have hd6 := (hd.cell ⟨g6, 0, none⟩).trans C6.out
    have HS := Lib.hid (sameRow_any (.slice Bx y.length m) _ y out s g3 g6 wr hr (HO.out.below (hd.below _)) hd3 (Nat.lt_of_lt_of_le z3 (hd.below 0).size) hd6 (Nat.lt_of_lt_of_le z6 (hd.below 0).size) hs)
    have HK := Lib.hid (key0_get hy)
    have Hd := Lib.hid hd
    unfold maxLen at hm2
    clear hr hy hd hd3 hd6
    by_cases he : y = Mac.key0 out s
    · rw [decide_eq_true he] at HS
      have hL := HL.out k hk Hn.out (HK.out.trans he)
      subst hL
      clear he
      go_wp2_with fail
      refine HS.out.mono ?_
      rintro e w' ⟨rfl, hd'⟩
      go_wp2_with fail
      go_ret
      exact ⟨rfl, Hd.out.trans hd'⟩
    · rw [decide_eq_false he] at HS
      have hks : k ≠ s := fun e => he (by rw [← HK.out, e])
      have Hn2 : Hid (∀ t, t < k + 1 → Mac.key0 out t ≠ Mac.key0 out s) := Lib.hid fun t ht e => by
        by_cases h : t = k
        · subst h; exact he (HK.out.symm.trans e)
        · exact Hn.out t (by omega) e
      clear he
      go_wp2_with fail
      refine HS.out.mono ?_
      rintro e w' ⟨rfl, hd'⟩
      go_wp2_with fail
      go_roundw
      case rel => exact ⟨k + 1, by omega, by go_num, Hn2, Hd.out.trans hd'⟩
      case measure => simp [intOf] <;> omega
theorem cg_get {C : List Nat} {s x : Nat} (h : C[s]? = some x) : Mac.cg C s = x := by
  unfold Mac.cg
  rw [List.getD_eq_getElem?_getD, h, Option.getD_some]
/-- The rows of next states: M numbers below n each. -/
def NRows (next : List (List Int)) (n M : Nat) : Prop := next.length = n ∧ ∀ s, s < n → ∃ r, next[s]? = some r ∧ r.length = M ∧ ∀ x, x < M → ∃ y : Nat, r[x]? = some ((y : Nat) : Int) ∧ y < n
theorem map_get {r : List Int} {C : List Nat} {x : Nat} {y : Nat} (h : r[x]? = some ((y : Nat) : Int)) : (r.map fun y => Mac.cg C y.toNat)[x]? = some (Mac.cg C y) := by
  rw [List.getElem?_map, h]
  rfl
set_option maxHeartbeats 4000000 in
/-- The second closure: states alike. -/
theorem alike_any (vc vn : Value) (next : List (List Int)) (C : List Nat) (n M a b gc gn : Nat) (w : World) (hN : SSAt ints w vn next) (hC : NatsAt w vc C) (hR : NRows next n M) (hl : C.length = n) (hn : n ≤ 8) (hM : M ≤ 16) (ha : a < n) (hb : b < n)
    (c1 : w.cell? ⟨gc, 0, none⟩ = some vc) (z1 : gc < w.heap.size) (c2 : w.cell? ⟨gn, 0, none⟩ = some vn) (z2 : gn < w.heap.size) :
    Calls Try.prog 112 #[.int .i64 a, .int .i64 b, .pointer (some ⟨gc, 0, none⟩), .pointer (some ⟨gn, 0, none⟩)] w fun e w' => e = .returned (.bool (decide (Mac.keyI next C a = Mac.keyI next C b))) ∧ Drew w w' := by
  obtain ⟨hRn, hR⟩ := hR
  obtain ⟨ra, ea, la, va⟩ := hR a ha
  obtain ⟨rb, eb, lb, vb⟩ := hR b hb
  obtain ⟨Ac, cc, rfl, hcc, hccm⟩ := hC.shape
  obtain ⟨An, cn, rfl, hcn, hcnm⟩ := hN.shape
  unfold maxLen at hccm hcnm
  obtain ⟨bn, on, Ba, ma, hAn, hbn, da, ma1, ma2, hra⟩ := ss_open hN (Below.refl _ _) ea
  subst hAn
  obtain ⟨bn', on', Bb, mb, hAn, -, db, mb1, mb2, hrb⟩ := ss_open hN (Below.refl _ _) eb
  obtain ⟨rfl, rfl⟩ : bn = bn' ∧ on = on' := by have := Option.some.inj hAn; injection this with h1 h2; exact ⟨h1, h2⟩
  obtain ⟨bc, oc, xa, hAc, hbc, hxa, da2⟩ := nats_cell (nats_row hC) rfl (show a < C.length by omega)
  subst hAc
  obtain ⟨bc', oc', xb, hAc, -, hxb, db2⟩ := nats_cell (nats_row hC) rfl (show b < C.length by omega)
  obtain ⟨rfl, rfl⟩ : bc = bc' ∧ oc = oc' := by have := Option.some.inj hAc; injection this with h1 h2; exact ⟨h1, h2⟩
  have HK : Hid (Mac.keyI next C a = Mac.keyI next C b ↔ xa = xb ∧ (ra.map fun y => Mac.cg C y.toNat) = rb.map fun y => Mac.cg C y.toNat) := Lib.hid (by
    unfold Mac.keyI
    rw [Prod.mk.injEq, cg_get hxa.out, cg_get hxb.out, nrow_get ea, nrow_get eb])
  have HCell : Hid (∀ x, x < C.length → ∃ y, Mac.cg C x = y ∧ w.cell? ⟨bc, oc + x, none⟩ = some (.int .i64 (y : Nat))) := Lib.hid fun x hx => by
    obtain ⟨b', o', y, hA, -, hy, hcell⟩ := nats_cell (nats_row hC) rfl hx
    obtain ⟨rfl, rfl⟩ : bc = b' ∧ oc = o' := by have := Option.some.inj hA; injection this with h1 h2; exact ⟨h1, h2⟩
    exact ⟨y, cg_get hy.out, hcell⟩
  have HVa := Lib.hid va
  have HVb := Lib.hid vb
  have Hra := Lib.hid hra
  have Hrb := Lib.hid hrb
  have Hla := Lib.hid la
  have Hlb := Lib.hid lb
  rw [la] at da ma1
  rw [lb] at db mb1
  have K : ∀ w', Drew w w' → w'.cell? ⟨gc, 0, none⟩ = some (.slice (some ⟨bc, oc, none⟩) C.length cc) ∧ w'.cell? ⟨gn, 0, none⟩ = some (.slice (some ⟨bn, on, none⟩) next.length cn) ∧ w'.cell? ⟨bn, on + a, none⟩ = some (.slice Ba M ma) ∧ w'.cell? ⟨bn, on + b, none⟩ = some (.slice Bb M mb) ∧ w'.cell? ⟨bc, oc + a, none⟩ = some (.int .i64 xa) ∧ w'.cell? ⟨bc, oc + b, none⟩ = some (.int .i64 xb) := fun w' hd =>
    ⟨(hd.cell _).trans c1, (hd.cell _).trans c2, (hd.cell _).trans da, (hd.cell _).trans db, (hd.cell _).trans da2, (hd.cell _).trans db2⟩
  have HKK := Lib.hid K
  obtain ⟨k1, k2, k3, k4, k5, k6⟩ := K w (Drew.refl _)
  have ha2 : a < C.length := by omega
  have hb2 : b < C.length := by omega
  have ha3 : a < next.length := by omega
  have hb3 : b < next.length := by omega
  unfold maxLen at ma2 mb2
  clear K hR va vb hN hC ea eb hra hrb da db da2 db2 c1 c2 hAn hAc hxa hxb
  by_cases hx : xa = xb
  · have hxx : ((xa : Int) != (xb : Int)) = false := by rw [hx]; simp
    have HK2 : Hid (Mac.keyI next C a = Mac.keyI next C b ↔ (ra.map fun y => Mac.cg C y.toNat) = rb.map fun y => Mac.cg C y.toNat) := Lib.hid (by rw [HK.out]; exact ⟨fun h => h.2, fun h => ⟨hx, h⟩⟩)
    clear hx HK la lb
    go_enter Try.func112, Try.ntmps112
    go_wp2_with fail
    go_quiet (fail)
    go_wp2_with fail
    have Hd0 := Lib.hid (Drew.by w nq)
    go_loopw [22] (fun i wr => ∃ (k : Nat), k ≤ M ∧ i = .int .i64 k ∧ Hid ((ra.take k).map (fun y => Mac.cg C y.toNat) = (rb.take k).map fun y => Mac.cg C y.toNat) ∧ Drew w wr) (fun i _ => M - (intOf i).toNat)
    case atStart => exact ⟨0, Nat.zero_le _, rfl, Lib.hid rfl, Hd0.out⟩
    case round =>
      obtain ⟨k, hk, rfl, htk, hd⟩ := hrel
      obtain ⟨k1, k2, k3, k4, -, -⟩ := HKK.out wr hd
      have Hd := Lib.hid hd
      clear Hd0
      by_cases hlt : k < M
      · obtain ⟨ya, hya, hyan⟩ := HVa.out k hlt
        obtain ⟨yb, hyb, hybn⟩ := HVb.out k hlt
        obtain ⟨b1, o1, rfl, hb1, hs1⟩ := ints_row Hra.out rfl hya
        obtain ⟨b2, o2, rfl, hb2', hs2⟩ := ints_row Hrb.out rfl hyb
        obtain ⟨ca, hca, hcella⟩ := HCell.out ya (by omega)
        obtain ⟨cb, hcb, hcellb⟩ := HCell.out yb (by omega)
        have j1 := (hd.cell _).trans hs1
        have j2 := (hd.cell _).trans hs2
        have j3 := (hd.cell _).trans hcella
        have j4 := (hd.cell _).trans hcellb
        have Hya := Lib.hid hya
        have Hyb := Lib.hid hyb
        have Hca := Lib.hid hca
        have Hcb := Lib.hid hcb
        have hdk : decide (k < M) = true := decide_eq_true hlt
        clear hya hyb hca hcb hs1 hs2 hcella hcellb hd
        by_cases hcc2 : ca = cb
        · have hcx : ((ca : Int) != (cb : Int)) = false := by rw [hcc2]; simp
          have Hn : Hid ((ra.take (k + 1)).map (fun y => Mac.cg C y.toNat) = (rb.take (k + 1)).map fun y => Mac.cg C y.toNat) := Lib.hid (by
            rw [take_snoc Hya.out, take_snoc Hyb.out, List.map_append, List.map_append, htk.out, List.map_singleton, List.map_singleton, Int.toNat_natCast, Int.toNat_natCast, Hca.out, Hcb.out, hcc2])
          clear hcc2
          go_wp2_with fail
          go_quiet (fail)
          go_wp2_with fail
          go_roundw
          case rel => exact ⟨k + 1, by omega, by go_num, Hn, Hd.out.more _⟩
          case measure => simp [intOf] <;> omega
        · have hcx : ((ca : Int) != (cb : Int)) = true := by simp; omega
          have Hn : Hid (decide (Mac.keyI next C a = Mac.keyI next C b) = false) := Lib.hid (decide_eq_false (by
            rw [HK2.out]
            intro e
            have := congrArg (fun l => l[k]?) e
            rw [map_get Hya.out, map_get Hyb.out, Hca.out, Hcb.out] at this
            exact hcc2 (Option.some.inj this)))
          clear hcc2
          go_wp2_with fail
          go_quiet (fail)
          go_wp2_with fail
          go_ret
          exact ⟨by rw [Hn.out]; rfl, Hd.out.more _⟩
      · obtain rfl : k = M := by omega
        have hdk : decide (k < k) = false := decide_eq_false (by omega)
        have Hn : Hid (decide (Mac.keyI next C a = Mac.keyI next C b) = true) := Lib.hid (decide_eq_true (by
          rw [HK2.out]
          have := htk.out
          rwa [List.take_of_length_le (by have := Hla.out; omega), List.take_of_length_le (by have := Hlb.out; omega)] at this))
        go_wp2_with fail
        go_ret
        exact ⟨by rw [Hn.out]; rfl, hd⟩
  · have hxx : ((xa : Int) != (xb : Int)) = true := by simp; omega
    have Hn : Hid (decide (Mac.keyI next C a = Mac.keyI next C b) = false) := Lib.hid (decide_eq_false (by rw [HK.out]; exact fun h => hx h.1))
    clear hx HK la lb
    go_enter Try.func112, Try.ntmps112
    go_wp2_with fail
    go_quiet (fail)
    go_wp2_with fail
    go_ret
    exact ⟨by rw [Hn.out]; rfl, Drew.by _ _⟩
end Go.Proofs.Ytlbfejdbfhgifaa

namespace Go.Proofs.Ytlbfejdbfhgifaa
open Go.RowKit
set_option maxRecDepth 100000
/-! The classes of a machine's states, by the program. -/
theorem blkO {E : Nat → Prop} {w w' : World} {k : Nat} {o : Obj} (h : w.heap[k]? = some o) (ho : Only E w w') (hE : ¬ E k) : w'.heap[k]? = some o := (ho.block k (heap_lt h) hE).trans h
/-- The number in a cell. -/
def celln (w : World) (b i : Nat) : Nat := match w.cell? ⟨b, i, none⟩ with | some (.int _ x) => x.toNat | _ => 0
/-- The numbers of the slice in a box. -/
def clsAt (w : World) (g n : Nat) : List Nat := match w.cell? ⟨g, 0, none⟩ with | some (.slice (some ⟨b, o, _⟩) _ _) => (List.range n).map fun i => celln w b (o + i) | _ => []
theorem celln_own {w : World} {B g n c : Nat} {C : List Nat} (h : w.ownsRow B 3 1 (.slice (some ⟨g, 0, none⟩) n c) n (nints C)) {i x : Nat} (hx : C[i]? = some x) : celln w g i = x := by
  have hl : C.length = n := by have := h.1; rw [nints_length] at this; omega
  obtain ⟨hi, -⟩ := List.getElem?_eq_some_iff.1 hx
  obtain ⟨u, hu, hcell, -⟩ := own_slot h (j := i) (by omega)
  have : u = .int .i64 (x : Nat) := by
    unfold nints ints nats at hu
    rw [List.getElem?_map, List.getElem?_map, hx] at hu
    exact (Option.some.inj hu).symm
  unfold celln
  rw [hcell, this]
  simp
theorem clsAt_own {w : World} {B g b n c : Nat} {C : List Nat} (hg : w.cell? ⟨g, 0, none⟩ = some (.slice (some ⟨b, 0, none⟩) n c)) (h : w.ownsRow B 3 1 (.slice (some ⟨b, 0, none⟩) n c) n (nints C)) : clsAt w g n = C := by
  have hl : C.length = n := by have := h.1; rw [nints_length] at this; omega
  unfold clsAt
  rw [hg]
  apply List.ext_getElem
  · simp [hl]
  · intro i h1 h2
    rw [List.getElem_map, List.getElem_range, Nat.zero_add, celln_own h (List.getElem?_eq_getElem h2)]
set_option maxHeartbeats 8000000 in
theorem classes_any (vn vo : Value) (next out : List (List Int)) (M : Nat) (w : World) (hN : SSAt ints w vn next) (hO : SSAt ints w vo out) (hR : NRows next next.length M) (ho : out.length = next.length) (h1 : 1 ≤ next.length) (hn : next.length ≤ 8) (hM : M ≤ 16) :
    Calls Try.prog 66 #[vn, vo] w (OwnInts (nats (Mac.classI next out)) w) := by
  obtain ⟨An, cn, rfl, hcn, hcnm⟩ := hN.shape
  obtain ⟨Ao, co, rfl, hco, hcom⟩ := hO.shape
  unfold maxLen at hcnm hcom
  have HN := Lib.hid hN
  have HO := Lib.hid hO
  have HR := Lib.hid hR
  have Ho := Lib.hid ho
  have hmk := run_make_row' (P := Try.prog) 22 3 (.int .i64 0) 8 Try.underlying22 info_int rfl .i64 .i64 next.length (by omega) (by omega)
  clear hN hO hR ho
  have b1 := bel_new w (.cells #[.slice An next.length cn] 39)
  have b2 := bel_new (w.alloc (.cells #[.slice An next.length cn] 39)) (.cells #[.slice Ao out.length co] 39)
  have b3 := bel_new ((w.alloc (.cells #[.slice An next.length cn] 39)).alloc (.cells #[.slice Ao out.length co] 39)) (.cells (madeCells #[Value.int .i64 0] next.length) 3)
  have b4 := bel_new (((w.alloc (.cells #[.slice An next.length cn] 39)).alloc (.cells #[.slice Ao out.length co] 39)).alloc (.cells (madeCells #[Value.int .i64 0] next.length) 3)) (.cells #[.slice (some ⟨w.heap.size + 1 + 1, 0, none⟩) next.length next.length] 22)
  have s1 : (w.alloc (.cells #[.slice An next.length cn] 39)).heap.size = w.heap.size + 1 := by simp
  have s2 : ((w.alloc (.cells #[.slice An next.length cn] 39)).alloc (.cells #[.slice Ao out.length co] 39)).heap.size = w.heap.size + 1 + 1 := by simp
  have s3 : (((w.alloc (.cells #[.slice An next.length cn] 39)).alloc (.cells #[.slice Ao out.length co] 39)).alloc (.cells (madeCells #[Value.int .i64 0] next.length) 3)).heap.size = w.heap.size + 1 + 1 + 1 := by simp
  have s4 : ((((w.alloc (.cells #[.slice An next.length cn] 39)).alloc (.cells #[.slice Ao out.length co] 39)).alloc (.cells (madeCells #[Value.int .i64 0] next.length) 3)).alloc (.cells #[.slice (some ⟨w.heap.size + 1 + 1, 0, none⟩) next.length next.length] 22)).heap.size = w.heap.size + 1 + 1 + 1 + 1 := by simp
  have B4 := Lib.hid ((((b1.trans (b2.mono b1.size))).trans (b3.mono (by omega))).trans (b4.mono (by omega)))
  have q2 : Hid (((((w.alloc (.cells #[.slice An next.length cn] 39)).alloc (.cells #[.slice Ao out.length co] 39)).alloc (.cells (madeCells #[Value.int .i64 0] next.length) 3)).alloc (.cells #[.slice (some ⟨w.heap.size + 1 + 1, 0, none⟩) next.length next.length] 22)).cell? ⟨w.heap.size, 0, none⟩ = some (.slice An next.length cn)) := Lib.hid (((b4.cell (p := ⟨w.heap.size, 0, none⟩) (by simp only; omega)).trans ((b3.cell (p := ⟨w.heap.size, 0, none⟩) (by simp only; omega)).trans (b2.cell (p := ⟨w.heap.size, 0, none⟩) (by simp only; omega)))).trans (World.cell?_alloc_new w _ _ 0))
  have q3 : Hid (((((w.alloc (.cells #[.slice An next.length cn] 39)).alloc (.cells #[.slice Ao out.length co] 39)).alloc (.cells (madeCells #[Value.int .i64 0] next.length) 3)).alloc (.cells #[.slice (some ⟨w.heap.size + 1 + 1, 0, none⟩) next.length next.length] 22)).cell? ⟨w.heap.size + 1, 0, none⟩ = some (.slice Ao out.length co)) := Lib.hid (((b4.cell (p := ⟨w.heap.size + 1, 0, none⟩) (by simp only; omega)).trans (b3.cell (p := ⟨w.heap.size + 1, 0, none⟩) (by simp only; omega))).trans (by have := World.cell?_alloc_new (w.alloc (.cells #[.slice An next.length cn] 39)) #[.slice Ao out.length co] 39 0; rw [s1] at this; exact this))
  have q5 : Hid (((((w.alloc (.cells #[.slice An next.length cn] 39)).alloc (.cells #[.slice Ao out.length co] 39)).alloc (.cells (madeCells #[Value.int .i64 0] next.length) 3)).alloc (.cells #[.slice (some ⟨w.heap.size + 1 + 1, 0, none⟩) next.length next.length] 22)).heap[w.heap.size + 1 + 1 + 1]? = some (.cells #[.slice (some ⟨w.heap.size + 1 + 1, 0, none⟩) next.length next.length] 22 (0, 0))) := Lib.hid (by have := heap_alloc_new (((w.alloc (.cells #[.slice An next.length cn] 39)).alloc (.cells #[.slice Ao out.length co] 39)).alloc (.cells (madeCells #[Value.int .i64 0] next.length) 3)) (.cells #[.slice (some ⟨w.heap.size + 1 + 1, 0, none⟩) next.length next.length] 22); rw [s3] at this; exact this)
  have hown0 : Hid (((((w.alloc (.cells #[.slice An next.length cn] 39)).alloc (.cells #[.slice Ao out.length co] 39)).alloc (.cells (madeCells #[Value.int .i64 0] next.length) 3)).alloc (.cells #[.slice (some ⟨w.heap.size + 1 + 1, 0, none⟩) next.length next.length] 22)).ownsRow w.heap.size 3 1 (.slice (some ⟨w.heap.size + 1 + 1, 0, none⟩) next.length next.length) next.length (nints ((Mac.seqI next out 0).take 0 ++ List.replicate (next.length - 0) 0))) := Lib.hid (own_below (by
    have := World.ownsRow_lit (base := w.heap.size) (e := 3) (size := 1) ((w.alloc (.cells #[.slice An next.length cn] 39)).alloc (.cells #[.slice Ao out.length co] 39)) (madeCells #[Value.int .i64 0] next.length) next.length (by omega) (by unfold maxLen; omega) (by simp [madeCells])
    rw [made_one, s2] at this
    rw [made_one, List.take_zero, List.nil_append, nints_rep, Nat.sub_zero]
    simpa using this) b4)
  clear b1 b2 b3 b4 s1 s2 s3
  have S4 := Lib.hid s4
  clear s4
  go_enter Try.func66, Try.ntmps66
  go_wp2_with fail
  clear hmk
  generalize ((((w.alloc (.cells #[.slice An next.length cn] 39)).alloc (.cells #[.slice Ao out.length co] 39)).alloc (.cells (madeCells #[Value.int .i64 0] next.length) 3)).alloc (.cells #[.slice (some ⟨w.heap.size + 1 + 1, 0, none⟩) next.length next.length] 22)) = W at *
  have s4 := S4.out
  go_loopw [15] (fun i wr => ∃ k : Nat, k ≤ next.length ∧ i = .int .i64 k ∧ Hid (wr.ownsRow w.heap.size 3 1 (.slice (some ⟨w.heap.size + 1 + 1, 0, none⟩) next.length next.length) next.length (nints ((Mac.seqI next out 0).take k ++ List.replicate (next.length - k) 0))) ∧ Hid (Only (· = w.heap.size + 1 + 1) W wr)) (fun i _ => next.length - (intOf i).toNat)
  case atStart => exact ⟨0, Nat.zero_le _, rfl, hown0, Lib.hid (Only.refl _ _)⟩
  case round =>
    obtain ⟨k, hk, rfl, Hw, HO1⟩ := hrel
    clear hown0
    have hz := HO1.out.size
    by_cases hlt : k < next.length
    · have hdk : decide (k < next.length) = true := decide_eq_true hlt
      have hL : (Mac.seqI next out 0)[k]? = some (Mac.least (fun t => decide (Mac.key0 out t = Mac.key0 out k)) k 0) := Mac.mkK_get (Mac.key0 out) hlt
      have hLe : Mac.least (fun t => decide (Mac.key0 out t = Mac.key0 out k)) k 0 ≤ k := by have := (Mac.least_spec (fun t => decide (Mac.key0 out t = Mac.key0 out k)) k 0).2.1; omega
      have HI := fun w' a b c d => idxRow_any (.slice Ao out.length co) out k (w.heap.size + 1) wr.heap.size w' a b c d
      obtain ⟨L, hLL⟩ : ∃ L, Mac.least (fun t => decide (Mac.key0 out t = Mac.key0 out k)) k 0 = L := ⟨_, rfl⟩
      rw [hLL] at hL hLe HI
      have HI := Lib.hid HI
      clear hLL
      have hlen0 : ((Mac.seqI next out 0).take k).length = k := by rw [List.length_take, (Mac.seqI_cl next out 0).len]; omega
      have HS : Hid ((nints ((Mac.seqI next out 0).take k ++ List.replicate (next.length - k) 0)).set k (.int .i64 (L : Nat)) = nints ((Mac.seqI next out 0).take (k + 1) ++ List.replicate (next.length - (k + 1)) 0)) := Lib.hid (by
        rw [nints_append, nints_append, nints_rep, nints_rep, set_mid_at _ _ _ _ _ (by rw [nints_length]; exact hlen0.symm) (by omega), show next.length - k - 1 = next.length - (k + 1) from by omega, take_snoc hL, nints_snoc])
      have hb4 := bel_new wr (.cells #[.int .i64 k] 3)
      have Hw4 := Lib.hid (own_below Hw.out hb4)
      have O4 := Lib.hid (HO1.out.trans (Only.of_below _ hb4))
      have c6 : Hid ((wr.alloc (.cells #[.int .i64 k] 3)).cell? ⟨wr.heap.size, 0, none⟩ = some (.int .i64 k)) := Lib.hid (World.cell?_alloc_new wr _ _ 0)
      have z6 : wr.heap.size < (wr.alloc (.cells #[.int .i64 k] 3)).heap.size := by simp
      clear hb4 hL hlen0
      go_wp2_with fail
      generalize hw4 : wr.alloc (.cells #[.int .i64 k] 3) = w4 at *
      clear hw4
      have p5 := blk_cell (blkO q5.out O4.out (by omega)) 0
      have p3 := cell_on O4.out (show ¬ (w.heap.size + 1 = w.heap.size + 1 + 1) by omega) (by omega) q3.out
      have P3 := Lib.hid p3
      simp at p5
      have hOk := fun ops a => stepRS_ok (Pg := Try.prog) (ops := ops) (w := w4) (a := a) (E := (· = w.heap.size + 1 + 1)) (R0 := fun w' => w'.ownsRow w.heap.size 3 1 (.slice (some ⟨w.heap.size + 1 + 1, 0, none⟩) next.length next.length) next.length (nints ((Mac.seqI next out 0).take k ++ List.replicate (next.length - k) 0))) (R1 := fun w' => w'.ownsRow w.heap.size 3 1 (.slice (some ⟨w.heap.size + 1 + 1, 0, none⟩) next.length next.length) next.length (nints ((Mac.seqI next out 0).take (k + 1) ++ List.replicate (next.length - (k + 1)) 0))) (d := 6) (fun g hg => by subst hg; omega) (fun w1 w2 h hb => own_below h hb) (fun w1 w2 h hb => own_below h hb)
      have Bw4 := Lib.hid (Only.below B4.out O4.out (by omega) (fun g hg => by omega))
      refine wp_region_rs (stepRS Try.prog _ w4 _ (· = w.heap.size + 1 + 1) _ _ 6) (hOk _ _) (by kernel_rfl) (by kernel_rfl) (by kernel_rfl) (Nat.le_of_ble_eq_true rfl) trivial Hw4.out ?_
      apply rs_eq (hOk _ _) (.inl (Nat.ne_of_beq_eq_false rfl))
      · intro ρ w' ho hK
        have ho : Only _ w4 w' := ho
        obtain ⟨h0, -⟩ := hK
        have h0' : ρ (.tmp 5) = _ := h0
        have r5 := cell_on ho (show ¬ (w.heap.size + 1 + 1 + 1 = w.heap.size + 1 + 1) by omega) (by omega) p5
        have r6 := cell_on ho (show ¬ (wr.heap.size = w.heap.size + 1 + 1) by omega) z6 c6.out
        have r3 := cell_on ho (show ¬ (w.heap.size + 1 = w.heap.size + 1 + 1) by omega) (by omega) p3
        go_simp
        try exact rfl
      apply rs_eq (hOk _ _) (.inl (Nat.ne_of_beq_eq_false rfl))
      · intro ρ w' ho hK
        have ho : Only _ w4 w' := ho
        obtain ⟨h0, -⟩ := hK
        have h0' : ρ (.tmp 6) = _ := h0
        have r5 := cell_on ho (show ¬ (w.heap.size + 1 + 1 + 1 = w.heap.size + 1 + 1) by omega) (by omega) p5
        have r6 := cell_on ho (show ¬ (wr.heap.size = w.heap.size + 1 + 1) by omega) z6 c6.out
        have r3 := cell_on ho (show ¬ (w.heap.size + 1 = w.heap.size + 1 + 1) by omega) (by omega) p3
        go_simp
        try exact rfl
      apply rs_eq (hOk _ _) (.inl (Nat.ne_of_beq_eq_false rfl))
      · intro ρ w' ho hK
        have ho : Only _ w4 w' := ho
        obtain ⟨h0, -⟩ := hK
        have h0' : ρ (.tmp 3) = _ := h0
        have r5 := cell_on ho (show ¬ (w.heap.size + 1 + 1 + 1 = w.heap.size + 1 + 1) by omega) (by omega) p5
        have r6 := cell_on ho (show ¬ (wr.heap.size = w.heap.size + 1 + 1) by omega) z6 c6.out
        have r3 := cell_on ho (show ¬ (w.heap.size + 1 = w.heap.size + 1 + 1) by omega) (by omega) p3
        go_simp
        try exact rfl
      apply rs_eq (hOk _ _) (.inl (Nat.ne_of_beq_eq_false rfl))
      · intro ρ w' ho hK
        have ho : Only _ w4 w' := ho
        obtain ⟨h0, h1, -⟩ := hK
        have h0' : ρ (.tmp 3) = _ := h0
        have h1' : ρ (.tmp 6) = _ := h1
        go_simp
        try exact rfl
      refine rs_call (hOk _ _) (.inl (Nat.ne_of_beq_eq_false rfl)) (TEq (.int .i64 (L : Nat))) (stb_eq _ _) 109 _ _ rfl (fun ρ w' ho hK => by
        have ho : Only _ w4 w' := ho
        obtain ⟨h0, h1, h2, -⟩ := hK
        have h0' : ρ (.func 109) = .func (.func 109) #[] #[] := h0
        have h1' : ρ (.tmp 20) = _ := h1
        have h2' : ρ (.tmp 21) = _ := h2
        refine ⟨#[ρ (.tmp 20), ρ (.tmp 21)], ?_, ?_⟩
        · go_simp
        · rw [h1', h2']
          refine (HI.out w' (HO.out.below (Only.below Bw4.out ho (by omega) (fun g hg => by omega))) (cell_on ho (show ¬ (w.heap.size + 1 = w.heap.size + 1 + 1) by omega) (by omega) P3.out) (by have := ho.size; omega) (cell_on ho (show ¬ (wr.heap.size = w.heap.size + 1 + 1) by omega) z6 c6.out) (by have := ho.size; omega) (by rw [Ho.out]; exact hlt) (by rw [Ho.out]; omega)).mono ?_
          rintro e w2 ⟨rfl, hd⟩
          exact ⟨_, rfl, rfl, hd.below _⟩) ?_
      apply rs_eq (hOk _ _) (.inl (Nat.ne_of_beq_eq_false rfl))
      · intro ρ w' ho hK
        have ho : Only _ w4 w' := ho
        obtain ⟨h0, h1, -⟩ := hK
        have h0' : ρ (.tmp 18) = _ := h0
        have h1' : ρ (.tmp 19) = _ := h1
        go_simp
        try exact rfl
      refine rs_do rfl rfl rfl (fun ρ w' ho h0 hK => by
        obtain ⟨h1, h2, -⟩ := hK
        have h1' : ρ (.tmp 23) = .pointer (some ⟨w.heap.size + 1 + 1, k, none⟩) := h1
        have h2' : ρ (.tmp 22) = .int .i64 L := h2
        have h0' : w'.ownsRow w.heap.size 3 1 (.slice (some ⟨w.heap.size + 1 + 1, 0, none⟩) next.length next.length) next.length (nints ((Mac.seqI next out 0).take k ++ List.replicate (next.length - k) 0)) := h0
        obtain ⟨u0, _, hcell, hfr⟩ := own_slot h0' (j := k) (by omega)
        have hst := h0'.stored k (.int .i64 L)
        rw [HS.out] at hst
        refine ⟨w'.setCell ⟨w.heap.size + 1 + 1, k, none⟩ (.int .i64 L), ?_, hst.1, Only.grown hst.2 (fun g hg => (Option.some.inj hg).symm)⟩
        clear hst h0'
        go_simp) ?_
      intro f w9 k9 hk9 hI9 ht9 hcp9
      have E0 : f 0 = _ := ht9 0 (Nat.le_of_ble_eq_true rfl)
      have E1 : f 1 = _ := ht9 1 (Nat.le_of_ble_eq_true rfl)
      have E2 : f 2 = _ := ht9 2 (Nat.le_of_ble_eq_true rfl)
      have E3 : f 3 = _ := ht9 3 (Nat.le_of_ble_eq_true rfl)
      have E4 : f 4 = _ := ht9 4 (Nat.le_of_ble_eq_true rfl)
      have E5 : f 5 = _ := ht9 5 (Nat.le_of_ble_eq_true rfl)
      have E6 : (TAny) w9 (f 6) := ht9 6 (Nat.le_of_ble_eq_true rfl)
      have Ho9 : Only _ w4 w9 := hI9.2.1
      have HJ9 := hI9.2.2
      simp only [putAll, E0, E1, E2, E3, E4, E5, Nat.zero_add, Nat.reduceAdd, Act.put, List.setIfInBounds_toArray, List.set_cons_succ, List.set_cons_zero]
      clear E0 E1 E2 E3 E4 E5
      clear hI9 ht9 hcp9 hk9
      generalize f 6 = r6 at *
      have Hw9 := Lib.hid (show w9.ownsRow w.heap.size 3 1 (.slice (some ⟨w.heap.size + 1 + 1, 0, none⟩) next.length next.length) next.length (nints ((Mac.seqI next out 0).take (k + 1) ++ List.replicate (next.length - (k + 1)) 0)) from HJ9)
      have HO9 := Lib.hid (O4.out.trans Ho9)
      clear hOk HJ9 Ho9 p5 p3
      go_wp2_with fail
      go_roundw
      case rel => exact ⟨k + 1, by omega, by go_num, Hw9, HO9⟩
      case measure => simp [intOf] <;> omega
    · obtain rfl : k = next.length := by omega
      have hdk : decide (next.length < next.length) = false := decide_eq_false (by omega)
      have Hw1 : Hid (wr.ownsRow w.heap.size 3 1 (.slice (some ⟨w.heap.size + 1 + 1, 0, none⟩) next.length next.length) next.length (nints (Mac.seqI next out 0))) := Lib.hid (by
        have := Hw.out
        rwa [Nat.sub_self, List.replicate_zero, List.append_nil, List.take_of_length_le (by rw [(Mac.seqI_cl next out 0).len]; omega)] at this)
      have hq5 := Lib.hid (blkO q5.out HO1.out (show ¬ (w.heap.size + 1 + 1 + 1 = w.heap.size + 1 + 1) by omega))
      have hq2 := Lib.hid (cell_on HO1.out (show ¬ (w.heap.size = w.heap.size + 1 + 1) by omega) (by omega) q2.out)
      have hB := Lib.hid (Only.below B4.out HO1.out (by omega) (fun g hg => by omega))
      have hzw : w.heap.size + 1 + 1 + 1 < wr.heap.size := by omega
      obtain ⟨G, hG⟩ : ∃ G, w.heap.size + 1 + 1 + 1 = G := ⟨_, rfl⟩
      have hGw : w.heap.size < G := by omega
      have hG2 : w.heap.size + 1 + 1 ≠ G := by omega
      go_wp2_with fail
      rw [hG] at hq5 hzw ⊢
      clear Hw HO1 q2 q3 q5 hG hz S4 B4 s4
      obtain ⟨W5, hW5⟩ : ∃ W5, W5 = wr := ⟨_, rfl⟩
      subst hW5
      go_loopw [] (fun wo => ∃ (r gC : Nat), Hid (∀ j, j < r → Mac.seqI next out (j + 1) ≠ Mac.seqI next out j) ∧ Hid (wo.ownsRow w.heap.size 3 1 (.slice (some ⟨gC, 0, none⟩) next.length next.length) next.length (nints (Mac.seqI next out r))) ∧ Hid (wo.heap[G]? = some (.cells #[.slice (some ⟨gC, 0, none⟩) next.length next.length] 22 (0, 0))) ∧ Hid (wo.cell? ⟨w.heap.size, 0, none⟩ = some (.slice An next.length cn)) ∧ gC ≠ G ∧ gC ≠ w.heap.size ∧ G < wo.heap.size ∧ Hid (Below w.heap.size w wo)) (fun wo => 9 - Mac.roots next.length (clsAt wo G next.length))
      case atStart => exact ⟨0, _, Lib.hid (fun j h => absurd h (Nat.not_lt_zero j)), Hw1, hq5, hq2, hG2, by omega, hzw, hB⟩
      case round =>
        obtain ⟨r, gC, Hne, HC, H5, H2, hg1, hg2, hzo, Hb⟩ := hrel
        clear Hw1 hq5 hq2 hB hzw
        have hlr := (Mac.seqI_cl next out r).len
        have hlr1 := (Mac.seqI_cl next out (r + 1)).len
        have Hlr := Lib.hid hlr
        have Hlr1 := Lib.hid hlr1
        have HMe := Lib.hid (clsAt_own (blk_cell H5.out 0) HC.out)
        have hbo := Hb.out.size
        obtain ⟨Wo, hWo⟩ : ∃ Wo, Wo = wr := ⟨_, rfl⟩
        subst hWo
        have p5 := blk_cell H5.out 0
        simp at p5
        have hmk := run_make_row' (P := Try.prog) 22 3 (.int .i64 0) 8 Try.underlying22 info_int rfl .i64 .i64 next.length (by omega) (by omega)
        have hbF := bel_new Wo (.cells (madeCells #[Value.int .i64 0] next.length) 3)
        have HF0 : Hid ((Wo.alloc (.cells (madeCells #[Value.int .i64 0] next.length) 3)).ownsRow w.heap.size 3 1 (.slice (some ⟨Wo.heap.size, 0, none⟩) next.length next.length) next.length (nints ((Mac.seqI next out (r + 1)).take 0 ++ List.replicate (next.length - 0) 0))) := Lib.hid (by
          have := World.ownsRow_lit (base := w.heap.size) (e := 3) (size := 1) Wo (madeCells #[Value.int .i64 0] next.length) next.length hbo (by unfold maxLen; omega) (by simp [madeCells])
          rw [made_one] at this
          rw [made_one, List.take_zero, List.nil_append, nints_rep, Nat.sub_zero]
          simpa using this)
        have HCk := Lib.hid (own_below HC.out hbF)
        have H5k := Lib.hid ((hbF.block _ hzo).trans H5.out)
        have H2k := Lib.hid ((hbF.cell (p := ⟨w.heap.size, 0, none⟩) (by simp only; omega)).trans H2.out)
        have Hbk := Lib.hid (Hb.out.trans (hbF.mono hbo))
        have hsk : (Wo.alloc (.cells (madeCells #[Value.int .i64 0] next.length) 3)).heap.size = Wo.heap.size + 1 := by simp
        have hgCo := (HC.out.lt gC rfl).2
        clear hbF hlr hlr1
        go_wp2_with fail
        clear hmk p5
        generalize Wo.alloc (.cells (madeCells #[Value.int .i64 0] next.length) 3) = Wk at *
        obtain ⟨gF, hgF⟩ : ∃ gF, Wo.heap.size = gF := ⟨_, rfl⟩
        rw [hgF] at HF0 hsk hzo hgCo hbo ⊢
        have HgF := Lib.hid hgF
        clear hgF HC H5 H2
        have hFG : ¬ (G = gF) := by omega
        have hFw : ¬ (w.heap.size = gF) := by omega
        have hFC : gC ≠ gF := by omega
        go_loopw [31] (fun i wi => ∃ k : Nat, k ≤ next.length ∧ i = .int .i64 k ∧ Hid (wi.ownsRow w.heap.size 3 1 (.slice (some ⟨gF, 0, none⟩) next.length next.length) next.length (nints ((Mac.seqI next out (r + 1)).take k ++ List.replicate (next.length - k) 0))) ∧ Hid (Only (· = gF) Wk wi)) (fun i _ => next.length - (intOf i).toNat)
        case atStart => exact ⟨0, Nat.zero_le _, rfl, HF0, Lib.hid (Only.refl _ _)⟩
        case round =>
          obtain ⟨k, hk, rfl, HF, HOk⟩ := hrel
          clear HF0
          have HCr := Lib.hid (own_only HCk.out HOk.out (fun g hg e => by have := Option.some.inj hg; simp only at this; omega))
          have H5r := Lib.hid (blkO H5k.out HOk.out hFG)
          have H2r := Lib.hid (cell_on HOk.out hFw (by omega) H2k.out)
          have Hbr := Lib.hid (Only.below Hbk.out HOk.out (by omega) (fun g hg => by omega))
          have hzr := HOk.out.size
          by_cases hlt : k < next.length
          · have hdk : decide (k < next.length) = true := decide_eq_true hlt
            have HF' : Hid (wr.ownsRow w.heap.size 3 1 (.slice (some ⟨gF, 0, none⟩) next.length next.length) next.length (nints ((Mac.seqI next out (r + 1)).take k ++ 0 :: List.replicate (next.length - (k + 1)) 0))) := Lib.hid (by
              have := HF.out
              rwa [show next.length - k = (next.length - (k + 1)) + 1 by omega, List.replicate_succ] at this)
            have hltk : ((Mac.seqI next out (r + 1)).take k).length = k := by rw [List.length_take, Hlr1.out]; omega
            have Hltk := Lib.hid hltk
            clear hltk
            have HSet : Hid (∀ j j' : Nat, (nints ((Mac.seqI next out (r + 1)).take k ++ j :: List.replicate (next.length - (k + 1)) 0)).set k (.int .i64 (j' : Nat)) = nints ((Mac.seqI next out (r + 1)).take k ++ j' :: List.replicate (next.length - (k + 1)) 0)) := Lib.hid fun j j' => by
              rw [nints_append, nints_append, List.set_append_right _ _ (by rw [nints_length, Hltk.out]; omega), nints_length, Hltk.out, Nat.sub_self]
              rfl
            have HGet : Hid (∀ j : Nat, (nints ((Mac.seqI next out (r + 1)).take k ++ j :: List.replicate (next.length - (k + 1)) 0))[k]? = some (.int .i64 (j : Nat))) := Lib.hid fun j => by
              rw [nints_append, List.getElem?_append_right (by rw [nints_length, Hltk.out]; omega), nints_length, Hltk.out, Nat.sub_self]
              rfl
            have HEnd : Hid (∀ j : Nat, j ≤ k → (∀ t, t < j → Mac.keyI next (Mac.seqI next out r) t ≠ Mac.keyI next (Mac.seqI next out r) k) → (j = k ∨ Mac.keyI next (Mac.seqI next out r) j = Mac.keyI next (Mac.seqI next out r) k) → nints ((Mac.seqI next out (r + 1)).take k ++ j :: List.replicate (next.length - (k + 1)) 0) = nints ((Mac.seqI next out (r + 1)).take (k + 1) ++ List.replicate (next.length - (k + 1)) 0)) := Lib.hid fun j hj hn he => by
              have h1 : (Mac.seqI next out (r + 1))[k]? = some j := by
                have h2 := Mac.mkK_get (Mac.keyI next (Mac.seqI next out r)) hlt
                rw [Mac.least_eq hj (fun t ht => decide_eq_false (hn t ht)) (he.elim .inl fun e => .inr (decide_eq_true e))] at h2
                exact h2
              rw [take_snoc h1, List.append_assoc]
              rfl
            clear hdk
            have hdk : decide (k < next.length) = true := decide_eq_true hlt
            go_wp2_with fail
            obtain ⟨Wl, hWl⟩ : ∃ Wl, Wl = wr := ⟨_, rfl⟩
            subst hWl
            go_loopw [] (fun wj => ∃ j : Nat, j ≤ k ∧ Hid (wj.ownsRow w.heap.size 3 1 (.slice (some ⟨gF, 0, none⟩) next.length next.length) next.length (nints ((Mac.seqI next out (r + 1)).take k ++ j :: List.replicate (next.length - (k + 1)) 0))) ∧ Hid (∀ t, t < j → Mac.keyI next (Mac.seqI next out r) t ≠ Mac.keyI next (Mac.seqI next out r) k) ∧ Hid (Only (· = gF) Wk wj)) (fun wj => k - celln wj gF k)
            case atStart => exact ⟨0, Nat.zero_le _, HF', Lib.hid (fun t h => absurd h (Nat.not_lt_zero t)), HOk⟩
            case round =>
              obtain ⟨j, hj, Hj, Hnj, HOj⟩ := hrel
              clear HF' HF HOk HCr H5r H2r Hbr
              have HCr := Lib.hid (own_only HCk.out HOj.out (fun g hg e => by have := Option.some.inj hg; simp only at this; omega))
              have H5r := Lib.hid (blkO H5k.out HOj.out hFG)
              have H2r := Lib.hid (cell_on HOj.out hFw (by omega) H2k.out)
              have Hbr := Lib.hid (Only.below Hbk.out HOj.out (by omega) (fun g hg => by omega))
              have hzj := HOj.out.size
              obtain ⟨u0, hu0, hcell, hfr⟩ := own_slot Hj.out (j := k) (by omega)
              rw [HGet.out] at hu0
              obtain rfl := Option.some.inj hu0
              have Hcn : Hid (celln wr gF k = j) := Lib.hid (by unfold celln; rw [hcell]; simp)
              clear hu0
              by_cases hlj : j < k
              · have hdj : decide (j < k) = true := decide_eq_true hlj
                have hA := alike_any (.slice (some ⟨gC, 0, none⟩) next.length next.length) (.slice An next.length cn) next (Mac.seqI next out r) next.length M j k G w.heap.size wr (HN.out.below Hbr.out) (nats_own HCr.out Hlr.out) HR.out Hlr.out hn hM (by omega) hlt (blk_cell H5r.out 0) (by omega) H2r.out (by omega)
                by_cases hkey : Mac.keyI next (Mac.seqI next out r) j = Mac.keyI next (Mac.seqI next out r) k
                · rw [decide_eq_true hkey] at hA
                  have HA := Lib.hid hA
                  have HE := Lib.hid (HEnd.out j hj Hnj.out (.inr hkey))
                  clear hA hkey
                  go_wp2_with fail
                  refine HA.out.mono ?_
                  rintro e w' ⟨rfl, hdr⟩
                  have hOw := Only.of_below (fun g => g = gF) (hdr.below wr.heap.size)
                  have HFn := Lib.hid (by have := own_below Hj.out (hdr.below wr.heap.size); rw [HE.out] at this; exact this)
                  have HOn := Lib.hid (HOj.out.trans hOw)
                  clear hdr hOw hcell hfr
                  go_wp2_with fail
                  go_roundw
                  case rel => exact ⟨k + 1, by omega, by go_num, HFn, HOn⟩
                  case measure => simp [intOf] <;> omega
                · rw [decide_eq_false hkey] at hA
                  have HA := Lib.hid hA
                  have Hn2 : Hid (∀ t, t < j + 1 → Mac.keyI next (Mac.seqI next out r) t ≠ Mac.keyI next (Mac.seqI next out r) k) := Lib.hid fun t ht e => by
                    by_cases h : t = j
                    · subst h; exact hkey e
                    · exact Hnj.out t (by omega) e
                  clear hA hkey
                  go_wp2_with fail
                  refine HA.out.mono ?_
                  rintro e w' ⟨rfl, hdr⟩
                  have hOw := Only.of_below (fun g => g = gF) (hdr.below wr.heap.size)
                  have Hj2 := Lib.hid (own_below Hj.out (hdr.below wr.heap.size))
                  have HO2 := Lib.hid (HOj.out.trans hOw)
                  clear hdr hOw hcell hfr Hj HOj
                  obtain ⟨u0, hu0, hcell, hfr⟩ := own_slot Hj2.out (j := k) (by omega)
                  rw [HGet.out] at hu0
                  obtain rfl := Option.some.inj hu0
                  have hst := Hj2.out.stored k (.int .i64 ((j + 1 : Nat)))
                  rw [HSet.out] at hst
                  have HO3 := Lib.hid (HO2.out.trans (Only.grown hst.2 (fun g hg => (Option.some.inj hg).symm)))
                  have Hj3 := Lib.hid hst.1
                  clear hst hu0
                  go_wp2_with fail
                  go_roundw
                  case rel => exact ⟨j + 1, by omega, Hj3, Hn2, HO3⟩
                  case measure =>
                    have := celln_own Hj3.out (i := k) (x := j + 1) (by rw [List.getElem?_append_right (by rw [Hltk.out]; omega), Hltk.out, Nat.sub_self]; rfl)
                    have h2 := Hcn.out
                    first | omega | (simp only [Int.natCast_add, Int.natCast_one] at this ⊢; omega)
              · obtain rfl : j = k := by omega
                have hdj : decide (j < j) = false := decide_eq_false (by omega)
                have HE := Lib.hid (HEnd.out j hj Hnj.out (.inl rfl))
                have HFn := Lib.hid (by have := Hj.out; rw [HE.out] at this; exact this)
                go_wp2_with fail
                go_roundw
                case rel => exact ⟨j + 1, by omega, by go_num, HFn, HOj⟩
                case measure => simp [intOf] <;> omega
          · obtain rfl : k = next.length := by omega
            have hdk : decide (next.length < next.length) = false := decide_eq_false (by omega)
            have HF1 : Hid (wr.ownsRow w.heap.size 3 1 (.slice (some ⟨gF, 0, none⟩) next.length next.length) next.length (nints (Mac.seqI next out (r + 1)))) := Lib.hid (by
              have := HF.out
              rwa [Nat.sub_self, List.replicate_zero, List.append_nil, List.take_of_length_le (by rw [Hlr1.out]; omega)] at this)
            have hS := sliceEq_any _ _ (nats (Mac.seqI next out (r + 1))) (nats (Mac.seqI next out r)) wr (nats_own HF1.out Hlr1.out) (nats_own HCr.out Hlr.out)
            have p5 := blk_cell H5r.out 0
            simp at p5
            by_cases he : Mac.seqI next out (r + 1) = Mac.seqI next out r
            · rw [decide_eq_true (congrArg nats he)] at hS
              have HS := Lib.hid hS
              have HE := Lib.hid ((Mac.seqI_end next out (by omega)).2 r he)
              clear he hS
              go_wp2_with fail
              refine HS.out.mono ?_
              rintro e w' ⟨rfl, hdr⟩
              have q5 := (hdr.cell _).trans p5
              have HCf := Lib.hid (own_below HCr.out (hdr.below wr.heap.size))
              have HBf := Lib.hid (Hbr.out.trans (hdr.below w.heap.size))
              clear hdr p5
              go_wp2_with fail
              go_ret
              refine ⟨_, rfl, ?_, HBf.out⟩
              rw [nats_length, ← HE.out, Hlr.out]
              exact HCf.out
            · rw [decide_eq_false (fun e => he (by
                have := congrArg (fun l => l.map Int.toNat) e
                simpa [nats, Function.comp_def] using this))] at hS
              have HS := Lib.hid hS
              have HNe := Lib.hid he
              clear he hS
              go_wp2_with fail
              refine HS.out.mono ?_
              rintro e w' ⟨rfl, hdr⟩
              have HFf := Lib.hid (own_below HF1.out (hdr.below wr.heap.size))
              have H5f := Lib.hid (((hdr.below wr.heap.size).block G (by omega)).trans H5r.out)
              have H2f := Lib.hid ((hdr.cell _).trans H2r.out)
              have HBf := Lib.hid (Hbr.out.trans (hdr.below w.heap.size))
              have zf := hdr.size
              have p5f := blk_cell H5f.out 0
              have f5f := blk_free H5f.out 0
              simp at p5f
              have hox : Only (· = G) w' (w'.setCell ⟨G, 0, none⟩ (.slice (some ⟨gF, 0, none⟩) next.length next.length)) := Only.grown (set_grown w' G 0 _) (fun g hg => (Option.some.inj hg).symm)
              have hset5 := Lib.hid (heap_setCell_same w' G 0 _ _ (.slice (some ⟨gF, 0, none⟩) next.length next.length) H5f.out)
              have HFs := Lib.hid (own_only HFf.out hox (fun g hg e => by have := Option.some.inj hg; simp only at this; omega))
              have H2s := Lib.hid (cell_on hox (show ¬ (w.heap.size = G) by omega) (by omega) H2f.out)
              have HBs := Lib.hid (Only.below HBf.out hox (by omega) (fun g hg => by omega))
              have hzs : G < (w'.setCell ⟨G, 0, none⟩ (.slice (some ⟨gF, 0, none⟩) next.length next.length)).heap.size := by have := hox.size; omega
              have Hcl := Lib.hid (clsAt_own (blk_cell hset5.out 0) HFs.out)
              have HNe2 : Hid (∀ j, j < r + 1 → Mac.seqI next out (j + 1) ≠ Mac.seqI next out j) := Lib.hid fun j hj => by
                by_cases h : j = r
                · subst h; exact HNe.out
                · exact Hne.out j (by omega)
              have hrt := Mac.roots_lt (Mac.seqI_cl next out r) (Mac.seqI_cl next out (r + 1)) (Mac.seqI_finer next out r) HNe.out
              have hrl := Mac.roots_le next.length (Mac.seqI next out (r + 1))
              have Hrt := Lib.hid (And.intro hrt hrl)
              clear hdr p5 hox H5f H2f HBf HFf hrt hrl
              go_wp2_with fail
              go_roundw
              case rel => exact ⟨r + 1, gF, HNe2, HFs, hset5, H2s, by omega, by omega, hzs, HBs⟩
              case measure =>
                have h1 := Hcl.out
                have h2 := HMe.out
                have h3 := Hrt.out
                rw [h1, h2]
                omega
end Go.Proofs.Ytlbfejdbfhgifaa
