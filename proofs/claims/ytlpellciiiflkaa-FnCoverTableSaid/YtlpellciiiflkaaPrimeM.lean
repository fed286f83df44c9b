import Derived.Test.YtlpellciiiflkaaTwoM
namespace Go.Proofs.Ytlpellciiiflkaa
namespace Two
/-! Prime implicants and covers, plainly. -/
def cand (t n : Nat) (k : Nat × Nat) : Bool := fine k && within k t n
/-- One cube more, unless a more general one is there. -/
def pstep (t n : Nat) (out : List (Nat × Nat)) (k : Nat × Nat) : List (Nat × Nat) := if cand t n k && !out.any (fun b => gen k b) then out ++ [k] else out
/-- One implicant more. -/
def istep (t n : Nat) (out : List (Nat × Nat)) (k : Nat × Nat) : List (Nat × Nat) := if cand t n k then out ++ [k] else out
section
variable (f : List (Nat × Nat) → Nat × Nat → List (Nat × Nat))
def rowF (out : List (Nat × Nat)) (c : Nat) : Nat → List (Nat × Nat)
  | 0 => out
  | v + 1 => f (rowF out c v) (c, v)
def tabF (m : Nat) : Nat → List (Nat × Nat)
  | 0 => []
  | c + 1 => rowF f (tabF m c) c m
def rowP (c m : Nat) : List (Nat × Nat) := (List.range m).map fun v => (c, v)
def pairsF (m : Nat) : Nat → List (Nat × Nat)
  | 0 => []
  | c + 1 => pairsF m c ++ rowP c m
theorem rowF_fold (out : List (Nat × Nat)) (c : Nat) : ∀ v, rowF f out c v = (rowP c v).foldl f out
  | 0 => rfl
  | v + 1 => by rw [rowF, rowF_fold out c v, rowP, rowP, List.range_succ, List.map_append, List.foldl_append]; rfl
theorem tabF_fold (m : Nat) : ∀ c, tabF f m c = (pairsF m c).foldl f []
  | 0 => rfl
  | c + 1 => by rw [tabF, rowF_fold, tabF_fold m c, pairsF, List.foldl_append]
end
theorem mem_pairsF {m : Nat} {k : Nat × Nat} : ∀ {c : Nat}, k ∈ pairsF m c ↔ k.1 < c ∧ k.2 < m
  | 0 => by simp [pairsF]
  | c + 1 => by
    rw [pairsF, List.mem_append, mem_pairsF, rowP, List.mem_map]
    constructor
    · rintro (⟨h1, h2⟩ | ⟨v, hv, rfl⟩)
      · exact ⟨by omega, h2⟩
      · exact ⟨by simp, List.mem_range.1 hv⟩
    · rintro ⟨h1, h2⟩
      rcases Nat.lt_or_ge k.1 c with h | h
      · exact .inl ⟨h, h2⟩
      · refine .inr ⟨k.2, List.mem_range.2 h2, ?_⟩
        exact Prod.ext (by simp; omega) rfl
theorem pairwise_pairsF (m : Nat) : ∀ c, (pairsF m c).Pairwise fun a b => a ≠ b ∧ a.1 ≤ b.1
  | 0 => by simp [pairsF]
  | c + 1 => by
    rw [pairsF, List.pairwise_append]
    refine ⟨pairwise_pairsF m c, ?_, fun a ha b hb => ?_⟩
    · rw [rowP, List.pairwise_map]
      refine (List.nodup_range (n := m)).imp ?_
      intro a b h
      exact ⟨fun e => h (congrArg Prod.snd e), Nat.le_refl _⟩
    · have h1 := (mem_pairsF.1 ha).1
      rw [rowP, List.mem_map] at hb
      obtain ⟨v, _, rfl⟩ := hb
      exact ⟨fun e => by rw [e] at h1; simp at h1, by simp; omega⟩
/-- All implicants, in order. -/
def implicants (t n : Nat) : List (Nat × Nat) := (pairsF (2 ^ n) (2 ^ n)).filter (cand t n)
theorem istep_filter (t n : Nat) : ∀ (l out : List (Nat × Nat)), l.foldl (istep t n) out = out ++ l.filter (cand t n)
  | [], out => by simp
  | k :: l, out => by
    rw [List.foldl_cons, istep_filter t n l, istep, List.filter_cons]
    split <;> simp
theorem implicants_eq (t n : Nat) : tabF (istep t n) (2 ^ n) (2 ^ n) = implicants t n := by
  rw [tabF_fold, istep_filter]; rfl
/-- No other implicant is more general. -/
def prime (t n : Nat) (a : Nat × Nat) : Bool := (implicants t n).all fun b => a == b || !gen a b
/-- The prime implicants, in order. -/
def primes (t n : Nat) : List (Nat × Nat) := (implicants t n).filter (prime t n)
theorem pstep_filter (t n : Nat) : ∀ (l out : List (Nat × Nat)), l.foldl (pstep t n) out = (l.filter (cand t n)).foldl (fun out k => if !out.any (fun b => gen k b) then out ++ [k] else out) out
  | [], out => rfl
  | k :: l, out => by
    rw [List.foldl_cons, List.filter_cons, pstep]
    cases hc : cand t n k
    · simp only [Bool.false_and, Bool.false_eq_true, if_false]
      exact pstep_filter t n l out
    · simp only [Bool.true_and, if_true, List.foldl_cons]
      exact pstep_filter t n l _
theorem mem_implicants {t n : Nat} {k : Nat × Nat} : k ∈ implicants t n ↔ k.1 < 2 ^ n ∧ k.2 < 2 ^ n ∧ fine k = true ∧ within k t n = true := by
  rw [implicants, List.mem_filter, mem_pairsF, cand, Bool.and_eq_true]
  constructor
  · rintro ⟨⟨h1, h2⟩, h3, h4⟩; exact ⟨h1, h2, h3, h4⟩
  · rintro ⟨h1, h2, h3, h4⟩; exact ⟨⟨h1, h2⟩, h3, h4⟩
theorem pairwise_implicants (t n : Nat) : (implicants t n).Pairwise fun a b => a ≠ b ∧ a.1 ≤ b.1 := (pairwise_pairsF _ _).sublist List.filter_sublist
theorem prime_iff {t n : Nat} {a : Nat × Nat} : prime t n a = true ↔ ∀ b ∈ implicants t n, gen a b = true → a = b := by
  rw [prime, List.all_eq_true]
  constructor
  · intro h b hb hg
    have := h b hb
    rw [hg] at this
    simpa using this
  · intro h b hb
    cases hg : gen a b
    · simp
    · simp [h b hb hg]
/-- Below every implicant lies a prime one. -/
theorem exists_prime {t n : Nat} : ∀ (m : Nat) (k : Nat × Nat), k.1 ≤ m → k ∈ implicants t n → ∃ b ∈ implicants t n, prime t n b = true ∧ gen k b = true
  | m, k, hm, hk => by
    by_cases hp : prime t n k = true
    · exact ⟨k, hk, hp, gen_refl (mem_implicants.1 hk).2.2.1⟩
    · have : ∃ b ∈ implicants t n, gen k b = true ∧ k ≠ b := by
        refine Classical.byContradiction fun hn => hp (prime_iff.2 fun b hb hg => Classical.byContradiction fun hne => hn ⟨b, hb, hg, hne⟩)
      obtain ⟨b, hb, hg, hne⟩ := this
      have hlt : b.1 < k.1 := by
        have h1 := gen_le hg
        rcases Nat.lt_or_ge b.1 k.1 with h | h
        · exact h
        · exact absurd (gen_eq (mem_implicants.1 hk).2.2.1 hg (by omega)) (fun e => hne e.symm)
      match m, hm with
      | 0, hm => omega
      | m + 1, hm =>
        obtain ⟨c, hc, hpc, hgc⟩ := exists_prime m b (by omega) hb
        exact ⟨c, hc, hpc, gen_trans hg hgc⟩
theorem fold_primes {t n : Nat} : ∀ (s p : List (Nat × Nat)), implicants t n = p ++ s → s.foldl (fun out k => if !out.any (fun b => gen k b) then out ++ [k] else out) (p.filter (prime t n)) = primes t n
  | [], p, h => by
    rw [List.foldl_nil, primes, h, List.append_nil]
  | k :: s, p, h => by
    have hpw := pairwise_implicants t n
    rw [h, List.pairwise_append] at hpw
    obtain ⟨_, hks, hpk⟩ := hpw
    have hkm : k ∈ implicants t n := by rw [h]; simp
    have key : (!(p.filter (prime t n)).any (fun b => gen k b)) = prime t n k := by
      cases hp : prime t n k
      · -- a prime one lies before k
        have hne : ∃ b ∈ implicants t n, gen k b = true ∧ k ≠ b := by
          refine Classical.byContradiction fun hn => ?_
          have : prime t n k = true := prime_iff.2 fun b hb hg => Classical.byContradiction fun hne => hn ⟨b, hb, hg, hne⟩
          rw [hp] at this
          cases this
        obtain ⟨b, hb, hg, hne⟩ := hne
        obtain ⟨c, hc, hpc, hgc⟩ := exists_prime b.1 b (Nat.le_refl _) hb
        have hkc := gen_trans hg hgc
        have hlt : c.1 < k.1 := by
          have h1 := gen_le hg
          have h2 := gen_le hgc
          rcases Nat.lt_or_ge c.1 k.1 with h | h
          · exact h
          · exact absurd (gen_eq (mem_implicants.1 hkm).2.2.1 hg (by omega)) (fun e => hne e.symm)
        have hcp : c ∈ p := by
          rw [h, List.mem_append] at hc
          rcases hc with hc | hc
          · exact hc
          · rcases List.mem_cons.1 hc with e | hc
            · subst e; omega
            · have := ((List.pairwise_cons.1 hks).1 c hc).2
              omega
        have : (p.filter (prime t n)).any (fun b => gen k b) = true := List.any_eq_true.2 ⟨c, List.mem_filter.2 ⟨hcp, hpc⟩, hkc⟩
        rw [this]; rfl
      · have : (p.filter (prime t n)).any (fun b => gen k b) = false := by
          rw [List.any_eq_false]
          intro b hb hg
          obtain ⟨hbp, _⟩ := List.mem_filter.1 hb
          have e := prime_iff.1 hp b (by rw [h]; exact List.mem_append_left _ hbp) hg
          exact (hpk b hbp k (by simp)).1 e.symm
        rw [this]; rfl
    rw [List.foldl_cons, key]
    have h' : implicants t n = (p ++ [k]) ++ s := by rw [h]; simp
    have ih := fold_primes s (p ++ [k]) h'
    rw [List.filter_append] at ih
    cases hp : prime t n k
    · rw [List.filter_cons_of_neg (by rw [hp]; simp)] at ih
      simpa using ih
    · rw [List.filter_cons_of_pos (by rw [hp])] at ih
      simpa using ih
theorem primes_eq (t n : Nat) : tabF (pstep t n) (2 ^ n) (2 ^ n) = primes t n := by
  rw [tabF_fold, pstep_filter]
  exact fold_primes (implicants t n) [] rfl
/-! The reference's way, by places. -/
def primeAt (L : List (Nat × Nat)) (i : Nat) : Nat → Bool
  | 0 => true
  | j + 1 => primeAt L i j && (i == j || !gen (L.getD i (0, 0)) (L.getD j (0, 0)))
def outAt (L : List (Nat × Nat)) : Nat → List (Nat × Nat)
  | 0 => []
  | i + 1 => if primeAt L i L.length then outAt L i ++ [L.getD i (0, 0)] else outAt L i
theorem primeAt_iff (L : List (Nat × Nat)) (i : Nat) : ∀ m, primeAt L i m = true ↔ ∀ j, j < m → i = j ∨ gen (L.getD i (0, 0)) (L.getD j (0, 0)) = false
  | 0 => by simp [primeAt]
  | m + 1 => by
    rw [primeAt, Bool.and_eq_true, primeAt_iff L i m]
    constructor
    · rintro ⟨h1, h2⟩ j hj
      by_cases e : j = m
      · subst e; simpa using h2
      · exact h1 j (by omega)
    · intro h
      exact ⟨fun j hj => h j (by omega), by have := h m (by omega); simpa using this⟩
theorem primeAt_eq {t n : Nat} {i : Nat} (hi : i < (implicants t n).length) : primeAt (implicants t n) i (implicants t n).length = prime t n ((implicants t n).getD i (0, 0)) := by
  have hpw := pairwise_implicants t n
  generalize hL : implicants t n = L at *
  have hget : ∀ j, j < L.length → L.getD j (0, 0) = L[j]! := fun j hj => by simp [hj]
  rw [Bool.eq_iff_iff, primeAt_iff, prime_iff, hL]
  constructor
  · intro h b hb hg
    obtain ⟨j, hj, rfl⟩ := List.mem_iff_getElem.1 hb
    rcases h j hj with rfl | h
    · simp [hj]
    · rw [show L.getD j (0, 0) = L[j] from by simp [hj]] at h
      rw [h] at hg
      cases hg
  · intro h j hj
    cases hg : gen (L.getD i (0, 0)) (L.getD j (0, 0))
    · exact .inr rfl
    · left
      have e := h _ (by rw [show L.getD j (0, 0) = L[j] from by simp [hj]]; exact List.getElem_mem hj) hg
      rw [show L.getD i (0, 0) = L[i] from by simp [hi], show L.getD j (0, 0) = L[j] from by simp [hj]] at e
      rcases Nat.lt_trichotomy i j with h1 | h1 | h1
      · exact absurd e (List.pairwise_iff_getElem.1 hpw i j hi hj h1).1
      · exact h1
      · exact absurd e.symm (List.pairwise_iff_getElem.1 hpw j i hj hi h1).1
theorem outAt_eq (t n : Nat) : ∀ i, i ≤ (implicants t n).length → outAt (implicants t n) i = ((implicants t n).take i).filter (prime t n)
  | 0, _ => by simp [outAt]
  | i + 1, h => by
    have hi : i < (implicants t n).length := by omega
    rw [outAt, outAt_eq t n i (by omega), primeAt_eq hi, List.take_add_one, List.filter_append]
    have e : (implicants t n)[i]? = some ((implicants t n).getD i (0, 0)) := by simp [hi]
    rw [e]
    generalize (implicants t n).getD i (0, 0) = k
    cases hp : prime t n k
    · simp [hp]
    · simp [hp]
theorem outAt_primes (t n : Nat) : outAt (implicants t n) (implicants t n).length = primes t n := by
  rw [outAt_eq t n _ (Nat.le_refl _), List.take_length]; rfl
theorem pairsF_fine_length : ∀ n, n ≤ 4 → ((pairsF (2 ^ n) (2 ^ n)).filter fine).length ≤ 81 := by decide +kernel
theorem implicants_length {t n : Nat} (h : n ≤ 4) : (implicants t n).length ≤ 81 := by
  refine Nat.le_trans ?_ (pairsF_fine_length n h)
  unfold implicants
  rw [show (pairsF (2 ^ n) (2 ^ n)).filter (cand t n) = ((pairsF (2 ^ n) (2 ^ n)).filter fine).filter (fun k => within k t n) from by
    rw [List.filter_filter]
    congr 1
    funext k
    rw [cand, Bool.and_comm]]
  exact List.length_filter_le _ _
theorem primes_length {t n : Nat} (h : n ≤ 4) : (primes t n).length ≤ 81 := Nat.le_trans (List.length_filter_le _ _) (implicants_length h)
theorem mem_primes {t n : Nat} {k : Nat × Nat} : k ∈ primes t n ↔ k ∈ implicants t n ∧ prime t n k = true := by rw [primes, List.mem_filter]
end Two
end Go.Proofs.Ytlpellciiiflkaa
