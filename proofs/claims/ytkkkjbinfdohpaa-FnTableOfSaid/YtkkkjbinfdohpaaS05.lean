import Derived.Test.YtkkkjbinfdohpaaS04
import Derived.Test.YtkkkjbinfdohpaaS02
import Derived.Test.YtkkkjbinfdohpaaS01
import Derived.StillTailTactics
import Derived.Deep.RegionWith
import Derived.Deep.DeepCutAuto
import Derived.Deep.RegionLaw
import Derived.Lib.SliceRun
import Derived.Deep.MidRow
set_option linter.unusedVariables false
set_option linter.unusedSimpArgs false
namespace Go.Proofs.Ytkkkjbinfdohpaa
open Go.RowKit
def orRow (l : List (Nat × Nat)) (x t : Nat) : Nat := l.foldl (fun t k => if Two.has k x then t ||| 2 ^ x else t) t
def specTab (l : List (Nat × Nat)) : Nat → Nat
  | 0 => 0
  | m + 1 => orRow l m (specTab l m)
theorem orRow_bit (x i : Nat) : ∀ (l : List (Nat × Nat)) (t : Nat), (orRow l x t).testBit i = (t.testBit i || (decide (x = i) && l.any (Two.has · x)))
  | [], t => by simp [orRow]
  | k :: l, t => by
    have ih := orRow_bit x i l
    unfold orRow at ih ⊢
    rw [List.foldl_cons, ih, List.any_cons]
    split
    · rename_i h
      rw [Nat.testBit_or, Nat.testBit_two_pow, h]
      cases t.testBit i <;> cases decide (x = i) <;> simp
    · rename_i h
      simp [h]
theorem specTab_bit (l : List (Nat × Nat)) : ∀ m i, (specTab l m).testBit i = (decide (i < m) && l.any (Two.has · i))
  | 0, i => by simp [specTab]
  | m + 1, i => by
    rw [specTab, orRow_bit, specTab_bit l m i]
    by_cases e : m = i
    · subst e; simp
    · have : decide (i < m + 1) = decide (i < m) := decide_eq_decide.2 ⟨fun h => by omega, fun h => by omega⟩
      simp [e, this]
theorem specTab_eq (l : List (Nat × Nat)) (n : Nat) : specTab l (2 ^ n) = Two.tableOf l n := by
  apply Nat.eq_of_testBit_eq
  intro i
  rw [specTab_bit, Two.tableOf_bit]
theorem fold_map {N : Nat} : ∀ (ks : List (Int × Int)) (t : Nat), ks.foldl (fun t k => Two.addTo (natK k) t (2 ^ N)) t = (ks.map natK).foldl (fun t k => Two.addTo k t (2 ^ N)) t
  | [], _ => rfl
  | k :: ks, t => by rw [List.foldl_cons, List.map_cons, List.foldl_cons, fold_map ks]
theorem covFrom_all {N : Nat} {ks : List (Int × Int)} (h : ks.all (okI N) = true) : covFrom N ks 0 = (Two.tableOf (ks.map natK) N : Int) := by
  rw [covFrom, if_pos h, fold_map]; rfl
theorem orRow_lt {x : Nat} (hx : x ≤ 15) : ∀ (l : List (Nat × Nat)) {t : Nat}, t < 65536 → orRow l x t < 65536
  | [], t, h => h
  | k :: l, t, h => by
    unfold orRow
    rw [List.foldl_cons]
    have : 2 ^ x < 65536 := Nat.lt_of_le_of_lt (Nat.pow_le_pow_right (by decide) hx) (by decide)
    refine orRow_lt hx l ?_
    split
    · exact Nat.or_lt_two_pow (n := 16) h this
    · exact h
theorem specTab_lt (l : List (Nat × Nat)) : ∀ {m : Nat}, m ≤ 16 → specTab l m < 65536
  | 0, _ => by simp [specTab]
  | m + 1, h => by
    rw [specTab]
    exact orRow_lt (by omega) l (specTab_lt l (by omega))
theorem take_all_snoc {N : Nat} {ks : List (Int × Int)} {k : Nat} {x : Int × Int} (h : ks[k]? = some x) (hk : (ks.take k).all (okI N) = true) (hx : okI N x = true) : (ks.take (k + 1)).all (okI N) = true := by
  rw [take_snoc h, List.all_append, hk]
  simp [hx]
theorem all_bad {N : Nat} {ks : List (Int × Int)} {k : Nat} {x : Int × Int} (h : ks[k]? = some x) (hx : okI N x = false) : covFrom N ks 0 = -1 := by
  rw [covFrom, if_neg]
  intro hall
  have := List.all_eq_true.1 hall x (List.mem_of_getElem? h)
  rw [hx] at this
  cases this
theorem okI_false2 {N : Nat} {k : Int × Int} (hw : WfK k) (h : okI N k = false) : decide (0 ≤ k.1 ∧ k.1 ≤ (2 : Int) ^ N - 1) = false ∨ (decide (0 ≤ k.1 ∧ k.1 ≤ (2 : Int) ^ N - 1) = true ∧ (bits .and .i64 k.2 k.1 != k.2) = true) := by
  by_cases g : 0 ≤ k.1 ∧ k.1 ≤ (2 : Int) ^ N - 1
  · right
    refine ⟨decide_eq_true g, ?_⟩
    rw [bne_iff_ne]
    intro e
    have := (andNot_iff hw.1 hw.2).2 e
    unfold okI at h
    rw [Bool.and_eq_false_iff, decide_eq_false_iff_not, beq_eq_false_iff_ne] at h
    rcases h with h | h
    · omega
    · exact h this
  · exact .inl (decide_eq_false g)
theorem okI_true2 {N : Nat} {k : Int × Int} (hw : WfK k) (h : okI N k = true) : decide (0 ≤ k.1 ∧ k.1 ≤ (2 : Int) ^ N - 1) = true ∧ (bits .and .i64 k.2 k.1 != k.2) = false := by
  unfold okI at h
  rw [Bool.and_eq_true, decide_eq_true_eq, beq_iff_eq] at h
  refine ⟨decide_eq_true ⟨h.1.1, by omega⟩, ?_⟩
  have := (andNot_iff hw.1 hw.2).1 h.2
  rw [this]
  simp

end Go.Proofs.Ytkkkjbinfdohpaa

namespace Go.Proofs.Ytkkkjbinfdohpaa
theorem shr_nat (C V : Nat) : (C : Int) / 2 ^ V = ((C / 2 ^ V : Nat) : Int) := by rw [two_pow]; rfl
theorem shr_odd (C V : Nat) : (((C : Int) / 2 ^ V).tmod 2 == 1) = C.testBit V := by
  rw [shr_nat, Nat.testBit_eq_decide_div_mod_eq]
  generalize C / 2 ^ V = q
  rw [Int.tmod_eq_emod_of_nonneg (by omega), Bool.eq_iff_iff, beq_iff_eq, decide_eq_true_eq]
  omega
theorem shr_even (C V : Nat) : (((C : Int) / 2 ^ V).tmod 2 == 0) = !C.testBit V := by
  rw [shr_nat, Nat.testBit_eq_decide_div_mod_eq]
  generalize C / 2 ^ V = q
  rw [Int.tmod_eq_emod_of_nonneg (by omega), Bool.eq_iff_iff, beq_iff_eq, Bool.not_eq_true', decide_eq_false_iff_not]
  omega
theorem shr_and (C V : Nat) (h : C < 9223372036854775808) : bits .and .i64 ((C : Int) / 2 ^ V) 1 = if C.testBit V then 1 else 0 := by
  have hd : C / 2 ^ V ≤ C := Nat.div_le_self _ _
  rw [shr_nat, Nat.testBit_eq_decide_div_mod_eq]
  generalize C / 2 ^ V = q at *
  rw [i64_and_one _ (by omega) (by omega)]
  split <;> rename_i hh <;> simp at hh <;> omega
end Go.Proofs.Ytkkkjbinfdohpaa

namespace Go.Proofs.Ytkkkjbinfdohpaa
namespace Two
/-! Prime implicants and covers, plainly. -/
def cand (t n : Nat) (k : Nat × Nat) : Bool := fine k && within k t n
/-- One cube more, unless a more general one is there. -/
def pstep (t n : Nat) (out : List (Nat × Nat)) (k : Nat × Nat) : List (Nat × Nat) := if cand t n k && !out.any (fun b => gen k b) then out ++ [k] else out
/-- One implicant more. -/
def istep (t n : Nat) (out : List (Nat × Nat)) (k : Nat × Nat) : List (Nat × Nat) := if cand t n k then out ++ [k] else out
section
variable (f : List (Nat × Nat) → Nat × Nat → List (Nat × Nat))
def rowF (out : List (Nat × Nat)) (c : Nat) : Nat → List (Nat × Nat)
  | 0 => out
  | v + 1 => f (rowF out c v) (c, v)
def tabF (m : Nat) : Nat → List (Nat × Nat)
  | 0 => []
  | c + 1 => rowF f (tabF m c) c m
def rowP (c m : Nat) : List (Nat × Nat) := (List.range m).map fun v => (c, v)
def pairsF (m : Nat) : Nat → List (Nat × Nat)
  | 0 => []
  | c + 1 => pairsF m c ++ rowP c m
theorem rowF_fold (out : List (Nat × Nat)) (c : Nat) : ∀ v, rowF f out c v = (rowP c v).foldl f out
  | 0 => rfl
  | v + 1 => by rw [rowF, rowF_fold out c v, rowP, rowP, List.range_succ, List.map_append, List.foldl_append]; rfl
theorem tabF_fold (m : Nat) : ∀ c, tabF f m c = (pairsF m c).foldl f []
  | 0 => rfl
  | c + 1 => by rw [tabF, rowF_fold, tabF_fold m c, pairsF, List.foldl_append]
end
theorem mem_pairsF {m : Nat} {k : Nat × Nat} : ∀ {c : Nat}, k ∈ pairsF m c ↔ k.1 < c ∧ k.2 < m
  | 0 => by simp [pairsF]
  | c + 1 => by
    rw [pairsF, List.mem_append, mem_pairsF, rowP, List.mem_map]
    constructor
    · rintro (⟨h1, h2⟩ | ⟨v, hv, rfl⟩)
      · exact ⟨by omega, h2⟩
      · exact ⟨by simp, List.mem_range.1 hv⟩
    · rintro ⟨h1, h2⟩
      rcases Nat.lt_or_ge k.1 c with h | h
      · exact .inl ⟨h, h2⟩
      · refine .inr ⟨k.2, List.mem_range.2 h2, ?_⟩
        exact Prod.ext (by simp; omega) rfl
theorem pairwise_pairsF (m : Nat) : ∀ c, (pairsF m c).Pairwise fun a b => a ≠ b ∧ a.1 ≤ b.1
  | 0 => by simp [pairsF]
  | c + 1 => by
    rw [pairsF, List.pairwise_append]
    refine ⟨pairwise_pairsF m c, ?_, fun a ha b hb => ?_⟩
    · rw [rowP, List.pairwise_map]
      refine (List.nodup_range (n := m)).imp ?_
      intro a b h
      exact ⟨fun e => h (congrArg Prod.snd e), Nat.le_refl _⟩
    · have h1 := (mem_pairsF.1 ha).1
      rw [rowP, List.mem_map] at hb
      obtain ⟨v, _, rfl⟩ := hb
      exact ⟨fun e => by rw [e] at h1; simp at h1, by simp; omega⟩
/-- All implicants, in order. -/
def implicants (t n : Nat) : List (Nat × Nat) := (pairsF (2 ^ n) (2 ^ n)).filter (cand t n)
theorem istep_filter (t n : Nat) : ∀ (l out : List (Nat × Nat)), l.foldl (istep t n) out = out ++ l.filter (cand t n)
  | [], out => by simp
  | k :: l, out => by
    rw [List.foldl_cons, istep_filter t n l, istep, List.filter_cons]
    split <;> simp
theorem implicants_eq (t n : Nat) : tabF (istep t n) (2 ^ n) (2 ^ n) = implicants t n := by
  rw [tabF_fold, istep_filter]; rfl
/-- No other implicant is more general. -/
def prime (t n : Nat) (a : Nat × Nat) : Bool := (implicants t n).all fun b => a == b || !gen a b
/-- The prime implicants, in order. -/
def primes (t n : Nat) : List (Nat × Nat) := (implicants t n).filter (prime t n)
theorem pstep_filter (t n : Nat) : ∀ (l out : List (Nat × Nat)), l.foldl (pstep t n) out = (l.filter (cand t n)).foldl (fun out k => if !out.any (fun b => gen k b) then out ++ [k] else out) out
  | [], out => rfl
  | k :: l, out => by
    rw [List.foldl_cons, List.filter_cons, pstep]
    cases hc : cand t n k
    · simp only [Bool.false_and, Bool.false_eq_true, if_false]
      exact pstep_filter t n l out
    · simp only [Bool.true_and, if_true, List.foldl_cons]
      exact pstep_filter t n l _
theorem mem_implicants {t n : Nat} {k : Nat × Nat} : k ∈ implicants t n ↔ k.1 < 2 ^ n ∧ k.2 < 2 ^ n ∧ fine k = true ∧ within k t n = true := by
  rw [implicants, List.mem_filter, mem_pairsF, cand, Bool.and_eq_true]
  constructor
  · rintro ⟨⟨h1, h2⟩, h3, h4⟩; exact ⟨h1, h2, h3, h4⟩
  · rintro ⟨h1, h2, h3, h4⟩; exact ⟨⟨h1, h2⟩, h3, h4⟩
theorem pairwise_implicants (t n : Nat) : (implicants t n).Pairwise fun a b => a ≠ b ∧ a.1 ≤ b.1 := (pairwise_pairsF _ _).sublist List.filter_sublist
theorem prime_iff {t n : Nat} {a : Nat × Nat} : prime t n a = true ↔ ∀ b ∈ implicants t n, gen a b = true → a = b := by
  rw [prime, List.all_eq_true]
  constructor
  · intro h b hb hg
    have := h b hb
    rw [hg] at this
    simpa using this
  · intro h b hb
    cases hg : gen a b
    · simp
    · simp [h b hb hg]
/-- Below every implicant lies a prime one. -/
theorem exists_prime {t n : Nat} : ∀ (m : Nat) (k : Nat × Nat), k.1 ≤ m → k ∈ implicants t n → ∃ b ∈ implicants t n, prime t n b = true ∧ gen k b = true
  | m, k, hm, hk => by
    by_cases hp : prime t n k = true
    · exact ⟨k, hk, hp, gen_refl (mem_implicants.1 hk).2.2.1⟩
    · have : ∃ b ∈ implicants t n, gen k b = true ∧ k ≠ b := by
        refine Classical.byContradiction fun hn => hp (prime_iff.2 fun b hb hg => Classical.byContradiction fun hne => hn ⟨b, hb, hg, hne⟩)
      obtain ⟨b, hb, hg, hne⟩ := this
      have hlt : b.1 < k.1 := by
        have h1 := gen_le hg
        rcases Nat.lt_or_ge b.1 k.1 with h | h
        · exact h
        · exact absurd (gen_eq (mem_implicants.1 hk).2.2.1 hg (by omega)) (fun e => hne e.symm)
      match m, hm with
      | 0, hm => omega
      | m + 1, hm =>
        obtain ⟨c, hc, hpc, hgc⟩ := exists_prime m b (by omega) hb
        exact ⟨c, hc, hpc, gen_trans hg hgc⟩
theorem fold_primes {t n : Nat} : ∀ (s p : List (Nat × Nat)), implicants t n = p ++ s → s.foldl (fun out k => if !out.any (fun b => gen k b) then out ++ [k] else out) (p.filter (prime t n)) = primes t n
  | [], p, h => by
    rw [List.foldl_nil, primes, h, List.append_nil]
  | k :: s, p, h => by
    have hpw := pairwise_implicants t n
    rw [h, List.pairwise_append] at hpw
    obtain ⟨_, hks, hpk⟩ := hpw
    have hkm : k ∈ implicants t n := by rw [h]; simp
    have key : (!(p.filter (prime t n)).any (fun b => gen k b)) = prime t n k := by
      cases hp : prime t n k
      · -- a prime one lies before k
        have hne : ∃ b ∈ implicants t n, gen k b = true ∧ k ≠ b := by
          refine Classical.byContradiction fun hn => ?_
          have : prime t n k = true := prime_iff.2 fun b hb hg => Classical.byContradiction fun hne => hn ⟨b, hb, hg, hne⟩
          rw [hp] at this
          cases this
        obtain ⟨b, hb, hg, hne⟩ := hne
        obtain ⟨c, hc, hpc, hgc⟩ := exists_prime b.1 b (Nat.le_refl _) hb
        have hkc := gen_trans hg hgc
        have hlt : c.1 < k.1 := by
          have h1 := gen_le hg
          have h2 := gen_le hgc
          rcases Nat.lt_or_ge c.1 k.1 with h | h
          · exact h
          · exact absurd (gen_eq (mem_implicants.1 hkm).2.2.1 hg (by omega)) (fun e => hne e.symm)
        have hcp : c ∈ p := by
          rw [h, List.mem_append] at hc
          rcases hc with hc | hc
          · exact hc
          · rcases List.mem_cons.1 hc with e | hc
            · subst e; omega
            · have := ((List.pairwise_cons.1 hks).1 c hc).2
              omega
        have : (p.filter (prime t n)).any (fun b => gen k b) = true := List.any_eq_true.2 ⟨c, List.mem_filter.2 ⟨hcp, hpc⟩, hkc⟩
        rw [this]; rfl
      · have : (p.filter (prime t n)).any (fun b => gen k b) = false := by
          rw [List.any_eq_false]
          intro b hb hg
          obtain ⟨hbp, _⟩ := List.mem_filter.1 hb
          have e := prime_iff.1 hp b (by rw [h]; exact List.mem_append_left _ hbp) hg
          exact (hpk b hbp k (by simp)).1 e.symm
        rw [this]; rfl
    rw [List.foldl_cons, key]
    have h' : implicants t n = (p ++ [k]) ++ s := by rw [h]; simp
    have ih := fold_primes s (p ++ [k]) h'
    rw [List.filter_append] at ih
    cases hp : prime t n k
    · rw [List.filter_cons_of_neg (by rw [hp]; simp)] at ih
      simpa using ih
    · rw [List.filter_cons_of_pos (by rw [hp])] at ih
      simpa using ih
theorem primes_eq (t n : Nat) : tabF (pstep t n) (2 ^ n) (2 ^ n) = primes t n := by
  rw [tabF_fold, pstep_filter]
  exact fold_primes (implicants t n) [] rfl
/-! The reference's way, by places. -/
def primeAt (L : List (Nat × Nat)) (i : Nat) : Nat → Bool
  | 0 => true
  | j + 1 => primeAt L i j && (i == j || !gen (L.getD i (0, 0)) (L.getD j (0, 0)))
def outAt (L : List (Nat × Nat)) : Nat → List (Nat × Nat)
  | 0 => []
  | i + 1 => if primeAt L i L.length then outAt L i ++ [L.getD i (0, 0)] else outAt L i
theorem primeAt_iff (L : List (Nat × Nat)) (i : Nat) : ∀ m, primeAt L i m = true ↔ ∀ j, j < m → i = j ∨ gen (L.getD i (0, 0)) (L.getD j (0, 0)) = false
  | 0 => by simp [primeAt]
  | m + 1 => by
    rw [primeAt, Bool.and_eq_true, primeAt_iff L i m]
    constructor
    · rintro ⟨h1, h2⟩ j hj
      by_cases e : j = m
      · subst e; simpa using h2
      · exact h1 j (by omega)
    · intro h
      exact ⟨fun j hj => h j (by omega), by have := h m (by omega); simpa using this⟩
theorem primeAt_eq {t n : Nat} {i : Nat} (hi : i < (implicants t n).length) : primeAt (implicants t n) i (implicants t n).length = prime t n ((implicants t n).getD i (0, 0)) := by
  have hpw := pairwise_implicants t n
  generalize hL : implicants t n = L at *
  have hget : ∀ j, j < L.length → L.getD j (0, 0) = L[j]! := fun j hj => by simp [hj]
  rw [Bool.eq_iff_iff, primeAt_iff, prime_iff, hL]
  constructor
  · intro h b hb hg
    obtain ⟨j, hj, rfl⟩ := List.mem_iff_getElem.1 hb
    rcases h j hj with rfl | h
    · simp [hj]
    · rw [show L.getD j (0, 0) = L[j] from by simp [hj]] at h
      rw [h] at hg
      cases hg
  · intro h j hj
    cases hg : gen (L.getD i (0, 0)) (L.getD j (0, 0))
    · exact .inr rfl
    · left
      have e := h _ (by rw [show L.getD j (0, 0) = L[j] from by simp [hj]]; exact List.getElem_mem hj) hg
      rw [show L.getD i (0, 0) = L[i] from by simp [hi], show L.getD j (0, 0) = L[j] from by simp [hj]] at e
      rcases Nat.lt_trichotomy i j with h1 | h1 | h1
      · exact absurd e (List.pairwise_iff_getElem.1 hpw i j hi hj h1).1
      · exact h1
      · exact absurd e.symm (List.pairwise_iff_getElem.1 hpw j i hj hi h1).1
theorem outAt_eq (t n : Nat) : ∀ i, i ≤ (implicants t n).length → outAt (implicants t n) i = ((implicants t n).take i).filter (prime t n)
  | 0, _ => by simp [outAt]
  | i + 1, h => by
    have hi : i < (implicants t n).length := by omega
    rw [outAt, outAt_eq t n i (by omega), primeAt_eq hi, List.take_add_one, List.filter_append]
    have e : (implicants t n)[i]? = some ((implicants t n).getD i (0, 0)) := by simp [hi]
    rw [e]
    generalize (implicants t n).getD i (0, 0) = k
    cases hp : prime t n k
    · simp [hp]
    · simp [hp]
theorem outAt_primes (t n : Nat) : outAt (implicants t n) (implicants t n).length = primes t n := by
  rw [outAt_eq t n _ (Nat.le_refl _), List.take_length]; rfl
theorem pairsF_fine_length : ∀ n, n ≤ 4 → ((pairsF (2 ^ n) (2 ^ n)).filter fine).length ≤ 81 := by decide +kernel
theorem implicants_length {t n : Nat} (h : n ≤ 4) : (implicants t n).length ≤ 81 := by
  refine Nat.le_trans ?_ (pairsF_fine_length n h)
  unfold implicants
  rw [show (pairsF (2 ^ n) (2 ^ n)).filter (cand t n) = ((pairsF (2 ^ n) (2 ^ n)).filter fine).filter (fun k => within k t n) from by
    rw [List.filter_filter]
    congr 1
    funext k
    rw [cand, Bool.and_comm]]
  exact List.length_filter_le _ _
theorem primes_length {t n : Nat} (h : n ≤ 4) : (primes t n).length ≤ 81 := Nat.le_trans (List.length_filter_le _ _) (implicants_length h)
theorem mem_primes {t n : Nat} {k : Nat × Nat} : k ∈ primes t n ↔ k ∈ implicants t n ∧ prime t n k = true := by rw [primes, List.mem_filter]
end Two
end Go.Proofs.Ytkkkjbinfdohpaa

namespace Go.Proofs.Ytkkkjbinfdohpaa
namespace Two
/-- Every assignment of the table has a cube. -/
def covers (l : List (Nat × Nat)) (t n : Nat) : Bool := (List.range (2 ^ n)).all fun x => !t.testBit x || l.any (has · x)
theorem covers_iff {l : List (Nat × Nat)} {t n : Nat} : covers l t n = true ↔ ∀ x, x < 2 ^ n → t.testBit x = true → l.any (has · x) = true := by
  rw [covers, List.all_eq_true]
  constructor
  · intro h x hx ht
    have := h x (List.mem_range.2 hx)
    rw [ht] at this
    simpa using this
  · intro h x hx
    cases ht : t.testBit x
    · simp
    · simp [h x (List.mem_range.1 hx) ht]
def allWithin (l : List (Nat × Nat)) (t n : Nat) : Prop := ∀ k ∈ l, within k t n = true
/-- Of implicants: the table is theirs exactly if they cover. -/
theorem table_covers {l : List (Nat × Nat)} {t n : Nat} (ht : t < 2 ^ 2 ^ n) (hw : allWithin l t n) : (tableOf l n = t) ↔ covers l t n = true := by
  rw [covers_iff]
  constructor
  · intro h x hx htx
    rw [← h, tableOf_bit] at htx
    exact (Bool.and_eq_true _ _ ▸ htx).2
  · intro h
    refine table_ext (tableOf_lt l n) ht fun x hx => ?_
    rw [tableOf_bit, decide_eq_true hx, Bool.true_and]
    cases htx : t.testBit x
    · rw [List.any_eq_false]
      intro k hk hh
      have := (within_iff k t n).1 (hw k hk) x hx hh
      rw [htx] at this
      cases this
    · exact h x hx htx
/-- From the last to the first, what is not needed is left out. -/
def minF (t n : Nat) (l : List (Nat × Nat)) : Nat → List (Nat × Nat)
  | 0 => l
  | i + 1 => minF t n (if covers (l.eraseIdx i) t n then l.eraseIdx i else l) i
def minimal (t n : Nat) : List (Nat × Nat) := minF t n (primes t n) (primes t n).length
theorem covers_mono {l l' : List (Nat × Nat)} {t n : Nat} (h : ∀ k ∈ l, k ∈ l') (hc : covers l t n = true) : covers l' t n = true := by
  rw [covers_iff] at *
  intro x hx ht
  obtain ⟨k, hk, hh⟩ := List.any_eq_true.1 (hc x hx ht)
  exact List.any_eq_true.2 ⟨k, h k hk, hh⟩
theorem minF_sub {t n : Nat} : ∀ (i : Nat) (l : List (Nat × Nat)), ∀ k ∈ minF t n l i, k ∈ l
  | 0, l, k, h => h
  | i + 1, l, k, h => by
    rw [minF] at h
    have := minF_sub i _ k h
    split at this
    · exact List.mem_of_mem_eraseIdx this
    · exact this
theorem minF_covers {t n : Nat} : ∀ (i : Nat) (l : List (Nat × Nat)), covers l t n = true → covers (minF t n l i) t n = true
  | 0, l, h => h
  | i + 1, l, h => by
    rw [minF]
    refine minF_covers i _ ?_
    split
    · assumption
    · exact h
theorem erase_erase {α : Type} (l : List α) {i j : Nat} (h : i ≤ j) : (l.eraseIdx i).eraseIdx j = (l.eraseIdx (j + 1)).eraseIdx i := by
  induction l generalizing i j with
  | nil => simp
  | cons a l ih =>
    cases i with
    | zero => rfl
    | succ i =>
      cases j with
      | zero => omega
      | succ j => simp [List.eraseIdx_cons_succ, ih (show i ≤ j by omega)]
theorem erase_ge {α : Type} (l : List α) {i : Nat} (h : l.length ≤ i) : l.eraseIdx i = l := List.eraseIdx_of_length_le h
/-- Nothing that is left can be left out. -/
theorem minF_need {t n : Nat} : ∀ (i : Nat) (l : List (Nat × Nat)), (∀ j, i ≤ j → j < l.length → covers (l.eraseIdx j) t n = false) → ∀ j, j < (minF t n l i).length → covers ((minF t n l i).eraseIdx j) t n = false
  | 0, l, h, j, hj => h j (Nat.zero_le _) hj
  | i + 1, l, h, j, hj => by
    rw [minF] at hj ⊢
    revert hj
    cases hc : covers (l.eraseIdx i) t n
    · simp only [Bool.false_eq_true, if_false]
      intro hj
      refine minF_need i l (fun k hk hkl => ?_) j hj
      rcases Nat.lt_or_ge k (i + 1) with hlt | hge
      · obtain rfl : k = i := by omega
        exact hc
      · exact h k hge hkl
    · simp only [if_true]
      intro hj
      refine minF_need i (l.eraseIdx i) (fun k hk hkl => ?_) j hj
      rw [erase_erase l hk]
      have hl : k + 1 < l.length := by
        rcases Nat.lt_or_ge i l.length with h1 | h1
        · rw [List.length_eraseIdx_of_lt h1] at hkl; omega
        · rw [erase_ge l h1] at hkl; omega
      have := h (k + 1) (by omega) hl
      cases hcc : covers ((l.eraseIdx (k + 1)).eraseIdx i) t n
      · rfl
      · rw [covers_mono (fun x hx => List.mem_of_mem_eraseIdx hx) hcc] at this
        cases this
theorem minF_length {t n : Nat} : ∀ (i : Nat) (l : List (Nat × Nat)), (minF t n l i).length ≤ l.length
  | 0, l => Nat.le_refl _
  | i + 1, l => by
    rw [minF]
    refine Nat.le_trans (minF_length i _) ?_
    split
    · exact List.length_eraseIdx_le _ _
    · exact Nat.le_refl _
theorem primes_within (t n : Nat) : allWithin (primes t n) t n := fun _ hk => (mem_implicants.1 (mem_primes.1 hk).1).2.2.2
theorem fine_minterm {m x : Nat} (hx : x < 2 ^ m) : fine (2 ^ m - 1, x) = true := by
  rw [fine_iff]
  intro i hi
  simp only at hi ⊢
  rw [Nat.testBit_two_pow_sub_one]
  refine decide_eq_true ?_
  rcases Nat.lt_or_ge i m with h | h
  · exact h
  · rw [Nat.testBit_lt_two_pow (Nat.lt_of_lt_of_le hx (Nat.pow_le_pow_right (by decide) h))] at hi
    cases hi
theorem has_minterm {m x y : Nat} (hx : x < 2 ^ m) (hy : y < 2 ^ m) : has (2 ^ m - 1, x) y = decide (y = x) := by
  unfold has
  simp only
  rw [Nat.and_two_pow_sub_one_eq_mod, Nat.mod_eq_of_lt hy, Bool.eq_iff_iff, beq_iff_eq, decide_eq_true_eq]
/-- The primes cover the table. -/
theorem primes_cover {t n : Nat} (hn : n ≤ 4) : covers (primes t n) t n = true := by
  rw [covers_iff]
  intro x hx ht
  -- the minterm of x in all variables, of which there are n
  have hk : (2 ^ n - 1, x) ∈ implicants t n := by
    refine mem_implicants.2 ⟨by have := Nat.two_pow_pos n; simp only; omega, hx, fine_minterm hx, (within_iff _ _ _).2 fun y hy hh => ?_⟩
    rw [has_minterm hx hy, decide_eq_true_eq] at hh
    rw [hh]; exact ht
  obtain ⟨b, hb, hp, hg⟩ := exists_prime _ _ (Nat.le_refl _) hk
  refine List.any_eq_true.2 ⟨b, mem_primes.2 ⟨hb, hp⟩, gen_has hg ?_⟩
  rw [has_minterm hx hx]; simp
theorem primes_table {t n : Nat} (hn : n ≤ 4) (ht : t < 2 ^ 2 ^ n) : tableOf (primes t n) n = t := (table_covers ht (primes_within t n)).2 (primes_cover hn)
end Two
end Go.Proofs.Ytkkkjbinfdohpaa

namespace Go.Proofs.Ytkkkjbinfdohpaa
open Go.RowKit
theorem pow4 {N : Nat} (h : N ≤ 4) : ∃ M : Nat, Hid (2 ^ N = M) ∧ (2 : Int) ^ N = (M : Int) ∧ M ≤ 16 ∧ 1 ≤ M :=
  ⟨2 ^ N, Lib.hid rfl, two_pow N, Nat.pow_le_pow_right (show 0 < 2 by decide) h, Nat.one_le_two_pow⟩
def fitsT (t n : Int) : Bool := decide (0 ≤ n ∧ n ≤ 4 ∧ 0 ≤ t ∧ t < 2 ^ 2 ^ n.toNat)
theorem fitsT_nat {t n : Int} (h : fitsT t n = true) : ∃ T N : Nat, t = T ∧ n = N ∧ N ≤ 4 ∧ T < 2 ^ 2 ^ N ∧ T < 65536 := by
  unfold fitsT at h
  rw [decide_eq_true_eq] at h
  obtain ⟨h1, h2, h3, h4⟩ := h
  obtain ⟨N, rfl⟩ := Int.eq_ofNat_of_zero_le h1
  obtain ⟨T, rfl⟩ := Int.eq_ofNat_of_zero_le h3
  have hN : N ≤ 4 := by omega
  have h5 : T < 2 ^ 2 ^ N := by
    have := two_pow (2 ^ N)
    rw [show ((N : Int).toNat) = N from rfl, this] at h4
    omega
  have h6 : 2 ^ 2 ^ N ≤ 65536 := Nat.pow_le_pow_right (show 0 < 2 by decide) (Nat.pow_le_pow_right (show 0 < 2 by decide) hN)
  exact ⟨T, N, rfl, rfl, hN, h5, by omega⟩
theorem tableFits_any (t n : Int) (w : World) :
    Calls Try.prog 88 #[.int .i64 t, .int .i64 n] w fun e w' => e = .returned (.bool (fitsT t n)) ∧ w = w' := by
  by_cases h : 0 ≤ n ∧ n ≤ 4
  · have hn : n = 0 ∨ n = 1 ∨ n = 2 ∨ n = 3 ∨ n = 4 := by omega
    rcases hn with rfl | rfl | rfl | rfl | rfl
    all_goals
      go_enter Try.func88, Try.ntmps88
      go_wp2
      all_goals
        go_ret
        refine ⟨ret_bool ?_, rfl⟩
        simp [fitsT]
        try omega
  · have hf : fitsT t n = false := decide_eq_false (by omega)
    rw [hf]
    have hn : n < 0 ∨ (0 ≤ n ∧ 4 < n) := by omega
    clear hf h
    rcases hn with g | ⟨g0, g1⟩
    all_goals
      go_enter Try.func88, Try.ntmps88
      go_wp2
      go_ret
      exact ⟨rfl, rfl⟩
theorem implies_any (C V T N : Nat) (w : World) (hN : N ≤ 4) (hC : C < 65536) (hT : T < 65536) :
    Calls Try.prog 89 #[.agg #[.int .i64 C, .int .i64 V], .int .i64 T, .int .i64 N] w
      fun e w' => e = .returned (.bool (Two.within (C, V) T N)) ∧ Below w.heap.size w w' := by
  obtain ⟨M, hM, e, hp, hp0⟩ := pow4 hN
  have hiff := Lib.hid (Two.within_iff (C, V) T N)
  generalize Two.within (C, V) T N = res at hiff ⊢
  have b0 : Below w.heap.size w (w.alloc (.cells #[.int .i64 C, .int .i64 V] 35)) := (Below.refl _ _).alloc (Nat.le_refl _) _
  have B0 := Lib.hid b0
  clear b0
  go_enter Try.func89, Try.ntmps89
  go_wp2_with fail
  have c0 : (w.alloc (.cells #[.int .i64 C, .int .i64 V] 35)).cell? ⟨w.heap.size, 0, none⟩ = some (.int .i64 C) := World.cell?_alloc_new _ _ _ 0
  have c1 : (w.alloc (.cells #[.int .i64 C, .int .i64 V] 35)).cell? ⟨w.heap.size, 1, none⟩ = some (.int .i64 V) := World.cell?_alloc_new _ _ _ 1
  have cz : w.heap.size < (w.alloc (.cells #[.int .i64 C, .int .i64 V] 35)).heap.size := by simp
  generalize w.alloc (.cells #[.int .i64 C, .int .i64 V] 35) = W1 at *
  go_loopw [10] (fun x wr => ∃ X : Nat, X ≤ M ∧ x = .int .i64 X ∧ Hid (∀ x, x < X → Two.has (C, V) x = true → T.testBit x = true) ∧ Below W1.heap.size W1 wr) (fun x _ => M - (intOf x).toNat)
  case atStart => exact ⟨0, by omega, rfl, Lib.hid (fun _ h => by omega), Below.refl _ _⟩
  case round =>
    obtain ⟨X, hX, rfl, hall, hb⟩ := hrel
    have q0 := (hb.cell (p := ⟨w.heap.size, 0, none⟩) cz).trans c0
    have q1 := (hb.cell (p := ⟨w.heap.size, 1, none⟩) cz).trans c1
    have Hb := Lib.hid hb
    have hz := B0.out.size
    clear hb c0 c1
    by_cases hlt : X < M
    · have hh := hasI_nat C V X (by omega) (by omega)
      have hs := shr_and T X (by omega)
      have Hh := Lib.hid hh
      clear hh
      cases hhas : Two.has (C, V) X
      · have Hc := Lib.hid hhas
        clear hhas hs
        go_wp2_with (go_at_call 12; refine (implHas_any _ _ _ _).mono ?_; rintro e w' ⟨rfl, hb'⟩; rw [Hh.out, Hc.out])
        go_roundw
        case rel => exact ⟨X + 1, by omega, by go_num, Lib.hid (fun x hx hx1 => by
          by_cases e : x = X
          · subst e; rw [Hc.out] at hx1; cases hx1
          · exact hall.out x (by omega) hx1), Hb.out.trans (hb'.mono Hb.out.size)⟩
        case measure => simp [intOf]; omega
      · have Hc := Lib.hid hhas
        clear hhas
        cases hbit : T.testBit X
        · rw [hbit, if_neg (by simp)] at hs
          have Hbit := Lib.hid hbit
          have hres : res = false := by
            cases res
            · rfl
            · have := hiff.out.1 rfl X (by rw [hM.out]; exact hlt) Hc.out
              rw [Hbit.out] at this; cases this
          subst hres
          clear hbit
          go_wp2_with (go_at_call 12; refine (implHas_any _ _ _ _).mono ?_; rintro e w' ⟨rfl, hb'⟩; rw [Hh.out, Hc.out])
          go_ret
          exact ⟨rfl, B0.out.trans ((Hb.out.trans (hb'.mono Hb.out.size)).mono hz)⟩
        · rw [hbit, if_pos rfl] at hs
          have Hbit := Lib.hid hbit
          clear hbit
          go_wp2_with (go_at_call 12; refine (implHas_any _ _ _ _).mono ?_; rintro e w' ⟨rfl, hb'⟩; rw [Hh.out, Hc.out])
          go_roundw
          case rel => exact ⟨X + 1, by omega, by go_num, Lib.hid (fun x hx hx1 => by
            by_cases e : x = X
            · subst e; exact Hbit.out
            · exact hall.out x (by omega) hx1), Hb.out.trans (hb'.mono Hb.out.size)⟩
          case measure => simp [intOf]; omega
    · obtain rfl : X = M := by omega
      have hres : res = true := hiff.out.2 fun x hx => hall.out x (by rw [← hM.out]; exact hx)
      subst hres
      go_wp2
      go_ret
      exact ⟨rfl, B0.out.trans (Hb.out.mono hz)⟩
end Go.Proofs.Ytkkkjbinfdohpaa

namespace Go.Proofs.Ytkkkjbinfdohpaa
open Go.RowKit
theorem andNot_nat (a b : Nat) (ha : a < 9223372036854775808) (hb : b < 9223372036854775808) : (bits .andNot .i64 (a : Int) (b : Int) == 0) = (a &&& b == a) := by
  rw [Bool.eq_iff_iff, beq_iff_eq, beq_iff_eq, andNot_iff (by omega) (by omega), i64_and_nat a b ha hb]
  exact ⟨fun h => Int.ofNat.inj h, fun h => by rw [h]⟩
theorem and_eq_nat (a b c : Nat) (ha : a < 9223372036854775808) (hb : b < 9223372036854775808) : (bits .and .i64 (a : Int) (b : Int) == (c : Int)) = (a &&& b == c) := by
  rw [Bool.eq_iff_iff, beq_iff_eq, beq_iff_eq, i64_and_nat a b ha hb]
  exact ⟨fun h => Int.ofNat.inj h, fun h => by rw [h]⟩
theorem gen_def (c v : Nat) (k : Nat × Nat) : Two.gen (c, v) k = ((k.1 &&& c == k.1) && (v &&& k.1 == k.2)) := by
  unfold Two.gen
  simp only
  rw [Nat.and_comm c k.1]
theorem closure_any (k0 k1 c v g1 g2 : Nat) (w : World) (h1 : w.cell? ⟨g1, 0, none⟩ = some (.int .i64 c)) (h2 : w.cell? ⟨g2, 0, none⟩ = some (.int .i64 v)) (hg1 : g1 < w.heap.size) (hg2 : g2 < w.heap.size)
    (b0 : k0 < 65536) (b2 : c < 65536) (b3 : v < 65536) :
    Calls Try.prog 91 #[.agg #[.int .i64 k0, .int .i64 k1], .pointer (some ⟨g1, 0, none⟩), .pointer (some ⟨g2, 0, none⟩)] w
      fun e w' => e = .returned (.bool (Two.gen (c, v) (k0, k1))) ∧ Below w.heap.size w w' := by
  have e1 := andNot_nat k0 c (by omega) (by omega)
  have e2 := and_eq_nat v k0 k1 (by omega) (by omega)
  rw [gen_def]
  simp only
  cases hc : (k0 &&& c == k0)
  · rw [hc] at e1
    clear hc e2
    go_enter Try.func91, Try.ntmps91
    go_wp2
    go_ret
    exact ⟨rfl, (Below.refl _ _).alloc (Nat.le_refl _) _⟩
  · rw [hc] at e1
    clear hc
    go_enter Try.func91, Try.ntmps91
    go_wp2
    go_ret
    exact ⟨ret_bool (by simp [e2]), (Below.refl _ _).alloc (Nat.le_refl _) _⟩
def CubesN (w : World) (v : Value) (ks : List (Nat × Nat)) : Prop := CubesAt w v (ks.map intK)
theorem cubesN_open {w wr : World} {A : Option Addr} {n c : Nat} {ks : List (Nat × Nat)} (h : CubesN w (.slice A n c) ks) (hb : Below w.heap.size w wr) {i : Nat} (hn : n = ks.length) (hi : i < ks.length) :
    ∃ (b o : Nat) (k : Nat × Nat), A = some ⟨b, o, none⟩ ∧ b < w.heap.size ∧ Hid (ks[i]? = some k) ∧ wr.cell? ⟨b, o + i * 2, none⟩ = some (.int .i64 k.1) ∧ wr.cell? ⟨b, o + i * 2 + 1, none⟩ = some (.int .i64 k.2) := by
  have h' : Row w 2 (.slice A n c) n (cubes (ks.map intK)) := by
    have := h
    unfold CubesN CubesAt at this
    rw [List.length_map] at this
    rw [hn] at this ⊢
    exact this
  obtain ⟨b, o, k, hA, hbl, hk, h1, h2⟩ := cubes_open h' hb (by rw [hn, List.length_map]) (i := i) (by rw [List.length_map]; exact hi)
  have hk' := hk.out
  rw [List.getElem?_map] at hk'
  cases hki : ks[i]? with
  | none => rw [hki] at hk'; cases hk'
  | some k' =>
    rw [hki] at hk'
    obtain rfl := Option.some.inj hk'
    exact ⟨b, o, k', hA, hbl, Lib.hid rfl, h1, h2⟩
/-- What a search comes to. -/
def Found (l : List (Nat × Nat)) (p : Nat × Nat → Bool) (w : World) (e : Ending) (w' : World) : Prop :=
  ∃ r : Int, e = .returned (.int .i64 r) ∧ (decide (0 ≤ r) = l.any p) ∧ Below w.heap.size w w'
theorem any_hit {l : List (Nat × Nat)} {p : Nat × Nat → Bool} {i : Nat} {k : Nat × Nat} (h : l[i]? = some k) (hp : p k = true) : l.any p = true := List.any_eq_true.2 ⟨k, List.mem_of_getElem? h, hp⟩
theorem any_none {l : List (Nat × Nat)} {p : Nat × Nat → Bool} (h : ∀ j, j < l.length → ∀ k, l[j]? = some k → p k = false) : l.any p = false := by
  rw [List.any_eq_false]
  intro k hk
  obtain ⟨j, hj, rfl⟩ := List.mem_iff_getElem.1 hk
  rw [h j hj _ (List.getElem?_eq_getElem hj)]
  simp
theorem indexFunc_any (x : Value) (l : List (Nat × Nat)) (c v g1 g2 : Nat) (w : World) (h : CubesN w x l) (h1 : w.cell? ⟨g1, 0, none⟩ = some (.int .i64 c)) (h2 : w.cell? ⟨g2, 0, none⟩ = some (.int .i64 v)) (hg1 : g1 < w.heap.size) (hg2 : g2 < w.heap.size)
    (hl : ∀ k ∈ l, k.1 < 65536) (b2 : c < 65536) (b3 : v < 65536) :
    Calls Try.prog 117 #[x, .func (.func 91) #[] #[.pointer (some ⟨g1, 0, none⟩), .pointer (some ⟨g2, 0, none⟩)]] w
      (Found l (fun b => Two.gen (c, v) b) w) := by
  obtain ⟨A, cp, hv, hc, hcm⟩ := Row.shape h
  subst hv
  rw [List.length_map] at hc h ⊢
  unfold maxLen at hcm
  go_enter Try.func117, Try.ntmps117
  go_wp2_with fail
  go_loopw [8] (fun i wr => ∃ k : Nat, k ≤ l.length ∧ i = .int .i64 k ∧ Hid (∀ j, j < k → ∀ q, l[j]? = some q → Two.gen (c, v) q = false) ∧ Below w.heap.size w wr) (fun i _ => l.length - (intOf i).toNat)
  case atStart => exact ⟨0, Nat.zero_le _, rfl, Lib.hid (fun _ h => by omega), Below.refl _ _⟩
  case round =>
    obtain ⟨k, hk, rfl, hall, hb⟩ := hrel
    by_cases hlt : k < l.length
    · obtain ⟨b, o, q, rfl, hbl, hx, hs1, hs2⟩ := cubesN_open h hb rfl hlt
      have c1 := (hb.cell (p := ⟨g1, 0, none⟩) hg1).trans h1
      have c2 := (hb.cell (p := ⟨g2, 0, none⟩) hg2).trans h2
      have z := hb.size
      have Hb := Lib.hid hb
      have hq := hl _ (List.mem_of_getElem? hx.out)
      have z1 : g1 < wr.heap.size := by omega
      have z2 : g2 < wr.heap.size := by omega
      clear h hb hl h1 h2
      go_wp2_with fail
      refine (closure_any q.1 q.2 c v g1 g2 _ c1 c2 z1 z2 hq b2 b3).mono ?_
      rintro e w' ⟨rfl, hb'⟩
      cases hg : Two.gen (c, v) (q.1, q.2)
      · have Hg := Lib.hid hg
        clear hg
        go_wp2_with fail
        go_roundw
        case rel => exact ⟨k + 1, by omega, by go_num, Lib.hid (fun j hj q' hq' => by
          by_cases e : j = k
          · subst e; rw [hx.out] at hq'; obtain rfl := Option.some.inj hq'; exact Hg.out
          · exact hall.out j (by omega) q' hq'), Hb.out.trans (hb'.mono Hb.out.size)⟩
        case measure => simp [intOf]; omega
      · have Hg := Lib.hid hg
        clear hg
        go_wp2_with fail
        go_ret
        exact ⟨k, rfl, by rw [any_hit hx.out Hg.out]; exact decide_eq_true (by omega), Hb.out.trans (hb'.mono Hb.out.size)⟩
    · go_wp2
      go_ret
      exact ⟨-1, rfl, by rw [any_none fun j hj q hq => hall.out j (by omega) q hq]; rfl, hb⟩
theorem containsFunc_any (x : Value) (l : List (Nat × Nat)) (c v g1 g2 : Nat) (w : World) (h : CubesN w x l) (h1 : w.cell? ⟨g1, 0, none⟩ = some (.int .i64 c)) (h2 : w.cell? ⟨g2, 0, none⟩ = some (.int .i64 v)) (hg1 : g1 < w.heap.size) (hg2 : g2 < w.heap.size)
    (hl : ∀ k ∈ l, k.1 < 65536) (b2 : c < 65536) (b3 : v < 65536) :
    Calls Try.prog 90 #[x, .func (.func 91) #[] #[.pointer (some ⟨g1, 0, none⟩), .pointer (some ⟨g2, 0, none⟩)]] w
      fun e w' => e = .returned (.bool (l.any (fun b => Two.gen (c, v) b))) ∧ Below w.heap.size w w' := by
  go_enter Try.func90, Try.ntmps90
  go_wp2_with fail
  refine (indexFunc_any x l c v g1 g2 w h h1 h2 hg1 hg2 hl b2 b3).mono ?_
  rintro e w' ⟨r, rfl, hr, hb⟩
  have Hr := Lib.hid hr
  clear hr
  go_wp2_with fail
  go_ret
  exact ⟨ret_bool Hr.out, hb⟩
end Go.Proofs.Ytkkkjbinfdohpaa

namespace Go.Proofs.Ytkkkjbinfdohpaa
open Go.RowKit
/-! What laws do with slices of cubes. -/
theorem info_cube : (Try.prog.info? 35).map (fun i => (i.zero, i.size, i.bytes)) = some (some (.agg #[.int .i64 0, .int .i64 0]), 2, 16) := by kernel_rfl
end Go.Proofs.Ytkkkjbinfdohpaa

namespace Go.Proofs.Ytkkkjbinfdohpaa
open Go.RowKit
theorem append_cubes {w : World} {ops : Array Oper} {rest : List Oper} {o : Oper} {a : Act} {Q : Exit → Act → World → Prop} (hgd : o.guard = none) (s x : Operand)
    (ho : o.op = .call { callee := .builtin .append, args := #[s, x], argTypes := #[31, 31] })
    (base : Nat) (v : Value) (n : Nat) (xs : List Value) (hs : a.eval s = v) (hown : w.ownsRow base 35 2 v n xs) (sv : Value) (m : Nat) (news : List Value) (hx : a.eval x = sv) (hr : Row w 2 sv m news) (h1 : ∀ u ∈ news, u.oneCell' = true)
    (h63 : n + m ≤ 1000000) (hbase : base ≤ w.heap.size)
    (h : ∀ v' w', w'.ownsRow base 35 2 v' (n + m) (xs ++ news) → w.grownBy w' v.ownBlock → wpList Try.prog ops Q rest (a.put o.dst v') w') : wpList Try.prog ops Q (o :: rest) a w := by
  obtain ⟨i, hi, hz0, hz1, hz2⟩ := info_parts info_cube
  exact wpList_append_row hgd s x 31 ho base 35 i _ 2 16 Try.underlying31 hi hz0 hz1 hz2 rfl (by decide) v n xs hs hown sv m news hx hr h1 (by unfold maxLen; omega) (by omega) hbase h
theorem cubes_one (ks : List (Int × Int)) : ∀ u ∈ cubes ks, u.oneCell' = true := by
  intro u hu
  unfold cubes at hu
  obtain ⟨k, _, hk⟩ := List.mem_flatMap.1 hu
  simp at hk
  rcases hk with rfl | rfl <;> rfl
theorem own_neP {w : World} {base n size : Nat} {e t : TypeId} {v : Value} {xs : List Value} {g : Nat} {cs : Array Value} {fr : Nat × Nat} (h : w.ownsRow base e size v n xs) (hh : w.heap[g]? = some (.cells cs t fr)) (ht : t ≠ e) : v.ownBlock ≠ some g := by
  rcases h.2 with ⟨rfl, rfl⟩ | ⟨g', cap, cur, rfl, hb, hh', _⟩
  · simp [Value.ownBlock]
  · intro e'
    have : g' = g := by simpa [Value.ownBlock] using e'
    subst this
    rw [hh] at hh'
    injection hh' with hh'
    injection hh' with _ h2 _
    exact ht h2
theorem own_ge {w : World} {base n size : Nat} {e : TypeId} {v : Value} {xs : List Value} (h : w.ownsRow base e size v n xs) : ∀ k, v.ownBlock = some k → base ≤ k := fun k hk => (h.lt k hk).1
namespace Two
theorem pstep_length (t n : Nat) (out : List (Nat × Nat)) (k : Nat × Nat) : (pstep t n out k).length ≤ out.length + 1 := by
  unfold pstep
  split <;> simp
theorem rowF_length {f : List (Nat × Nat) → Nat × Nat → List (Nat × Nat)} (hf : ∀ out k, (f out k).length ≤ out.length + 1) (out : List (Nat × Nat)) (c : Nat) : ∀ v, (rowF f out c v).length ≤ out.length + v
  | 0 => Nat.le_refl _
  | v + 1 => by
    have h1 := hf (rowF f out c v) (c, v)
    have h2 := rowF_length hf out c v
    rw [rowF]
    omega
theorem tabF_length {f : List (Nat × Nat) → Nat × Nat → List (Nat × Nat)} (hf : ∀ out k, (f out k).length ≤ out.length + 1) (m : Nat) : ∀ c, (tabF f m c).length ≤ c * m
  | 0 => by simp [tabF]
  | c + 1 => by
    have h1 := rowF_length hf (tabF f m c) c m
    have h2 := tabF_length hf m c
    rw [tabF, Nat.add_mul]
    omega
theorem mem_pstep {t n : Nat} {out : List (Nat × Nat)} {k q : Nat × Nat} (h : q ∈ pstep t n out k) : q ∈ out ∨ q = k := by
  unfold pstep at h
  split at h
  · simpa using h
  · exact .inl h
theorem mem_rowF {f : List (Nat × Nat) → Nat × Nat → List (Nat × Nat)} (hf : ∀ out k q, q ∈ f out k → q ∈ out ∨ q = k) {out : List (Nat × Nat)} {c : Nat} {q : Nat × Nat} : ∀ {v}, q ∈ rowF f out c v → q ∈ out ∨ (q.1 = c ∧ q.2 < v)
  | 0, h => .inl h
  | v + 1, h => by
    rw [rowF] at h
    rcases hf _ _ _ h with h | rfl
    · rcases mem_rowF hf h with h | ⟨h1, h2⟩
      · exact .inl h
      · exact .inr ⟨h1, by omega⟩
    · exact .inr ⟨rfl, by simp⟩
theorem mem_tabF {f : List (Nat × Nat) → Nat × Nat → List (Nat × Nat)} (hf : ∀ out k q, q ∈ f out k → q ∈ out ∨ q = k) {m : Nat} {q : Nat × Nat} : ∀ {c}, q ∈ tabF f m c → q.1 < c ∧ q.2 < m
  | 0, h => by simp [tabF] at h
  | c + 1, h => by
    rw [tabF] at h
    rcases mem_rowF hf h with h | ⟨h1, h2⟩
    · have := mem_tabF hf h
      omega
    · omega
end Two
theorem cubesN_own {w : World} {b : Nat} {e : TypeId} {v : Value} {R : List (Nat × Nat)} (h : w.ownsRow b e 2 v R.length (cubes (R.map intK))) : CubesN w v R := by
  unfold CubesN CubesAt
  rw [List.length_map]
  exact Row.of_own h
/-- What Primes returns. -/
def primesI (t n : Int) : List (Nat × Nat) := if fitsT t n then Two.primes t.toNat n.toNat else []
def PrimesOut (t n : Int) (w : World) (e : Ending) (w' : World) : Prop :=
  ∃ v, e = .returned v ∧ w'.ownsRow w.heap.size 35 2 v (primesI t n).length (cubes ((primesI t n).map intK)) ∧ Below w.heap.size w w'
theorem implPrimes_any (t n : Int) (w : World) : Calls Try.prog 47 #[.int .i64 t, .int .i64 n] w (PrimesOut t n w) := by
  cases hf : fitsT t n
  · have hp : primesI t n = [] := by unfold primesI; rw [hf]; rfl
    have Hp := Lib.hid hp
    have Hf := Lib.hid hf
    clear hp hf
    go_enter Try.func47, Try.ntmps47
    go_wp2_with fail
    refine (tableFits_any t n _).mono ?_
    rintro e w' ⟨rfl, rfl⟩
    rw [Hf.out]
    go_wp2_with fail
    go_ret
    exact ⟨_, rfl, by rw [Hp.out]; exact World.ownsRow_nil _ _ _ _, Below.refl _ _⟩
  · obtain ⟨T, N, rfl, rfl, hN, hT2, hT⟩ := fitsT_nat hf
    have hp : primesI T N = Two.tabF (Two.pstep T N) (2 ^ N) (2 ^ N) := by unfold primesI; rw [hf, Two.primes_eq]; rfl
    have Hp := Lib.hid hp
    have Hf := Lib.hid hf
    clear hp hf hT2
    obtain ⟨M, hM, e, hp, hp0⟩ := pow4 hN
    rw [hM.out] at Hp
    have hmemT : Hid (∀ q c, q ∈ Two.tabF (Two.pstep T N) M c → q.1 < c ∧ q.2 < M) := Lib.hid fun q c h => Two.mem_tabF (fun _ _ _ => Two.mem_pstep) h
    go_enter Try.func47, Try.ntmps47
    go_wp2_with fail
    refine (tableFits_any _ _ _).mono ?_
    rintro e w' ⟨rfl, rfl⟩
    rw [Hf.out]
    go_wp2_with fail
    go_loopw [5, 15] (fun v i wr => ∃ c : Nat, c ≤ M ∧ i = .int .i64 c ∧ wr.ownsRow w.heap.size 35 2 v (Two.tabF (Two.pstep T N) M c).length (cubes ((Two.tabF (Two.pstep T N) M c).map intK)) ∧ Below w.heap.size w wr) (fun _ i _ => M - (intOf i).toNat)
    case atStart => exact ⟨0, by omega, rfl, World.ownsRow_nil _ _ _ _, Below.refl _ _⟩
    case round =>
      obtain ⟨c, hc, rfl, hown, hb⟩ := hrel
      have Hb := Lib.hid hb
      have Hown := Lib.hid hown
      clear hb hown
      by_cases hlt : c < M
      · have hz := Hb.out.size
        have hO : (Two.tabF (Two.pstep T N) M c).length ≤ 240 := by
          have h1 := Two.tabF_length (Two.pstep_length T N) M c
          have h2 : c * M ≤ 15 * 16 := Nat.mul_le_mul (by omega) hp
          omega
        have HmO : Hid (∀ q ∈ Two.tabF (Two.pstep T N) M c, q.1 < 16) := Lib.hid fun q hq => by have := (hmemT.out q c hq).1; omega
        have HO1 : Hid (∀ k, Two.tabF (Two.pstep T N) M (k + 1) = Two.rowF (Two.pstep T N) (Two.tabF (Two.pstep T N) M k) k M) := Lib.hid fun _ => rfl
        have HO2 := Lib.hid (HO1.out c)
        generalize Two.tabF (Two.pstep T N) M c = O at *
        have hg6 : (wr.alloc (.cells #[.int .i64 c] 3)).heap[wr.heap.size]? = some (.cells #[.int .i64 c] 3 (0, 0)) := heap_alloc_new _ _
        have HownA := Lib.hid (Hown.out.alloc (.cells #[.int .i64 c] 3))
        have HbA := Lib.hid (Hb.out.alloc hz (.cells #[.int .i64 c] 3))
        clear Hown Hb
        go_wp2_with fail
        generalize wr.alloc (.cells #[.int .i64 c] 3) = W1 at *
        generalize wr.heap.size = g6 at *
        go_loopw [5, 20] (fun v i wq => ∃ x : Nat, x ≤ M ∧ i = .int .i64 x ∧ wq.ownsRow w.heap.size 35 2 v (Two.rowF (Two.pstep T N) O c x).length (cubes ((Two.rowF (Two.pstep T N) O c x).map intK)) ∧ wq.heap[g6]? = some (.cells #[.int .i64 c] 3 (0, 0)) ∧ Below w.heap.size w wq) (fun _ i _ => M - (intOf i).toNat)
        case atStart => exact ⟨0, by omega, rfl, HownA.out, hg6, HbA.out⟩
        case round =>
          obtain ⟨x, hx, rfl, hown, hg6, hb⟩ := hrel
          have Hb := Lib.hid hb
          have Hown := Lib.hid hown
          clear hb hown HownA HbA
          by_cases hlt2 : x < M
          · have hzr := Hb.out.size
            have hL := Two.rowF_length (Two.pstep_length T N) O c x
            have HmR : Hid (∀ q ∈ Two.rowF (Two.pstep T N) O c x, q.1 < 65536) := Lib.hid fun q hq => by
              rcases Two.mem_rowF (fun _ _ _ => Two.mem_pstep) hq with h | ⟨h, _⟩
              · have := HmO.out q h; omega
              · omega
            have HR : Hid (Two.rowF (Two.pstep T N) O c (x + 1) = Two.pstep T N (Two.rowF (Two.pstep T N) O c x) (c, x)) := Lib.hid rfl
            obtain ⟨R2, hR2⟩ : ∃ R2, Two.rowF (Two.pstep T N) O c (x + 1) = R2 := ⟨_, rfl⟩
            rw [hR2] at HR
            have HR1 := Lib.hid hR2
            clear hR2
            generalize Two.rowF (Two.pstep T N) O c x = R at *
            have c6 := blk_cell hg6 0
            simp only [List.getElem?_toArray, List.getElem?_cons_zero] at c6
            have z6 : g6 < wr.heap.size := by
              rcases Nat.lt_or_ge g6 wr.heap.size with h | h
              · exact h
              · rw [Array.getElem?_eq_none h] at hg6; cases hg6
            have k6 : ((wr.alloc (.cells #[.int .i64 x] 3)).alloc (.cells #[.int .i64 c, .int .i64 x] 35)).heap[g6]? = some (.cells #[.int .i64 c] 3 (0, 0)) := by
              rw [heap_alloc_old _ _ (by simp; omega), heap_alloc_old _ _ z6]; exact hg6
            have k7 : ((wr.alloc (.cells #[.int .i64 x] 3)).alloc (.cells #[.int .i64 c, .int .i64 x] 35)).heap[wr.heap.size]? = some (.cells #[.int .i64 x] 3 (0, 0)) := by
              rw [heap_alloc_old _ _ (by simp)]; exact heap_alloc_new _ _
            have k8 : ((wr.alloc (.cells #[.int .i64 x] 3)).alloc (.cells #[.int .i64 c, .int .i64 x] 35)).heap[wr.heap.size + 1]? = some (.cells #[.int .i64 c, .int .i64 x] 35 (0, 0)) := by
              have := heap_alloc_new (wr.alloc (.cells #[.int .i64 x] 3)) (.cells #[.int .i64 c, .int .i64 x] 35)
              simpa using this
            have HownB := Lib.hid ((Hown.out.alloc (.cells #[.int .i64 x] 3)).alloc (.cells #[.int .i64 c, .int .i64 x] 35))
            have HbB := Lib.hid ((Hb.out.alloc hzr (.cells #[.int .i64 x] 3)).alloc (by simp; omega) (.cells #[.int .i64 c, .int .i64 x] 35))
            have zB : wr.heap.size + 2 = ((wr.alloc (.cells #[.int .i64 x] 3)).alloc (.cells #[.int .i64 c, .int .i64 x] 35)).heap.size := by simp
            have HzB := Lib.hid zB
            clear zB Hown Hb
            go_upto_region 11 with fail
            generalize (wr.alloc (.cells #[.int .i64 x] 3)).alloc (.cells #[.int .i64 c, .int .i64 x] 35) = W2 at *
            generalize wr.heap.size = g7 at *
            clear hg6 c6
            have c6 := blk_cell k6 0
            have c7 := blk_cell k7 0
            have c8 := blk_cell k8 0
            have c9 := blk_cell k8 1
            simp only [List.getElem?_toArray, List.getElem?_cons_zero, List.getElem?_cons_succ] at c6 c7 c8 c9
            have z2 : g7 + 2 ≤ W2.heap.size := by have := HzB.out; omega
            have ea := andNot_nat x c (by omega) (by omega)
            have HcD : Hid (Two.cand T N (c, x) = ((x &&& c == x) && Two.within (c, x) T N)) := Lib.hid rfl
            cases hfine : (x &&& c == x)
            · have hn : bits .andNot .i64 (x : Int) (c : Int) != 0 := by rw [bne, ea, hfine]; rfl
              have H : Hid (R2 = R) := Lib.hid (by rw [HR.out, Two.pstep, HcD.out, hfine]; rfl)
              clear ea hfine
              go_wp2_with fail
              go_roundw
              case rel => exact ⟨x + 1, by omega, by go_num, by rw [HR1.out, H.out]; exact HownB.out, k6, HbB.out⟩
              case measure => simp [intOf]; omega
            · have hn : (bits .andNot .i64 (x : Int) (c : Int) != 0) = false := by rw [bne, ea, hfine]; rfl
              have Hfine := Lib.hid hfine
              have zw := HbB.out.size
              clear ea hfine
              go_wp2_with fail
              refine (implies_any c x T N _ hN (by omega) hT).mono ?_
              rintro e w3 ⟨rfl, hb3⟩
              have Ho3 := Lib.hid (own_below HownB.out hb3)
              have Hb3 := Lib.hid (HbB.out.trans (hb3.mono zw))
              have k36 := (hb3.block g6 (by omega)).trans k6
              have d6 := (hb3.cell (p := ⟨g6, 0, none⟩) (by simp only; omega)).trans c6
              have d7 := (hb3.cell (p := ⟨g7, 0, none⟩) (by simp only; omega)).trans c7
              have d8 := (hb3.cell (p := ⟨g7 + 1, 0, none⟩) (by simp only; omega)).trans c8
              have d9 := (hb3.cell (p := ⟨g7 + 1, 1, none⟩) (by simp only; omega)).trans c9
              have z3 := hb3.size
              clear hb3 HownB HbB k6 k7 k8 c6 c7 c8 c9
              cases hwi : Two.within (c, x) T N
              · have H : Hid (R2 = R) := Lib.hid (by rw [HR.out, Two.pstep, HcD.out, Hfine.out, hwi]; rfl)
                clear hwi
                go_wp2_with fail
                go_roundw
                case rel => exact ⟨x + 1, by omega, by go_num, by rw [HR1.out, H.out]; exact Ho3.out, k36, Hb3.out⟩
                case measure => simp [intOf]; omega
              · have Hwi := Lib.hid hwi
                clear hwi
                go_wp2_with fail
                refine (containsFunc_any _ R c x g6 g7 _ (cubesN_own Ho3.out) d6 d7 (by omega) (by omega) HmR.out (by omega) (by omega)).mono ?_
                rintro e w4 ⟨rfl, hb4⟩
                have Ho4 := Lib.hid (own_below Ho3.out hb4)
                have Hb4 := Lib.hid (Hb3.out.trans (hb4.mono (by omega)))
                have k46 := (hb4.block g6 (by omega)).trans k36
                have f8 := (hb4.cell (p := ⟨g7 + 1, 0, none⟩) (by simp only; omega)).trans d8
                have f9 := (hb4.cell (p := ⟨g7 + 1, 1, none⟩) (by simp only; omega)).trans d9
                have z4 := hb4.size
                clear hb4 Ho3 Hb3 k36 d6 d7 d8 d9
                cases hany : R.any (fun b => Two.gen (c, x) b)
                · have H : Hid (R2 = R ++ [(c, x)]) := Lib.hid (by rw [HR.out, Two.pstep, HcD.out, Hfine.out, Hwi.out, hany]; rfl)
                  have Hlit := Lib.hid (Row.of_own (World.ownsRow_lit (base := w4.heap.size) (e := 35) (size := 2) w4 #[.int .i64 c, .int .i64 x] 1 (Nat.le_refl _) (by unfold maxLen; omega) rfl))
                  clear hany
                  go_wp2_with (at_builtin; refine append_cubes rfl (.tmp 41) (.tmp 43) rfl w.heap.size _ R.length _ rfl (Ho4.out.alloc _) _ 1 [.int .i64 c, .int .i64 x] rfl Hlit.out (by simp [Value.oneCell']) (by omega) (by simp; omega) ?_; intro v5 w5 hown5 hg5; have Ho5 := Lib.hid hown5; have Hg5 := Lib.hid hg5; clear hown5 hg5)
                  go_roundw
                  case rel =>
                    have hne := own_neP Ho4.out k46 (by decide)
                    have k56 := (Hg5.out.block g6 (by simp; omega) (fun h => hne h.symm)).trans ((heap_alloc_old w4 _ (by omega)).trans k46)
                    have hb5 := (Hb4.out.alloc (by omega) (.cells #[.int .i64 c, .int .i64 x] 35)).grown Hg5.out (by simp; omega) (own_ge Ho4.out)
                    refine ⟨x + 1, by omega, by go_num, ?_, k56, hb5⟩
                    rw [HR1.out, H.out, List.map_append, cubes_append, List.length_append]
                    exact Ho5.out
                  case measure => simp [intOf]; omega
                · have H : Hid (R2 = R) := Lib.hid (by rw [HR.out, Two.pstep, HcD.out, Hfine.out, Hwi.out, hany]; rfl)
                  clear hany
                  go_wp2_with fail
                  go_roundw
                  case rel => exact ⟨x + 1, by omega, by go_num, by rw [HR1.out, H.out]; exact Ho4.out, k46, Hb4.out⟩
                  case measure => simp [intOf]; omega
          · obtain rfl : x = M := by omega
            rw [← HO2.out] at Hown
            go_wp2
            go_roundw
            case rel => exact ⟨c + 1, by omega, by go_num, Hown.out, Hb.out⟩
            case measure => simp [intOf]; omega
      · obtain rfl : c = M := by omega
        rw [← Hp.out] at Hown
        go_wp2
        go_ret
        exact ⟨_, rfl, Hown.out, Hb.out⟩
end Go.Proofs.Ytkkkjbinfdohpaa

namespace Go.Proofs.Ytkkkjbinfdohpaa
open Go.RowKit
theorem append_cubes_at {w : World} {ops : Array Oper} {rest : List Oper} {o : Oper} {a : Act} {Q : Exit → Act → World → Prop} (hgd : o.guard = none) (s x : Operand)
    (ho : o.op = .call { callee := .builtin .append, args := #[s, x], argTypes := #[31, 31] })
    (base : Nat) (v : Value) (n : Nat) (xs : List Value) (hs : a.eval s = v) (hown : w.ownsRow base 35 2 v n xs) (sv : Value) (m : Nat) (news : List Value) (hx : a.eval x = sv) (hr : Row w 2 sv m news) (h1 : ∀ u ∈ news, u.oneCell' = true)
    (h63 : n + m ≤ 1000000) (hbase : base ≤ w.heap.size)
    (h : ∀ v' w', w'.ownsRow base 35 2 v' (n + m) (xs ++ news) → w.grownBy w' v.ownBlock → (v'.ownBlock = v.ownBlock ∨ v'.ownBlock = some w.heap.size) → wpList Try.prog ops Q rest (a.put o.dst v') w') : wpList Try.prog ops Q (o :: rest) a w := by
  obtain ⟨i, hi, hz0, hz1, hz2⟩ := info_parts info_cube
  exact wpList_append_at hgd s x 31 ho base 35 i _ 2 16 Try.underlying31 hi hz0 hz1 hz2 rfl (by decide) v n xs hs hown sv m news hx hr h1 (by unfold maxLen; omega) (by omega) hbase h
end Go.Proofs.Ytkkkjbinfdohpaa

namespace Go.Proofs.Ytkkkjbinfdohpaa
open Go.RowKit
set_option maxRecDepth 100000
theorem own_of_cells {w : World} {g n cap B size : Nat} {e : TypeId} {xs : List Value} {cur : Array Value} (hl : xs.length = n * size) (hh : w.heap[g]? = some (.cells cur e (0, 0))) (hs : cur.size = cap * size)
    (hc : ∀ j u, xs[j]? = some u → w.cell? ⟨g, j, none⟩ = some u) (hn : n ≤ cap) (hm : cap ≤ maxLen) (hB : B ≤ g) : w.ownsRow B e size (.slice (some ⟨g, 0, none⟩) n cap) n xs := by
  refine ⟨hl, .inr ⟨g, cap, cur, rfl, hB, hh, hn, hm, hs, ?_⟩⟩
  apply List.ext_getElem?
  intro j
  rw [List.getElem?_take]
  have hlen : n * size ≤ cur.size := by rw [hs]; exact Nat.mul_le_mul_right _ hn
  by_cases hj : j < n * size
  · rw [if_pos hj]
    have hx : xs[j]? = some (xs[j]'(by omega)) := List.getElem?_eq_getElem (by omega)
    have := hc j _ hx
    rw [cell_of_row w g j cur e (0, 0) hh] at this
    rw [hx, ← this]
    simp
  · rw [if_neg hj, List.getElem?_eq_none (by omega)]
theorem shape_setCells {e : TypeId} {g : Nat} : ∀ (vs : List Value) (o : Nat) (w : World) (cur : Array Value), w.heap[g]? = some (.cells cur e (0, 0)) → ∃ cur' : Array Value, (w.setCells g o vs).heap[g]? = some (.cells cur' e (0, 0)) ∧ cur'.size = cur.size
  | [], o, w, cur, h => ⟨cur, h, rfl⟩
  | v :: vs, o, w, cur, h => by
    obtain ⟨cur', h1, h2⟩ := shape_setCells vs (o + 1) (w.setCell ⟨g, o, none⟩ v) _ (heap_setCell_same w g o cur e v h)
    exact ⟨cur', h1, by rw [h2]; simp⟩
theorem cubes_drop (ks : List (Int × Int)) : ∀ i, cubes (ks.drop i) = (cubes ks).drop (i * 2) := by
  induction ks with
  | nil => intro i; simp [cubes]
  | cons k ks ih =>
    intro i
    cases i with
    | zero => simp
    | succ i =>
      rw [List.drop_succ_cons, ih i, show (i + 1) * 2 = i * 2 + 1 + 1 from by omega]
      simp [cubes]
theorem cubes_take (ks : List (Int × Int)) : ∀ i, cubes (ks.take i) = (cubes ks).take (i * 2) := by
  induction ks with
  | nil => intro i; simp [cubes]
  | cons k ks ih =>
    intro i
    cases i with
    | zero => simp [cubes]
    | succ i =>
      rw [List.take_succ_cons, show (i + 1) * 2 = i * 2 + 1 + 1 from by omega]
      have := ih i
      simp [cubes] at this ⊢
      exact this
theorem zero_cube (w : World) : (zeroValue 35).run Try.prog w = .ok (.agg #[.int .i64 0, .int .i64 0]) w := by kernel_rfl
theorem run_clear_pair (w : World) (g off c : Nat) (ty : TypeId) (cur : Array Value) (hh : w.heap[g]? = some (.cells cur 35 (0, 0))) (hf : off + 2 ≤ cur.size) :
    (Builtin.clear_ #[31] ty #[.slice (some ⟨g, off, none⟩) 1 c]).run Try.prog w = .ok (.tuple #[]) (w.setRow g (cur.toList.take off ++ [Value.int .i64 0, Value.int .i64 0] ++ cur.toList.drop (off + 2)).toArray) := by
  have hst := run_storeCells_at Try.prog g off 35 [.int .i64 0, .int .i64 0] 0 cur w hh (by simpa using hf) (by simp [Value.oneCell'])
  simp only [Nat.add_zero] at hst
  have hz : Builtin.zeroCells (Value.agg #[.int .i64 0, .int .i64 0]).cells 1 = #[.int .i64 0, .int .i64 0] := by kernel_rfl
  simp [Builtin.clear_, run_underlying Try.underlying31, zero_cube, hz, hst]
theorem erase_cells {ks : List (Int × Int)} {i j : Nat} {u : Value} (hi : i < ks.length) (h : (cubes (ks.eraseIdx i))[j]? = some u) : (j < i * 2 ∧ (cubes ks)[j]? = some u) ∨ (i * 2 ≤ j ∧ (cubes (ks.drop (i + 1)))[j - i * 2]? = some u) := by
  rw [List.eraseIdx_eq_take_drop_succ, cubes_append, List.getElem?_append] at h
  have hl : (cubes (ks.take i)).length = i * 2 := by rw [cubes_length]; simp; omega
  rw [hl] at h
  split at h
  · rename_i hlt
    refine .inl ⟨hlt, ?_⟩
    rw [cubes_take, List.getElem?_take, if_pos hlt] at h
    exact h
  · rename_i hge
    exact .inr ⟨by omega, h⟩
theorem grown_setCell (w : World) (g o : Nat) (v : Value) : w.grownBy (w.setCell ⟨g, o, none⟩ v) (some g) :=
  ⟨rfl, rfl, rfl, by simp [World.setCell], fun k _ hk => heap_setCell_other w ⟨g, o, none⟩ k _ (fun e => hk (by simp [e]))⟩
theorem grown_comp {a b c : World} {r : Option Nat} (h : a.grownBy b r) (h' : b.grownBy c r) : a.grownBy c r :=
  ⟨h'.os.trans h.os, h'.tape.trans h.tape, h'.output.trans h.output, Nat.le_trans h.size h'.size,
    fun k hk hr => (h'.block k (Nat.lt_of_lt_of_le hk h.size) hr).trans (h.block k hk hr)⟩
theorem grown_setCells (g : Nat) : ∀ (vs : List Value) (o : Nat) (w : World), w.grownBy (w.setCells g o vs) (some g)
  | [], _, w => World.grownBy.refl w _
  | v :: vs, o, w => grown_comp (grown_setCell w g o v) (grown_setCells g vs (o + 1) _)
theorem grown_setRow (w : World) (g : Nat) (cs : Array Value) : w.grownBy (w.setRow g cs) (some g) :=
  ⟨rfl, rfl, rfl, by simp [World.setRow], fun k _ hk => setRow_other w g k cs (fun e => hk (by simp [e]))⟩
/-- What deleting comes to. -/
def Deleted (B g : Nat) (ks : List (Int × Int)) (i : Nat) (w : World) (e : Ending) (w' : World) : Prop :=
  ∃ v, e = .returned v ∧ w'.ownsRow B 35 2 v (ks.eraseIdx i).length (cubes (ks.eraseIdx i)) ∧ w.grownBy w' (some g)
theorem delete_any (B g cap : Nat) (ks : List (Int × Int)) (i : Nat) (w : World) (h : w.ownsRow B 35 2 (.slice (some ⟨g, 0, none⟩) ks.length cap) ks.length (cubes ks)) (hi : i < ks.length) (hl : ks.length ≤ 1000) :
    Calls Try.prog 48 #[.slice (some ⟨g, 0, none⟩) ks.length cap, .int .i64 i, .int .i64 ((i : Int) + 1)] w (Deleted B g ks i w) := by
  obtain ⟨i0, hi0, hz0, hz1, hz2⟩ := info_parts info_cube
  obtain ⟨cur, hh, hcs, hncap, hcm, hBg⟩ : ∃ cur, w.heap[g]? = some (.cells cur 35 (0, 0)) ∧ cur.size = cap * 2 ∧ ks.length ≤ cap ∧ cap ≤ maxLen ∧ B ≤ g := by
    rcases h.2 with ⟨h1, _⟩ | ⟨g', cap', cur, hv, hb, hh, h1, h2, h3, _⟩
    · cases h1
    · injection hv with e1 _ e3
      injection e1 with e1
      injection e1 with e1
      subst e1 e3
      exact ⟨cur, hh, h3, h1, h2, hb⟩
  have hcell : ∀ j u, (cubes ks)[j]? = some u → w.cell? ⟨g, j, none⟩ = some u := by
    intro j u hu
    have := h.cells (g := g) rfl j u hu
    rwa [Go.WideShapes.add_plain, Nat.zero_add] at this
  have hsome : ∀ j, j < cap * 2 → (w.cell? ⟨g, j, none⟩).isSome = true := by
    intro j hj
    rw [cell_of_row w g j cur _ (0, 0) hh]
    simp [hcs, hj]
  have hfree : ∀ j, w.frozen? ⟨g, j, none⟩ = false := blk_free hh
  obtain ⟨news, hnews⟩ : ∃ news, news = cubes (ks.drop (i + 1)) := ⟨_, rfl⟩
  have hnl : news.length = (ks.length - (i + 1)) * 2 := by rw [hnews, cubes_length]; simp
  have hnc : ∀ j u, news[j]? = some u → w.cell? ⟨g, (i + 1) * 2 + j, none⟩ = some u := by
    intro j u hu
    rw [hnews, cubes_drop, List.getElem?_drop] at hu
    exact hcell _ _ hu
  obtain ⟨A, hA, hAn⟩ : ∃ A : Addr, (if cap = i + 1 then some (⟨g, 0, none⟩ : Addr) else some ⟨g, (i + 1) * 2, none⟩) = some A ∧ Hid (∀ j u, news[j]? = some u → w.drew.cell? (A.add j) = some u) := by
    by_cases hc : cap = i + 1
    · refine ⟨⟨g, 0, none⟩, by simp [hc], Lib.hid fun j u hu => ?_⟩
      have : news.length = 0 := by omega
      rw [List.length_eq_zero_iff.1 this] at hu
      simp at hu
    · refine ⟨⟨g, (i + 1) * 2, none⟩, by simp [hc], Lib.hid fun j u hu => ?_⟩
      rw [Addr.add_lit]
      exact hnc j u hu
  have s1 : Hid (news.length = (ks.length - (i + 1)) * 2) := Lib.hid hnl
  have s2 : Hid (∀ u ∈ news, u.oneCell' = true) := Lib.hid (by rw [hnews]; exact cubes_one _)
  have s3 : Hid (∀ j, j < news.length → (w.drew.cell? ⟨g, 0 + i * 2 + j, none⟩).isSome = true ∧ w.drew.frozen? ⟨g, 0 + i * 2 + j, none⟩ = false) := Lib.hid fun j hj => by
    rw [hnl] at hj
    rw [Nat.zero_add]
    exact ⟨hsome _ (by omega), hfree _⟩
  have hic : i ≤ cap := by omega
  have hwr : IntKind.i64.wrap ((i : Int) + 1) = (i : Int) + 1 := IntWalk.i64_in _ (by omega)
  have hp0 : (0 : Int) ≤ (i : Int) + 1 := by omega
  have hp1 : (i : Int) + 1 ≤ (ks.length : Int) := by omega
  have hp2 : ((i : Int) + 1).toNat = i + 1 := by omega
  have hp3 : i + (ks.length - (i + 1)) ≤ cap := by omega
  have hcm' : cap ≤ 9223372036854775807 := by unfold maxLen at hcm; omega
  have HN := Lib.hid hnews
  have HW := Lib.hid (And.intro hh (And.intro hcell (And.intro hsome hfree)))
  have HS := Lib.hid hcs
  have HC := Lib.hid hcm
  clear hh hcell hsome hfree hnl hnc hnews h hcs hcm
  go_enter Try.func48, Try.ntmps48
  go_wp2_with fail
  go_region_law (refine step_append_room rfl (.tmp 22) (.tmp 25) 31 rfl 35 i0 2 Try.underlying31 hi0 hz1 g 0 i cap (by simp [Act.eval, Act.put]) A (ks.length - (i + 1)) (cap - (i + 1)) news (by simp [Act.eval, Act.put]) s1.out hAn.out s2.out (by omega) s3.out ?_)
  obtain ⟨cur1, hh1, hs1⟩ := shape_setCells news (i * 2) w.drew cur HW.out.1
  have hc1 : ∀ j u, (cubes (ks.eraseIdx i))[j]? = some u → (w.drew.setCells g (i * 2) news).cell? ⟨g, j, none⟩ = some u := by
    intro j u hu
    rcases erase_cells hi hu with ⟨h1, h2⟩ | ⟨h1, h2⟩
    · rw [World.cell?_setCells_out g news (i * 2) w.drew ⟨g, j, none⟩ (fun _ _ => by simp only; omega)]
      exact HW.out.2.1 j u h2
    · rw [← HN.out] at h2
      obtain ⟨h3, h4⟩ := List.getElem?_eq_some_iff.1 h2
      have := World.cell?_setCells_in g news (i * 2) w.drew (fun q hq => by have := (s3.out q hq).1; rwa [Nat.zero_add] at this) (j - i * 2) h3
      rw [show i * 2 + (j - i * 2) = j from by omega] at this
      rw [this, ← h4]
  have hg0 : w.grownBy w.drew (some g) := ⟨rfl, rfl, rfl, Nat.le_refl _, fun _ _ _ => rfl⟩
  have hg1 := grown_comp hg0 (grown_setCells g news (i * 2) w.drew)
  generalize w.drew.setCells g (i * 2) news = W1 at *
  have hQ : i + (ks.length - (i + 1)) + 1 = ks.length := by omega
  have hlen : (ks.eraseIdx i).length = i + (ks.length - (i + 1)) := by rw [List.length_eraseIdx_of_lt hi]; omega
  generalize i + (ks.length - (i + 1)) = Q at *
  have hQ1 : ks.length - Q = 1 := by omega
  have hQ2 : Q ≤ ks.length := by omega
  have hcs1 : cur1.size = cap * 2 := hs1.trans HS.out
  have hclr := fun c ty => run_clear_pair W1 g (Q * 2) c ty cur1 hh1 (by rw [hcs1]; omega)
  have HQ := Lib.hid hQ
  have HL := Lib.hid hlen
  have H1 := Lib.hid (And.intro hh1 (And.intro hc1 (And.intro hg1 hcs1)))
  clear hQ hlen hh1 hs1 hc1 hg1 hg0 hcs1 hA
  go_wp2_with fail
  go_ret
  obtain ⟨hh1, hc1, hg1, hcs1⟩ := H1.out
  refine ⟨_, rfl, ?_, grown_comp hg1 (grown_setRow _ _ _)⟩
  rw [HL.out]
  refine own_of_cells (by rw [cubes_length, HL.out]) (setRow_heap W1 g cur1 _ _ _ hh1) ?_ (fun j u hu => ?_) (by omega) HC.out hBg
  · simp [hcs1]
    omega
  · have hj : j < Q * 2 := by
      obtain ⟨hj, _⟩ := List.getElem?_eq_some_iff.1 hu
      rw [cubes_length, HL.out] at hj
      exact hj
    have h0 := hc1 j u hu
    rw [cell_of_row W1 g j cur1 _ (0, 0) hh1] at h0
    rw [cell_of_row _ g j _ _ (0, 0) (setRow_heap W1 g cur1 _ _ _ hh1), ← h0]
    have hjc : j < cur1.size := by omega
    simp [List.getElem?_append, hj, hjc, show j < min (Q * 2) cur1.size by omega]
end Go.Proofs.Ytkkkjbinfdohpaa

namespace Go.Proofs.Ytkkkjbinfdohpaa
open Go.RowKit
namespace Two
theorem istep_length (t n : Nat) (out : List (Nat × Nat)) (k : Nat × Nat) : (istep t n out k).length ≤ out.length + 1 := by
  unfold istep
  split <;> simp
end Two
def ImplOut (T N : Nat) (w : World) (e : Ending) (w' : World) : Prop :=
  ∃ v, e = .returned v ∧ w'.ownsRow w.heap.size 35 2 v (Two.implicants T N).length (cubes ((Two.implicants T N).map intK)) ∧ Below w.heap.size w w'
end Go.Proofs.Ytkkkjbinfdohpaa

namespace Go.Proofs.Ytkkkjbinfdohpaa
open Go.RowKit
theorem own_apart {w : World} {b1 b2 n m : Nat} {e : TypeId} {size : Nat} {v u : Value} {xs ys : List Value} (h : w.ownsRow b1 e size v n xs) (h' : ∀ g, u.ownBlock = some g → g < b1) : ∀ g, v.ownBlock = some g → u.ownBlock ≠ some g := by
  intro g hg hu
  have := own_ge h g hg
  have := h' g hu
  omega
theorem getD_of {α : Type} {l : List α} {i : Nat} {x d : α} (h : l[i]? = some x) : l.getD i d = x := by rw [List.getD_eq_getElem?_getD, h]; rfl
end Go.Proofs.Ytkkkjbinfdohpaa

namespace Go.Proofs.Ytkkkjbinfdohpaa
open Go.RowKit
def ClonedCubes (n : Nat) (cs : List Value) (w : World) (e : Ending) (w' : World) : Prop :=
  ∃ v', e = .returned v' ∧ w'.ownsRow w.heap.size 35 2 v' n cs ∧ Below w.heap.size w w'
theorem clone_any (B : Nat) (v : Value) (ks : List (Int × Int)) (w : World) (h : w.ownsRow B 35 2 v ks.length (cubes ks)) (hn : ks.length ≤ 1000) :
    Calls Try.prog 49 #[v] w (ClonedCubes ks.length (cubes ks) w) := by
  have he := fun (w : World) (a : Option Addr) (n c : Nat) => Lib.run_eql_slice_nil (P := Try.prog) w 31 35 a n c 0 0 Try.underlying31
  rcases h.2 with ⟨rfl, h0⟩ | ⟨g, cap, cur, rfl, hb, hh, h1, h2, h3, h4⟩
  · have hk : ks = [] := List.eq_nil_of_length_eq_zero h0
    subst hk
    clear h
    go_enter Try.func49, Try.ntmps49
    go_wp2_with fail
    go_ret
    exact ⟨_, rfl, World.ownsRow_nil _ _ _ _, Below.refl _ _⟩
  · have hr := Lib.hid (Row.of_own h)
    have Hown0 := Lib.hid (World.ownsRow_lit (base := w.heap.size) (e := 35) (size := 2) w #[] 0 (Nat.le_refl _) (by unfold maxLen; omega) rfl)
    clear hh h4 h
    go_enter Try.func49, Try.ntmps49
    go_wp2_with (at_builtin; refine append_cubes rfl (.tmp 5) (.tmp 6) rfl w.heap.size _ 0 _ rfl Hown0.out _ ks.length (cubes ks) rfl (hr.out.alloc _) (cubes_one _) (by omega) (by simp) ?_; intro v5 w5 hown5 hg5; have Ho5 := Lib.hid hown5; have Hg5 := Lib.hid hg5; clear hown5 hg5)
    go_ret
    refine ⟨_, rfl, ?_, ((Below.refl _ _).alloc (Nat.le_refl _) _).grown Hg5.out (by simp) (own_ge Hown0.out)⟩
    have := Ho5.out
    simpa using this
def Dropped (ks : List (Int × Int)) (i : Nat) (w : World) (e : Ending) (w' : World) : Prop :=
  ∃ v', e = .returned v' ∧ w'.ownsRow w.heap.size 35 2 v' (ks.eraseIdx i).length (cubes (ks.eraseIdx i)) ∧ Below w.heap.size w w'
end Go.Proofs.Ytkkkjbinfdohpaa

namespace Go.Proofs.Ytkkkjbinfdohpaa
open Go.RowKit
theorem natK_intK (k : Nat × Nat) : natK (intK k) = k := rfl
theorem map_natK (L : List (Nat × Nat)) : (L.map intK).map natK = L := by
  rw [List.map_map]
  exact List.map_id _
theorem okI_of {N : Nat} {k : Nat × Nat} (hN : N ≤ 4) (h1 : k.1 < 2 ^ N) (h2 : Two.fine k = true) : okI N (intK k) = true := by
  have h3 : 2 ^ N ≤ 16 := Nat.pow_le_pow_right (show 0 < 2 by decide) hN
  have hle : k.2 ≤ k.1 := by
    have h4 : k.2 &&& k.1 = k.2 := by unfold Two.fine at h2; rwa [beq_iff_eq] at h2
    rw [← h4]
    exact Nat.and_le_right
  unfold okI intK
  simp only
  rw [Bool.and_eq_true, decide_eq_true_eq, andNot_nat k.2 k.1 (by omega) (by omega)]
  refine ⟨⟨by omega, by rw [two_pow]; omega⟩, h2⟩
theorem cover_nat {N : Nat} {L : List (Nat × Nat)} (hN : N ≤ 4) (hl : L.length ≤ 100) (h : ∀ k ∈ L, k.1 < 2 ^ N ∧ Two.fine k = true) : coverI N (L.map intK) = (Two.tableOf L N : Int) := by
  have hall : (L.map intK).all (okI N) = true := by
    rw [List.all_eq_true]
    intro k hk
    obtain ⟨k', hk', rfl⟩ := List.mem_map.1 hk
    exact okI_of hN (h k' hk').1 (h k' hk').2
  rw [coverI, if_pos ⟨by omega, by omega, by simpa using hl⟩]
  rw [show ((N : Int).toNat) = N from rfl, covFrom_all hall, map_natK]
theorem erase_map (L : List (Nat × Nat)) : ∀ i, (L.map intK).eraseIdx i = (L.eraseIdx i).map intK := by
  induction L with
  | nil => intro i; rfl
  | cons k L ih =>
    intro i
    cases i with
    | zero => rfl
    | succ i => simp [List.eraseIdx_cons_succ, ih i]
/-- What MinimizeTable returns. -/
def minimalI (t n : Int) : List (Nat × Nat) := if fitsT t n then Two.minimal t.toNat n.toNat else []
def MinOut (t n : Int) (w : World) (e : Ending) (w' : World) : Prop :=
  ∃ v, e = .returned v ∧ w'.ownsRow w.heap.size 35 2 v (minimalI t n).length (cubes ((minimalI t n).map intK)) ∧ Below w.heap.size w w'
theorem mem_primes_bd {T N : Nat} (hN : N ≤ 4) {k : Nat × Nat} (h : k ∈ Two.primes T N) : k.1 < 2 ^ N ∧ Two.fine k = true ∧ k.1 < 65536 := by
  have h1 := Two.mem_implicants.1 (Two.mem_primes.1 h).1
  have h2 : 2 ^ N ≤ 16 := Nat.pow_le_pow_right (show 0 < 2 by decide) hN
  exact ⟨h1.1, h1.2.2.1, by omega⟩
end Go.Proofs.Ytkkkjbinfdohpaa
