import Derived.Test.YtlpellciiiflkaaTwoA
namespace Go.Proofs.Ytlpellciiiflkaa
open Go.RowKit
/-! Slices of cubes, and the two CoverTables. -/

/-- The cubes as cells. -/
def cubes (ks : List (Int × Int)) : List Value := ks.flatMap fun k => [.int .i64 k.1, .int .i64 k.2]
theorem cubes_length (ks : List (Int × Int)) : (cubes ks).length = ks.length * 2 := by
  induction ks with
  | nil => rfl
  | cons k ks ih => simp [cubes] at ih ⊢; omega
theorem cubes_append (a b : List (Int × Int)) : cubes (a ++ b) = cubes a ++ cubes b := by simp [cubes]
theorem cubes_get {ks : List (Int × Int)} {i : Nat} {k : Int × Int} (h : ks[i]? = some k) : (cubes ks)[i * 2]? = some (.int .i64 k.1) ∧ (cubes ks)[i * 2 + 1]? = some (.int .i64 k.2) := by
  induction ks generalizing i with
  | nil => simp at h
  | cons a ks ih =>
    cases i with
    | zero =>
      have : a = k := by simpa using h
      subst this
      simp [cubes]
    | succ i =>
      have := ih (i := i) (by simpa using h)
      have e : (i + 1) * 2 = i * 2 + 1 + 1 := by omega
      rw [e]
      simpa [cubes] using this
def CubesAt (w : World) (v : Value) (ks : List (Int × Int)) : Prop := Row w 2 v ks.length (cubes ks)
theorem at_some {α : Type} {xs : List α} {i : Nat} (h : i < xs.length) : ∃ x, xs[i]? = some x := ⟨xs[i], List.getElem?_eq_getElem h⟩
/-- A cube of a slice, where it lies. -/
theorem cubes_open {w wr : World} {A : Option Addr} {n c : Nat} {ks : List (Int × Int)} (h : Row w 2 (.slice A n c) n (cubes ks)) (hb : Below w.heap.size w wr) {i : Nat} (hn : n = ks.length) (hi : i < ks.length) :
    ∃ b o k, A = some ⟨b, o, none⟩ ∧ b < w.heap.size ∧ Hid (ks[i]? = some k) ∧ wr.cell? ⟨b, o + i * 2, none⟩ = some (.int .i64 k.1) ∧ wr.cell? ⟨b, o + i * 2 + 1, none⟩ = some (.int .i64 k.2) := by
  subst hn
  obtain ⟨b, o, c', hv, _, _, hbl, hcell⟩ := h.open (by omega)
  obtain ⟨rfl, _⟩ : A = some ⟨b, o, none⟩ ∧ True := by injection hv with e1; exact ⟨e1, trivial⟩
  obtain ⟨k, hk⟩ := at_some hi
  obtain ⟨h1, h2⟩ := cubes_get hk
  refine ⟨b, o, k, rfl, hbl, Lib.hid hk, (hb.cell (p := ⟨b, _, none⟩) hbl).trans (hcell _ _ h1), ?_⟩
  rw [Nat.add_assoc]
  exact (hb.cell (p := ⟨b, _, none⟩) hbl).trans (hcell _ _ h2)

/-- A cube fits n variables. -/
def okI (N : Nat) (k : Int × Int) : Bool := decide (0 ≤ k.1 ∧ k.1 < (2 : Int) ^ N) && (bits .andNot .i64 k.2 k.1 == 0)
theorem andNot_iff {c v : Int} (h1 : -9223372036854775808 ≤ v) (h2 : v ≤ 9223372036854775807) : bits .andNot .i64 v c = 0 ↔ bits .and .i64 v c = v := by
  constructor
  · intro h
    have h : IntKind.i64.wrap ((BitVec.ofInt 64 v &&& ~~~(BitVec.ofInt 64 c)).toNat : Int) = 0 := h
    have hz : BitVec.ofInt 64 v &&& ~~~(BitVec.ofInt 64 c) = 0#64 := by
      rw [← ofInt_wrap (BitVec.ofInt 64 v &&& ~~~(BitVec.ofInt 64 c)), h]
      rfl
    have he : BitVec.ofInt 64 v &&& BitVec.ofInt 64 c = BitVec.ofInt 64 v := by
      apply BitVec.eq_of_getLsbD_eq
      intro i hi
      have := congrArg (fun b => b.getLsbD i) hz
      simp only [BitVec.getLsbD_and, BitVec.getLsbD_not, hi, decide_true, Bool.true_and, BitVec.getLsbD_zero] at this ⊢
      cases hv : (BitVec.ofInt 64 v).getLsbD i <;> cases hc : (BitVec.ofInt 64 c).getLsbD i <;> simp_all
    show IntKind.i64.wrap ((BitVec.ofInt 64 v &&& BitVec.ofInt 64 c).toNat : Int) = v
    rw [he, IntKind.wrap_i64, BitVec.toNat_ofInt]
    omega
  · exact andNot_of_and
/-- A cube that fits is one of natural numbers. -/
def natK (k : Int × Int) : Nat × Nat := (k.1.toNat, k.2.toNat)
def intK (k : Nat × Nat) : Int × Int := (k.1, k.2)
def WfK (k : Int × Int) : Prop := -9223372036854775808 ≤ k.2 ∧ k.2 ≤ 9223372036854775807
theorem and_nonneg {v : Int} {C : Nat} (h : bits .and .i64 v (C : Int) = v) (hC : C < 9223372036854775808) : 0 ≤ v ∧ v ≤ C := by
  have h : IntKind.i64.wrap ((BitVec.ofInt 64 v &&& BitVec.ofInt 64 (C : Int)).toNat : Int) = v := h
  have h1 : (BitVec.ofInt 64 v &&& BitVec.ofInt 64 (C : Int)).toNat ≤ C := by
    rw [BitVec.toNat_and, ofInt64 C (by omega)]
    exact Nat.and_le_right
  rw [IntKind.wrap_i64] at h
  omega
theorem okI_nat {N : Nat} {k : Int × Int} (hN : N ≤ 4) (hw : WfK k) (h : okI N k = true) :
    ∃ C V : Nat, k = ((C : Int), (V : Int)) ∧ C < 2 ^ N ∧ C < 16 ∧ V ≤ C ∧ Two.fine (C, V) = true := by
  obtain ⟨c, v⟩ := k
  unfold okI at h
  rw [Bool.and_eq_true, decide_eq_true_eq, beq_iff_eq] at h
  obtain ⟨⟨h1, h2⟩, h3⟩ := h
  simp only at h1 h2 h3
  obtain ⟨C, rfl⟩ := Int.eq_ofNat_of_zero_le h1
  rw [two_pow] at h2
  have hp : 2 ^ N ≤ 16 := by
    have := Nat.pow_le_pow_right (show 0 < 2 by decide) hN
    simpa using this
  have h4 := (andNot_iff hw.1 hw.2).1 h3
  simp only at h4
  obtain ⟨h5, h6⟩ := and_nonneg h4 (by omega)
  obtain ⟨V, rfl⟩ := Int.eq_ofNat_of_zero_le h5
  refine ⟨C, V, rfl, by omega, by omega, by omega, ?_⟩
  rw [i64_and_nat V C (by omega) (by omega)] at h4
  unfold Two.fine
  rw [beq_iff_eq]
  exact Int.ofNat.inj h4
theorem hasI_nat (C V X : Nat) (hC : C < 9223372036854775808) (hX : X < 9223372036854775808) : hasI (C : Int) (V : Int) (X : Int) = Two.has (C, V) X := by
  unfold hasI Two.has
  rw [i64_and_nat X C hX hC]
  have : decide (0 ≤ (X : Int)) = true := decide_eq_true (by omega)
  rw [this, Bool.true_and]
  rw [Bool.eq_iff_iff, beq_iff_eq, beq_iff_eq]
  constructor
  · intro h; exact Int.ofNat.inj h
  · intro h; rw [h]
theorem addTo_lt {k : Nat × Nat} {t : Nat} (ht : t < 65536) : ∀ {m : Nat}, m ≤ 16 → Two.addTo k t m < 65536
  | 0, _ => ht
  | m + 1, h => by
    rw [Two.addTo]
    have ih := addTo_lt (k := k) ht (m := m) (by omega)
    split
    · have : 2 ^ m < 65536 := Nat.lt_of_le_of_lt (Nat.pow_le_pow_right (by decide) (show m ≤ 15 by omega)) (by decide)
      exact Nat.or_lt_two_pow (n := 16) ih this
    · exact ih
/-- What is left of a cover's table. -/
def covFrom (N : Nat) (l : List (Int × Int)) (t : Nat) : Int := if l.all (okI N) then ((l.foldl (fun t k => Two.addTo (natK k) t (2 ^ N)) t : Nat) : Int) else -1
def coverI (n : Int) (ks : List (Int × Int)) : Int := if 0 ≤ n ∧ n ≤ 4 ∧ ks.length ≤ 100 then covFrom n.toNat ks 0 else -1
theorem covFrom_step {N : Nat} {ks : List (Int × Int)} {k : Nat} {x : Int × Int} (t : Nat) (h : ks[k]? = some x) (hx : okI N x = true) : covFrom N (ks.drop k) t = covFrom N (ks.drop (k + 1)) (Two.addTo (natK x) t (2 ^ N)) := by
  have e : ks.drop k = x :: ks.drop (k + 1) := by
    obtain ⟨hk, rfl⟩ := List.getElem?_eq_some_iff.1 h
    exact List.drop_eq_getElem_cons hk
  rw [e, covFrom, covFrom, List.all_cons, hx, Bool.true_and, List.foldl_cons]
theorem covFrom_bad {N : Nat} {ks : List (Int × Int)} {k : Nat} {x : Int × Int} (t : Nat) (h : ks[k]? = some x) (hx : okI N x = false) : covFrom N (ks.drop k) t = -1 := by
  have e : ks.drop k = x :: ks.drop (k + 1) := by
    obtain ⟨hk, rfl⟩ := List.getElem?_eq_some_iff.1 h
    exact List.drop_eq_getElem_cons hk
  rw [e, covFrom, List.all_cons, hx, Bool.false_and]
  simp
theorem covFrom_done {N : Nat} {ks : List (Int × Int)} {k : Nat} (t : Nat) (h : ks.length ≤ k) : covFrom N (ks.drop k) t = t := by
  rw [List.drop_eq_nil_of_le h]
  simp [covFrom]
theorem okI_cases {N : Nat} {k : Int × Int} (h : okI N k = false) : k.1 < 0 ∨ (0 ≤ k.1 ∧ (2 : Int) ^ N ≤ k.1) ∨ (0 ≤ k.1 ∧ k.1 < (2 : Int) ^ N ∧ (bits .andNot .i64 k.2 k.1 == 0) = false) := by
  unfold okI at h
  rw [Bool.and_eq_false_iff, decide_eq_false_iff_not] at h
  rcases h with h | h
  · omega
  · by_cases h0 : k.1 < 0
    · exact .inl h0
    · by_cases h1 : k.1 < 2 ^ N
      · exact .inr (.inr ⟨by omega, h1, h⟩)
      · exact .inr (.inl ⟨by omega, by omega⟩)
theorem okI_parts {N : Nat} {k : Int × Int} (h : okI N k = true) : 0 ≤ k.1 ∧ k.1 < (2 : Int) ^ N ∧ (bits .andNot .i64 k.2 k.1 == 0) = true := by
  unfold okI at h
  rw [Bool.and_eq_true, decide_eq_true_eq] at h
  exact ⟨h.1.1, h.1.2, h.2⟩
end Go.Proofs.Ytlpellciiiflkaa
