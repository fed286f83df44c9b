import Derived.Test.YtlbfejdbfhgifaaS01
import Derived.Test.YtlbfejdbfhgifaaProg
import Derived.Test.YtlbfejdbfhgifaaS02
import Derived.StillTailTactics
import Derived.Deep.RegionWith
import Derived.Deep.DeepCutAuto
import Derived.Test.YtlbfejdbfhgifaaS04
set_option linter.unusedVariables false
set_option linter.unusedSimpArgs false
namespace Go.Proofs.Ytlbfejdbfhgifaa
namespace Two
/-! Plain two-level logic: cubes (care, value), truth tables as natural numbers. -/

/-- A cube is true for assignment x. -/
def has (k : Nat × Nat) (x : Nat) : Bool := x &&& k.1 == k.2
/-- The value's bits lie within the care's. -/
def fine (k : Nat × Nat) : Bool := k.2 &&& k.1 == k.2
theorem has_iff (k : Nat × Nat) (x : Nat) : has k x = true ↔ ∀ i, (x.testBit i && k.1.testBit i) = k.2.testBit i := by
  unfold has
  rw [beq_iff_eq]
  constructor
  · intro h i
    rw [← h, Nat.testBit_and]
  · intro h
    apply Nat.eq_of_testBit_eq
    intro i
    rw [Nat.testBit_and, h i]
theorem fine_iff (k : Nat × Nat) : fine k = true ↔ ∀ i, k.2.testBit i = true → k.1.testBit i = true := by
  unfold fine
  rw [beq_iff_eq]
  constructor
  · intro h i hi
    rw [← h, Nat.testBit_and] at hi
    exact (Bool.and_eq_true _ _ ▸ hi).2
  · intro h
    apply Nat.eq_of_testBit_eq
    intro i
    rw [Nat.testBit_and]
    cases hv : k.2.testBit i
    · simp
    · simp [h i hv]
theorem has_fine {k : Nat × Nat} {x : Nat} (h : has k x = true) : fine k = true := by
  rw [fine_iff]
  intro i hi
  have := (has_iff k x).1 h i
  rw [hi] at this
  exact (Bool.and_eq_true _ _ ▸ this).2

/-- A cube implies a table of n variables. -/
def within (k : Nat × Nat) (t n : Nat) : Bool := (List.range (2 ^ n)).all fun x => !has k x || t.testBit x
theorem within_iff (k : Nat × Nat) (t n : Nat) : within k t n = true ↔ ∀ x, x < 2 ^ n → has k x = true → t.testBit x = true := by
  unfold within
  rw [List.all_eq_true]
  constructor
  · intro h x hx hk
    have := h x (List.mem_range.2 hx)
    simpa [hk] using this
  · intro h x hx
    have := h x (List.mem_range.1 hx)
    cases hk : has k x
    · simp
    · simp [this hk]

/-- a implies b: every literal of b stands in a. -/
def gen (a b : Nat × Nat) : Bool := a.1 &&& b.1 == b.1 && a.2 &&& b.1 == b.2
theorem gen_iff (a b : Nat × Nat) : gen a b = true ↔ (∀ i, b.1.testBit i = true → a.1.testBit i = true) ∧ ∀ i, (a.2.testBit i && b.1.testBit i) = b.2.testBit i := by
  unfold gen
  rw [Bool.and_eq_true, beq_iff_eq, beq_iff_eq]
  constructor
  · rintro ⟨h1, h2⟩
    refine ⟨fun i hi => ?_, fun i => by rw [← h2, Nat.testBit_and]⟩
    rw [← h1, Nat.testBit_and] at hi
    exact (Bool.and_eq_true _ _ ▸ hi).1
  · rintro ⟨h1, h2⟩
    refine ⟨Nat.eq_of_testBit_eq fun i => ?_, Nat.eq_of_testBit_eq fun i => ?_⟩
    · rw [Nat.testBit_and]
      cases hb : b.1.testBit i
      · simp
      · simp [h1 i hb]
    · rw [Nat.testBit_and, h2 i]
theorem gen_refl {a : Nat × Nat} (h : fine a = true) : gen a a = true := by
  rw [gen_iff]
  refine ⟨fun _ h => h, fun i => ?_⟩
  have := (fine_iff a).1 h i
  cases hv : a.2.testBit i
  · simp
  · simp [this hv]
theorem gen_trans {a b c : Nat × Nat} (h : gen a b = true) (h' : gen b c = true) : gen a c = true := by
  rw [gen_iff] at *
  refine ⟨fun i hi => h.1 i (h'.1 i hi), fun i => ?_⟩
  rw [← h'.2 i, ← h.2 i]
  cases hc : c.1.testBit i
  · simp
  · simp [h'.1 i hc]
theorem gen_has {a b : Nat × Nat} (h : gen a b = true) {x : Nat} (hx : has a x = true) : has b x = true := by
  rw [gen_iff] at h
  rw [has_iff] at *
  intro i
  rw [← h.2 i, ← hx i]
  cases hb : b.1.testBit i
  · simp
  · simp [h.1 i hb]
theorem gen_fine {a b : Nat × Nat} (h : gen a b = true) : fine b = true := by
  rw [gen_iff] at h
  rw [fine_iff]
  intro i hi
  rw [← h.2 i] at hi
  exact (Bool.and_eq_true _ _ ▸ hi).2
/-- The more general cube has the smaller care; with the same care it is the same cube. -/
theorem gen_le {a b : Nat × Nat} (h : gen a b = true) : b.1 ≤ a.1 := by
  have h1 : a.1 &&& b.1 = b.1 := by
    unfold gen at h
    rw [Bool.and_eq_true, beq_iff_eq] at h
    exact h.1
  rw [← h1]
  exact Nat.and_le_left
theorem gen_eq {a b : Nat × Nat} (ha : fine a = true) (h : gen a b = true) (he : b.1 = a.1) : b = a := by
  have h2 : a.2 &&& b.1 = b.2 := by
    unfold gen at h
    rw [Bool.and_eq_true, beq_iff_eq, beq_iff_eq] at h
    exact h.2
  unfold fine at ha
  rw [beq_iff_eq] at ha
  rw [he, ha] at h2
  exact Prod.ext he h2.symm

/-! ### Tables -/
/-- The table t with the assignments below m that the cube has. -/
def addTo (k : Nat × Nat) (t : Nat) : Nat → Nat
  | 0 => t
  | m + 1 => if has k m then addTo k t m ||| 2 ^ m else addTo k t m
theorem addTo_bit (k : Nat × Nat) (t : Nat) : ∀ m x, (addTo k t m).testBit x = (t.testBit x || (decide (x < m) && has k x))
  | 0, x => by simp [addTo]
  | m + 1, x => by
    rw [addTo]
    split
    · rename_i h
      rw [Nat.testBit_or, addTo_bit k t m x, Nat.testBit_two_pow]
      by_cases e : m = x
      · subst e; simp [h]
      · simp only [e, decide_false, Bool.or_false]
        congr 2
        exact decide_eq_decide.2 ⟨fun h => by omega, fun h => by omega⟩
    · rename_i h
      rw [addTo_bit k t m x]
      by_cases e : m = x
      · subst e; simp [h]
      · congr 2
        exact decide_eq_decide.2 ⟨fun h => by omega, fun h => by omega⟩
/-- The table of a list of cubes, of n variables. -/
def tableOf (l : List (Nat × Nat)) (n : Nat) : Nat := l.foldl (fun t k => addTo k t (2 ^ n)) 0
theorem fold_bit (n x : Nat) : ∀ (l : List (Nat × Nat)) (t : Nat), (l.foldl (fun t k => addTo k t (2 ^ n)) t).testBit x = (t.testBit x || (decide (x < 2 ^ n) && l.any (has · x)))
  | [], t => by simp
  | k :: l, t => by
    rw [List.foldl_cons, fold_bit n x l, addTo_bit, List.any_cons]
    cases t.testBit x <;> cases decide (x < 2 ^ n) <;> simp
theorem tableOf_bit (l : List (Nat × Nat)) (n x : Nat) : (tableOf l n).testBit x = (decide (x < 2 ^ n) && l.any (has · x)) := by
  rw [tableOf, fold_bit]; simp
theorem tableOf_lt (l : List (Nat × Nat)) (n : Nat) : tableOf l n < 2 ^ 2 ^ n := by
  refine Nat.lt_pow_two_of_testBit _ fun i hi => ?_
  rw [tableOf_bit]
  simp [Nat.not_lt.2 hi]
theorem table_ext {a b n : Nat} (ha : a < 2 ^ 2 ^ n) (hb : b < 2 ^ 2 ^ n) (h : ∀ x, x < 2 ^ n → a.testBit x = b.testBit x) : a = b := by
  apply Nat.eq_of_testBit_eq
  intro i
  by_cases hi : i < 2 ^ n
  · exact h i hi
  · rw [Nat.testBit_lt_two_pow (Nat.lt_of_lt_of_le ha (Nat.pow_le_pow_right (by decide) (by omega))), Nat.testBit_lt_two_pow (Nat.lt_of_lt_of_le hb (Nat.pow_le_pow_right (by decide) (by omega)))]
end Two
end Go.Proofs.Ytlbfejdbfhgifaa

namespace Go.Proofs.Ytlbfejdbfhgifaa
open Go.RowKit

theorem ofInt_wrap (b : BitVec 64) : BitVec.ofInt 64 (IntKind.i64.wrap (b.toNat : Int)) = b := by
  apply BitVec.eq_of_toNat_eq
  rw [BitVec.toNat_ofInt, IntKind.wrap_i64]
  have := b.isLt
  omega
/-- What a cube has lies within its care. -/
theorem andNot_of_and {x c v : Int} (h : bits .and .i64 x c = v) : bits .andNot .i64 v c = 0 := by
  subst h
  show IntKind.i64.wrap (((BitVec.ofInt 64 (IntKind.i64.wrap ((BitVec.ofInt 64 x &&& BitVec.ofInt 64 c).toNat : Int)) &&& ~~~(BitVec.ofInt 64 c)).toNat : Nat) : Int) = 0
  rw [ofInt_wrap]
  have : BitVec.ofInt 64 x &&& BitVec.ofInt 64 c &&& ~~~(BitVec.ofInt 64 c) = 0#64 := by
    apply BitVec.eq_of_getLsbD_eq
    intro i hi
    simp
    intro _ h _
    exact h
  rw [this]
  rfl
/-- A cube is true for x. -/
def hasI (c v x : Int) : Bool := decide (0 ≤ x) && (bits .and .i64 x c == v)
def cubeV (c v : Int) : Value := .agg #[.int .i64 c, .int .i64 v]

theorem implHas_any (c v x : Int) (w : World) :
    Calls Try.prog 116 #[.agg #[.int .i64 c, .int .i64 v], .int .i64 x] w
      fun e w' => e = .returned (.bool (hasI c v x)) ∧ Below w.heap.size w w' := by
  by_cases hx : 0 ≤ x
  · cases hb : (bits .and .i64 x c == v)
    · cases hn : (bits .andNot .i64 v c == 0)
      all_goals
        go_enter Try.func116, Try.ntmps116
        go_wp2
        go_ret
        exact ⟨ret_bool (by simp [hasI, hx, hb]), (Below.refl _ _).alloc (Nat.le_refl _) _⟩
    · have hn : (bits .andNot .i64 v c == 0) = true := beq_iff_eq.2 (andNot_of_and (beq_iff_eq.1 hb))
      go_enter Try.func116, Try.ntmps116
      go_wp2
      go_ret
      exact ⟨ret_bool (by simp [hasI, hx, hb]), (Below.refl _ _).alloc (Nat.le_refl _) _⟩
  · go_enter Try.func116, Try.ntmps116
    go_wp2
    go_ret
    exact ⟨ret_bool (by simp [hasI]; intro h0; omega), (Below.refl _ _).alloc (Nat.le_refl _) _⟩
end Go.Proofs.Ytlbfejdbfhgifaa

namespace Go.Proofs.Ytlbfejdbfhgifaa
open Go.RowKit
/-! Slices of cubes, and the two CoverTables. -/

/-- A cube fits n variables. -/
def okI (N : Nat) (k : Int × Int) : Bool := decide (0 ≤ k.1 ∧ k.1 < (2 : Int) ^ N) && (bits .andNot .i64 k.2 k.1 == 0)
theorem andNot_iff {c v : Int} (h1 : -9223372036854775808 ≤ v) (h2 : v ≤ 9223372036854775807) : bits .andNot .i64 v c = 0 ↔ bits .and .i64 v c = v := by
  constructor
  · intro h
    have h : IntKind.i64.wrap ((BitVec.ofInt 64 v &&& ~~~(BitVec.ofInt 64 c)).toNat : Int) = 0 := h
    have hz : BitVec.ofInt 64 v &&& ~~~(BitVec.ofInt 64 c) = 0#64 := by
      rw [← ofInt_wrap (BitVec.ofInt 64 v &&& ~~~(BitVec.ofInt 64 c)), h]
      rfl
    have he : BitVec.ofInt 64 v &&& BitVec.ofInt 64 c = BitVec.ofInt 64 v := by
      apply BitVec.eq_of_getLsbD_eq
      intro i hi
      have := congrArg (fun b => b.getLsbD i) hz
      simp only [BitVec.getLsbD_and, BitVec.getLsbD_not, hi, decide_true, Bool.true_and, BitVec.getLsbD_zero] at this ⊢
      cases hv : (BitVec.ofInt 64 v).getLsbD i <;> cases hc : (BitVec.ofInt 64 c).getLsbD i <;> simp_all
    show IntKind.i64.wrap ((BitVec.ofInt 64 v &&& BitVec.ofInt 64 c).toNat : Int) = v
    rw [he, IntKind.wrap_i64, BitVec.toNat_ofInt]
    omega
  · exact andNot_of_and
/-- A cube that fits is one of natural numbers. -/
def natK (k : Int × Int) : Nat × Nat := (k.1.toNat, k.2.toNat)
def intK (k : Nat × Nat) : Int × Int := (k.1, k.2)
def WfK (k : Int × Int) : Prop := -9223372036854775808 ≤ k.2 ∧ k.2 ≤ 9223372036854775807
theorem and_nonneg {v : Int} {C : Nat} (h : bits .and .i64 v (C : Int) = v) (hC : C < 9223372036854775808) : 0 ≤ v ∧ v ≤ C := by
  have h : IntKind.i64.wrap ((BitVec.ofInt 64 v &&& BitVec.ofInt 64 (C : Int)).toNat : Int) = v := h
  have h1 : (BitVec.ofInt 64 v &&& BitVec.ofInt 64 (C : Int)).toNat ≤ C := by
    rw [BitVec.toNat_and, ofInt64 C (by omega)]
    exact Nat.and_le_right
  rw [IntKind.wrap_i64] at h
  omega
theorem okI_nat {N : Nat} {k : Int × Int} (hN : N ≤ 4) (hw : WfK k) (h : okI N k = true) :
    ∃ C V : Nat, k = ((C : Int), (V : Int)) ∧ C < 2 ^ N ∧ C < 16 ∧ V ≤ C ∧ Two.fine (C, V) = true := by
  obtain ⟨c, v⟩ := k
  unfold okI at h
  rw [Bool.and_eq_true, decide_eq_true_eq, beq_iff_eq] at h
  obtain ⟨⟨h1, h2⟩, h3⟩ := h
  simp only at h1 h2 h3
  obtain ⟨C, rfl⟩ := Int.eq_ofNat_of_zero_le h1
  rw [two_pow] at h2
  have hp : 2 ^ N ≤ 16 := by
    have := Nat.pow_le_pow_right (show 0 < 2 by decide) hN
    simpa using this
  have h4 := (andNot_iff hw.1 hw.2).1 h3
  simp only at h4
  obtain ⟨h5, h6⟩ := and_nonneg h4 (by omega)
  obtain ⟨V, rfl⟩ := Int.eq_ofNat_of_zero_le h5
  refine ⟨C, V, rfl, by omega, by omega, by omega, ?_⟩
  rw [i64_and_nat V C (by omega) (by omega)] at h4
  unfold Two.fine
  rw [beq_iff_eq]
  exact Int.ofNat.inj h4
theorem hasI_nat (C V X : Nat) (hC : C < 9223372036854775808) (hX : X < 9223372036854775808) : hasI (C : Int) (V : Int) (X : Int) = Two.has (C, V) X := by
  unfold hasI Two.has
  rw [i64_and_nat X C hX hC]
  have : decide (0 ≤ (X : Int)) = true := decide_eq_true (by omega)
  rw [this, Bool.true_and]
  rw [Bool.eq_iff_iff, beq_iff_eq, beq_iff_eq]
  constructor
  · intro h; exact Int.ofNat.inj h
  · intro h; rw [h]
theorem addTo_lt {k : Nat × Nat} {t : Nat} (ht : t < 65536) : ∀ {m : Nat}, m ≤ 16 → Two.addTo k t m < 65536
  | 0, _ => ht
  | m + 1, h => by
    rw [Two.addTo]
    have ih := addTo_lt (k := k) ht (m := m) (by omega)
    split
    · have : 2 ^ m < 65536 := Nat.lt_of_le_of_lt (Nat.pow_le_pow_right (by decide) (show m ≤ 15 by omega)) (by decide)
      exact Nat.or_lt_two_pow (n := 16) ih this
    · exact ih
/-- What is left of a cover's table. -/
def covFrom (N : Nat) (l : List (Int × Int)) (t : Nat) : Int := if l.all (okI N) then ((l.foldl (fun t k => Two.addTo (natK k) t (2 ^ N)) t : Nat) : Int) else -1
def coverI (n : Int) (ks : List (Int × Int)) : Int := if 0 ≤ n ∧ n ≤ 4 ∧ ks.length ≤ 100 then covFrom n.toNat ks 0 else -1
theorem covFrom_step {N : Nat} {ks : List (Int × Int)} {k : Nat} {x : Int × Int} (t : Nat) (h : ks[k]? = some x) (hx : okI N x = true) : covFrom N (ks.drop k) t = covFrom N (ks.drop (k + 1)) (Two.addTo (natK x) t (2 ^ N)) := by
  have e : ks.drop k = x :: ks.drop (k + 1) := by
    obtain ⟨hk, rfl⟩ := List.getElem?_eq_some_iff.1 h
    exact List.drop_eq_getElem_cons hk
  rw [e, covFrom, covFrom, List.all_cons, hx, Bool.true_and, List.foldl_cons]
theorem covFrom_bad {N : Nat} {ks : List (Int × Int)} {k : Nat} {x : Int × Int} (t : Nat) (h : ks[k]? = some x) (hx : okI N x = false) : covFrom N (ks.drop k) t = -1 := by
  have e : ks.drop k = x :: ks.drop (k + 1) := by
    obtain ⟨hk, rfl⟩ := List.getElem?_eq_some_iff.1 h
    exact List.drop_eq_getElem_cons hk
  rw [e, covFrom, List.all_cons, hx, Bool.false_and]
  simp
theorem covFrom_done {N : Nat} {ks : List (Int × Int)} {k : Nat} (t : Nat) (h : ks.length ≤ k) : covFrom N (ks.drop k) t = t := by
  rw [List.drop_eq_nil_of_le h]
  simp [covFrom]
theorem okI_cases {N : Nat} {k : Int × Int} (h : okI N k = false) : k.1 < 0 ∨ (0 ≤ k.1 ∧ (2 : Int) ^ N ≤ k.1) ∨ (0 ≤ k.1 ∧ k.1 < (2 : Int) ^ N ∧ (bits .andNot .i64 k.2 k.1 == 0) = false) := by
  unfold okI at h
  rw [Bool.and_eq_false_iff, decide_eq_false_iff_not] at h
  rcases h with h | h
  · omega
  · by_cases h0 : k.1 < 0
    · exact .inl h0
    · by_cases h1 : k.1 < 2 ^ N
      · exact .inr (.inr ⟨by omega, h1, h⟩)
      · exact .inr (.inl ⟨by omega, by omega⟩)
theorem okI_parts {N : Nat} {k : Int × Int} (h : okI N k = true) : 0 ≤ k.1 ∧ k.1 < (2 : Int) ^ N ∧ (bits .andNot .i64 k.2 k.1 == 0) = true := by
  unfold okI at h
  rw [Bool.and_eq_true, decide_eq_true_eq] at h
  exact ⟨h.1.1, h.1.2, h.2⟩
end Go.Proofs.Ytlbfejdbfhgifaa

namespace Go.Proofs.Ytlbfejdbfhgifaa
open Go.RowKit

end Go.Proofs.Ytlbfejdbfhgifaa

namespace Go.Proofs.Ytlbfejdbfhgifaa
open Go.RowKit
def orRow (l : List (Nat × Nat)) (x t : Nat) : Nat := l.foldl (fun t k => if Two.has k x then t ||| 2 ^ x else t) t
def specTab (l : List (Nat × Nat)) : Nat → Nat
  | 0 => 0
  | m + 1 => orRow l m (specTab l m)
theorem orRow_bit (x i : Nat) : ∀ (l : List (Nat × Nat)) (t : Nat), (orRow l x t).testBit i = (t.testBit i || (decide (x = i) && l.any (Two.has · x)))
  | [], t => by simp [orRow]
  | k :: l, t => by
    have ih := orRow_bit x i l
    unfold orRow at ih ⊢
    rw [List.foldl_cons, ih, List.any_cons]
    split
    · rename_i h
      rw [Nat.testBit_or, Nat.testBit_two_pow, h]
      cases t.testBit i <;> cases decide (x = i) <;> simp
    · rename_i h
      simp [h]
theorem specTab_bit (l : List (Nat × Nat)) : ∀ m i, (specTab l m).testBit i = (decide (i < m) && l.any (Two.has · i))
  | 0, i => by simp [specTab]
  | m + 1, i => by
    rw [specTab, orRow_bit, specTab_bit l m i]
    by_cases e : m = i
    · subst e; simp
    · have : decide (i < m + 1) = decide (i < m) := decide_eq_decide.2 ⟨fun h => by omega, fun h => by omega⟩
      simp [e, this]
theorem specTab_eq (l : List (Nat × Nat)) (n : Nat) : specTab l (2 ^ n) = Two.tableOf l n := by
  apply Nat.eq_of_testBit_eq
  intro i
  rw [specTab_bit, Two.tableOf_bit]
theorem fold_map {N : Nat} : ∀ (ks : List (Int × Int)) (t : Nat), ks.foldl (fun t k => Two.addTo (natK k) t (2 ^ N)) t = (ks.map natK).foldl (fun t k => Two.addTo k t (2 ^ N)) t
  | [], _ => rfl
  | k :: ks, t => by rw [List.foldl_cons, List.map_cons, List.foldl_cons, fold_map ks]
theorem covFrom_all {N : Nat} {ks : List (Int × Int)} (h : ks.all (okI N) = true) : covFrom N ks 0 = (Two.tableOf (ks.map natK) N : Int) := by
  rw [covFrom, if_pos h, fold_map]; rfl
theorem orRow_lt {x : Nat} (hx : x ≤ 15) : ∀ (l : List (Nat × Nat)) {t : Nat}, t < 65536 → orRow l x t < 65536
  | [], t, h => h
  | k :: l, t, h => by
    unfold orRow
    rw [List.foldl_cons]
    have : 2 ^ x < 65536 := Nat.lt_of_le_of_lt (Nat.pow_le_pow_right (by decide) hx) (by decide)
    refine orRow_lt hx l ?_
    split
    · exact Nat.or_lt_two_pow (n := 16) h this
    · exact h
theorem specTab_lt (l : List (Nat × Nat)) : ∀ {m : Nat}, m ≤ 16 → specTab l m < 65536
  | 0, _ => by simp [specTab]
  | m + 1, h => by
    rw [specTab]
    exact orRow_lt (by omega) l (specTab_lt l (by omega))
theorem take_all_snoc {N : Nat} {ks : List (Int × Int)} {k : Nat} {x : Int × Int} (h : ks[k]? = some x) (hk : (ks.take k).all (okI N) = true) (hx : okI N x = true) : (ks.take (k + 1)).all (okI N) = true := by
  rw [take_snoc h, List.all_append, hk]
  simp [hx]
theorem all_bad {N : Nat} {ks : List (Int × Int)} {k : Nat} {x : Int × Int} (h : ks[k]? = some x) (hx : okI N x = false) : covFrom N ks 0 = -1 := by
  rw [covFrom, if_neg]
  intro hall
  have := List.all_eq_true.1 hall x (List.mem_of_getElem? h)
  rw [hx] at this
  cases this
theorem okI_false2 {N : Nat} {k : Int × Int} (hw : WfK k) (h : okI N k = false) : decide (0 ≤ k.1 ∧ k.1 ≤ (2 : Int) ^ N - 1) = false ∨ (decide (0 ≤ k.1 ∧ k.1 ≤ (2 : Int) ^ N - 1) = true ∧ (bits .and .i64 k.2 k.1 != k.2) = true) := by
  by_cases g : 0 ≤ k.1 ∧ k.1 ≤ (2 : Int) ^ N - 1
  · right
    refine ⟨decide_eq_true g, ?_⟩
    rw [bne_iff_ne]
    intro e
    have := (andNot_iff hw.1 hw.2).2 e
    unfold okI at h
    rw [Bool.and_eq_false_iff, decide_eq_false_iff_not, beq_eq_false_iff_ne] at h
    rcases h with h | h
    · omega
    · exact h this
  · exact .inl (decide_eq_false g)
theorem okI_true2 {N : Nat} {k : Int × Int} (hw : WfK k) (h : okI N k = true) : decide (0 ≤ k.1 ∧ k.1 ≤ (2 : Int) ^ N - 1) = true ∧ (bits .and .i64 k.2 k.1 != k.2) = false := by
  unfold okI at h
  rw [Bool.and_eq_true, decide_eq_true_eq, beq_iff_eq] at h
  refine ⟨decide_eq_true ⟨h.1.1, by omega⟩, ?_⟩
  have := (andNot_iff hw.1 hw.2).1 h.2
  rw [this]
  simp

end Go.Proofs.Ytlbfejdbfhgifaa

namespace Go.Proofs.Ytlbfejdbfhgifaa
theorem shr_nat (C V : Nat) : (C : Int) / 2 ^ V = ((C / 2 ^ V : Nat) : Int) := by rw [two_pow]; rfl
theorem shr_odd (C V : Nat) : (((C : Int) / 2 ^ V).tmod 2 == 1) = C.testBit V := by
  rw [shr_nat, Nat.testBit_eq_decide_div_mod_eq]
  generalize C / 2 ^ V = q
  rw [Int.tmod_eq_emod_of_nonneg (by omega), Bool.eq_iff_iff, beq_iff_eq, decide_eq_true_eq]
  omega
theorem shr_even (C V : Nat) : (((C : Int) / 2 ^ V).tmod 2 == 0) = !C.testBit V := by
  rw [shr_nat, Nat.testBit_eq_decide_div_mod_eq]
  generalize C / 2 ^ V = q
  rw [Int.tmod_eq_emod_of_nonneg (by omega), Bool.eq_iff_iff, beq_iff_eq, Bool.not_eq_true', decide_eq_false_iff_not]
  omega
theorem shr_and (C V : Nat) (h : C < 9223372036854775808) : bits .and .i64 ((C : Int) / 2 ^ V) 1 = if C.testBit V then 1 else 0 := by
  have hd : C / 2 ^ V ≤ C := Nat.div_le_self _ _
  rw [shr_nat, Nat.testBit_eq_decide_div_mod_eq]
  generalize C / 2 ^ V = q at *
  rw [i64_and_one _ (by omega) (by omega)]
  split <;> rename_i hh <;> simp at hh <;> omega
end Go.Proofs.Ytlbfejdbfhgifaa

namespace Go.Proofs.Ytlbfejdbfhgifaa
namespace Two
/-! Prime implicants and covers, plainly. -/
def cand (t n : Nat) (k : Nat × Nat) : Bool := fine k && within k t n
/-- One cube more, unless a more general one is there. -/
def pstep (t n : Nat) (out : List (Nat × Nat)) (k : Nat × Nat) : List (Nat × Nat) := if cand t n k && !out.any (fun b => gen k b) then out ++ [k] else out
/-- One implicant more. -/
def istep (t n : Nat) (out : List (Nat × Nat)) (k : Nat × Nat) : List (Nat × Nat) := if cand t n k then out ++ [k] else out
section
variable (f : List (Nat × Nat) → Nat × Nat → List (Nat × Nat))
def rowF (out : List (Nat × Nat)) (c : Nat) : Nat → List (Nat × Nat)
  | 0 => out
  | v + 1 => f (rowF out c v) (c, v)
def tabF (m : Nat) : Nat → List (Nat × Nat)
  | 0 => []
  | c + 1 => rowF f (tabF m c) c m
def rowP (c m : Nat) : List (Nat × Nat) := (List.range m).map fun v => (c, v)
def pairsF (m : Nat) : Nat → List (Nat × Nat)
  | 0 => []
  | c + 1 => pairsF m c ++ rowP c m
theorem rowF_fold (out : List (Nat × Nat)) (c : Nat) : ∀ v, rowF f out c v = (rowP c v).foldl f out
  | 0 => rfl
  | v + 1 => by rw [rowF, rowF_fold out c v, rowP, rowP, List.range_succ, List.map_append, List.foldl_append]; rfl
theorem tabF_fold (m : Nat) : ∀ c, tabF f m c = (pairsF m c).foldl f []
  | 0 => rfl
  | c + 1 => by rw [tabF, rowF_fold, tabF_fold m c, pairsF, List.foldl_append]
end
theorem mem_pairsF {m : Nat} {k : Nat × Nat} : ∀ {c : Nat}, k ∈ pairsF m c ↔ k.1 < c ∧ k.2 < m
  | 0 => by simp [pairsF]
  | c + 1 => by
    rw [pairsF, List.mem_append, mem_pairsF, rowP, List.mem_map]
    constructor
    · rintro (⟨h1, h2⟩ | ⟨v, hv, rfl⟩)
      · exact ⟨by omega, h2⟩
      · exact ⟨by simp, List.mem_range.1 hv⟩
    · rintro ⟨h1, h2⟩
      rcases Nat.lt_or_ge k.1 c with h | h
      · exact .inl ⟨h, h2⟩
      · refine .inr ⟨k.2, List.mem_range.2 h2, ?_⟩
        exact Prod.ext (by simp; omega) rfl
theorem pairwise_pairsF (m : Nat) : ∀ c, (pairsF m c).Pairwise fun a b => a ≠ b ∧ a.1 ≤ b.1
  | 0 => by simp [pairsF]
  | c + 1 => by
    rw [pairsF, List.pairwise_append]
    refine ⟨pairwise_pairsF m c, ?_, fun a ha b hb => ?_⟩
    · rw [rowP, List.pairwise_map]
      refine (List.nodup_range (n := m)).imp ?_
      intro a b h
      exact ⟨fun e => h (congrArg Prod.snd e), Nat.le_refl _⟩
    · have h1 := (mem_pairsF.1 ha).1
      rw [rowP, List.mem_map] at hb
      obtain ⟨v, _, rfl⟩ := hb
      exact ⟨fun e => by rw [e] at h1; simp at h1, by simp; omega⟩
/-- All implicants, in order. -/
def implicants (t n : Nat) : List (Nat × Nat) := (pairsF (2 ^ n) (2 ^ n)).filter (cand t n)
theorem istep_filter (t n : Nat) : ∀ (l out : List (Nat × Nat)), l.foldl (istep t n) out = out ++ l.filter (cand t n)
  | [], out => by simp
  | k :: l, out => by
    rw [List.foldl_cons, istep_filter t n l, istep, List.filter_cons]
    split <;> simp
theorem implicants_eq (t n : Nat) : tabF (istep t n) (2 ^ n) (2 ^ n) = implicants t n := by
  rw [tabF_fold, istep_filter]; rfl
/-- No other implicant is more general. -/
def prime (t n : Nat) (a : Nat × Nat) : Bool := (implicants t n).all fun b => a == b || !gen a b
/-- The prime implicants, in order. -/
def primes (t n : Nat) : List (Nat × Nat) := (implicants t n).filter (prime t n)
theorem pstep_filter (t n : Nat) : ∀ (l out : List (Nat × Nat)), l.foldl (pstep t n) out = (l.filter (cand t n)).foldl (fun out k => if !out.any (fun b => gen k b) then out ++ [k] else out) out
  | [], out => rfl
  | k :: l, out => by
    rw [List.foldl_cons, List.filter_cons, pstep]
    cases hc : cand t n k
    · simp only [Bool.false_and, Bool.false_eq_true, if_false]
      exact pstep_filter t n l out
    · simp only [Bool.true_and, if_true, List.foldl_cons]
      exact pstep_filter t n l _
theorem mem_implicants {t n : Nat} {k : Nat × Nat} : k ∈ implicants t n ↔ k.1 < 2 ^ n ∧ k.2 < 2 ^ n ∧ fine k = true ∧ within k t n = true := by
  rw [implicants, List.mem_filter, mem_pairsF, cand, Bool.and_eq_true]
  constructor
  · rintro ⟨⟨h1, h2⟩, h3, h4⟩; exact ⟨h1, h2, h3, h4⟩
  · rintro ⟨h1, h2, h3, h4⟩; exact ⟨⟨h1, h2⟩, h3, h4⟩
theorem pairwise_implicants (t n : Nat) : (implicants t n).Pairwise fun a b => a ≠ b ∧ a.1 ≤ b.1 := (pairwise_pairsF _ _).sublist List.filter_sublist
theorem prime_iff {t n : Nat} {a : Nat × Nat} : prime t n a = true ↔ ∀ b ∈ implicants t n, gen a b = true → a = b := by
  rw [prime, List.all_eq_true]
  constructor
  · intro h b hb hg
    have := h b hb
    rw [hg] at this
    simpa using this
  · intro h b hb
    cases hg : gen a b
    · simp
    · simp [h b hb hg]
/-- Below every implicant lies a prime one. -/
theorem exists_prime {t n : Nat} : ∀ (m : Nat) (k : Nat × Nat), k.1 ≤ m → k ∈ implicants t n → ∃ b ∈ implicants t n, prime t n b = true ∧ gen k b = true
  | m, k, hm, hk => by
    by_cases hp : prime t n k = true
    · exact ⟨k, hk, hp, gen_refl (mem_implicants.1 hk).2.2.1⟩
    · have : ∃ b ∈ implicants t n, gen k b = true ∧ k ≠ b := by
        refine Classical.byContradiction fun hn => hp (prime_iff.2 fun b hb hg => Classical.byContradiction fun hne => hn ⟨b, hb, hg, hne⟩)
      obtain ⟨b, hb, hg, hne⟩ := this
      have hlt : b.1 < k.1 := by
        have h1 := gen_le hg
        rcases Nat.lt_or_ge b.1 k.1 with h | h
        · exact h
        · exact absurd (gen_eq (mem_implicants.1 hk).2.2.1 hg (by omega)) (fun e => hne e.symm)
      match m, hm with
      | 0, hm => omega
      | m + 1, hm =>
        obtain ⟨c, hc, hpc, hgc⟩ := exists_prime m b (by omega) hb
        exact ⟨c, hc, hpc, gen_trans hg hgc⟩
theorem fold_primes {t n : Nat} : ∀ (s p : List (Nat × Nat)), implicants t n = p ++ s → s.foldl (fun out k => if !out.any (fun b => gen k b) then out ++ [k] else out) (p.filter (prime t n)) = primes t n
  | [], p, h => by
    rw [List.foldl_nil, primes, h, List.append_nil]
  | k :: s, p, h => by
    have hpw := pairwise_implicants t n
    rw [h, List.pairwise_append] at hpw
    obtain ⟨_, hks, hpk⟩ := hpw
    have hkm : k ∈ implicants t n := by rw [h]; simp
    have key : (!(p.filter (prime t n)).any (fun b => gen k b)) = prime t n k := by
      cases hp : prime t n k
      · -- a prime one lies before k
        have hne : ∃ b ∈ implicants t n, gen k b = true ∧ k ≠ b := by
          refine Classical.byContradiction fun hn => ?_
          have : prime t n k = true := prime_iff.2 fun b hb hg => Classical.byContradiction fun hne => hn ⟨b, hb, hg, hne⟩
          rw [hp] at this
          cases this
        obtain ⟨b, hb, hg, hne⟩ := hne
        obtain ⟨c, hc, hpc, hgc⟩ := exists_prime b.1 b (Nat.le_refl _) hb
        have hkc := gen_trans hg hgc
        have hlt : c.1 < k.1 := by
          have h1 := gen_le hg
          have h2 := gen_le hgc
          rcases Nat.lt_or_ge c.1 k.1 with h | h
          · exact h
          · exact absurd (gen_eq (mem_implicants.1 hkm).2.2.1 hg (by omega)) (fun e => hne e.symm)
        have hcp : c ∈ p := by
          rw [h, List.mem_append] at hc
          rcases hc with hc | hc
          · exact hc
          · rcases List.mem_cons.1 hc with e | hc
            · subst e; omega
            · have := ((List.pairwise_cons.1 hks).1 c hc).2
              omega
        have : (p.filter (prime t n)).any (fun b => gen k b) = true := List.any_eq_true.2 ⟨c, List.mem_filter.2 ⟨hcp, hpc⟩, hkc⟩
        rw [this]; rfl
      · have : (p.filter (prime t n)).any (fun b => gen k b) = false := by
          rw [List.any_eq_false]
          intro b hb hg
          obtain ⟨hbp, _⟩ := List.mem_filter.1 hb
          have e := prime_iff.1 hp b (by rw [h]; exact List.mem_append_left _ hbp) hg
          exact (hpk b hbp k (by simp)).1 e.symm
        rw [this]; rfl
    rw [List.foldl_cons, key]
    have h' : implicants t n = (p ++ [k]) ++ s := by rw [h]; simp
    have ih := fold_primes s (p ++ [k]) h'
    rw [List.filter_append] at ih
    cases hp : prime t n k
    · rw [List.filter_cons_of_neg (by rw [hp]; simp)] at ih
      simpa using ih
    · rw [List.filter_cons_of_pos (by rw [hp])] at ih
      simpa using ih
theorem primes_eq (t n : Nat) : tabF (pstep t n) (2 ^ n) (2 ^ n) = primes t n := by
  rw [tabF_fold, pstep_filter]
  exact fold_primes (implicants t n) [] rfl
/-! The reference's way, by places. -/
def primeAt (L : List (Nat × Nat)) (i : Nat) : Nat → Bool
  | 0 => true
  | j + 1 => primeAt L i j && (i == j || !gen (L.getD i (0, 0)) (L.getD j (0, 0)))
def outAt (L : List (Nat × Nat)) : Nat → List (Nat × Nat)
  | 0 => []
  | i + 1 => if primeAt L i L.length then outAt L i ++ [L.getD i (0, 0)] else outAt L i
theorem primeAt_iff (L : List (Nat × Nat)) (i : Nat) : ∀ m, primeAt L i m = true ↔ ∀ j, j < m → i = j ∨ gen (L.getD i (0, 0)) (L.getD j (0, 0)) = false
  | 0 => by simp [primeAt]
  | m + 1 => by
    rw [primeAt, Bool.and_eq_true, primeAt_iff L i m]
    constructor
    · rintro ⟨h1, h2⟩ j hj
      by_cases e : j = m
      · subst e; simpa using h2
      · exact h1 j (by omega)
    · intro h
      exact ⟨fun j hj => h j (by omega), by have := h m (by omega); simpa using this⟩
theorem primeAt_eq {t n : Nat} {i : Nat} (hi : i < (implicants t n).length) : primeAt (implicants t n) i (implicants t n).length = prime t n ((implicants t n).getD i (0, 0)) := by
  have hpw := pairwise_implicants t n
  generalize hL : implicants t n = L at *
  have hget : ∀ j, j < L.length → L.getD j (0, 0) = L[j]! := fun j hj => by simp [hj]
  rw [Bool.eq_iff_iff, primeAt_iff, prime_iff, hL]
  constructor
  · intro h b hb hg
    obtain ⟨j, hj, rfl⟩ := List.mem_iff_getElem.1 hb
    rcases h j hj with rfl | h
    · simp [hj]
    · rw [show L.getD j (0, 0) = L[j] from by simp [hj]] at h
      rw [h] at hg
      cases hg
  · intro h j hj
    cases hg : gen (L.getD i (0, 0)) (L.getD j (0, 0))
    · exact .inr rfl
    · left
      have e := h _ (by rw [show L.getD j (0, 0) = L[j] from by simp [hj]]; exact List.getElem_mem hj) hg
      rw [show L.getD i (0, 0) = L[i] from by simp [hi], show L.getD j (0, 0) = L[j] from by simp [hj]] at e
      rcases Nat.lt_trichotomy i j with h1 | h1 | h1
      · exact absurd e (List.pairwise_iff_getElem.1 hpw i j hi hj h1).1
      · exact h1
      · exact absurd e.symm (List.pairwise_iff_getElem.1 hpw j i hj hi h1).1
theorem outAt_eq (t n : Nat) : ∀ i, i ≤ (implicants t n).length → outAt (implicants t n) i = ((implicants t n).take i).filter (prime t n)
  | 0, _ => by simp [outAt]
  | i + 1, h => by
    have hi : i < (implicants t n).length := by omega
    rw [outAt, outAt_eq t n i (by omega), primeAt_eq hi, List.take_add_one, List.filter_append]
    have e : (implicants t n)[i]? = some ((implicants t n).getD i (0, 0)) := by simp [hi]
    rw [e]
    generalize (implicants t n).getD i (0, 0) = k
    cases hp : prime t n k
    · simp [hp]
    · simp [hp]
theorem outAt_primes (t n : Nat) : outAt (implicants t n) (implicants t n).length = primes t n := by
  rw [outAt_eq t n _ (Nat.le_refl _), List.take_length]; rfl
theorem pairsF_fine_length : ∀ n, n ≤ 4 → ((pairsF (2 ^ n) (2 ^ n)).filter fine).length ≤ 81 := by decide +kernel
theorem implicants_length {t n : Nat} (h : n ≤ 4) : (implicants t n).length ≤ 81 := by
  refine Nat.le_trans ?_ (pairsF_fine_length n h)
  unfold implicants
  rw [show (pairsF (2 ^ n) (2 ^ n)).filter (cand t n) = ((pairsF (2 ^ n) (2 ^ n)).filter fine).filter (fun k => within k t n) from by
    rw [List.filter_filter]
    congr 1
    funext k
    rw [cand, Bool.and_comm]]
  exact List.length_filter_le _ _
theorem primes_length {t n : Nat} (h : n ≤ 4) : (primes t n).length ≤ 81 := Nat.le_trans (List.length_filter_le _ _) (implicants_length h)
theorem mem_primes {t n : Nat} {k : Nat × Nat} : k ∈ primes t n ↔ k ∈ implicants t n ∧ prime t n k = true := by rw [primes, List.mem_filter]
end Two
end Go.Proofs.Ytlbfejdbfhgifaa

namespace Go.Proofs.Ytlbfejdbfhgifaa
namespace Two
/-- Every assignment of the table has a cube. -/
def covers (l : List (Nat × Nat)) (t n : Nat) : Bool := (List.range (2 ^ n)).all fun x => !t.testBit x || l.any (has · x)
theorem covers_iff {l : List (Nat × Nat)} {t n : Nat} : covers l t n = true ↔ ∀ x, x < 2 ^ n → t.testBit x = true → l.any (has · x) = true := by
  rw [covers, List.all_eq_true]
  constructor
  · intro h x hx ht
    have := h x (List.mem_range.2 hx)
    rw [ht] at this
    simpa using this
  · intro h x hx
    cases ht : t.testBit x
    · simp
    · simp [h x (List.mem_range.1 hx) ht]
def allWithin (l : List (Nat × Nat)) (t n : Nat) : Prop := ∀ k ∈ l, within k t n = true
/-- Of implicants: the table is theirs exactly if they cover. -/
theorem table_covers {l : List (Nat × Nat)} {t n : Nat} (ht : t < 2 ^ 2 ^ n) (hw : allWithin l t n) : (tableOf l n = t) ↔ covers l t n = true := by
  rw [covers_iff]
  constructor
  · intro h x hx htx
    rw [← h, tableOf_bit] at htx
    exact (Bool.and_eq_true _ _ ▸ htx).2
  · intro h
    refine table_ext (tableOf_lt l n) ht fun x hx => ?_
    rw [tableOf_bit, decide_eq_true hx, Bool.true_and]
    cases htx : t.testBit x
    · rw [List.any_eq_false]
      intro k hk hh
      have := (within_iff k t n).1 (hw k hk) x hx hh
      rw [htx] at this
      cases this
    · exact h x hx htx
/-- From the last to the first, what is not needed is left out. -/
def minF (t n : Nat) (l : List (Nat × Nat)) : Nat → List (Nat × Nat)
  | 0 => l
  | i + 1 => minF t n (if covers (l.eraseIdx i) t n then l.eraseIdx i else l) i
def minimal (t n : Nat) : List (Nat × Nat) := minF t n (primes t n) (primes t n).length
theorem covers_mono {l l' : List (Nat × Nat)} {t n : Nat} (h : ∀ k ∈ l, k ∈ l') (hc : covers l t n = true) : covers l' t n = true := by
  rw [covers_iff] at *
  intro x hx ht
  obtain ⟨k, hk, hh⟩ := List.any_eq_true.1 (hc x hx ht)
  exact List.any_eq_true.2 ⟨k, h k hk, hh⟩
theorem minF_sub {t n : Nat} : ∀ (i : Nat) (l : List (Nat × Nat)), ∀ k ∈ minF t n l i, k ∈ l
  | 0, l, k, h => h
  | i + 1, l, k, h => by
    rw [minF] at h
    have := minF_sub i _ k h
    split at this
    · exact List.mem_of_mem_eraseIdx this
    · exact this
theorem minF_covers {t n : Nat} : ∀ (i : Nat) (l : List (Nat × Nat)), covers l t n = true → covers (minF t n l i) t n = true
  | 0, l, h => h
  | i + 1, l, h => by
    rw [minF]
    refine minF_covers i _ ?_
    split
    · assumption
    · exact h
theorem erase_erase {α : Type} (l : List α) {i j : Nat} (h : i ≤ j) : (l.eraseIdx i).eraseIdx j = (l.eraseIdx (j + 1)).eraseIdx i := by
  induction l generalizing i j with
  | nil => simp
  | cons a l ih =>
    cases i with
    | zero => rfl
    | succ i =>
      cases j with
      | zero => omega
      | succ j => simp [List.eraseIdx_cons_succ, ih (show i ≤ j by omega)]
theorem erase_ge {α : Type} (l : List α) {i : Nat} (h : l.length ≤ i) : l.eraseIdx i = l := List.eraseIdx_of_length_le h
/-- Nothing that is left can be left out. -/
theorem minF_need {t n : Nat} : ∀ (i : Nat) (l : List (Nat × Nat)), (∀ j, i ≤ j → j < l.length → covers (l.eraseIdx j) t n = false) → ∀ j, j < (minF t n l i).length → covers ((minF t n l i).eraseIdx j) t n = false
  | 0, l, h, j, hj => h j (Nat.zero_le _) hj
  | i + 1, l, h, j, hj => by
    rw [minF] at hj ⊢
    revert hj
    cases hc : covers (l.eraseIdx i) t n
    · simp only [Bool.false_eq_true, if_false]
      intro hj
      refine minF_need i l (fun k hk hkl => ?_) j hj
      rcases Nat.lt_or_ge k (i + 1) with hlt | hge
      · obtain rfl : k = i := by omega
        exact hc
      · exact h k hge hkl
    · simp only [if_true]
      intro hj
      refine minF_need i (l.eraseIdx i) (fun k hk hkl => ?_) j hj
      rw [erase_erase l hk]
      have hl : k + 1 < l.length := by
        rcases Nat.lt_or_ge i l.length with h1 | h1
        · rw [List.length_eraseIdx_of_lt h1] at hkl; omega
        · rw [erase_ge l h1] at hkl; omega
      have := h (k + 1) (by omega) hl
      cases hcc : covers ((l.eraseIdx (k + 1)).eraseIdx i) t n
      · rfl
      · rw [covers_mono (fun x hx => List.mem_of_mem_eraseIdx hx) hcc] at this
        cases this
theorem minF_length {t n : Nat} : ∀ (i : Nat) (l : List (Nat × Nat)), (minF t n l i).length ≤ l.length
  | 0, l => Nat.le_refl _
  | i + 1, l => by
    rw [minF]
    refine Nat.le_trans (minF_length i _) ?_
    split
    · exact List.length_eraseIdx_le _ _
    · exact Nat.le_refl _
theorem primes_within (t n : Nat) : allWithin (primes t n) t n := fun _ hk => (mem_implicants.1 (mem_primes.1 hk).1).2.2.2
theorem fine_minterm {m x : Nat} (hx : x < 2 ^ m) : fine (2 ^ m - 1, x) = true := by
  rw [fine_iff]
  intro i hi
  simp only at hi ⊢
  rw [Nat.testBit_two_pow_sub_one]
  refine decide_eq_true ?_
  rcases Nat.lt_or_ge i m with h | h
  · exact h
  · rw [Nat.testBit_lt_two_pow (Nat.lt_of_lt_of_le hx (Nat.pow_le_pow_right (by decide) h))] at hi
    cases hi
theorem has_minterm {m x y : Nat} (hx : x < 2 ^ m) (hy : y < 2 ^ m) : has (2 ^ m - 1, x) y = decide (y = x) := by
  unfold has
  simp only
  rw [Nat.and_two_pow_sub_one_eq_mod, Nat.mod_eq_of_lt hy, Bool.eq_iff_iff, beq_iff_eq, decide_eq_true_eq]
/-- The primes cover the table. -/
theorem primes_cover {t n : Nat} (hn : n ≤ 4) : covers (primes t n) t n = true := by
  rw [covers_iff]
  intro x hx ht
  -- the minterm of x in all variables, of which there are n
  have hk : (2 ^ n - 1, x) ∈ implicants t n := by
    refine mem_implicants.2 ⟨by have := Nat.two_pow_pos n; simp only; omega, hx, fine_minterm hx, (within_iff _ _ _).2 fun y hy hh => ?_⟩
    rw [has_minterm hx hy, decide_eq_true_eq] at hh
    rw [hh]; exact ht
  obtain ⟨b, hb, hp, hg⟩ := exists_prime _ _ (Nat.le_refl _) hk
  refine List.any_eq_true.2 ⟨b, mem_primes.2 ⟨hb, hp⟩, gen_has hg ?_⟩
  rw [has_minterm hx hx]; simp
theorem primes_table {t n : Nat} (hn : n ≤ 4) (ht : t < 2 ^ 2 ^ n) : tableOf (primes t n) n = t := (table_covers ht (primes_within t n)).2 (primes_cover hn)
end Two
end Go.Proofs.Ytlbfejdbfhgifaa

namespace Go.Proofs.Ytlbfejdbfhgifaa
open Go.RowKit
theorem pow4 {N : Nat} (h : N ≤ 4) : ∃ M : Nat, Hid (2 ^ N = M) ∧ (2 : Int) ^ N = (M : Int) ∧ M ≤ 16 ∧ 1 ≤ M :=
  ⟨2 ^ N, Lib.hid rfl, two_pow N, Nat.pow_le_pow_right (show 0 < 2 by decide) h, Nat.one_le_two_pow⟩
def fitsT (t n : Int) : Bool := decide (0 ≤ n ∧ n ≤ 4 ∧ 0 ≤ t ∧ t < 2 ^ 2 ^ n.toNat)
theorem fitsT_nat {t n : Int} (h : fitsT t n = true) : ∃ T N : Nat, t = T ∧ n = N ∧ N ≤ 4 ∧ T < 2 ^ 2 ^ N ∧ T < 65536 := by
  unfold fitsT at h
  rw [decide_eq_true_eq] at h
  obtain ⟨h1, h2, h3, h4⟩ := h
  obtain ⟨N, rfl⟩ := Int.eq_ofNat_of_zero_le h1
  obtain ⟨T, rfl⟩ := Int.eq_ofNat_of_zero_le h3
  have hN : N ≤ 4 := by omega
  have h5 : T < 2 ^ 2 ^ N := by
    have := two_pow (2 ^ N)
    rw [show ((N : Int).toNat) = N from rfl, this] at h4
    omega
  have h6 : 2 ^ 2 ^ N ≤ 65536 := Nat.pow_le_pow_right (show 0 < 2 by decide) (Nat.pow_le_pow_right (show 0 < 2 by decide) hN)
  exact ⟨T, N, rfl, rfl, hN, h5, by omega⟩
theorem tableFits_any (t n : Int) (w : World) :
    Calls Try.prog 78 #[.int .i64 t, .int .i64 n] w fun e w' => e = .returned (.bool (fitsT t n)) ∧ w = w' := by
  by_cases h : 0 ≤ n ∧ n ≤ 4
  · have hn : n = 0 ∨ n = 1 ∨ n = 2 ∨ n = 3 ∨ n = 4 := by omega
    rcases hn with rfl | rfl | rfl | rfl | rfl
    all_goals
      go_enter Try.func78, Try.ntmps78
      go_wp2
      all_goals
        go_ret
        refine ⟨ret_bool ?_, rfl⟩
        simp [fitsT]
        try omega
  · have hf : fitsT t n = false := decide_eq_false (by omega)
    rw [hf]
    have hn : n < 0 ∨ (0 ≤ n ∧ 4 < n) := by omega
    clear hf h
    rcases hn with g | ⟨g0, g1⟩
    all_goals
      go_enter Try.func78, Try.ntmps78
      go_wp2
      go_ret
      exact ⟨rfl, rfl⟩
theorem implies_any (C V T N : Nat) (w : World) (hN : N ≤ 4) (hC : C < 65536) (hT : T < 65536) :
    Calls Try.prog 79 #[.agg #[.int .i64 C, .int .i64 V], .int .i64 T, .int .i64 N] w
      fun e w' => e = .returned (.bool (Two.within (C, V) T N)) ∧ Below w.heap.size w w' := by
  obtain ⟨M, hM, e, hp, hp0⟩ := pow4 hN
  have hiff := Lib.hid (Two.within_iff (C, V) T N)
  generalize Two.within (C, V) T N = res at hiff ⊢
  have b0 : Below w.heap.size w (w.alloc (.cells #[.int .i64 C, .int .i64 V] 95)) := (Below.refl _ _).alloc (Nat.le_refl _) _
  have B0 := Lib.hid b0
  clear b0
  go_enter Try.func79, Try.ntmps79
  go_wp2_with fail
  have c0 : (w.alloc (.cells #[.int .i64 C, .int .i64 V] 95)).cell? ⟨w.heap.size, 0, none⟩ = some (.int .i64 C) := World.cell?_alloc_new _ _ _ 0
  have c1 : (w.alloc (.cells #[.int .i64 C, .int .i64 V] 95)).cell? ⟨w.heap.size, 1, none⟩ = some (.int .i64 V) := World.cell?_alloc_new _ _ _ 1
  have cz : w.heap.size < (w.alloc (.cells #[.int .i64 C, .int .i64 V] 95)).heap.size := by simp
  generalize w.alloc (.cells #[.int .i64 C, .int .i64 V] 95) = W1 at *
  go_loopw [10] (fun x wr => ∃ X : Nat, X ≤ M ∧ x = .int .i64 X ∧ Hid (∀ x, x < X → Two.has (C, V) x = true → T.testBit x = true) ∧ Below W1.heap.size W1 wr) (fun x _ => M - (intOf x).toNat)
  case atStart => exact ⟨0, by omega, rfl, Lib.hid (fun _ h => by omega), Below.refl _ _⟩
  case round =>
    obtain ⟨X, hX, rfl, hall, hb⟩ := hrel
    have q0 := (hb.cell (p := ⟨w.heap.size, 0, none⟩) cz).trans c0
    have q1 := (hb.cell (p := ⟨w.heap.size, 1, none⟩) cz).trans c1
    have Hb := Lib.hid hb
    have hz := B0.out.size
    clear hb c0 c1
    by_cases hlt : X < M
    · have hh := hasI_nat C V X (by omega) (by omega)
      have hs := shr_and T X (by omega)
      have Hh := Lib.hid hh
      clear hh
      cases hhas : Two.has (C, V) X
      · have Hc := Lib.hid hhas
        clear hhas hs
        go_wp2_with (go_at_call 116; refine (implHas_any _ _ _ _).mono ?_; rintro e w' ⟨rfl, hb'⟩; rw [Hh.out, Hc.out])
        go_roundw
        case rel => exact ⟨X + 1, by omega, by go_num, Lib.hid (fun x hx hx1 => by
          by_cases e : x = X
          · subst e; rw [Hc.out] at hx1; cases hx1
          · exact hall.out x (by omega) hx1), Hb.out.trans (hb'.mono Hb.out.size)⟩
        case measure => simp [intOf]; omega
      · have Hc := Lib.hid hhas
        clear hhas
        cases hbit : T.testBit X
        · rw [hbit, if_neg (by simp)] at hs
          have Hbit := Lib.hid hbit
          have hres : res = false := by
            cases res
            · rfl
            · have := hiff.out.1 rfl X (by rw [hM.out]; exact hlt) Hc.out
              rw [Hbit.out] at this; cases this
          subst hres
          clear hbit
          go_wp2_with (go_at_call 116; refine (implHas_any _ _ _ _).mono ?_; rintro e w' ⟨rfl, hb'⟩; rw [Hh.out, Hc.out])
          go_ret
          exact ⟨rfl, B0.out.trans ((Hb.out.trans (hb'.mono Hb.out.size)).mono hz)⟩
        · rw [hbit, if_pos rfl] at hs
          have Hbit := Lib.hid hbit
          clear hbit
          go_wp2_with (go_at_call 116; refine (implHas_any _ _ _ _).mono ?_; rintro e w' ⟨rfl, hb'⟩; rw [Hh.out, Hc.out])
          go_roundw
          case rel => exact ⟨X + 1, by omega, by go_num, Lib.hid (fun x hx hx1 => by
            by_cases e : x = X
            · subst e; exact Hbit.out
            · exact hall.out x (by omega) hx1), Hb.out.trans (hb'.mono Hb.out.size)⟩
          case measure => simp [intOf]; omega
    · obtain rfl : X = M := by omega
      have hres : res = true := hiff.out.2 fun x hx => hall.out x (by rw [← hM.out]; exact hx)
      subst hres
      go_wp2
      go_ret
      exact ⟨rfl, B0.out.trans (Hb.out.mono hz)⟩
end Go.Proofs.Ytlbfejdbfhgifaa

namespace Go.Proofs.Ytlbfejdbfhgifaa
open Go.RowKit
theorem andNot_nat (a b : Nat) (ha : a < 9223372036854775808) (hb : b < 9223372036854775808) : (bits .andNot .i64 (a : Int) (b : Int) == 0) = (a &&& b == a) := by
  rw [Bool.eq_iff_iff, beq_iff_eq, beq_iff_eq, andNot_iff (by omega) (by omega), i64_and_nat a b ha hb]
  exact ⟨fun h => Int.ofNat.inj h, fun h => by rw [h]⟩
theorem and_eq_nat (a b c : Nat) (ha : a < 9223372036854775808) (hb : b < 9223372036854775808) : (bits .and .i64 (a : Int) (b : Int) == (c : Int)) = (a &&& b == c) := by
  rw [Bool.eq_iff_iff, beq_iff_eq, beq_iff_eq, i64_and_nat a b ha hb]
  exact ⟨fun h => Int.ofNat.inj h, fun h => by rw [h]⟩
theorem gen_def (c v : Nat) (k : Nat × Nat) : Two.gen (c, v) k = ((k.1 &&& c == k.1) && (v &&& k.1 == k.2)) := by
  unfold Two.gen
  simp only
  rw [Nat.and_comm c k.1]
theorem closure_any (k0 k1 c v g1 g2 : Nat) (w : World) (h1 : w.cell? ⟨g1, 0, none⟩ = some (.int .i64 c)) (h2 : w.cell? ⟨g2, 0, none⟩ = some (.int .i64 v)) (hg1 : g1 < w.heap.size) (hg2 : g2 < w.heap.size)
    (b0 : k0 < 65536) (b2 : c < 65536) (b3 : v < 65536) :
    Calls Try.prog 81 #[.agg #[.int .i64 k0, .int .i64 k1], .pointer (some ⟨g1, 0, none⟩), .pointer (some ⟨g2, 0, none⟩)] w
      fun e w' => e = .returned (.bool (Two.gen (c, v) (k0, k1))) ∧ Below w.heap.size w w' := by
  have e1 := andNot_nat k0 c (by omega) (by omega)
  have e2 := and_eq_nat v k0 k1 (by omega) (by omega)
  rw [gen_def]
  simp only
  cases hc : (k0 &&& c == k0)
  · rw [hc] at e1
    clear hc e2
    go_enter Try.func81, Try.ntmps81
    go_wp2
    go_ret
    exact ⟨rfl, (Below.refl _ _).alloc (Nat.le_refl _) _⟩
  · rw [hc] at e1
    clear hc
    go_enter Try.func81, Try.ntmps81
    go_wp2
    go_ret
    exact ⟨ret_bool (by simp [e2]), (Below.refl _ _).alloc (Nat.le_refl _) _⟩
def CubesN (w : World) (v : Value) (ks : List (Nat × Nat)) : Prop := CubesAt w v (ks.map intK)
theorem cubesN_open {w wr : World} {A : Option Addr} {n c : Nat} {ks : List (Nat × Nat)} (h : CubesN w (.slice A n c) ks) (hb : Below w.heap.size w wr) {i : Nat} (hn : n = ks.length) (hi : i < ks.length) :
    ∃ (b o : Nat) (k : Nat × Nat), A = some ⟨b, o, none⟩ ∧ b < w.heap.size ∧ Hid (ks[i]? = some k) ∧ wr.cell? ⟨b, o + i * 2, none⟩ = some (.int .i64 k.1) ∧ wr.cell? ⟨b, o + i * 2 + 1, none⟩ = some (.int .i64 k.2) := by
  have h' : Row w 2 (.slice A n c) n (cubes (ks.map intK)) := by
    have := h
    unfold CubesN CubesAt at this
    rw [List.length_map] at this
    rw [hn] at this ⊢
    exact this
  obtain ⟨b, o, k, hA, hbl, hk, h1, h2⟩ := cubes_open h' hb (by rw [hn, List.length_map]) (i := i) (by rw [List.length_map]; exact hi)
  have hk' := hk.out
  rw [List.getElem?_map] at hk'
  cases hki : ks[i]? with
  | none => rw [hki] at hk'; cases hk'
  | some k' =>
    rw [hki] at hk'
    obtain rfl := Option.some.inj hk'
    exact ⟨b, o, k', hA, hbl, Lib.hid rfl, h1, h2⟩
/-- What a search comes to. -/
def Found (l : List (Nat × Nat)) (p : Nat × Nat → Bool) (w : World) (e : Ending) (w' : World) : Prop :=
  ∃ r : Int, e = .returned (.int .i64 r) ∧ (decide (0 ≤ r) = l.any p) ∧ Below w.heap.size w w'
theorem any_hit {l : List (Nat × Nat)} {p : Nat × Nat → Bool} {i : Nat} {k : Nat × Nat} (h : l[i]? = some k) (hp : p k = true) : l.any p = true := List.any_eq_true.2 ⟨k, List.mem_of_getElem? h, hp⟩
theorem any_none {l : List (Nat × Nat)} {p : Nat × Nat → Bool} (h : ∀ j, j < l.length → ∀ k, l[j]? = some k → p k = false) : l.any p = false := by
  rw [List.any_eq_false]
  intro k hk
  obtain ⟨j, hj, rfl⟩ := List.mem_iff_getElem.1 hk
  rw [h j hj _ (List.getElem?_eq_getElem hj)]
  simp
theorem indexFunc_any (x : Value) (l : List (Nat × Nat)) (c v g1 g2 : Nat) (w : World) (h : CubesN w x l) (h1 : w.cell? ⟨g1, 0, none⟩ = some (.int .i64 c)) (h2 : w.cell? ⟨g2, 0, none⟩ = some (.int .i64 v)) (hg1 : g1 < w.heap.size) (hg2 : g2 < w.heap.size)
    (hl : ∀ k ∈ l, k.1 < 65536) (b2 : c < 65536) (b3 : v < 65536) :
    Calls Try.prog 117 #[x, .func (.func 81) #[] #[.pointer (some ⟨g1, 0, none⟩), .pointer (some ⟨g2, 0, none⟩)]] w
      (Found l (fun b => Two.gen (c, v) b) w) := by
  obtain ⟨A, cp, hv, hc, hcm⟩ := Row.shape h
  subst hv
  rw [List.length_map] at hc h ⊢
  unfold maxLen at hcm
  go_enter Try.func117, Try.ntmps117
  go_wp2_with fail
  go_loopw [8] (fun i wr => ∃ k : Nat, k ≤ l.length ∧ i = .int .i64 k ∧ Hid (∀ j, j < k → ∀ q, l[j]? = some q → Two.gen (c, v) q = false) ∧ Below w.heap.size w wr) (fun i _ => l.length - (intOf i).toNat)
  case atStart => exact ⟨0, Nat.zero_le _, rfl, Lib.hid (fun _ h => by omega), Below.refl _ _⟩
  case round =>
    obtain ⟨k, hk, rfl, hall, hb⟩ := hrel
    by_cases hlt : k < l.length
    · obtain ⟨b, o, q, rfl, hbl, hx, hs1, hs2⟩ := cubesN_open h hb rfl hlt
      have c1 := (hb.cell (p := ⟨g1, 0, none⟩) hg1).trans h1
      have c2 := (hb.cell (p := ⟨g2, 0, none⟩) hg2).trans h2
      have z := hb.size
      have Hb := Lib.hid hb
      have hq := hl _ (List.mem_of_getElem? hx.out)
      have z1 : g1 < wr.heap.size := by omega
      have z2 : g2 < wr.heap.size := by omega
      clear h hb hl h1 h2
      go_wp2_with fail
      refine (closure_any q.1 q.2 c v g1 g2 _ c1 c2 z1 z2 hq b2 b3).mono ?_
      rintro e w' ⟨rfl, hb'⟩
      cases hg : Two.gen (c, v) (q.1, q.2)
      · have Hg := Lib.hid hg
        clear hg
        go_wp2_with fail
        go_roundw
        case rel => exact ⟨k + 1, by omega, by go_num, Lib.hid (fun j hj q' hq' => by
          by_cases e : j = k
          · subst e; rw [hx.out] at hq'; obtain rfl := Option.some.inj hq'; exact Hg.out
          · exact hall.out j (by omega) q' hq'), Hb.out.trans (hb'.mono Hb.out.size)⟩
        case measure => simp [intOf]; omega
      · have Hg := Lib.hid hg
        clear hg
        go_wp2_with fail
        go_ret
        exact ⟨k, rfl, by rw [any_hit hx.out Hg.out]; exact decide_eq_true (by omega), Hb.out.trans (hb'.mono Hb.out.size)⟩
    · go_wp2
      go_ret
      exact ⟨-1, rfl, by rw [any_none fun j hj q hq => hall.out j (by omega) q hq]; rfl, hb⟩
theorem containsFunc_any (x : Value) (l : List (Nat × Nat)) (c v g1 g2 : Nat) (w : World) (h : CubesN w x l) (h1 : w.cell? ⟨g1, 0, none⟩ = some (.int .i64 c)) (h2 : w.cell? ⟨g2, 0, none⟩ = some (.int .i64 v)) (hg1 : g1 < w.heap.size) (hg2 : g2 < w.heap.size)
    (hl : ∀ k ∈ l, k.1 < 65536) (b2 : c < 65536) (b3 : v < 65536) :
    Calls Try.prog 80 #[x, .func (.func 81) #[] #[.pointer (some ⟨g1, 0, none⟩), .pointer (some ⟨g2, 0, none⟩)]] w
      fun e w' => e = .returned (.bool (l.any (fun b => Two.gen (c, v) b))) ∧ Below w.heap.size w w' := by
  go_enter Try.func80, Try.ntmps80
  go_wp2_with fail
  refine (indexFunc_any x l c v g1 g2 w h h1 h2 hg1 hg2 hl b2 b3).mono ?_
  rintro e w' ⟨r, rfl, hr, hb⟩
  have Hr := Lib.hid hr
  clear hr
  go_wp2_with fail
  go_ret
  exact ⟨ret_bool Hr.out, hb⟩
end Go.Proofs.Ytlbfejdbfhgifaa

namespace Go.Proofs.Ytlbfejdbfhgifaa
open Go.RowKit
/-! What laws do with slices of cubes. -/
theorem info_cube : (Try.prog.info? 95).map (fun i => (i.zero, i.size, i.bytes)) = some (some (.agg #[.int .i64 0, .int .i64 0]), 2, 16) := by kernel_rfl
end Go.Proofs.Ytlbfejdbfhgifaa

namespace Go.Proofs.Ytlbfejdbfhgifaa
open Go.RowKit
theorem append_cubes {w : World} {ops : Array Oper} {rest : List Oper} {o : Oper} {a : Act} {Q : Exit → Act → World → Prop} (hgd : o.guard = none) (s x : Operand)
    (ho : o.op = .call { callee := .builtin .append, args := #[s, x], argTypes := #[51, 51] })
    (base : Nat) (v : Value) (n : Nat) (xs : List Value) (hs : a.eval s = v) (hown : w.ownsRow base 95 2 v n xs) (sv : Value) (m : Nat) (news : List Value) (hx : a.eval x = sv) (hr : Row w 2 sv m news) (h1 : ∀ u ∈ news, u.oneCell' = true)
    (h63 : n + m ≤ 1000000) (hbase : base ≤ w.heap.size)
    (h : ∀ v' w', w'.ownsRow base 95 2 v' (n + m) (xs ++ news) → w.grownBy w' v.ownBlock → wpList Try.prog ops Q rest (a.put o.dst v') w') : wpList Try.prog ops Q (o :: rest) a w := by
  obtain ⟨i, hi, hz0, hz1, hz2⟩ := info_parts info_cube
  exact wpList_append_row hgd s x 51 ho base 95 i _ 2 16 Try.underlying51 hi hz0 hz1 hz2 rfl (by decide) v n xs hs hown sv m news hx hr h1 (by unfold maxLen; omega) (by omega) hbase h
theorem cubes_one (ks : List (Int × Int)) : ∀ u ∈ cubes ks, u.oneCell' = true := by
  intro u hu
  unfold cubes at hu
  obtain ⟨k, _, hk⟩ := List.mem_flatMap.1 hu
  simp at hk
  rcases hk with rfl | rfl <;> rfl
theorem own_neP {w : World} {base n size : Nat} {e t : TypeId} {v : Value} {xs : List Value} {g : Nat} {cs : Array Value} {fr : Nat × Nat} (h : w.ownsRow base e size v n xs) (hh : w.heap[g]? = some (.cells cs t fr)) (ht : t ≠ e) : v.ownBlock ≠ some g := by
  rcases h.2 with ⟨rfl, rfl⟩ | ⟨g', cap, cur, rfl, hb, hh', _⟩
  · simp [Value.ownBlock]
  · intro e'
    have : g' = g := by simpa [Value.ownBlock] using e'
    subst this
    rw [hh] at hh'
    injection hh' with hh'
    injection hh' with _ h2 _
    exact ht h2
theorem own_ge {w : World} {base n size : Nat} {e : TypeId} {v : Value} {xs : List Value} (h : w.ownsRow base e size v n xs) : ∀ k, v.ownBlock = some k → base ≤ k := fun k hk => (h.lt k hk).1
namespace Two
theorem pstep_length (t n : Nat) (out : List (Nat × Nat)) (k : Nat × Nat) : (pstep t n out k).length ≤ out.length + 1 := by
  unfold pstep
  split <;> simp
theorem rowF_length {f : List (Nat × Nat) → Nat × Nat → List (Nat × Nat)} (hf : ∀ out k, (f out k).length ≤ out.length + 1) (out : List (Nat × Nat)) (c : Nat) : ∀ v, (rowF f out c v).length ≤ out.length + v
  | 0 => Nat.le_refl _
  | v + 1 => by
    have h1 := hf (rowF f out c v) (c, v)
    have h2 := rowF_length hf out c v
    rw [rowF]
    omega
theorem tabF_length {f : List (Nat × Nat) → Nat × Nat → List (Nat × Nat)} (hf : ∀ out k, (f out k).length ≤ out.length + 1) (m : Nat) : ∀ c, (tabF f m c).length ≤ c * m
  | 0 => by simp [tabF]
  | c + 1 => by
    have h1 := rowF_length hf (tabF f m c) c m
    have h2 := tabF_length hf m c
    rw [tabF, Nat.add_mul]
    omega
theorem mem_pstep {t n : Nat} {out : List (Nat × Nat)} {k q : Nat × Nat} (h : q ∈ pstep t n out k) : q ∈ out ∨ q = k := by
  unfold pstep at h
  split at h
  · simpa using h
  · exact .inl h
theorem mem_rowF {f : List (Nat × Nat) → Nat × Nat → List (Nat × Nat)} (hf : ∀ out k q, q ∈ f out k → q ∈ out ∨ q = k) {out : List (Nat × Nat)} {c : Nat} {q : Nat × Nat} : ∀ {v}, q ∈ rowF f out c v → q ∈ out ∨ (q.1 = c ∧ q.2 < v)
  | 0, h => .inl h
  | v + 1, h => by
    rw [rowF] at h
    rcases hf _ _ _ h with h | rfl
    · rcases mem_rowF hf h with h | ⟨h1, h2⟩
      · exact .inl h
      · exact .inr ⟨h1, by omega⟩
    · exact .inr ⟨rfl, by simp⟩
theorem mem_tabF {f : List (Nat × Nat) → Nat × Nat → List (Nat × Nat)} (hf : ∀ out k q, q ∈ f out k → q ∈ out ∨ q = k) {m : Nat} {q : Nat × Nat} : ∀ {c}, q ∈ tabF f m c → q.1 < c ∧ q.2 < m
  | 0, h => by simp [tabF] at h
  | c + 1, h => by
    rw [tabF] at h
    rcases mem_rowF hf h with h | ⟨h1, h2⟩
    · have := mem_tabF hf h
      omega
    · omega
end Two
theorem cubesN_own {w : World} {b : Nat} {e : TypeId} {v : Value} {R : List (Nat × Nat)} (h : w.ownsRow b e 2 v R.length (cubes (R.map intK))) : CubesN w v R := by
  unfold CubesN CubesAt
  rw [List.length_map]
  exact Row.of_own h
/-- What Primes returns. -/
def primesI (t n : Int) : List (Nat × Nat) := if fitsT t n then Two.primes t.toNat n.toNat else []
def PrimesOut (t n : Int) (w : World) (e : Ending) (w' : World) : Prop :=
  ∃ v, e = .returned v ∧ w'.ownsRow w.heap.size 95 2 v (primesI t n).length (cubes ((primesI t n).map intK)) ∧ Below w.heap.size w w'
theorem implPrimes_any (t n : Int) (w : World) : Calls Try.prog 30 #[.int .i64 t, .int .i64 n] w (PrimesOut t n w) := by
  cases hf : fitsT t n
  · have hp : primesI t n = [] := by unfold primesI; rw [hf]; rfl
    have Hp := Lib.hid hp
    have Hf := Lib.hid hf
    clear hp hf
    go_enter Try.func30, Try.ntmps30
    go_wp2_with fail
    refine (tableFits_any t n _).mono ?_
    rintro e w' ⟨rfl, rfl⟩
    rw [Hf.out]
    go_wp2_with fail
    go_ret
    exact ⟨_, rfl, by rw [Hp.out]; exact World.ownsRow_nil _ _ _ _, Below.refl _ _⟩
  · obtain ⟨T, N, rfl, rfl, hN, hT2, hT⟩ := fitsT_nat hf
    have hp : primesI T N = Two.tabF (Two.pstep T N) (2 ^ N) (2 ^ N) := by unfold primesI; rw [hf, Two.primes_eq]; rfl
    have Hp := Lib.hid hp
    have Hf := Lib.hid hf
    clear hp hf hT2
    obtain ⟨M, hM, e, hp, hp0⟩ := pow4 hN
    rw [hM.out] at Hp
    have hmemT : Hid (∀ q c, q ∈ Two.tabF (Two.pstep T N) M c → q.1 < c ∧ q.2 < M) := Lib.hid fun q c h => Two.mem_tabF (fun _ _ _ => Two.mem_pstep) h
    go_enter Try.func30, Try.ntmps30
    go_wp2_with fail
    refine (tableFits_any _ _ _).mono ?_
    rintro e w' ⟨rfl, rfl⟩
    rw [Hf.out]
    go_wp2_with fail
    go_loopw [5, 15] (fun v i wr => ∃ c : Nat, c ≤ M ∧ i = .int .i64 c ∧ wr.ownsRow w.heap.size 95 2 v (Two.tabF (Two.pstep T N) M c).length (cubes ((Two.tabF (Two.pstep T N) M c).map intK)) ∧ Below w.heap.size w wr) (fun _ i _ => M - (intOf i).toNat)
    case atStart => exact ⟨0, by omega, rfl, World.ownsRow_nil _ _ _ _, Below.refl _ _⟩
    case round =>
      obtain ⟨c, hc, rfl, hown, hb⟩ := hrel
      have Hb := Lib.hid hb
      have Hown := Lib.hid hown
      clear hb hown
      by_cases hlt : c < M
      · have hz := Hb.out.size
        have hO : (Two.tabF (Two.pstep T N) M c).length ≤ 240 := by
          have h1 := Two.tabF_length (Two.pstep_length T N) M c
          have h2 : c * M ≤ 15 * 16 := Nat.mul_le_mul (by omega) hp
          omega
        have HmO : Hid (∀ q ∈ Two.tabF (Two.pstep T N) M c, q.1 < 16) := Lib.hid fun q hq => by have := (hmemT.out q c hq).1; omega
        have HO1 : Hid (∀ k, Two.tabF (Two.pstep T N) M (k + 1) = Two.rowF (Two.pstep T N) (Two.tabF (Two.pstep T N) M k) k M) := Lib.hid fun _ => rfl
        have HO2 := Lib.hid (HO1.out c)
        generalize Two.tabF (Two.pstep T N) M c = O at *
        have hg6 : (wr.alloc (.cells #[.int .i64 c] 3)).heap[wr.heap.size]? = some (.cells #[.int .i64 c] 3 (0, 0)) := heap_alloc_new _ _
        have HownA := Lib.hid (Hown.out.alloc (.cells #[.int .i64 c] 3))
        have HbA := Lib.hid (Hb.out.alloc hz (.cells #[.int .i64 c] 3))
        clear Hown Hb
        go_wp2_with fail
        generalize wr.alloc (.cells #[.int .i64 c] 3) = W1 at *
        generalize wr.heap.size = g6 at *
        go_loopw [5, 20] (fun v i wq => ∃ x : Nat, x ≤ M ∧ i = .int .i64 x ∧ wq.ownsRow w.heap.size 95 2 v (Two.rowF (Two.pstep T N) O c x).length (cubes ((Two.rowF (Two.pstep T N) O c x).map intK)) ∧ wq.heap[g6]? = some (.cells #[.int .i64 c] 3 (0, 0)) ∧ Below w.heap.size w wq) (fun _ i _ => M - (intOf i).toNat)
        case atStart => exact ⟨0, by omega, rfl, HownA.out, hg6, HbA.out⟩
        case round =>
          obtain ⟨x, hx, rfl, hown, hg6, hb⟩ := hrel
          have Hb := Lib.hid hb
          have Hown := Lib.hid hown
          clear hb hown HownA HbA
          by_cases hlt2 : x < M
          · have hzr := Hb.out.size
            have hL := Two.rowF_length (Two.pstep_length T N) O c x
            have HmR : Hid (∀ q ∈ Two.rowF (Two.pstep T N) O c x, q.1 < 65536) := Lib.hid fun q hq => by
              rcases Two.mem_rowF (fun _ _ _ => Two.mem_pstep) hq with h | ⟨h, _⟩
              · have := HmO.out q h; omega
              · omega
            have HR : Hid (Two.rowF (Two.pstep T N) O c (x + 1) = Two.pstep T N (Two.rowF (Two.pstep T N) O c x) (c, x)) := Lib.hid rfl
            obtain ⟨R2, hR2⟩ : ∃ R2, Two.rowF (Two.pstep T N) O c (x + 1) = R2 := ⟨_, rfl⟩
            rw [hR2] at HR
            have HR1 := Lib.hid hR2
            clear hR2
            generalize Two.rowF (Two.pstep T N) O c x = R at *
            have c6 := blk_cell hg6 0
            simp only [List.getElem?_toArray, List.getElem?_cons_zero] at c6
            have z6 : g6 < wr.heap.size := by
              rcases Nat.lt_or_ge g6 wr.heap.size with h | h
              · exact h
              · rw [Array.getElem?_eq_none h] at hg6; cases hg6
            have k6 : ((wr.alloc (.cells #[.int .i64 x] 3)).alloc (.cells #[.int .i64 c, .int .i64 x] 95)).heap[g6]? = some (.cells #[.int .i64 c] 3 (0, 0)) := by
              rw [heap_alloc_old _ _ (by simp; omega), heap_alloc_old _ _ z6]; exact hg6
            have k7 : ((wr.alloc (.cells #[.int .i64 x] 3)).alloc (.cells #[.int .i64 c, .int .i64 x] 95)).heap[wr.heap.size]? = some (.cells #[.int .i64 x] 3 (0, 0)) := by
              rw [heap_alloc_old _ _ (by simp)]; exact heap_alloc_new _ _
            have k8 : ((wr.alloc (.cells #[.int .i64 x] 3)).alloc (.cells #[.int .i64 c, .int .i64 x] 95)).heap[wr.heap.size + 1]? = some (.cells #[.int .i64 c, .int .i64 x] 95 (0, 0)) := by
              have := heap_alloc_new (wr.alloc (.cells #[.int .i64 x] 3)) (.cells #[.int .i64 c, .int .i64 x] 95)
              simpa using this
            have HownB := Lib.hid ((Hown.out.alloc (.cells #[.int .i64 x] 3)).alloc (.cells #[.int .i64 c, .int .i64 x] 95))
            have HbB := Lib.hid ((Hb.out.alloc hzr (.cells #[.int .i64 x] 3)).alloc (by simp; omega) (.cells #[.int .i64 c, .int .i64 x] 95))
            have zB : wr.heap.size + 2 = ((wr.alloc (.cells #[.int .i64 x] 3)).alloc (.cells #[.int .i64 c, .int .i64 x] 95)).heap.size := by simp
            have HzB := Lib.hid zB
            clear zB Hown Hb
            go_upto_region 11 with fail
            generalize (wr.alloc (.cells #[.int .i64 x] 3)).alloc (.cells #[.int .i64 c, .int .i64 x] 95) = W2 at *
            generalize wr.heap.size = g7 at *
            clear hg6 c6
            have c6 := blk_cell k6 0
            have c7 := blk_cell k7 0
            have c8 := blk_cell k8 0
            have c9 := blk_cell k8 1
            simp only [List.getElem?_toArray, List.getElem?_cons_zero, List.getElem?_cons_succ] at c6 c7 c8 c9
            have z2 : g7 + 2 ≤ W2.heap.size := by have := HzB.out; omega
            have ea := andNot_nat x c (by omega) (by omega)
            have HcD : Hid (Two.cand T N (c, x) = ((x &&& c == x) && Two.within (c, x) T N)) := Lib.hid rfl
            cases hfine : (x &&& c == x)
            · have hn : bits .andNot .i64 (x : Int) (c : Int) != 0 := by rw [bne, ea, hfine]; rfl
              have H : Hid (R2 = R) := Lib.hid (by rw [HR.out, Two.pstep, HcD.out, hfine]; rfl)
              clear ea hfine
              go_wp2_with fail
              go_roundw
              case rel => exact ⟨x + 1, by omega, by go_num, by rw [HR1.out, H.out]; exact HownB.out, k6, HbB.out⟩
              case measure => simp [intOf]; omega
            · have hn : (bits .andNot .i64 (x : Int) (c : Int) != 0) = false := by rw [bne, ea, hfine]; rfl
              have Hfine := Lib.hid hfine
              have zw := HbB.out.size
              clear ea hfine
              go_wp2_with fail
              refine (implies_any c x T N _ hN (by omega) hT).mono ?_
              rintro e w3 ⟨rfl, hb3⟩
              have Ho3 := Lib.hid (own_below HownB.out hb3)
              have Hb3 := Lib.hid (HbB.out.trans (hb3.mono zw))
              have k36 := (hb3.block g6 (by omega)).trans k6
              have d6 := (hb3.cell (p := ⟨g6, 0, none⟩) (by simp only; omega)).trans c6
              have d7 := (hb3.cell (p := ⟨g7, 0, none⟩) (by simp only; omega)).trans c7
              have d8 := (hb3.cell (p := ⟨g7 + 1, 0, none⟩) (by simp only; omega)).trans c8
              have d9 := (hb3.cell (p := ⟨g7 + 1, 1, none⟩) (by simp only; omega)).trans c9
              have z3 := hb3.size
              clear hb3 HownB HbB k6 k7 k8 c6 c7 c8 c9
              cases hwi : Two.within (c, x) T N
              · have H : Hid (R2 = R) := Lib.hid (by rw [HR.out, Two.pstep, HcD.out, Hfine.out, hwi]; rfl)
                clear hwi
                go_wp2_with fail
                go_roundw
                case rel => exact ⟨x + 1, by omega, by go_num, by rw [HR1.out, H.out]; exact Ho3.out, k36, Hb3.out⟩
                case measure => simp [intOf]; omega
              · have Hwi := Lib.hid hwi
                clear hwi
                go_wp2_with fail
                refine (containsFunc_any _ R c x g6 g7 _ (cubesN_own Ho3.out) d6 d7 (by omega) (by omega) HmR.out (by omega) (by omega)).mono ?_
                rintro e w4 ⟨rfl, hb4⟩
                have Ho4 := Lib.hid (own_below Ho3.out hb4)
                have Hb4 := Lib.hid (Hb3.out.trans (hb4.mono (by omega)))
                have k46 := (hb4.block g6 (by omega)).trans k36
                have f8 := (hb4.cell (p := ⟨g7 + 1, 0, none⟩) (by simp only; omega)).trans d8
                have f9 := (hb4.cell (p := ⟨g7 + 1, 1, none⟩) (by simp only; omega)).trans d9
                have z4 := hb4.size
                clear hb4 Ho3 Hb3 k36 d6 d7 d8 d9
                cases hany : R.any (fun b => Two.gen (c, x) b)
                · have H : Hid (R2 = R ++ [(c, x)]) := Lib.hid (by rw [HR.out, Two.pstep, HcD.out, Hfine.out, Hwi.out, hany]; rfl)
                  have Hlit := Lib.hid (Row.of_own (World.ownsRow_lit (base := w4.heap.size) (e := 95) (size := 2) w4 #[.int .i64 c, .int .i64 x] 1 (Nat.le_refl _) (by unfold maxLen; omega) rfl))
                  clear hany
                  go_wp2_with (at_builtin; refine append_cubes rfl (.tmp 41) (.tmp 43) rfl w.heap.size _ R.length _ rfl (Ho4.out.alloc _) _ 1 [.int .i64 c, .int .i64 x] rfl Hlit.out (by simp [Value.oneCell']) (by omega) (by simp; omega) ?_; intro v5 w5 hown5 hg5; have Ho5 := Lib.hid hown5; have Hg5 := Lib.hid hg5; clear hown5 hg5)
                  go_roundw
                  case rel =>
                    have hne := own_neP Ho4.out k46 (by decide)
                    have k56 := (Hg5.out.block g6 (by simp; omega) (fun h => hne h.symm)).trans ((heap_alloc_old w4 _ (by omega)).trans k46)
                    have hb5 := (Hb4.out.alloc (by omega) (.cells #[.int .i64 c, .int .i64 x] 95)).grown Hg5.out (by simp; omega) (own_ge Ho4.out)
                    refine ⟨x + 1, by omega, by go_num, ?_, k56, hb5⟩
                    rw [HR1.out, H.out, List.map_append, cubes_append, List.length_append]
                    exact Ho5.out
                  case measure => simp [intOf]; omega
                · have H : Hid (R2 = R) := Lib.hid (by rw [HR.out, Two.pstep, HcD.out, Hfine.out, Hwi.out, hany]; rfl)
                  clear hany
                  go_wp2_with fail
                  go_roundw
                  case rel => exact ⟨x + 1, by omega, by go_num, by rw [HR1.out, H.out]; exact Ho4.out, k46, Hb4.out⟩
                  case measure => simp [intOf]; omega
          · obtain rfl : x = M := by omega
            rw [← HO2.out] at Hown
            go_wp2
            go_roundw
            case rel => exact ⟨c + 1, by omega, by go_num, Hown.out, Hb.out⟩
            case measure => simp [intOf]; omega
      · obtain rfl : c = M := by omega
        rw [← Hp.out] at Hown
        go_wp2
        go_ret
        exact ⟨_, rfl, Hown.out, Hb.out⟩
end Go.Proofs.Ytlbfejdbfhgifaa

namespace Go.Proofs.Ytlbfejdbfhgifaa
namespace Cir
/-! Violations of invariants, plainly. -/
/-- Output o is 1 in state s for input number x. -/
def bad (c : Ci) (o s x : Nat) : Bool := (outsOf c s x).getD o false
def vsts (l : List (Nat × List Nat)) : List Nat := l.map (·.1)
def vpush (l : List (Nat × List Nat)) (n : Nat) (p : List Nat) : List (Nat × List Nat) := if memB (vsts l) n then l else l ++ [(n, p)]
def vpushes (c : Ci) (s : Nat) (p : List Nat) : Nat → List (Nat × List Nat) → List (Nat × List Nat)
  | 0, l => l
  | j + 1, l => vpush (vpushes c s p j l) (nextOf c s j) (p ++ [j])
def vfind (c : Ci) (o s M : Nat) : Option Nat := (List.range M).find? (bad c o s)
def vbfs (c : Ci) (o : Nat) : Nat → Nat → List (Nat × List Nat) → Option (List Nat)
  | 0, _, _ => none
  | f + 1, k, l => match l[k]? with
    | none => none
    | some (s, p) => match vfind c o s (2 ^ c.ins) with
      | some x => some (p ++ [x])
      | none => vbfs c o f (k + 1) (vpushes c s p (2 ^ c.ins) l)
def viol (c : Ci) (o : Nat) : Option (List Nat) := vbfs c o 9 0 [(0, [])]
theorem vsts_vpush (l : List (Nat × List Nat)) (n : Nat) (p : List Nat) : vsts (vpush l n p) = push (vsts l) n := by
  unfold vpush push memB
  split
  · rfl
  · unfold vsts; simp
theorem vsts_vpushes (c : Ci) (s : Nat) (p : List Nat) (l : List (Nat × List Nat)) : ∀ j, vsts (vpushes c s p j l) = pushes c s j (vsts l)
  | 0 => by rw [pushes_zero]; rfl
  | j + 1 => by rw [pushes_succ, ← vsts_vpushes c s p l j, ← vsts_vpush]; rfl
theorem vsts_get {l : List (Nat × List Nat)} {k s : Nat} {p : List Nat} (h : l[k]? = some (s, p)) : (vsts l)[k]? = some s := by
  unfold vsts; rw [List.getElem?_map, h]; rfl
theorem vsts_length (l : List (Nat × List Nat)) : (vsts l).length = l.length := by unfold vsts; simp
theorem vpush_prefix (l : List (Nat × List Nat)) (n : Nat) (p : List Nat) : ∃ m, vpush l n p = l ++ m := by
  unfold vpush
  split
  · exact ⟨[], by simp⟩
  · exact ⟨_, rfl⟩
theorem vpushes_prefix (c : Ci) (s : Nat) (p : List Nat) (l : List (Nat × List Nat)) : ∀ j, ∃ m, vpushes c s p j l = l ++ m
  | 0 => ⟨[], by simp [vpushes]⟩
  | j + 1 => by
    obtain ⟨m, hm⟩ := vpushes_prefix c s p l j
    obtain ⟨m', hm'⟩ := vpush_prefix (vpushes c s p j l) (nextOf c s j) (p ++ [j])
    exact ⟨m ++ m', by rw [vpushes, hm', hm, List.append_assoc]⟩
theorem vpushes_get {c : Ci} {s : Nat} {p : List Nat} {l : List (Nat × List Nat)} {j k : Nat} {x : Nat × List Nat} (h : l[k]? = some x) : (vpushes c s p j l)[k]? = some x := by
  obtain ⟨m, hm⟩ := vpushes_prefix c s p l j
  rw [hm, List.getElem?_append_left (List.getElem?_eq_some_iff.1 h).1, h]
/-- Lists of states with the inputs that lead there. -/
structure Vs (c : Ci) (l : List (Nat × List Nat)) : Prop where
  sts : Sts c (vsts l)
  len : ∀ (k s : Nat) (p : List Nat), l[k]? = some (s, p) → p.length ≤ k
  inp : ∀ (k s : Nat) (p : List Nat), l[k]? = some (s, p) → ∀ x ∈ p, x < 2 ^ c.ins
theorem Vs.zero (c : Ci) : Vs c [(0, [])] := by
  refine ⟨Sts.zero c, fun k s p h => ?_, fun k s p h => ?_⟩
  · cases k with
    | zero => simp at h; obtain ⟨_, rfl⟩ := h; simp
    | succ k => simp at h
  · cases k with
    | zero => simp at h; obtain ⟨_, rfl⟩ := h; simp
    | succ k => simp at h
theorem Vs.push {c : Ci} {l : List (Nat × List Nat)} (h : Vs c l) {k s : Nat} {p : List Nat} (hk : l[k]? = some (s, p)) {n x : Nat} (hn : n < 2 ^ c.next.length) (hx : x < 2 ^ c.ins) : Vs c (vpush l n (p ++ [x])) := by
  refine ⟨by rw [vsts_vpush]; exact h.sts.push hn, fun k' s' p' h' => ?_, fun k' s' p' h' => ?_⟩
  all_goals
    unfold vpush at h'
    split at h'
    · first | exact h.len _ _ _ h' | exact h.inp _ _ _ h'
    · rcases Nat.lt_or_ge k' l.length with hl | hl
      · rw [List.getElem?_append_left hl] at h'
        first | exact h.len _ _ _ h' | exact h.inp _ _ _ h'
      · rw [List.getElem?_append_right hl] at h'
        have hz : k' - l.length = 0 := by
          rcases Nat.eq_zero_or_pos (k' - l.length) with hz | hz
          · exact hz
          · rw [List.getElem?_eq_none (by simp; omega)] at h'; cases h'
        rw [hz] at h'
        simp at h'
        obtain ⟨rfl, rfl⟩ := h'
        first
        | (have := h.len _ _ _ hk
           have h2 := (List.getElem?_eq_some_iff.1 hk).1
           simp
           omega)
        | (intro y hy
           rcases List.mem_append.1 hy with hy | hy
           · exact h.inp _ _ _ hk y hy
           · obtain rfl := List.mem_singleton.1 hy
             exact hx)
theorem Vs.pushes {c : Ci} {l : List (Nat × List Nat)} (h : Vs c l) {k s : Nat} {p : List Nat} (hk : l[k]? = some (s, p)) : ∀ j, j ≤ 2 ^ c.ins → Vs c (vpushes c s p j l)
  | 0, _ => h
  | j + 1, hj => (Vs.pushes h hk j (by omega)).push (vpushes_get hk) (nextOf_lt c s j) (by omega)
theorem Vs.size {c : Ci} {l : List (Nat × List Nat)} (h : Vs c l) (hc : Ok c) : l.length ≤ 8 := by
  have := h.sts.len hc
  rwa [vsts_length] at this
theorem vfind_none {c : Ci} {o s M : Nat} (h : ∀ x, x < M → bad c o s x = false) : vfind c o s M = none := by
  unfold vfind
  rw [List.find?_eq_none]
  intro x hx
  rw [h x (List.mem_range.1 hx)]
  simp
theorem find_range (p : Nat → Bool) : ∀ (M x : Nat), x < M → p x = true → (∀ y, y < x → p y = false) → (List.range M).find? p = some x
  | 0, x, h, _, _ => by omega
  | M + 1, x, h, hp, hl => by
    rw [List.range_succ, List.find?_append]
    rcases Nat.lt_or_ge x M with hx | hx
    · rw [find_range p M x hx hp hl]; rfl
    · obtain rfl : x = M := by omega
      rw [List.find?_eq_none.2 (fun y hy => by rw [hl y (List.mem_range.1 hy)]; simp)]
      simp [hp]
theorem vfind_some {c : Ci} {o s M x : Nat} (hx : x < M) (hb : bad c o s x = true) (h : ∀ y, y < x → bad c o s y = false) : vfind c o s M = some x := find_range _ M x hx hb h
theorem vbfs_hit {c : Ci} {o f k s x : Nat} {p : List Nat} {l : List (Nat × List Nat)} (hk : l[k]? = some (s, p)) (h : vfind c o s (2 ^ c.ins) = some x) : vbfs c o (f + 1) k l = some (p ++ [x]) := by
  rw [vbfs, hk]; simp only [h]
theorem vbfs_step {c : Ci} {o f k s : Nat} {p : List Nat} {l : List (Nat × List Nat)} (hk : l[k]? = some (s, p)) (h : vfind c o s (2 ^ c.ins) = none) : vbfs c o (f + 1) k l = vbfs c o f (k + 1) (vpushes c s p (2 ^ c.ins) l) := by
  rw [vbfs, hk]; simp only [h]
theorem vbfs_end {c : Ci} {o f : Nat} {l : List (Nat × List Nat)} : vbfs c o f l.length l = none := by
  cases f with
  | zero => rfl
  | succ f => rw [vbfs, List.getElem?_eq_none (Nat.le_refl _)]
theorem vpush_no {l : List (Nat × List Nat)} {n : Nat} {p : List Nat} (h : memB (vsts l) n = false) : vpush l n p = l ++ [(n, p)] := by
  unfold vpush; rw [h]; rfl
theorem vpush_yes {l : List (Nat × List Nat)} {n : Nat} {p : List Nat} (h : memB (vsts l) n = true) : vpush l n p = l := by
  unfold vpush; rw [h]; rfl
theorem vpushes_succ (c : Ci) (s : Nat) (p : List Nat) (j : Nat) (l : List (Nat × List Nat)) : vpushes c s p (j + 1) l = vpush (vpushes c s p j l) (nextOf c s j) (p ++ [j]) := rfl
/-- The way back: from which place, and by which input. -/
structure Back (l : List (Nat × List Nat)) (from_ how : List Nat) : Prop where
  l1 : from_.length = l.length
  l2 : how.length = l.length
  zero : ∃ s, l[0]? = some (s, [])
  step : ∀ (k s : Nat) (p : List Nat), l[k]? = some (s, p) → 0 < k → ∃ i x s' p', from_[k]? = some i ∧ i < k ∧ how[k]? = some x ∧ l[i]? = some (s', p') ∧ p = p' ++ [x]
theorem Back.start : Back [(0, [])] [0] [0] := ⟨rfl, rfl, ⟨0, rfl⟩, fun k s p h hk => by
  cases k with
  | zero => omega
  | succ k => simp at h⟩
theorem Back.snoc {l : List (Nat × List Nat)} {from_ how : List Nat} (h : Back l from_ how) {k s n x : Nat} {p : List Nat} (hk : l[k]? = some (s, p)) : Back (l ++ [(n, p ++ [x])]) (from_ ++ [k]) (how ++ [x]) := by
  have hkl := (List.getElem?_eq_some_iff.1 hk).1
  refine ⟨by simp [h.l1], by simp [h.l2], ?_, fun k' s' p' h' hpos => ?_⟩
  · obtain ⟨s0, h0⟩ := h.zero
    exact ⟨s0, by rw [List.getElem?_append_left (List.getElem?_eq_some_iff.1 h0).1, h0]⟩
  · rcases Nat.lt_or_ge k' l.length with hl | hl
    · rw [List.getElem?_append_left hl] at h'
      obtain ⟨i, y, s1, p1, h1, h2, h3, h4, h5⟩ := h.step k' s' p' h' hpos
      exact ⟨i, y, s1, p1, by rw [List.getElem?_append_left (by rw [h.l1]; exact hl), h1], h2, by rw [List.getElem?_append_left (by rw [h.l2]; exact hl), h3], by rw [List.getElem?_append_left (by omega), h4], h5⟩
    · have hz : k' = l.length := by
        rcases Nat.lt_or_ge l.length k' with hz | hz
        · rw [List.getElem?_eq_none (by simp; omega)] at h'; cases h'
        · omega
      subst hz
      rw [List.getElem?_append_right (Nat.le_refl _), Nat.sub_self] at h'
      simp at h'
      obtain ⟨rfl, rfl⟩ := h'
      exact ⟨k, x, s, p, by rw [List.getElem?_append_right (by rw [h.l1]; exact Nat.le_refl _), h.l1]; simp, hkl, by rw [List.getElem?_append_right (by rw [h.l2]; exact Nat.le_refl _), h.l2]; simp, by rw [List.getElem?_append_left hkl, hk], rfl⟩
end Cir
end Go.Proofs.Ytlbfejdbfhgifaa

namespace Go.Proofs.Ytlbfejdbfhgifaa
namespace Cir
/-! Induction over clock cycles, plainly. -/
def goodS (c : Ci) (o s : Nat) : Bool := (List.range (2 ^ c.ins)).all fun x => !bad c o s x
/-- From every state of the set the output is 0. -/
def good (c : Ci) (o : Nat) (S : Nat → Bool) : Bool := (List.range 8).all fun s => !S s || goodS c o s
def reaches (c : Ci) (o s y : Nat) : Bool := (List.range (2 ^ c.ins)).any fun x => !bad c o s x && nextOf c s x == y
/-- The states behind a cycle with output 0. -/
def adv (c : Ci) (o : Nat) (S : Nat → Bool) (y : Nat) : Bool := (List.range 8).any fun s => S s && reaches c o s y
def advN (c : Ci) (o : Nat) (S : Nat → Bool) : Nat → Nat → Bool
  | 0 => S
  | j + 1 => adv c o (advN c o S j)
def only0 (x : Nat) : Bool := x == 0
def upTo (n x : Nat) : Bool := decide (x < n)
def ind (c : Ci) (o k : Nat) : Bool := (List.range k).all (fun j => good c o (advN c o only0 j)) && good c o (advN c o (upTo (2 ^ c.next.length)) k)
theorem good_iff {c : Ci} {o : Nat} {S : Nat → Bool} : good c o S = true ↔ ∀ s, s < 8 → S s = true → ∀ x, x < 2 ^ c.ins → bad c o s x = false := by
  unfold good goodS
  simp only [List.all_eq_true, List.mem_range, Bool.or_eq_true, Bool.not_eq_true']
  constructor
  · intro h s hs hS x hx
    rcases h s hs with h | h
    · rw [hS] at h; cases h
    · exact h x hx
  · intro h s hs
    cases hS : S s
    · exact .inl rfl
    · exact .inr (h s hs hS)
theorem adv_iff {c : Ci} {o : Nat} {S : Nat → Bool} {y : Nat} : adv c o S y = true ↔ ∃ s, s < 8 ∧ S s = true ∧ ∃ x, x < 2 ^ c.ins ∧ bad c o s x = false ∧ nextOf c s x = y := by
  unfold adv reaches
  simp only [List.any_eq_true, List.mem_range, Bool.and_eq_true, Bool.not_eq_true', beq_iff_eq]
theorem ind_no {c : Ci} {o k j : Nat} (hj : j < k) (h : good c o (advN c o only0 j) = false) : ind c o k = false := by
  unfold ind
  rw [Bool.and_eq_false_iff]
  refine .inl (Bool.eq_false_iff.2 fun ha => ?_)
  have := List.all_eq_true.1 ha j (List.mem_range.2 hj)
  rw [h] at this
  cases this
theorem ind_yes {c : Ci} {o k : Nat} (h : ∀ j, j < k → good c o (advN c o only0 j) = true) : ind c o k = good c o (advN c o (upTo (2 ^ c.next.length)) k) := by
  unfold ind
  rw [List.all_eq_true.2 fun j hj => h j (List.mem_range.1 hj), Bool.true_and]
/-- The reference's definitions. -/
def safe (c : Ci) (o : Nat) : Nat → Nat → Bool
  | 0, _ => true
  | k + 1, s => (List.range (2 ^ c.ins)).all fun x => !bad c o s x && safe c o k (nextOf c s x)
def stepB (c : Ci) (o : Nat) : Nat → Nat → Bool
  | 0, s => (List.range (2 ^ c.ins)).all fun x => !bad c o s x
  | k + 1, s => (List.range (2 ^ c.ins)).all fun x => bad c o s x || stepB c o k (nextOf c s x)
theorem safe_iff {c : Ci} {o k s : Nat} : safe c o (k + 1) s = true ↔ ∀ x, x < 2 ^ c.ins → bad c o s x = false ∧ safe c o k (nextOf c s x) = true := by
  rw [safe]
  simp only [List.all_eq_true, List.mem_range, Bool.and_eq_true, Bool.not_eq_true']
theorem stepB_zero {c : Ci} {o s : Nat} : stepB c o 0 s = true ↔ ∀ x, x < 2 ^ c.ins → bad c o s x = false := by
  rw [stepB]
  simp only [List.all_eq_true, List.mem_range, Bool.not_eq_true']
theorem stepB_succ {c : Ci} {o k s : Nat} : stepB c o (k + 1) s = true ↔ ∀ x, x < 2 ^ c.ins → bad c o s x = true ∨ stepB c o k (nextOf c s x) = true := by
  rw [stepB]
  simp only [List.all_eq_true, List.mem_range, Bool.or_eq_true]
theorem next_lt8 {c : Ci} (hc : Ok c) (s x : Nat) : nextOf c s x < 8 := by
  have h1 := nextOf_lt c s x
  have h2 : 2 ^ c.next.length ≤ 2 ^ 3 := Nat.pow_le_pow_right (show 0 < 2 by decide) hc.nexts
  omega
theorem advN_adv (c : Ci) (o : Nat) (S : Nat → Bool) : ∀ j, advN c o S (j + 1) = advN c o (adv c o S) j
  | 0 => rfl
  | j + 1 => by rw [advN, advN_adv c o S j, advN]
theorem safe_adv {c : Ci} (hc : Ok c) {o : Nat} : ∀ (k : Nat) (S : Nat → Bool), (∀ s, s < 8 → S s = true → safe c o k s = true) ↔ ∀ j, j < k → good c o (advN c o S j) = true
  | 0, S => ⟨fun _ j hj => by omega, fun _ s _ _ => rfl⟩
  | k + 1, S => by
    have IH := safe_adv hc (o := o) k (adv c o S)
    constructor
    · intro h j hj
      cases j with
      | zero => exact good_iff.2 fun s hs hS x hx => (safe_iff.1 (h s hs hS) x hx).1
      | succ j =>
        rw [advN_adv]
        exact IH.1 (fun y hy hS => by
          obtain ⟨s, hs, h1, x, hx, _, rfl⟩ := adv_iff.1 hS
          exact (safe_iff.1 (h s hs h1) x hx).2) j (by omega)
    · intro h s hs hS
      have h0 := good_iff.1 (h 0 (by omega)) s hs hS
      refine safe_iff.2 fun x hx => ⟨h0 x hx, ?_⟩
      exact IH.2 (fun j hj => by rw [← advN_adv]; exact h (j + 1) (by omega)) _ (next_lt8 hc s x) (adv_iff.2 ⟨s, hs, hS, x, hx, h0 x hx, rfl⟩)
theorem step_adv {c : Ci} (hc : Ok c) {o : Nat} : ∀ (k : Nat) (S : Nat → Bool), (∀ s, s < 8 → S s = true → stepB c o k s = true) ↔ good c o (advN c o S k) = true
  | 0, S => by
    constructor
    · exact fun h => good_iff.2 fun s hs hS x hx => stepB_zero.1 (h s hs hS) x hx
    · exact fun h s hs hS => stepB_zero.2 fun x hx => good_iff.1 h s hs hS x hx
  | k + 1, S => by
    have IH := step_adv hc (o := o) k (adv c o S)
    rw [advN_adv, ← IH]
    constructor
    · intro h y hy hS
      obtain ⟨s, hs, h1, x, hx, hb, rfl⟩ := adv_iff.1 hS
      rcases stepB_succ.1 (h s hs h1) x hx with h2 | h2
      · rw [hb] at h2; cases h2
      · exact h2
    · intro h s hs hS
      refine stepB_succ.2 fun x hx => ?_
      cases hb : bad c o s x
      · exact .inr (h _ (next_lt8 hc s x) (adv_iff.2 ⟨s, hs, hS, x, hx, hb, rfl⟩))
      · exact .inl rfl
theorem ind_spec {c : Ci} (hc : Ok c) (o k : Nat) : ind c o k = (safe c o k 0 && (List.range (2 ^ c.next.length)).all (stepB c o k)) := by
  have h8 : 2 ^ c.next.length ≤ 2 ^ 3 := Nat.pow_le_pow_right (show 0 < 2 by decide) hc.nexts
  have e1 : (List.range k).all (fun j => good c o (advN c o only0 j)) = safe c o k 0 := by
    rw [Bool.eq_iff_iff, List.all_eq_true]
    have := safe_adv hc (o := o) k only0
    constructor
    · intro h
      exact this.2 (fun j hj => h j (List.mem_range.2 hj)) 0 (by omega) rfl
    · intro h j hj
      refine this.1 (fun s _ hS => ?_) j (List.mem_range.1 hj)
      have : s = 0 := by simpa [only0] using hS
      rw [this]; exact h
  have e2 : good c o (advN c o (upTo (2 ^ c.next.length)) k) = (List.range (2 ^ c.next.length)).all (stepB c o k) := by
    rw [Bool.eq_iff_iff, List.all_eq_true, ← step_adv hc]
    constructor
    · exact fun h s hs => h s (by have := List.mem_range.1 hs; omega) (decide_eq_true (List.mem_range.1 hs))
    · exact fun h s _ hS => h s (List.mem_range.2 (of_decide_eq_true hS))
  rw [ind, e1, e2]
end Cir
end Go.Proofs.Ytlbfejdbfhgifaa
