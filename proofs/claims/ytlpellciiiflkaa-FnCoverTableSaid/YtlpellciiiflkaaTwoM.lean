import Derived.Test.YtlpellciiiflkaaBits
namespace Go.Proofs.Ytlpellciiiflkaa
namespace Two
/-! Plain two-level logic: cubes (care, value), truth tables as natural numbers. -/

/-- A cube is true for assignment x. -/
def has (k : Nat × Nat) (x : Nat) : Bool := x &&& k.1 == k.2
/-- The value's bits lie within the care's. -/
def fine (k : Nat × Nat) : Bool := k.2 &&& k.1 == k.2
theorem has_iff (k : Nat × Nat) (x : Nat) : has k x = true ↔ ∀ i, (x.testBit i && k.1.testBit i) = k.2.testBit i := by
  unfold has
  rw [beq_iff_eq]
  constructor
  · intro h i
    rw [← h, Nat.testBit_and]
  · intro h
    apply Nat.eq_of_testBit_eq
    intro i
    rw [Nat.testBit_and, h i]
theorem fine_iff (k : Nat × Nat) : fine k = true ↔ ∀ i, k.2.testBit i = true → k.1.testBit i = true := by
  unfold fine
  rw [beq_iff_eq]
  constructor
  · intro h i hi
    rw [← h, Nat.testBit_and] at hi
    exact (Bool.and_eq_true _ _ ▸ hi).2
  · intro h
    apply Nat.eq_of_testBit_eq
    intro i
    rw [Nat.testBit_and]
    cases hv : k.2.testBit i
    · simp
    · simp [h i hv]
theorem has_fine {k : Nat × Nat} {x : Nat} (h : has k x = true) : fine k = true := by
  rw [fine_iff]
  intro i hi
  have := (has_iff k x).1 h i
  rw [hi] at this
  exact (Bool.and_eq_true _ _ ▸ this).2

/-- A cube implies a table of n variables. -/
def within (k : Nat × Nat) (t n : Nat) : Bool := (List.range (2 ^ n)).all fun x => !has k x || t.testBit x
theorem within_iff (k : Nat × Nat) (t n : Nat) : within k t n = true ↔ ∀ x, x < 2 ^ n → has k x = true → t.testBit x = true := by
  unfold within
  rw [List.all_eq_true]
  constructor
  · intro h x hx hk
    have := h x (List.mem_range.2 hx)
    simpa [hk] using this
  · intro h x hx
    have := h x (List.mem_range.1 hx)
    cases hk : has k x
    · simp
    · simp [this hk]

/-- a implies b: every literal of b stands in a. -/
def gen (a b : Nat × Nat) : Bool := a.1 &&& b.1 == b.1 && a.2 &&& b.1 == b.2
theorem gen_iff (a b : Nat × Nat) : gen a b = true ↔ (∀ i, b.1.testBit i = true → a.1.testBit i = true) ∧ ∀ i, (a.2.testBit i && b.1.testBit i) = b.2.testBit i := by
  unfold gen
  rw [Bool.and_eq_true, beq_iff_eq, beq_iff_eq]
  constructor
  · rintro ⟨h1, h2⟩
    refine ⟨fun i hi => ?_, fun i => by rw [← h2, Nat.testBit_and]⟩
    rw [← h1, Nat.testBit_and] at hi
    exact (Bool.and_eq_true _ _ ▸ hi).1
  · rintro ⟨h1, h2⟩
    refine ⟨Nat.eq_of_testBit_eq fun i => ?_, Nat.eq_of_testBit_eq fun i => ?_⟩
    · rw [Nat.testBit_and]
      cases hb : b.1.testBit i
      · simp
      · simp [h1 i hb]
    · rw [Nat.testBit_and, h2 i]
theorem gen_refl {a : Nat × Nat} (h : fine a = true) : gen a a = true := by
  rw [gen_iff]
  refine ⟨fun _ h => h, fun i => ?_⟩
  have := (fine_iff a).1 h i
  cases hv : a.2.testBit i
  · simp
  · simp [this hv]
theorem gen_trans {a b c : Nat × Nat} (h : gen a b = true) (h' : gen b c = true) : gen a c = true := by
  rw [gen_iff] at *
  refine ⟨fun i hi => h.1 i (h'.1 i hi), fun i => ?_⟩
  rw [← h'.2 i, ← h.2 i]
  cases hc : c.1.testBit i
  · simp
  · simp [h'.1 i hc]
theorem gen_has {a b : Nat × Nat} (h : gen a b = true) {x : Nat} (hx : has a x = true) : has b x = true := by
  rw [gen_iff] at h
  rw [has_iff] at *
  intro i
  rw [← h.2 i, ← hx i]
  cases hb : b.1.testBit i
  · simp
  · simp [h.1 i hb]
theorem gen_fine {a b : Nat × Nat} (h : gen a b = true) : fine b = true := by
  rw [gen_iff] at h
  rw [fine_iff]
  intro i hi
  rw [← h.2 i] at hi
  exact (Bool.and_eq_true _ _ ▸ hi).2
/-- The more general cube has the smaller care; with the same care it is the same cube. -/
theorem gen_le {a b : Nat × Nat} (h : gen a b = true) : b.1 ≤ a.1 := by
  have h1 : a.1 &&& b.1 = b.1 := by
    unfold gen at h
    rw [Bool.and_eq_true, beq_iff_eq] at h
    exact h.1
  rw [← h1]
  exact Nat.and_le_left
theorem gen_eq {a b : Nat × Nat} (ha : fine a = true) (h : gen a b = true) (he : b.1 = a.1) : b = a := by
  have h2 : a.2 &&& b.1 = b.2 := by
    unfold gen at h
    rw [Bool.and_eq_true, beq_iff_eq, beq_iff_eq] at h
    exact h.2
  unfold fine at ha
  rw [beq_iff_eq] at ha
  rw [he, ha] at h2
  exact Prod.ext he h2.symm

/-! ### Tables -/
/-- The table t with the assignments below m that the cube has. -/
def addTo (k : Nat × Nat) (t : Nat) : Nat → Nat
  | 0 => t
  | m + 1 => if has k m then addTo k t m ||| 2 ^ m else addTo k t m
theorem addTo_bit (k : Nat × Nat) (t : Nat) : ∀ m x, (addTo k t m).testBit x = (t.testBit x || (decide (x < m) && has k x))
  | 0, x => by simp [addTo]
  | m + 1, x => by
    rw [addTo]
    split
    · rename_i h
      rw [Nat.testBit_or, addTo_bit k t m x, Nat.testBit_two_pow]
      by_cases e : m = x
      · subst e; simp [h]
      · simp only [e, decide_false, Bool.or_false]
        congr 2
        exact decide_eq_decide.2 ⟨fun h => by omega, fun h => by omega⟩
    · rename_i h
      rw [addTo_bit k t m x]
      by_cases e : m = x
      · subst e; simp [h]
      · congr 2
        exact decide_eq_decide.2 ⟨fun h => by omega, fun h => by omega⟩
/-- The table of a list of cubes, of n variables. -/
def tableOf (l : List (Nat × Nat)) (n : Nat) : Nat := l.foldl (fun t k => addTo k t (2 ^ n)) 0
theorem fold_bit (n x : Nat) : ∀ (l : List (Nat × Nat)) (t : Nat), (l.foldl (fun t k => addTo k t (2 ^ n)) t).testBit x = (t.testBit x || (decide (x < 2 ^ n) && l.any (has · x)))
  | [], t => by simp
  | k :: l, t => by
    rw [List.foldl_cons, fold_bit n x l, addTo_bit, List.any_cons]
    cases t.testBit x <;> cases decide (x < 2 ^ n) <;> simp
theorem tableOf_bit (l : List (Nat × Nat)) (n x : Nat) : (tableOf l n).testBit x = (decide (x < 2 ^ n) && l.any (has · x)) := by
  rw [tableOf, fold_bit]; simp
theorem tableOf_lt (l : List (Nat × Nat)) (n : Nat) : tableOf l n < 2 ^ 2 ^ n := by
  refine Nat.lt_pow_two_of_testBit _ fun i hi => ?_
  rw [tableOf_bit]
  simp [Nat.not_lt.2 hi]
theorem table_ext {a b n : Nat} (ha : a < 2 ^ 2 ^ n) (hb : b < 2 ^ 2 ^ n) (h : ∀ x, x < 2 ^ n → a.testBit x = b.testBit x) : a = b := by
  apply Nat.eq_of_testBit_eq
  intro i
  by_cases hi : i < 2 ^ n
  · exact h i hi
  · rw [Nat.testBit_lt_two_pow (Nat.lt_of_lt_of_le ha (Nat.pow_le_pow_right (by decide) (by omega))), Nat.testBit_lt_two_pow (Nat.lt_of_lt_of_le hb (Nat.pow_le_pow_right (by decide) (by omega)))]
end Two
end Go.Proofs.Ytlpellciiiflkaa
