import Derived.Test.YthnfbjjnabohoaaBits
namespace Go.Proofs.Ythnfbjjnabohoaa
/-! Machines, plainly. -/
/-- A machine as it lies in memory. -/
structure Mz where
  ins : Int
  next : List (List Int)
  out : List (List Int)
namespace Mac
def lenOk (ins : Int) (r : List Int) : Bool := decide ((r.length : Int) = ((2 ^ ins.toNat : Nat) : Int))
def inOk (limit x : Int) : Bool := decide (0 ≤ x ∧ x < limit)
def rowOk (ins limit : Int) (r : List Int) : Bool := lenOk ins r && r.all (inOk limit)
def sizes (m : Mz) : Bool := decide (0 ≤ m.ins ∧ m.ins ≤ 4 ∧ 1 ≤ m.next.length ∧ m.next.length ≤ 8 ∧ m.out.length = m.next.length)
def valid (m : Mz) : Bool := sizes m && (m.next.all (rowOk m.ins m.next.length) && m.out.all (rowOk m.ins 8))
/-- Row by row, as the reference looks at it. -/
def entOk (n : Int) (p : Int × Int) : Bool := inOk n p.1 && inOk 8 p.2
def pairOk (ins n : Int) (p : List Int × List Int) : Bool := lenOk ins p.1 && lenOk ins p.2 && (p.1.zip p.2).all (entOk n)
theorem all_zip {α β : Type} (f : α → Bool) (g : β → Bool) : ∀ (l : List α) (l' : List β), l.length = l'.length → (l.zip l').all (fun p => f p.1 && g p.2) = (l.all f && l'.all g)
  | [], [], _ => rfl
  | a :: l, b :: l', h => by
    rw [List.zip_cons_cons, List.all_cons, List.all_cons, List.all_cons, all_zip f g l l' (by simpa using h)]
    cases f a <;> cases g b <;> simp
  | [], _ :: _, h => by simp at h
  | _ :: _, [], h => by simp at h
theorem pair_row (ins n : Int) (p : List Int × List Int) : pairOk ins n p = (rowOk ins n p.1 && rowOk ins 8 p.2) := by
  unfold pairOk rowOk
  cases h1 : lenOk ins p.1
  · simp
  · cases h2 : lenOk ins p.2
    · simp
    · unfold lenOk at h1 h2
      rw [decide_eq_true_eq] at h1 h2
      have := all_zip (inOk n) (inOk 8) p.1 p.2 (by omega)
      simp only [Bool.true_and]
      exact this
theorem valid_zip (m : Mz) : valid m = (sizes m && (m.next.zip m.out).all (pairOk m.ins m.next.length)) := by
  unfold valid
  cases h : sizes m
  · rfl
  · unfold sizes at h
    rw [decide_eq_true_eq] at h
    rw [show (pairOk m.ins m.next.length) = fun p => rowOk m.ins m.next.length p.1 && rowOk m.ins 8 p.2 from funext (pair_row _ _), all_zip _ _ _ _ h.2.2.2.2.symm]
theorem sizes_cases {m : Mz} (h : sizes m = false) : m.ins < 0 ∨ (0 ≤ m.ins ∧ 4 < m.ins) ∨ (0 ≤ m.ins ∧ m.ins ≤ 4 ∧ (m.next.length : Int) < 1) ∨ (0 ≤ m.ins ∧ m.ins ≤ 4 ∧ (1 : Int) ≤ m.next.length ∧ (8 : Int) < m.next.length) ∨ (0 ≤ m.ins ∧ m.ins ≤ 4 ∧ (1 : Int) ≤ m.next.length ∧ (m.next.length : Int) ≤ 8 ∧ (m.out.length : Int) ≠ m.next.length) := by
  unfold sizes at h
  rw [decide_eq_false_iff_not] at h
  omega
theorem all_dropG {α : Type} {p : α → Bool} {l : List α} {k : Nat} {x : α} (h : l[k]? = some x) : (l.drop k).all p = (p x && (l.drop (k + 1)).all p) := by
  obtain ⟨hk, rfl⟩ := List.getElem?_eq_some_iff.1 h
  rw [List.drop_eq_getElem_cons hk, List.all_cons]
theorem zip_get {α β : Type} {l : List α} {l' : List β} {k : Nat} {x : α} {y : β} (h : l[k]? = some x) (h' : l'[k]? = some y) : (l.zip l')[k]? = some (x, y) := by
  rw [List.getElem?_zip_eq_some]
  exact ⟨h, h'⟩
end Mac
end Go.Proofs.Ythnfbjjnabohoaa
