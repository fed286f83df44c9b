import Derived.Test.YthnfbjjnabohoaaMacM
namespace Go.Proofs.Ythnfbjjnabohoaa
/-! Runs of machines, plainly. -/
namespace Mac
def stepN (m : Mz) (s : Nat) (x : Int) : Nat := ((m.next.getD s []).getD x.toNat 0).toNat
def stepO (m : Mz) (s : Nat) (x : Int) : Int := (m.out.getD s []).getD x.toNat 0
/-- The state behind some inputs, and the outputs. -/
def st (m : Mz) (ins : List Int) : Nat := ins.foldl (stepN m) 0
def outs (m : Mz) : Nat → List Int → List Int
  | _, [] => []
  | s, x :: xs => stepO m s x :: outs m (stepN m s x) xs
theorem outs_append (m : Mz) : ∀ (xs ys : List Int) (s : Nat), outs m s (xs ++ ys) = outs m s xs ++ outs m (xs.foldl (stepN m) s) ys
  | [], _, _ => rfl
  | x :: xs, ys, s => by rw [List.cons_append, outs, outs, outs_append m xs ys, List.foldl_cons, List.cons_append]
theorem outs_length (m : Mz) : ∀ (xs : List Int) (s : Nat), (outs m s xs).length = xs.length
  | [], _ => rfl
  | x :: xs, s => by rw [outs, List.length_cons, outs_length m xs, List.length_cons]
def inRange (m : Mz) (x : Int) : Bool := inOk ((2 ^ m.ins.toNat : Nat) : Int) x
def runOk (m : Mz) (ins : List Int) : Bool := valid m && decide (ins.length ≤ 40) && ins.all (inRange m)
def runI (m : Mz) (ins : List Int) : List Int := if runOk m ins then outs m 0 ins else []
theorem runI_length (m : Mz) (ins : List Int) : (runI m ins).length ≤ 40 := by
  unfold runI
  split
  · rename_i h
    unfold runOk at h
    simp at h
    rw [outs_length]
    exact h.1.2
  · simp
/-- What a valid machine's rows hold. -/
theorem valid_row {m : Mz} (h : valid m = true) {s : Nat} (hs : s < m.next.length) {x : Nat} (hx : x < 2 ^ m.ins.toNat) :
    ∃ r q y o, m.next[s]? = some r ∧ m.out[s]? = some q ∧ r.length = 2 ^ m.ins.toNat ∧ q.length = 2 ^ m.ins.toNat ∧ r[x]? = some ((y : Nat) : Int) ∧ y < m.next.length ∧ q[x]? = some o ∧ 0 ≤ o ∧ o < 8 ∧ stepN m s x = y ∧ stepO m s x = o := by
  unfold valid at h
  rw [Bool.and_eq_true, Bool.and_eq_true] at h
  obtain ⟨h0, h1, h2⟩ := h
  unfold sizes at h0
  rw [decide_eq_true_eq] at h0
  obtain ⟨_, _, _, _, h5⟩ := h0
  have hso : s < m.out.length := by omega
  have e1 : m.next[s]? = some m.next[s] := List.getElem?_eq_getElem hs
  have e2 : m.out[s]? = some m.out[s] := List.getElem?_eq_getElem hso
  have g1 := List.all_eq_true.1 h1 _ (List.getElem_mem hs)
  have g2 := List.all_eq_true.1 h2 _ (List.getElem_mem hso)
  generalize m.next[s] = r at e1 g1
  generalize m.out[s] = q at e2 g2
  unfold rowOk lenOk at g1 g2
  rw [Bool.and_eq_true, decide_eq_true_eq] at g1 g2
  have l1 : r.length = 2 ^ m.ins.toNat := by omega
  have l2 : q.length = 2 ^ m.ins.toNat := by omega
  have f1 : r[x]? = some (r[x]'(by omega)) := List.getElem?_eq_getElem _
  have f2 : q[x]? = some (q[x]'(by omega)) := List.getElem?_eq_getElem _
  have k1 := List.all_eq_true.1 g1.2 _ (List.getElem_mem (show x < r.length by omega))
  have k2 := List.all_eq_true.1 g2.2 _ (List.getElem_mem (show x < q.length by omega))
  generalize r[x]'(by omega) = y at f1 k1
  generalize q[x]'(by omega) = o at f2 k2
  unfold inOk at k1 k2
  rw [decide_eq_true_eq] at k1 k2
  obtain ⟨y', rfl⟩ := Int.eq_ofNat_of_zero_le k1.1
  refine ⟨r, q, y', o, e1, e2, l1, l2, f1, by omega, f2, k2.1, k2.2, ?_, ?_⟩
  · unfold stepN
    simp [List.getD_eq_getElem?_getD, e1, f1]
  · unfold stepO
    simp [List.getD_eq_getElem?_getD, e2, f2]
theorem st_snoc {m : Mz} {ins : List Int} {k : Nat} {x : Int} (h : ins[k]? = some x) : st m (ins.take (k + 1)) = stepN m (st m (ins.take k)) x := by
  unfold st
  rw [List.take_add_one, h, List.foldl_append]
  rfl
theorem outs_snoc {m : Mz} {ins : List Int} {k : Nat} {x : Int} (h : ins[k]? = some x) : outs m 0 (ins.take (k + 1)) = outs m 0 (ins.take k) ++ [stepO m (st m (ins.take k)) x] := by
  rw [List.take_add_one, h, outs_append]
  rfl
theorem inRange_nat {m : Mz} {x : Int} (h : inRange m x = true) : ∃ n : Nat, x = n ∧ n < 2 ^ m.ins.toNat := by
  unfold inRange inOk at h
  rw [decide_eq_true_eq] at h
  obtain ⟨n, rfl⟩ := Int.eq_ofNat_of_zero_le h.1
  exact ⟨n, rfl, by omega⟩
end Mac
end Go.Proofs.Ythnfbjjnabohoaa
