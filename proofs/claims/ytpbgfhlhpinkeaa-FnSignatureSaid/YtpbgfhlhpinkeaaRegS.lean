import Derived.Test.YtpbgfhlhpinkeaaRegL
namespace Go.Proofs.Ytpbgfhlhpinkeaa
namespace Reg
/-! Plain laws of signatures. -/
def sgN (n t : Nat) : Nat → List Nat → Nat
  | s, [] => s
  | s, w :: ws => sgN n t (nextN n t s ^^^ w) ws
def nats (wn : List Nat) : List Int := wn.map fun (x : Nat) => (x : Int)
theorem sigFold_some {n t : Nat} : ∀ {ws : List Int} {s r : Nat}, sigFold n t s ws = some r → ∃ wn : List Nat, ws = nats wn ∧ (∀ x ∈ wn, x < 2 ^ n) ∧ r = sgN n t s wn
  | [], s, r, h => ⟨[], rfl, by simp, (Option.some.inj h).symm⟩
  | w :: ws, s, r, h => by
    rw [sigFold] at h
    split at h
    · rename_i hw
      obtain ⟨wn, rfl, h1, h2⟩ := sigFold_some h
      refine ⟨w.toNat :: wn, ?_, ?_, h2⟩
      · simp [nats]; omega
      · intro x hx
        rcases List.mem_cons.1 hx with e | hx
        · subst e
          have := hw.2
          rw [two_pow] at this
          omega
        · exact h1 x hx
    · cases h
theorem sigFold_nats {n t : Nat} : ∀ (wn : List Nat) (s : Nat), (∀ x ∈ wn, x < 2 ^ n) → sigFold n t s (nats wn) = some (sgN n t s wn)
  | [], s, _ => rfl
  | w :: wn, s, h => by
    have hw : (w : Int) < 2 ^ n := by
      have := h w (by simp)
      rw [two_pow]; omega
    rw [show nats (w :: wn) = (w : Int) :: nats wn from rfl, sigFold, if_pos ⟨by omega, hw⟩]
    exact sigFold_nats wn _ fun x hx => h x (List.mem_cons_of_mem _ hx)
theorem sg_lt {n t : Nat} (ht : t < 2 ^ n) : ∀ (wn : List Nat) (s : Nat), s < 2 ^ n → (∀ x ∈ wn, x < 2 ^ n) → sgN n t s wn < 2 ^ n
  | [], _, hs, _ => hs
  | w :: wn, s, hs, h => sg_lt ht wn _ (Nat.xor_lt_two_pow (nextN_lt _ _ _ ht) (h w (by simp))) fun x hx => h x (List.mem_cons_of_mem _ hx)
theorem sg_append (n t : Nat) : ∀ (a b : List Nat) (s : Nat), sgN n t s (a ++ b) = sgN n t (sgN n t s a) b
  | [], _, _ => rfl
  | w :: a, b, s => sg_append n t a b _
theorem sg_lin (n t : Nat) : ∀ (b : List Nat) (p q : Nat), sgN n t (p ^^^ q) b = sgN n t p b ^^^ sgN n t q (List.replicate b.length 0)
  | [], _, _ => rfl
  | w :: b, p, q => by
    rw [sgN, sgN, List.length_cons, List.replicate_succ, sgN, nextN_xor, Nat.xor_zero, ← sg_lin n t b]
    congr 1
    rw [Nat.xor_assoc, Nat.xor_comm (nextN n t q), ← Nat.xor_assoc]
theorem sg_zeros (n t : Nat) : ∀ k, sgN n t 0 (List.replicate k 0) = 0
  | 0 => rfl
  | k + 1 => by rw [List.replicate_succ, sgN, nextN_zero, Nat.xor_zero, sg_zeros n t k]
theorem sg_ne {n t : Nat} (h1 : 1 ≤ n) (ht : t % 2 = 1) (htl : t < 2 ^ n) : ∀ (k d : Nat), d < 2 ^ n → d ≠ 0 → sgN n t d (List.replicate k 0) ≠ 0
  | 0, d, _, h => h
  | k + 1, d, hd, h => by
    rw [List.replicate_succ, sgN, Nat.xor_zero]
    exact sg_ne h1 ht htl k _ (nextN_lt _ _ _ htl) fun e => h (nextN_ker h1 ht hd e)
/-- One changed word: the signature changes by that of the change alone. -/
theorem sg_change {n t : Nat} {wn : List Nat} {i d x : Nat} (hx : wn[i]? = some x) :
    sgN n t 0 (wn.set i (x ^^^ d)) = sgN n t 0 wn ^^^ sgN n t 0 ((List.replicate wn.length 0).set i d) ∧
    sgN n t 0 ((List.replicate wn.length 0).set i d) = sgN n t d (List.replicate (wn.length - i - 1) 0) := by
  obtain ⟨hi, hx'⟩ := List.getElem?_eq_some_iff.1 hx
  have e0 : wn = wn.take i ++ x :: wn.drop (i + 1) := by
    rw [← hx', ← List.drop_eq_getElem_cons hi, List.take_append_drop]
  have e1 : wn.set i (x ^^^ d) = wn.take i ++ (x ^^^ d) :: wn.drop (i + 1) := by
    rw [List.set_eq_take_append_cons_drop, if_pos hi]
  have e2 : (List.replicate wn.length 0).set i d = List.replicate i 0 ++ d :: List.replicate (wn.length - i - 1) 0 := by
    rw [List.set_eq_take_append_cons_drop, if_pos (by simpa using hi), List.take_replicate, List.drop_replicate]
    congr 2
    · congr 1; omega
  have hz : sgN n t 0 ((List.replicate wn.length 0).set i d) = sgN n t d (List.replicate (wn.length - i - 1) 0) := by
    rw [e2, sg_append, sg_zeros, sgN, nextN_zero, Nat.zero_xor]
  refine ⟨?_, hz⟩
  rw [hz, e1]
  have hl : (wn.drop (i + 1)).length = wn.length - i - 1 := by rw [List.length_drop]; omega
  have ew : sgN n t 0 wn = sgN n t (nextN n t (sgN n t 0 (wn.take i)) ^^^ x) (wn.drop (i + 1)) := by
    have h := congrArg (sgN n t 0) e0
    rw [sg_append, sgN] at h
    exact h
  rw [sg_append, sgN, ew, ← hl, ← sg_lin, Nat.xor_assoc]
end Reg
end Go.Proofs.Ytpbgfhlhpinkeaa
