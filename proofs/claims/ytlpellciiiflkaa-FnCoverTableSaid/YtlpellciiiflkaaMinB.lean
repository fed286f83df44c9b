import Derived.Test.YtlpellciiiflkaaMinA
namespace Go.Proofs.Ytlpellciiiflkaa
open Go.RowKit
theorem l30Covers_any (v : Value) (L : List (Nat × Nat)) (T N : Nat) (w : World) (h : CubesN w v L) (hb : ∀ k ∈ L, k.1 < 65536) (hN : N ≤ 4) (hT : T < 65536) :
    Calls Try.prog 50 #[v, .int .i64 T, .int .i64 N] w fun e w' => e = .returned (.bool (Two.covers L T N)) ∧ Below w.heap.size w w' := by
  obtain ⟨M, hM, e, hp, hp0⟩ := pow4 hN
  have hiff := Lib.hid (Two.covers_iff (l := L) (t := T) (n := N))
  generalize Two.covers L T N = res at hiff ⊢
  obtain ⟨A, cp, hv, hc, hcm⟩ := Row.shape h
  subst hv
  rw [List.length_map] at hc h ⊢
  unfold maxLen at hcm
  have HB := Lib.hid hb
  clear hb
  go_enter Try.func50, Try.ntmps50
  go_wp2_with fail
  go_loopw [7] (fun x wr => ∃ X : Nat, X ≤ M ∧ x = .int .i64 X ∧ Hid (∀ x, x < X → T.testBit x = true → L.any (Two.has · x) = true) ∧ Below w.heap.size w wr) (fun x _ => M - (intOf x).toNat)
  case atStart => exact ⟨0, by omega, rfl, Lib.hid (fun _ h => by omega), Below.refl _ _⟩
  case round =>
    obtain ⟨X, hX, rfl, hall, hb⟩ := hrel
    have Hb0 := Lib.hid hb
    clear hb
    by_cases hlt : X < M
    · obtain ⟨W1, hW1⟩ : ∃ W1 : World, W1 = wr := ⟨_, rfl⟩
      subst hW1
      go_wp2_with fail
      go_loopw [8, 9] (fun q i wq => ∃ (k : Nat) (b : Bool), k ≤ L.length ∧ i = .int .i64 k ∧ q = .bool b ∧ Hid (b = (L.take k).any (Two.has · X)) ∧ Below w.heap.size w wq) (fun _ i _ => L.length - (intOf i).toNat)
      case atStart => exact ⟨0, false, by omega, rfl, rfl, Lib.hid rfl, Hb0.out⟩
      case round =>
        obtain ⟨k, b, hk, rfl, rfl, hbe, hb⟩ := hrel
        by_cases hlt2 : k < L.length
        · obtain ⟨gb, go, q, rfl, hbl, hx, hs1, hs2⟩ := cubesN_open h hb rfl hlt2
          have Hb := Lib.hid hb
          have hq := HB.out _ (List.mem_of_getElem? hx.out)
          have hh := Lib.hid (hasI_nat q.1 q.2 X (by omega) (by omega))
          have hst : Hid ((L.take (k + 1)).any (Two.has · X) = (b || Two.has (q.1, q.2) X)) := Lib.hid (by rw [take_snoc hx.out, List.any_append, ← hbe.out]; simp)
          clear h hb hbe
          cases b
          · go_wp2_with (go_at_call 13; refine (specHas_any _ _ _ _).mono ?_; rintro e w' ⟨rfl, hb'⟩; rw [hh.out])
            go_roundw
            case rel => exact ⟨k + 1, _, by omega, by go_num, rfl, Lib.hid (by rw [hst.out, Bool.false_or]), Hb.out.trans (hb'.mono Hb.out.size)⟩
            case measure => simp [intOf]; omega
          · go_wp2_with fail
            go_roundw
            case rel => exact ⟨k + 1, true, by omega, by go_num, rfl, Lib.hid (by rw [hst.out, Bool.true_or]), Hb.out⟩
            case measure => simp [intOf]; omega
        · have hbe2 : Hid (b = L.any (Two.has · X)) := Lib.hid (by have := hbe.out; rwa [List.take_of_length_le (by omega)] at this)
          have Hb := Lib.hid hb
          have hs := shr_odd T X
          clear hb hbe
          cases hbit : T.testBit X
          · rw [hbit] at hs
            have Hbit := Lib.hid hbit
            clear hbit
            go_wp2_with fail
            go_roundw
            case rel => exact ⟨X + 1, by omega, by go_num, Lib.hid (fun x hx hx1 => by
              by_cases e : x = X
              · subst e; rw [Hbit.out] at hx1; cases hx1
              · exact hall.out x (by omega) hx1), Hb.out⟩
            case measure => simp [intOf]; omega
          · rw [hbit] at hs
            have Hbit := Lib.hid hbit
            clear hbit
            cases b
            · have hres : res = false := by
                cases res
                · rfl
                · have := hiff.out.1 rfl X (by rw [hM.out]; exact hlt) Hbit.out
                  rw [← hbe2.out] at this; cases this
              subst hres
              go_wp2_with fail
              go_ret
              exact ⟨rfl, Hb.out⟩
            · go_wp2_with fail
              go_roundw
              case rel => exact ⟨X + 1, by omega, by go_num, Lib.hid (fun x hx hx1 => by
                by_cases e : x = X
                · subst e; exact hbe2.out.symm
                · exact hall.out x (by omega) hx1), Hb.out⟩
              case measure => simp [intOf]; omega
    · obtain rfl : X = M := by omega
      have hres : res = true := hiff.out.2 fun x hx => hall.out x (by rw [← hM.out]; exact hx)
      subst hres
      go_wp2
      go_ret
      exact ⟨rfl, Hb0.out⟩
theorem natK_intK (k : Nat × Nat) : natK (intK k) = k := rfl
theorem map_natK (L : List (Nat × Nat)) : (L.map intK).map natK = L := by
  rw [List.map_map]
  exact List.map_id _
theorem okI_of {N : Nat} {k : Nat × Nat} (hN : N ≤ 4) (h1 : k.1 < 2 ^ N) (h2 : Two.fine k = true) : okI N (intK k) = true := by
  have h3 : 2 ^ N ≤ 16 := Nat.pow_le_pow_right (show 0 < 2 by decide) hN
  have hle : k.2 ≤ k.1 := by
    have h4 : k.2 &&& k.1 = k.2 := by unfold Two.fine at h2; rwa [beq_iff_eq] at h2
    rw [← h4]
    exact Nat.and_le_right
  unfold okI intK
  simp only
  rw [Bool.and_eq_true, decide_eq_true_eq, andNot_nat k.2 k.1 (by omega) (by omega)]
  refine ⟨⟨by omega, by rw [two_pow]; omega⟩, h2⟩
theorem cover_nat {N : Nat} {L : List (Nat × Nat)} (hN : N ≤ 4) (hl : L.length ≤ 100) (h : ∀ k ∈ L, k.1 < 2 ^ N ∧ Two.fine k = true) : coverI N (L.map intK) = (Two.tableOf L N : Int) := by
  have hall : (L.map intK).all (okI N) = true := by
    rw [List.all_eq_true]
    intro k hk
    obtain ⟨k', hk', rfl⟩ := List.mem_map.1 hk
    exact okI_of hN (h k' hk').1 (h k' hk').2
  rw [coverI, if_pos ⟨by omega, by omega, by simpa using hl⟩]
  rw [show ((N : Int).toNat) = N from rfl, covFrom_all hall, map_natK]
theorem erase_map (L : List (Nat × Nat)) : ∀ i, (L.map intK).eraseIdx i = (L.eraseIdx i).map intK := by
  induction L with
  | nil => intro i; rfl
  | cons k L ih =>
    intro i
    cases i with
    | zero => rfl
    | succ i => simp [List.eraseIdx_cons_succ, ih i]
/-- What MinimizeTable returns. -/
def minimalI (t n : Int) : List (Nat × Nat) := if fitsT t n then Two.minimal t.toNat n.toNat else []
def MinOut (t n : Int) (w : World) (e : Ending) (w' : World) : Prop :=
  ∃ v, e = .returned v ∧ w'.ownsRow w.heap.size 25 2 v (minimalI t n).length (cubes ((minimalI t n).map intK)) ∧ Below w.heap.size w w'
theorem mem_primes_bd {T N : Nat} (hN : N ≤ 4) {k : Nat × Nat} (h : k ∈ Two.primes T N) : k.1 < 2 ^ N ∧ Two.fine k = true ∧ k.1 < 65536 := by
  have h1 := Two.mem_implicants.1 (Two.mem_primes.1 h).1
  have h2 : 2 ^ N ≤ 16 := Nat.pow_le_pow_right (show 0 < 2 by decide) hN
  exact ⟨h1.1, h1.2.2.1, by omega⟩
end Go.Proofs.Ytlpellciiiflkaa
