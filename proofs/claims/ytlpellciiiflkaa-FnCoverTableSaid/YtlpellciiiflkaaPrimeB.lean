import Derived.Test.YtlpellciiiflkaaPrimeA
namespace Go.Proofs.Ytlpellciiiflkaa
open Go.RowKit
theorem andNot_nat (a b : Nat) (ha : a < 9223372036854775808) (hb : b < 9223372036854775808) : (bits .andNot .i64 (a : Int) (b : Int) == 0) = (a &&& b == a) := by
  rw [Bool.eq_iff_iff, beq_iff_eq, beq_iff_eq, andNot_iff (by omega) (by omega), i64_and_nat a b ha hb]
  exact ⟨fun h => Int.ofNat.inj h, fun h => by rw [h]⟩
theorem and_eq_nat (a b c : Nat) (ha : a < 9223372036854775808) (hb : b < 9223372036854775808) : (bits .and .i64 (a : Int) (b : Int) == (c : Int)) = (a &&& b == c) := by
  rw [Bool.eq_iff_iff, beq_iff_eq, beq_iff_eq, i64_and_nat a b ha hb]
  exact ⟨fun h => Int.ofNat.inj h, fun h => by rw [h]⟩
theorem gen_def (c v : Nat) (k : Nat × Nat) : Two.gen (c, v) k = ((k.1 &&& c == k.1) && (v &&& k.1 == k.2)) := by
  unfold Two.gen
  simp only
  rw [Nat.and_comm c k.1]
theorem closure_any (k0 k1 c v g1 g2 : Nat) (w : World) (h1 : w.cell? ⟨g1, 0, none⟩ = some (.int .i64 c)) (h2 : w.cell? ⟨g2, 0, none⟩ = some (.int .i64 v)) (hg1 : g1 < w.heap.size) (hg2 : g2 < w.heap.size)
    (b0 : k0 < 65536) (b2 : c < 65536) (b3 : v < 65536) :
    Calls Try.prog 40 #[.agg #[.int .i64 k0, .int .i64 k1], .pointer (some ⟨g1, 0, none⟩), .pointer (some ⟨g2, 0, none⟩)] w
      fun e w' => e = .returned (.bool (Two.gen (c, v) (k0, k1))) ∧ Below w.heap.size w w' := by
  have e1 := andNot_nat k0 c (by omega) (by omega)
  have e2 := and_eq_nat v k0 k1 (by omega) (by omega)
  rw [gen_def]
  simp only
  cases hc : (k0 &&& c == k0)
  · rw [hc] at e1
    clear hc e2
    go_enter Try.func40, Try.ntmps40
    go_wp2
    go_ret
    exact ⟨rfl, (Below.refl _ _).alloc (Nat.le_refl _) _⟩
  · rw [hc] at e1
    clear hc
    go_enter Try.func40, Try.ntmps40
    go_wp2
    go_ret
    exact ⟨ret_bool (by simp [e2]), (Below.refl _ _).alloc (Nat.le_refl _) _⟩
def CubesN (w : World) (v : Value) (ks : List (Nat × Nat)) : Prop := CubesAt w v (ks.map intK)
theorem cubesN_open {w wr : World} {A : Option Addr} {n c : Nat} {ks : List (Nat × Nat)} (h : CubesN w (.slice A n c) ks) (hb : Below w.heap.size w wr) {i : Nat} (hn : n = ks.length) (hi : i < ks.length) :
    ∃ (b o : Nat) (k : Nat × Nat), A = some ⟨b, o, none⟩ ∧ b < w.heap.size ∧ Hid (ks[i]? = some k) ∧ wr.cell? ⟨b, o + i * 2, none⟩ = some (.int .i64 k.1) ∧ wr.cell? ⟨b, o + i * 2 + 1, none⟩ = some (.int .i64 k.2) := by
  have h' : Row w 2 (.slice A n c) n (cubes (ks.map intK)) := by
    have := h
    unfold CubesN CubesAt at this
    rw [List.length_map] at this
    rw [hn] at this ⊢
    exact this
  obtain ⟨b, o, k, hA, hbl, hk, h1, h2⟩ := cubes_open h' hb (by rw [hn, List.length_map]) (i := i) (by rw [List.length_map]; exact hi)
  have hk' := hk.out
  rw [List.getElem?_map] at hk'
  cases hki : ks[i]? with
  | none => rw [hki] at hk'; cases hk'
  | some k' =>
    rw [hki] at hk'
    obtain rfl := Option.some.inj hk'
    exact ⟨b, o, k', hA, hbl, Lib.hid rfl, h1, h2⟩
/-- What a search comes to. -/
def Found (l : List (Nat × Nat)) (p : Nat × Nat → Bool) (w : World) (e : Ending) (w' : World) : Prop :=
  ∃ r : Int, e = .returned (.int .i64 r) ∧ (decide (0 ≤ r) = l.any p) ∧ Below w.heap.size w w'
theorem any_hit {l : List (Nat × Nat)} {p : Nat × Nat → Bool} {i : Nat} {k : Nat × Nat} (h : l[i]? = some k) (hp : p k = true) : l.any p = true := List.any_eq_true.2 ⟨k, List.mem_of_getElem? h, hp⟩
theorem any_none {l : List (Nat × Nat)} {p : Nat × Nat → Bool} (h : ∀ j, j < l.length → ∀ k, l[j]? = some k → p k = false) : l.any p = false := by
  rw [List.any_eq_false]
  intro k hk
  obtain ⟨j, hj, rfl⟩ := List.mem_iff_getElem.1 hk
  rw [h j hj _ (List.getElem?_eq_getElem hj)]
  simp
theorem indexFunc_any (x : Value) (l : List (Nat × Nat)) (c v g1 g2 : Nat) (w : World) (h : CubesN w x l) (h1 : w.cell? ⟨g1, 0, none⟩ = some (.int .i64 c)) (h2 : w.cell? ⟨g2, 0, none⟩ = some (.int .i64 v)) (hg1 : g1 < w.heap.size) (hg2 : g2 < w.heap.size)
    (hl : ∀ k ∈ l, k.1 < 65536) (b2 : c < 65536) (b3 : v < 65536) :
    Calls Try.prog 51 #[x, .func (.func 40) #[] #[.pointer (some ⟨g1, 0, none⟩), .pointer (some ⟨g2, 0, none⟩)]] w
      (Found l (fun b => Two.gen (c, v) b) w) := by
  obtain ⟨A, cp, hv, hc, hcm⟩ := Row.shape h
  subst hv
  rw [List.length_map] at hc h ⊢
  unfold maxLen at hcm
  go_enter Try.func51, Try.ntmps51
  go_wp2_with fail
  go_loopw [8] (fun i wr => ∃ k : Nat, k ≤ l.length ∧ i = .int .i64 k ∧ Hid (∀ j, j < k → ∀ q, l[j]? = some q → Two.gen (c, v) q = false) ∧ Below w.heap.size w wr) (fun i _ => l.length - (intOf i).toNat)
  case atStart => exact ⟨0, Nat.zero_le _, rfl, Lib.hid (fun _ h => by omega), Below.refl _ _⟩
  case round =>
    obtain ⟨k, hk, rfl, hall, hb⟩ := hrel
    by_cases hlt : k < l.length
    · obtain ⟨b, o, q, rfl, hbl, hx, hs1, hs2⟩ := cubesN_open h hb rfl hlt
      have c1 := (hb.cell (p := ⟨g1, 0, none⟩) hg1).trans h1
      have c2 := (hb.cell (p := ⟨g2, 0, none⟩) hg2).trans h2
      have z := hb.size
      have Hb := Lib.hid hb
      have hq := hl _ (List.mem_of_getElem? hx.out)
      have z1 : g1 < wr.heap.size := by omega
      have z2 : g2 < wr.heap.size := by omega
      clear h hb hl h1 h2
      go_wp2_with fail
      refine (closure_any q.1 q.2 c v g1 g2 _ c1 c2 z1 z2 hq b2 b3).mono ?_
      rintro e w' ⟨rfl, hb'⟩
      cases hg : Two.gen (c, v) (q.1, q.2)
      · have Hg := Lib.hid hg
        clear hg
        go_wp2_with fail
        go_roundw
        case rel => exact ⟨k + 1, by omega, by go_num, Lib.hid (fun j hj q' hq' => by
          by_cases e : j = k
          · subst e; rw [hx.out] at hq'; obtain rfl := Option.some.inj hq'; exact Hg.out
          · exact hall.out j (by omega) q' hq'), Hb.out.trans (hb'.mono Hb.out.size)⟩
        case measure => simp [intOf]; omega
      · have Hg := Lib.hid hg
        clear hg
        go_wp2_with fail
        go_ret
        exact ⟨k, rfl, by rw [any_hit hx.out Hg.out]; exact decide_eq_true (by omega), Hb.out.trans (hb'.mono Hb.out.size)⟩
    · go_wp2
      go_ret
      exact ⟨-1, rfl, by rw [any_none fun j hj q hq => hall.out j (by omega) q hq]; rfl, hb⟩
theorem containsFunc_any (x : Value) (l : List (Nat × Nat)) (c v g1 g2 : Nat) (w : World) (h : CubesN w x l) (h1 : w.cell? ⟨g1, 0, none⟩ = some (.int .i64 c)) (h2 : w.cell? ⟨g2, 0, none⟩ = some (.int .i64 v)) (hg1 : g1 < w.heap.size) (hg2 : g2 < w.heap.size)
    (hl : ∀ k ∈ l, k.1 < 65536) (b2 : c < 65536) (b3 : v < 65536) :
    Calls Try.prog 39 #[x, .func (.func 40) #[] #[.pointer (some ⟨g1, 0, none⟩), .pointer (some ⟨g2, 0, none⟩)]] w
      fun e w' => e = .returned (.bool (l.any (fun b => Two.gen (c, v) b))) ∧ Below w.heap.size w w' := by
  go_enter Try.func39, Try.ntmps39
  go_wp2_with fail
  refine (indexFunc_any x l c v g1 g2 w h h1 h2 hg1 hg2 hl b2 b3).mono ?_
  rintro e w' ⟨r, rfl, hr, hb⟩
  have Hr := Lib.hid hr
  clear hr
  go_wp2_with fail
  go_ret
  exact ⟨ret_bool Hr.out, hb⟩
end Go.Proofs.Ytlpellciiiflkaa
