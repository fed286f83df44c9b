import Derived.Test.YtmlcbikljlhhkaaGf
namespace Go.Proofs.Ytmlcbikljlhhkaa
open Go.RowKit
set_option maxRecDepth 100000
/-! Ternary simulation: the small functions. -/
theorem tlit_of {v : List Nat} {l x : Nat} (h : v[l / 2]? = some x) : Cir.tlit v l = if x = 2 ∨ l % 2 = 0 then x else 1 - x := by
  unfold Cir.tlit
  rw [List.getD_eq_getElem?_getD, h]
  rfl
theorem l27And_any (a b : Nat) (w : World) (ha : a ≤ 2) (hb : b ≤ 2) :
    Calls Try.prog 72 #[.int .i64 a, .int .i64 b] w fun e w' => e = .returned (.int .i64 (Cir.tand a b : Nat)) ∧ w = w' := by
  obtain rfl | rfl | rfl : a = 0 ∨ a = 1 ∨ a = 2 := by omega
  all_goals
    obtain rfl | rfl | rfl : b = 0 ∨ b = 1 ∨ b = 2 := by omega
    all_goals
      go_enter Try.func72, Try.ntmps72
      go_wp2
      go_ret
      exact ⟨rfl, rfl⟩
theorem l27Lit_any (v : Value) (xs : List Nat) (l : Nat) (w : World) (h : NatsAt w v xs) (hl : l < 2 * xs.length) (hb : l ≤ 1000000) (h2 : ∀ x ∈ xs, x ≤ 2) :
    Calls Try.prog 73 #[v, .int .i64 l] w fun e w' => e = .returned (.int .i64 (Cir.tlit xs l : Nat)) ∧ w = w' := by
  obtain ⟨A, c, hv, hc, hcm⟩ := Row.shape h
  rw [nats_length] at hv hc
  subst hv
  have hi : l / 2 < xs.length := by omega
  have h' : Row w 1 (.slice A xs.length c) xs.length (ints (nats xs)) := by have := h; unfold NatsAt IntsAt at this; rwa [nats_length] at this
  obtain ⟨b, o, x, rfl, hbl, hx, hs⟩ := nats_cell h' rfl hi
  have hx2 := h2 x (List.mem_of_getElem? hx.out)
  have HL := Lib.hid (tlit_of hx.out)
  have hq : (l : Int).tdiv 2 = ((l / 2 : Nat) : Int) := by rw [Int.tdiv_eq_ediv_of_nonneg (by omega)]; omega
  have hm : (l : Int).tmod 2 = ((l % 2 : Nat) : Int) := by rw [Int.tmod_eq_emod_of_nonneg (by omega)]; omega
  have hqb : l / 2 ≤ 1000000 := by omega
  have hr2 : l % 2 = 0 ∨ l % 2 = 1 := by omega
  rw [HL.out]
  generalize l / 2 = q at *
  generalize l % 2 = r at *
  have hwr : IntKind.i64.wrap (q : Int) = q := IntWalk.i64_in _ (by omega)
  clear h h' h2 hx HL hl
  obtain rfl | rfl | rfl : x = 0 ∨ x = 1 ∨ x = 2 := by omega
  all_goals
    rcases hr2 with rfl | rfl
    all_goals
      go_enter Try.func73, Try.ntmps73
      go_wp2
      go_ret
      exact ⟨rfl, rfl⟩
theorem ternaryLit_any (v : Value) (xs : List Nat) (l : Nat) (w : World) (h : NatsAt w v xs) (hl : l < 2 * xs.length) (hb : l ≤ 1000000) (h2 : ∀ x ∈ xs, x ≤ 2) :
    Calls Try.prog 84 #[v, .int .i64 l] w fun e w' => e = .returned (.int .i64 (Cir.tlit xs l : Nat)) ∧ w = w' := by
  obtain ⟨A, c, hv, hc, hcm⟩ := Row.shape h
  rw [nats_length] at hv hc
  subst hv
  have hi : l / 2 < xs.length := by omega
  have h' : Row w 1 (.slice A xs.length c) xs.length (ints (nats xs)) := by have := h; unfold NatsAt IntsAt at this; rwa [nats_length] at this
  obtain ⟨b, o, x, rfl, hbl, hx, hs⟩ := nats_cell h' rfl hi
  have hx2 := h2 x (List.mem_of_getElem? hx.out)
  have HL := Lib.hid (tlit_of hx.out)
  have hq : (l : Int).tdiv 2 = ((l / 2 : Nat) : Int) := by rw [Int.tdiv_eq_ediv_of_nonneg (by omega)]; omega
  have hm : bits .and .i64 (l : Int) 1 = ((l % 2 : Nat) : Int) := by
    have := i64_and_nat l 1 (by omega) (by omega)
    rw [Nat.and_one_is_mod] at this
    exact this
  have hqb : l / 2 ≤ 1000000 := by omega
  have hr2 : l % 2 = 0 ∨ l % 2 = 1 := by omega
  rw [HL.out]
  generalize l / 2 = q at *
  generalize l % 2 = r at *
  have hwr : IntKind.i64.wrap (q : Int) = q := IntWalk.i64_in _ (by omega)
  clear h h' h2 hx HL hl
  obtain rfl | rfl | rfl : x = 0 ∨ x = 1 ∨ x = 2 := by omega
  all_goals
    rcases hr2 with rfl | rfl
    all_goals
      go_enter Try.func84, Try.ntmps84
      go_wp2
      go_ret
      exact ⟨rfl, rfl⟩
def Cir.tern (x : Int) : Bool := decide (0 ≤ x ∧ x ≤ 2)
theorem all_dropT {p : Int → Bool} {l : List Int} {k : Nat} {x : Int} (h : l[k]? = some x) : (l.drop k).all p = (p x && (l.drop (k + 1)).all p) := all_drop h
theorem ternary_any (v : Value) (xs : List Int) (w : World) (h : IntsAt w v xs) :
    Calls Try.prog 74 #[v] w fun e w' => e = .returned (.bool (xs.all Cir.tern)) ∧ w = w' := by
  obtain ⟨A, c, hv, hc, hcm⟩ := h.shape
  subst hv
  unfold maxLen at hcm
  have h0 : Hid (xs.all Cir.tern = (xs.drop 0).all Cir.tern) := Lib.hid rfl
  generalize xs.all Cir.tern = res at h0 ⊢
  go_enter Try.func74, Try.ntmps74
  go_wp2_with fail
  go_loop [7] (fun i => ∃ k : Nat, k ≤ xs.length ∧ i = .int .i64 k ∧ Hid (res = (xs.drop k).all Cir.tern)) (fun i => xs.length - (intOf i).toNat)
  case atStart => exact ⟨0, Nat.zero_le _, rfl, h0⟩
  case round =>
    obtain ⟨k, hk, rfl, hres⟩ := hrel
    by_cases hlt : k < xs.length
    · obtain ⟨b, o, x, rfl, hbl, hx, hs1⟩ := ints_open h (Below.refl _ _) rfl hlt
      have Hstep := Lib.hid (all_dropT (p := Cir.tern) hx.out)
      clear h h0
      by_cases h1 : x < 0
      · obtain rfl : res = false := by rw [hres.out, Hstep.out, show Cir.tern x = false from decide_eq_false (by omega)]; rfl
        go_wp2_with fail
        go_ret
        exact ⟨rfl, rfl⟩
      · by_cases h2 : 2 < x
        · obtain rfl : res = false := by rw [hres.out, Hstep.out, show Cir.tern x = false from decide_eq_false (by omega)]; rfl
          go_wp2_with fail
          go_ret
          exact ⟨rfl, rfl⟩
        · have Hn : Hid (res = (xs.drop (k + 1)).all Cir.tern) := Lib.hid (by rw [hres.out, Hstep.out, show Cir.tern x = true from decide_eq_true (by omega)]; rfl)
          go_wp2_with fail
          go_round
          case rel => exact ⟨k + 1, by omega, by go_num, Hn⟩
          case measure => simp [intOf] <;> omega
    · obtain rfl : res = true := by rw [hres.out, List.drop_eq_nil_of_le (by omega : xs.length ≤ k)]; rfl
      go_wp2_with fail
      go_ret
      exact ⟨rfl, rfl⟩
theorem l27Ok_any (v : Value) (xs : List Int) (n : Int) (w : World) (h : IntsAt w v xs) :
    Calls Try.prog 71 #[v, .int .i64 n] w fun e w' => e = .returned (.bool (xs.all Cir.tern && decide ((xs.length : Int) = n))) ∧ w = w' := by
  obtain ⟨A, c, hv, hc, hcm⟩ := h.shape
  subst hv
  unfold maxLen at hcm
  have h0 : Hid ((xs.all Cir.tern && decide ((xs.length : Int) = n)) = ((xs.drop 0).all Cir.tern && decide ((xs.length : Int) = n))) := Lib.hid rfl
  have HI : Hid (∀ x : Int, decide (0 ≤ x ∧ x ≤ 2) = Cir.tern x) := Lib.hid fun _ => rfl
  generalize (xs.all Cir.tern && decide ((xs.length : Int) = n)) = res at h0 ⊢
  go_enter Try.func71, Try.ntmps71
  go_wp2_with fail
  go_loop [5] (fun i => ∃ k : Nat, k ≤ xs.length ∧ i = .int .i64 k ∧ Hid (res = ((xs.drop k).all Cir.tern && decide ((xs.length : Int) = n)))) (fun i => xs.length - (intOf i).toNat)
  case atStart => exact ⟨0, Nat.zero_le _, rfl, h0⟩
  case round =>
    obtain ⟨k, hk, rfl, hres⟩ := hrel
    by_cases hlt : k < xs.length
    · obtain ⟨b, o, x, rfl, hbl, hx, hs1⟩ := ints_open h (Below.refl _ _) rfl hlt
      have Hstep := Lib.hid (all_dropT (p := Cir.tern) hx.out)
      clear h h0
      cases h1 : Cir.tern x
      · have H1 := Lib.hid h1
        obtain rfl : res = false := by rw [hres.out, Hstep.out, h1]; rfl
        clear h1
        go_wp2_with fail
        refine (l1In_any _ _ _ _).mono ?_
        rintro e w' ⟨rfl, rfl⟩
        rw [HI.out, H1.out]
        go_wp2_with fail
        go_ret
        exact ⟨rfl, rfl⟩
      · have H1 := Lib.hid h1
        have Hn : Hid (res = ((xs.drop (k + 1)).all Cir.tern && decide ((xs.length : Int) = n))) := Lib.hid (by rw [hres.out, Hstep.out, h1]; rfl)
        clear h1
        go_wp2_with fail
        refine (l1In_any _ _ _ _).mono ?_
        rintro e w' ⟨rfl, rfl⟩
        rw [HI.out, H1.out]
        go_wp2_with fail
        go_round
        case rel => exact ⟨k + 1, by omega, by go_num, Hn⟩
        case measure => simp [intOf] <;> omega
    · have hr : res = decide ((xs.length : Int) = n) := by rw [hres.out, List.drop_eq_nil_of_le (by omega : xs.length ≤ k)]; rfl
      go_wp2_with fail
      go_ret
      refine ⟨ret_bool ?_, rfl⟩
      first
        | (rw [hr, Bool.eq_iff_iff]; simp)
        | (rw [Bool.eq_iff_iff]; simp)
end Go.Proofs.Ytmlcbikljlhhkaa
