import Derived.Test.YtmlcbikljlhhkaaCirT
import Derived.BigRegion
namespace Go.Proofs.Ytmlcbikljlhhkaa
open Go.RowKit
set_option maxRecDepth 100000
/-! The values of a circuit, by the program. -/
theorem litValue_any (v : Value) (xs : List Bool) (l : Nat) (w : World) (h : BoolsAt w v xs) (hl : l < 2 * xs.length) (hb : l ≤ 1000000) :
    Calls Try.prog 129 #[v, .int .i64 l] w fun e w' => e = .returned (.bool (Cir.lit xs l)) ∧ w = w' := by
  obtain ⟨A, c, hv, hc, hcm⟩ := Row.shape h
  subst hv
  have hi : l / 2 < xs.length := by omega
  obtain ⟨b, o, x, rfl, hbl, hx, hs⟩ := bools_open h (Below.refl _ _) rfl hi
  have HL := Lib.hid (lit_of hx.out)
  have hq : (l : Int).tdiv 2 = ((l / 2 : Nat) : Int) := by rw [Int.tdiv_eq_ediv_of_nonneg (by omega)]; omega
  have hm : bits .and .i64 (l : Int) 1 = ((l % 2 : Nat) : Int) := by
    have := i64_and_nat l 1 (by omega) (by omega)
    rw [Nat.and_one_is_mod] at this
    exact this
  have he : (((l % 2 : Nat) : Int) == 1) = (l % 2 == 1) := by
    rw [Bool.eq_iff_iff, beq_iff_eq, beq_iff_eq]
    omega
  have hqb : l / 2 ≤ 1000000 := by omega
  generalize l / 2 = q at *
  generalize l % 2 = r at *
  have hwr : IntKind.i64.wrap (q : Int) = q := IntWalk.i64_in _ (by omega)
  go_enter Try.func129, Try.ntmps129
  go_wp2
  go_ret
  refine ⟨ret_bool ?_, rfl⟩
  rw [HL.out]
  simp
  generalize (r == 1) = p
  cases x <;> cases p <;> rfl
theorem assignments_any (g : Nat) (c : Cz) (m : Nat) (w : World) (h : PCirc w g c) (hm : c.ins + c.next.length = m) (h1 : m ≤ 7) :
    Calls Try.prog 89 #[.pointer (some ⟨g, 0, none⟩)] w fun e w' => e = .returned (.int .i64 ((2 ^ m : Nat) : Int)) ∧ Below w.heap.size w w' := by
  obtain ⟨vn, vg, vo, hg, c0, c1, c2, c3, r1, r2, r3⟩ := h
  obtain ⟨A, cp, hv, hc, hcm⟩ := r1.shape
  subst hv
  have g0 := gw_cell c0 hg
  have g1 := gw_cell c1 hg
  have hw0 := IntWalk.i64_in (m : Int) (by omega)
  have h2 : 2 ^ m ≤ 128 := Nat.pow_le_pow_right (show 0 < 2 by decide) h1
  obtain ⟨M, hM⟩ : ∃ M, M = 2 ^ m := ⟨_, rfl⟩
  have e2 : (2 : Int) ^ m = (M : Int) := by rw [hM]; exact two_pow m
  rw [← hM] at h2 ⊢
  have hwM := IntWalk.i64_in (M : Int) (by omega)
  have hwu : IntKind.u64.wrap (m : Int) = m := by rw [IntKind.wrap_u64]; omega
  clear r1 r2 r3 c0 c1 c2 c3 hM
  go_enter Try.func89, Try.ntmps89
  go_wp2
  refine wp_region_grow (by kernel_rfl) (by kernel_rfl) ?_
  repeat (go_big_quiet_step ((fail)))
  refine wpQuiet_nil ?_
  intro _ hw'
  obtain ⟨nq, hw''⟩ := hw'
  subst hw''
  have hgq := gw_below nq
  generalize gw nq = wq at *
  clear nq
  go_wp2
  go_ret
  exact ⟨rfl, hgq⟩
theorem bits_snoc (x k : Nat) : Cir.bits x (k + 1) = Cir.bits x k ++ [x.testBit k] := by
  unfold Cir.bits
  rw [List.range_succ, List.map_append]
  rfl
theorem bits_get {x n k : Nat} (h : k < n) : (bools (Cir.bits x n))[k]? = some (.bool (x.testBit k)) := by
  simp [bools, Cir.bits, h]
theorem bitsOf_any (x n : Nat) (w : World) (hx : x ≤ 1000000) (hn : n ≤ 16) :
    Calls Try.prog 133 #[.int .i64 x, .int .i64 n] w (OwnBools (Cir.bits x n) w) := by
  have hmk := run_make_row' (P := Try.prog) 78 4 (.bool false) 1 Try.underlying78 info_bool rfl .i64 .i64 n (by omega) (by omega)
  go_enter Try.func133, Try.ntmps133
  go_wp2
  have hown0 := World.ownsRow_lit (base := w.heap.size) (e := 4) (size := 1) w (madeCells #[Value.bool false] n) n (Nat.le_refl _) (by unfold maxLen; omega) (by simp [madeCells])
  have hb0 : Below w.heap.size w (w.alloc (.cells (madeCells #[Value.bool false] n) 4)) := (Below.refl _ _).alloc (Nat.le_refl _) _
  go_loopw [11] (fun i wr => ∃ (k : Nat) (cs : List Value), k ≤ n ∧ i = .int .i64 k ∧ wr.ownsRow w.heap.size 4 1 (.slice (some ⟨w.heap.size, 0, none⟩) n n) n cs ∧ cs.take k = (bools (Cir.bits x n)).take k ∧ Below w.heap.size w wr)
    (fun i _ => n - (intOf i).toNat)
  case atStart => exact ⟨0, _, Nat.zero_le _, rfl, hown0, rfl, hb0⟩
  case round =>
    obtain ⟨k, cs, hk, rfl, hown, htk, hb⟩ := hrel
    clear hmk hown0 hb0
    by_cases hlt : k < n
    · have hq : (x : Int) / 2 ^ k = ((x / 2 ^ k : Nat) : Int) := by
        rw [Int.natCast_ediv, two_pow]
      have hy : x / 2 ^ k ≤ 1000000 := Nat.le_trans (Nat.div_le_self _ _) hx
      have hm : bits .and .i64 ((x / 2 ^ k : Nat) : Int) 1 = ((x / 2 ^ k % 2 : Nat) : Int) := by
        have := i64_and_nat (x / 2 ^ k) 1 (by omega) (by omega)
        rw [Nat.and_one_is_mod] at this
        exact this
      have he : (((x / 2 ^ k % 2 : Nat) : Int) == 1) = x.testBit k := by
        rw [Nat.testBit_eq_decide_div_mod_eq, Bool.eq_iff_iff, beq_iff_eq, decide_eq_true_iff]
        omega
      have hs := bits_get (x := x) hlt
      generalize x / 2 ^ k = y at hq hm he hy
      generalize y % 2 = r at hm he
      generalize x.testBit k = b at he hs
      have hl := hown.1
      obtain ⟨u0, _, hd, hf⟩ := own_slot hown (j := k) (by omega)
      have Hown := Lib.hid (hown.stored k (.bool b)).1
      have Hstep := Lib.hid (take_set_succ (by omega) htk hs)
      clear hs hl htk hown hy
      go_wp2
      go_roundw
      case rel => exact ⟨k + 1, _, by omega, by go_num, Hown.out, Hstep.out, hb.setCell (Nat.le_refl _) _⟩
      case measure => simp [intOf]; omega
    · go_wp2
      go_ret
      have hl2 : (Cir.bits x n).length = n := by simp [Cir.bits]
      have e : cs = bools (Cir.bits x n) := by
        have hl := hown.1
        rw [List.take_of_length_le (by omega), List.take_of_length_le (by rw [bools_length]; omega)] at htk
        exact htk
      exact ⟨_, rfl, by rw [hl2]; exact e ▸ hown, hb⟩
theorem inputBits_any (g : Nat) (c : Cz) (n x : Nat) (w : World) (h : PCirc w g c) (hn : c.ins = (n : Int)) (h1 : n ≤ 16) (hx : x ≤ 1000000) :
    Calls Try.prog 90 #[.pointer (some ⟨g, 0, none⟩), .int .i64 x] w (OwnBools (Cir.bits x n) w) := by
  obtain ⟨vn, vg, vo, hg, c0, c1, c2, c3, r1, r2, r3⟩ := h
  rw [hn] at c0
  clear r1 r2 r3 c1 c2 c3
  go_enter Try.func90, Try.ntmps90
  go_wp2_with fail
  refine (bitsOf_any x n _ hx h1).mono ?_
  rintro e w1 ⟨v1, rfl, hown, hb⟩
  go_wp2_with fail
  go_ret
  exact ⟨_, rfl, hown, hb⟩
theorem latchBits_any (g : Nat) (c : Cz) (n m x : Nat) (w : World) (h : PCirc w g c) (hn : c.ins = (n : Int)) (hm : c.next.length = m) (h1 : n ≤ 16) (h2 : m ≤ 16) (hx : x ≤ 1000000) :
    Calls Try.prog 91 #[.pointer (some ⟨g, 0, none⟩), .int .i64 x] w (OwnBools (Cir.bits (x / 2 ^ n) m) w) := by
  obtain ⟨vn, vg, vo, hg, c0, c1, c2, c3, r1, r2, r3⟩ := h
  rw [hn] at c0
  obtain ⟨A, cp, hv, hc, hcm⟩ := r1.shape
  subst hv
  rw [hm] at c1
  have hq : (x : Int) / 2 ^ n = ((x / 2 ^ n : Nat) : Int) := by
    rw [Int.natCast_ediv, two_pow]
  have hy : x / 2 ^ n ≤ 1000000 := Nat.le_trans (Nat.div_le_self _ _) hx
  generalize x / 2 ^ n = y at *
  have HC : Hid (∀ w, Calls Try.prog 133 #[.int .i64 y, .int .i64 m] w (OwnBools (Cir.bits y m) w)) := Lib.hid fun w => bitsOf_any y m w hy h2
  clear r1 r2 r3 c2 c3 hn hm
  go_enter Try.func91, Try.ntmps91
  go_wp2_with fail
  go_region_with ((go_at_call 133; refine (HC.out _).mono ?_; rintro e w1 ⟨v1, rfl, hown, hb⟩))
  all_goals
    go_wp2_with fail
    go_ret
    exact ⟨_, rfl, hown, ⟨hb.os, hb.tape, hb.output, hb.size, hb.block⟩⟩
end Go.Proofs.Ytmlcbikljlhhkaa
