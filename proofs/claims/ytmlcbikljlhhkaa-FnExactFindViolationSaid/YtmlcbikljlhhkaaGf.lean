import Derived.Test.YtmlcbikljlhhkaaGe
import Derived.BigRegion
import Derived.Test.YtmlcbikljlhhkaaGd
import Derived.Test.YtmlcbikljlhhkaaGc
import Derived.Laws.CopyOwn
import Derived.Test.YtmlcbikljlhhkaaGa
namespace Go.Proofs.Ytmlcbikljlhhkaa
open Go.RowKit
namespace Cir
/-- The table of a literal of a circuit without latches, from its lowest bits. -/
def tab (c : Ci) (l : Nat) : Nat → Nat
  | 0 => 0
  | k + 1 => tab c l k + (if lit (vals c [] (bits k c.ins)) l then 2 ^ k else 0)
theorem tab_lt (c : Ci) (l : Nat) : ∀ k, tab c l k < 2 ^ k
  | 0 => by simp [tab]
  | k + 1 => by
    have := tab_lt c l k
    rw [tab, Nat.pow_succ]
    split <;> omega
theorem tab_or (c : Ci) (l k : Nat) : tab c l k ||| 2 ^ k = tab c l k + 2 ^ k := by
  have h := Nat.two_pow_add_eq_or_of_lt (tab_lt c l k) 1
  rw [Nat.mul_one] at h
  rw [Nat.or_comm, ← h, Nat.add_comm]
end Cir
set_option maxRecDepth 100000
set_option maxHeartbeats 4000000
theorem specTable_no (v : Value) (c : Cz) (l : Int) (w : World) (h : CircAt w v c) (hno : Cir.valid c = false ∨ (Cir.valid c = true ∧ 0 < c.next.length) ∨ (Cir.valid c = true ∧ c.next.length = 0 ∧ Cir.isLit l (Cir.vars c) = false)) :
    Calls Try.prog 16 #[v, .int .i64 l] w fun e w' => e = .returned (.int .i64 (-1)) ∧ Below w.heap.size w w' := by
  have hsz : Cir.valid c = true → 0 ≤ c.ins ∧ c.ins ≤ 4 ∧ c.next.length ≤ 3 ∧ c.gates.length ≤ 14 ∧ c.outs.length ≤ 3 := fun h => by
    unfold Cir.valid at h
    rw [Bool.and_eq_true, Bool.and_eq_true] at h
    have := h.1.1
    unfold Cir.sizes at this
    simpa using this
  obtain ⟨vn, vg, vo, rfl, r1, r2, r3⟩ := h
  obtain ⟨An, cn, hvn, hcn, hcmn⟩ := r1.shape
  obtain ⟨Ag, cg, hvg, hcg, hcmg⟩ := Row.shape r2
  subst hvn hvg
  have hb0 : Below w.heap.size w (w.alloc (.cells #[.int .i64 c.ins, .slice An c.next.length cn, .slice Ag c.gates.length cg, vo] 30)) := (Below.refl _ _).alloc (Nat.le_refl _) _
  obtain ⟨z, p0, p1, p2, p3⟩ := PCells.boxed w c.ins (.slice An c.next.length cn) (.slice Ag c.gates.length cg) vo 30
  have HC : ∀ n : GW (w.alloc (.cells #[.int .i64 c.ins, .slice An c.next.length cn, .slice Ag c.gates.length cg, vo] 30)), CircAt (gw n) (.agg #[.int .i64 c.ins, .slice An c.next.length cn, .slice Ag c.gates.length cg, vo]) c := fun n =>
    ⟨_, _, _, rfl, Row.below r1 (hb0.trans ((gw_below n).mono hb0.size)), Row.below r2 (hb0.trans ((gw_below n).mono hb0.size)), Row.below r3 (hb0.trans ((gw_below n).mono hb0.size))⟩
  generalize hW : w.alloc (.cells #[.int .i64 c.ins, .slice An c.next.length cn, .slice Ag c.gates.length cg, vo] 30) = W at *
  have g0 := gw_cell p0 z
  have g1 := gw_cell p1 z
  have g2 := gw_cell p2 z
  have g3 := gw_cell p3 z
  have HV : Hid (∀ n : GW W, Calls Try.prog 59 #[.agg #[.int .i64 c.ins, .slice An c.next.length cn, .slice Ag c.gates.length cg, vo]] (gw n) fun e w' => e = .returned (.bool (Cir.valid c)) ∧ Below (gw n).heap.size (gw n) w') := Lib.hid fun n => specValid_any _ c _ (HC n)
  have B0 := Lib.hid hb0
  clear r1 r2 r3 p0 p1 p2 p3 hb0
  rcases hno with hv | ⟨hv, hl⟩ | ⟨hv, hl, hi⟩
  · rw [hv] at HV
    clear hv hsz HC
    go_enter Try.func16, Try.ntmps16
    go_wp2_with fail
    refine wp_region_grow (by kernel_rfl) (by kernel_rfl) ?_
    repeat (go_big_quiet_step ((first | (go_at_call 59; exact grow_call (HV.out _)))))
    refine wpQuiet_nil ?_
    intro _ hw'
    obtain ⟨nq, hw''⟩ := hw'
    subst hw''
    have hgq := gw_below nq
    generalize gw nq = wq at *
    clear nq
    go_wp2_with fail
    go_ret
    exact ⟨rfl, B0.out.trans (hgq.mono B0.out.size)⟩
  · rw [hv] at HV
    have hd : decide (0 < c.next.length) = true := decide_eq_true hl
    clear hv hsz HC hl
    go_enter Try.func16, Try.ntmps16
    go_wp2_with fail
    refine wp_region_grow (by kernel_rfl) (by kernel_rfl) ?_
    repeat (go_big_quiet_step ((first | (go_at_call 59; exact grow_call (HV.out _)))))
    refine wpQuiet_nil ?_
    intro _ hw'
    obtain ⟨nq, hw''⟩ := hw'
    subst hw''
    have hgq := gw_below nq
    generalize gw nq = wq at *
    clear nq
    go_wp2_with fail
    go_ret
    exact ⟨rfl, B0.out.trans (hgq.mono B0.out.size)⟩
  · rw [hv] at HV
    obtain ⟨s1, s2, s3, s4, s5⟩ := hsz hv
    have HF : Hid (∀ n : GW W, Calls Try.prog 61 #[.agg #[.int .i64 c.ins, .slice An c.next.length cn, .slice Ag c.gates.length cg, vo]] (gw n) fun e w' => e = .returned (.int .i64 (Cir.first c)) ∧ Below (gw n).heap.size (gw n) w') := Lib.hid fun n => l1First_any _ c _ (HC n) s1 (by omega) (by omega)
    have HI : Hid (∀ n : GW W, Calls Try.prog 60 #[.int .i64 l, .int .i64 0, .int .i64 (2 * (Cir.first c + c.gates.length) - 1)] (gw n) fun e w' => e = .returned (.bool false) ∧ gw n = w') := Lib.hid fun n => by
      have h1 := l1In_any l 0 (2 * (Cir.first c + c.gates.length) - 1) (gw n)
      rw [show decide (0 ≤ l ∧ l ≤ 2 * (Cir.first c + c.gates.length) - 1) = Cir.isLit l (Cir.vars c) from isLit_in l (Cir.vars c), hi] at h1
      exact h1
    have hf : 1 ≤ Cir.first c ∧ Cir.first c ≤ 10 := by unfold Cir.first; omega
    obtain ⟨hf1, hf2⟩ := hf
    have hd : decide (0 < c.next.length) = false := decide_eq_false (by omega)
    clear hv hsz HC hi hl
    generalize Cir.first c = F at *
    go_enter Try.func16, Try.ntmps16
    go_wp2_with fail
    refine wp_region_grow (by kernel_rfl) (by kernel_rfl) ?_
    repeat (go_big_quiet_step ((first | (go_at_call 59; exact grow_call (HV.out _)) | (go_at_call 61; exact grow_call (HF.out _)) | (go_at_call 60; exact grow_same (HI.out _)))))
    refine wpQuiet_nil ?_
    intro _ hw'
    obtain ⟨nq, hw''⟩ := hw'
    subst hw''
    have hgq := gw_below nq
    generalize gw nq = wq at *
    clear nq
    go_wp2_with fail
    go_ret
    exact ⟨rfl, B0.out.trans (hgq.mono B0.out.size)⟩
end Go.Proofs.Ytmlcbikljlhhkaa

namespace Go.Proofs.Ytmlcbikljlhhkaa
open Go.RowKit
set_option maxRecDepth 100000
/-! The values of a circuit, by the program. -/
theorem litValue_any (v : Value) (xs : List Bool) (l : Nat) (w : World) (h : BoolsAt w v xs) (hl : l < 2 * xs.length) (hb : l ≤ 1000000) :
    Calls Try.prog 129 #[v, .int .i64 l] w fun e w' => e = .returned (.bool (Cir.lit xs l)) ∧ w = w' := by
  obtain ⟨A, c, hv, hc, hcm⟩ := Row.shape h
  subst hv
  have hi : l / 2 < xs.length := by omega
  obtain ⟨b, o, x, rfl, hbl, hx, hs⟩ := bools_open h (Below.refl _ _) rfl hi
  have HL := Lib.hid (lit_of hx.out)
  have hq : (l : Int).tdiv 2 = ((l / 2 : Nat) : Int) := by rw [Int.tdiv_eq_ediv_of_nonneg (by omega)]; omega
  have hm : bits .and .i64 (l : Int) 1 = ((l % 2 : Nat) : Int) := by
    have := i64_and_nat l 1 (by omega) (by omega)
    rw [Nat.and_one_is_mod] at this
    exact this
  have he : (((l % 2 : Nat) : Int) == 1) = (l % 2 == 1) := by
    rw [Bool.eq_iff_iff, beq_iff_eq, beq_iff_eq]
    omega
  have hqb : l / 2 ≤ 1000000 := by omega
  generalize l / 2 = q at *
  generalize l % 2 = r at *
  have hwr : IntKind.i64.wrap (q : Int) = q := IntWalk.i64_in _ (by omega)
  go_enter Try.func129, Try.ntmps129
  go_wp2
  go_ret
  refine ⟨ret_bool ?_, rfl⟩
  rw [HL.out]
  simp
  generalize (r == 1) = p
  cases x <;> cases p <;> rfl
theorem assignments_any (g : Nat) (c : Cz) (m : Nat) (w : World) (h : PCirc w g c) (hm : c.ins + c.next.length = m) (h1 : m ≤ 7) :
    Calls Try.prog 89 #[.pointer (some ⟨g, 0, none⟩)] w fun e w' => e = .returned (.int .i64 ((2 ^ m : Nat) : Int)) ∧ Below w.heap.size w w' := by
  obtain ⟨vn, vg, vo, hg, c0, c1, c2, c3, r1, r2, r3⟩ := h
  obtain ⟨A, cp, hv, hc, hcm⟩ := r1.shape
  subst hv
  have g0 := gw_cell c0 hg
  have g1 := gw_cell c1 hg
  have hw0 := IntWalk.i64_in (m : Int) (by omega)
  have h2 : 2 ^ m ≤ 128 := Nat.pow_le_pow_right (show 0 < 2 by decide) h1
  obtain ⟨M, hM⟩ : ∃ M, M = 2 ^ m := ⟨_, rfl⟩
  have e2 : (2 : Int) ^ m = (M : Int) := by rw [hM]; exact two_pow m
  rw [← hM] at h2 ⊢
  have hwM := IntWalk.i64_in (M : Int) (by omega)
  have hwu : IntKind.u64.wrap (m : Int) = m := by rw [IntKind.wrap_u64]; omega
  clear r1 r2 r3 c0 c1 c2 c3 hM
  go_enter Try.func89, Try.ntmps89
  go_wp2
  refine wp_region_grow (by kernel_rfl) (by kernel_rfl) ?_
  repeat (go_big_quiet_step ((fail)))
  refine wpQuiet_nil ?_
  intro _ hw'
  obtain ⟨nq, hw''⟩ := hw'
  subst hw''
  have hgq := gw_below nq
  generalize gw nq = wq at *
  clear nq
  go_wp2
  go_ret
  exact ⟨rfl, hgq⟩
theorem bits_snoc (x k : Nat) : Cir.bits x (k + 1) = Cir.bits x k ++ [x.testBit k] := by
  unfold Cir.bits
  rw [List.range_succ, List.map_append]
  rfl
theorem bits_get {x n k : Nat} (h : k < n) : (bools (Cir.bits x n))[k]? = some (.bool (x.testBit k)) := by
  simp [bools, Cir.bits, h]
theorem bitsOf_any (x n : Nat) (w : World) (hx : x ≤ 1000000) (hn : n ≤ 16) :
    Calls Try.prog 133 #[.int .i64 x, .int .i64 n] w (OwnBools (Cir.bits x n) w) := by
  have hmk := run_make_row' (P := Try.prog) 78 4 (.bool false) 1 Try.underlying78 info_bool rfl .i64 .i64 n (by omega) (by omega)
  go_enter Try.func133, Try.ntmps133
  go_wp2
  have hown0 := World.ownsRow_lit (base := w.heap.size) (e := 4) (size := 1) w (madeCells #[Value.bool false] n) n (Nat.le_refl _) (by unfold maxLen; omega) (by simp [madeCells])
  have hb0 : Below w.heap.size w (w.alloc (.cells (madeCells #[Value.bool false] n) 4)) := (Below.refl _ _).alloc (Nat.le_refl _) _
  go_loopw [11] (fun i wr => ∃ (k : Nat) (cs : List Value), k ≤ n ∧ i = .int .i64 k ∧ wr.ownsRow w.heap.size 4 1 (.slice (some ⟨w.heap.size, 0, none⟩) n n) n cs ∧ cs.take k = (bools (Cir.bits x n)).take k ∧ Below w.heap.size w wr)
    (fun i _ => n - (intOf i).toNat)
  case atStart => exact ⟨0, _, Nat.zero_le _, rfl, hown0, rfl, hb0⟩
  case round =>
    obtain ⟨k, cs, hk, rfl, hown, htk, hb⟩ := hrel
    clear hmk hown0 hb0
    by_cases hlt : k < n
    · have hq : (x : Int) / 2 ^ k = ((x / 2 ^ k : Nat) : Int) := by
        rw [Int.natCast_ediv, two_pow]
      have hy : x / 2 ^ k ≤ 1000000 := Nat.le_trans (Nat.div_le_self _ _) hx
      have hm : bits .and .i64 ((x / 2 ^ k : Nat) : Int) 1 = ((x / 2 ^ k % 2 : Nat) : Int) := by
        have := i64_and_nat (x / 2 ^ k) 1 (by omega) (by omega)
        rw [Nat.and_one_is_mod] at this
        exact this
      have he : (((x / 2 ^ k % 2 : Nat) : Int) == 1) = x.testBit k := by
        rw [Nat.testBit_eq_decide_div_mod_eq, Bool.eq_iff_iff, beq_iff_eq, decide_eq_true_iff]
        omega
      have hs := bits_get (x := x) hlt
      generalize x / 2 ^ k = y at hq hm he hy
      generalize y % 2 = r at hm he
      generalize x.testBit k = b at he hs
      have hl := hown.1
      obtain ⟨u0, _, hd, hf⟩ := own_slot hown (j := k) (by omega)
      have Hown := Lib.hid (hown.stored k (.bool b)).1
      have Hstep := Lib.hid (take_set_succ (by omega) htk hs)
      clear hs hl htk hown hy
      go_wp2
      go_roundw
      case rel => exact ⟨k + 1, _, by omega, by go_num, Hown.out, Hstep.out, hb.setCell (Nat.le_refl _) _⟩
      case measure => simp [intOf]; omega
    · go_wp2
      go_ret
      have hl2 : (Cir.bits x n).length = n := by simp [Cir.bits]
      have e : cs = bools (Cir.bits x n) := by
        have hl := hown.1
        rw [List.take_of_length_le (by omega), List.take_of_length_le (by rw [bools_length]; omega)] at htk
        exact htk
      exact ⟨_, rfl, by rw [hl2]; exact e ▸ hown, hb⟩
theorem inputBits_any (g : Nat) (c : Cz) (n x : Nat) (w : World) (h : PCirc w g c) (hn : c.ins = (n : Int)) (h1 : n ≤ 16) (hx : x ≤ 1000000) :
    Calls Try.prog 90 #[.pointer (some ⟨g, 0, none⟩), .int .i64 x] w (OwnBools (Cir.bits x n) w) := by
  obtain ⟨vn, vg, vo, hg, c0, c1, c2, c3, r1, r2, r3⟩ := h
  rw [hn] at c0
  clear r1 r2 r3 c1 c2 c3
  go_enter Try.func90, Try.ntmps90
  go_wp2_with fail
  refine (bitsOf_any x n _ hx h1).mono ?_
  rintro e w1 ⟨v1, rfl, hown, hb⟩
  go_wp2_with fail
  go_ret
  exact ⟨_, rfl, hown, hb⟩
theorem latchBits_any (g : Nat) (c : Cz) (n m x : Nat) (w : World) (h : PCirc w g c) (hn : c.ins = (n : Int)) (hm : c.next.length = m) (h1 : n ≤ 16) (h2 : m ≤ 16) (hx : x ≤ 1000000) :
    Calls Try.prog 91 #[.pointer (some ⟨g, 0, none⟩), .int .i64 x] w (OwnBools (Cir.bits (x / 2 ^ n) m) w) := by
  obtain ⟨vn, vg, vo, hg, c0, c1, c2, c3, r1, r2, r3⟩ := h
  rw [hn] at c0
  obtain ⟨A, cp, hv, hc, hcm⟩ := r1.shape
  subst hv
  rw [hm] at c1
  have hq : (x : Int) / 2 ^ n = ((x / 2 ^ n : Nat) : Int) := by
    rw [Int.natCast_ediv, two_pow]
  have hy : x / 2 ^ n ≤ 1000000 := Nat.le_trans (Nat.div_le_self _ _) hx
  generalize x / 2 ^ n = y at *
  have HC : Hid (∀ w, Calls Try.prog 133 #[.int .i64 y, .int .i64 m] w (OwnBools (Cir.bits y m) w)) := Lib.hid fun w => bitsOf_any y m w hy h2
  clear r1 r2 r3 c2 c3 hn hm
  go_enter Try.func91, Try.ntmps91
  go_wp2_with fail
  go_region_with ((go_at_call 133; refine (HC.out _).mono ?_; rintro e w1 ⟨v1, rfl, hown, hb⟩))
  all_goals
    go_wp2_with fail
    go_ret
    exact ⟨_, rfl, hown, ⟨hb.os, hb.tape, hb.output, hb.size, hb.block⟩⟩
end Go.Proofs.Ytmlcbikljlhhkaa

namespace Go.Proofs.Ytmlcbikljlhhkaa
open Go.RowKit
set_option maxRecDepth 100000
/-! The tables of literals. -/
theorem bools_lit0 (w : World) (t : TypeId) : BoolsAt (w.alloc (.cells #[] t)) (.slice (some ⟨w.heap.size, 0, none⟩) 0 0) [] :=
  ⟨rfl, _, 0, rfl, Nat.le_refl _, Nat.zero_le _, fun h => absurd h (by simp)⟩
set_option maxHeartbeats 4000000 in
theorem specTable_ok (v : Value) (d : Ci) (l : Nat) (w : World) (h : CircAt w v (Cir.toCz d)) (hd : Cir.Ok d) (hv : Cir.valid (Cir.toCz d) = true) (hn : d.next = []) (hl : l < 2 * Cir.nvars d) :
    Calls Try.prog 16 #[v, .int .i64 l] w fun e w' => e = .returned (.int .i64 (Cir.tab d l (2 ^ d.ins) : Nat)) ∧ Below w.heap.size w w' := by
  have s1 := hd.ins
  have s3 := hd.gatess
  have hi : Cir.isLit l (Cir.vars (Cir.toCz d)) = true := by
    rw [Cir.vars_toCz]
    unfold Cir.isLit
    simp
    omega
  have hnl : (Cir.toCz d).next.length = 0 := by simp [Cir.toCz, hn]
  have hgl : (Cir.toCz d).gates.length = d.gates.length := List.length_map _
  have hnv : Cir.nvars d ≤ 19 := by unfold Cir.nvars Cir.nfirst; rw [hn]; simp; omega
  have HCa := Lib.hid h
  have hins : (Cir.toCz d).ins = (d.ins : Int) := rfl
  obtain ⟨vn, vg, vo, rfl, r1, r2, r3⟩ := h
  obtain ⟨An, cn, hvn, hcn, hcmn⟩ := r1.shape
  obtain ⟨Ag, cg, hvg, hcg, hcmg⟩ := Row.shape r2
  rw [hnl] at hvn
  rw [hgl] at hvg
  subst hvn hvg
  rw [hins] at HCa ⊢
  have hb0 : Below w.heap.size w (w.alloc (.cells #[.int .i64 d.ins, .slice An 0 cn, .slice Ag d.gates.length cg, vo] 30)) := (Below.refl _ _).alloc (Nat.le_refl _) _
  obtain ⟨z, p0, p1, p2, p3⟩ := PCells.boxed w d.ins (.slice An 0 cn) (.slice Ag d.gates.length cg) vo 30
  have HCW : Hid (CircAt (w.alloc (.cells #[.int .i64 d.ins, .slice An 0 cn, .slice Ag d.gates.length cg, vo] 30)) (.agg #[.int .i64 d.ins, .slice An 0 cn, .slice Ag d.gates.length cg, vo]) (Cir.toCz d)) := Lib.hid (HCa.out.below hb0)
  generalize hW : w.alloc (.cells #[.int .i64 d.ins, .slice An 0 cn, .slice Ag d.gates.length cg, vo] 30) = W at *
  have HC : ∀ n : GW W, CircAt (gw n) (.agg #[.int .i64 d.ins, .slice An 0 cn, .slice Ag d.gates.length cg, vo]) (Cir.toCz d) := fun n => HCW.out.below (gw_below n)
  have g0 := gw_cell p0 z
  have g1 := gw_cell p1 z
  have g2 := gw_cell p2 z
  have g3 := gw_cell p3 z
  have HV : Hid (∀ n : GW W, Calls Try.prog 59 #[.agg #[.int .i64 d.ins, .slice An 0 cn, .slice Ag d.gates.length cg, vo]] (gw n) fun e w' => e = .returned (.bool true) ∧ Below (gw n).heap.size (gw n) w') := Lib.hid fun n => by
    have := specValid_any _ _ _ (HC n)
    rwa [hv] at this
  have HF : Hid (∀ n : GW W, Calls Try.prog 61 #[.agg #[.int .i64 d.ins, .slice An 0 cn, .slice Ag d.gates.length cg, vo]] (gw n) fun e w' => e = .returned (.int .i64 (Cir.nfirst d : Nat)) ∧ Below (gw n).heap.size (gw n) w') := Lib.hid fun n => by
    have := l1First_any _ _ _ (HC n) (by rw [hins]; omega) (by rw [hins]; omega) (by omega)
    rwa [Cir.first_toCz] at this
  have HI : Hid (∀ n : GW W, Calls Try.prog 60 #[.int .i64 l, .int .i64 0, .int .i64 (2 * ((Cir.nfirst d : Nat) + d.gates.length) - 1)] (gw n) fun e w' => e = .returned (.bool true) ∧ gw n = w') := Lib.hid fun n => by
    have h1 := l1In_any l 0 (2 * ((Cir.nfirst d : Nat) + d.gates.length) - 1) (gw n)
    rw [show decide (0 ≤ (l : Int) ∧ (l : Int) ≤ 2 * (((Cir.nfirst d : Nat) : Int) + d.gates.length) - 1) = true from decide_eq_true (by unfold Cir.nvars at hl; omega)] at h1
    exact h1
  have hnf : Cir.nfirst d ≤ 5 := by unfold Cir.nfirst; rw [hn]; simp; omega
  have B0 := Lib.hid hb0
  have Hd := Lib.hid hd
  have PC : Hid (PCells W w.heap.size d.ins (.slice An 0 cn) (.slice Ag d.gates.length cg) vo) := Lib.hid ⟨z, p0, p1, p2, p3⟩
  obtain ⟨M, e, hM⟩ : ∃ M : Nat, (2 : Int) ^ d.ins = (M : Int) ∧ M = 2 ^ d.ins := ⟨2 ^ d.ins, two_pow d.ins, rfl⟩
  have hM16 : M ≤ 16 := by rw [hM]; exact Nat.pow_le_pow_right (show 0 < 2 by decide) s1
  rw [← hM]
  have HL : Hid (∀ x, (Cir.vals d [] (Cir.bits x d.ins)).length = Cir.nvars d) := Lib.hid fun x => Cir.vals_length d (Cir.bits_length _ _) (by simp [hn])
  have HN := Lib.hid hn
  have hdn : decide (0 < 0) = false := rfl
  clear r1 r2 r3 p0 p1 p2 p3 hb0 hd hv hn hi hnl hgl hM HCa HC
  generalize Cir.nfirst d = F at *
  have hwM := IntWalk.i64_in (M : Int) (by omega)
  go_enter Try.func16, Try.ntmps16
  go_wp2_with fail
  refine wp_region_grow (by kernel_rfl) (by kernel_rfl) ?_
  repeat (go_big_quiet_step ((first | (go_at_call 59; exact grow_call (HV.out _)) | (go_at_call 61; exact grow_call (HF.out _)) | (go_at_call 60; exact grow_same (HI.out _)))))
  refine wpQuiet_nil ?_
  intro _ hw'
  obtain ⟨nq, hw''⟩ := hw'
  subst hw''
  have hgq := gw_below nq
  generalize gw nq = wq at *
  clear nq
  clear HV HF HI
  obtain ⟨W1, hW1⟩ : ∃ W1, W1 = wq := ⟨_, rfl⟩
  subst hW1
  have HCq := Lib.hid (HCW.out.below hgq)
  have PCq := Lib.hid (PC.out.below hgq)
  have Bq := Lib.hid (B0.out.trans (hgq.mono B0.out.size))
  clear hgq g0 g1 g2 g3 PC B0 hW
  go_wp2_with fail
  go_loopw [5, 6] (fun t x wr => ∃ k : Nat, k ≤ M ∧ x = .int .i64 k ∧ t = .int .i64 (Cir.tab d l k : Nat) ∧ Below W1.heap.size W1 wr) (fun _ x _ => M - (intOf x).toNat)
  case atStart => exact ⟨0, Nat.zero_le _, rfl, rfl, Below.refl _ _⟩
  case round =>
    obtain ⟨k, hk, rfl, rfl, hb⟩ := hrel
    obtain ⟨z, p0, p1, p2, p3⟩ := PCq.out.below hb
    have HCr := Lib.hid (HCq.out.below hb)
    have Hb := Lib.hid hb
    have hzb := hb.size
    clear hb
    by_cases hlt : k < M
    · have ht : Cir.tab d l k < 65536 := Nat.lt_of_lt_of_le (Cir.tab_lt d l k) (by
        have : (65536 : Nat) = 2 ^ 16 := by decide
        rw [this]; exact Nat.pow_le_pow_right (show 0 < 2 by decide) (by omega))
      have Hs : Hid (Cir.tab d l (k + 1) = Cir.tab d l k + (if Cir.lit (Cir.vals d [] (Cir.bits k d.ins)) l then 2 ^ k else 0)) := Lib.hid rfl
      have hY : 2 ^ k ≤ 32768 := by
        have : (32768 : Nat) = 2 ^ 15 := by decide
        rw [this]; exact Nat.pow_le_pow_right (show 0 < 2 by decide) (by omega)
      have hYe : (2 : Int) ^ k = ((2 ^ k : Nat) : Int) := two_pow k
      generalize hYY : 2 ^ k = Y at *
      go_wp2_with fail
      have c0 := p0
      refine wp_region_rs (quietRS Try.prog _ wr _) quietRS_ok (by kernel_rfl) (by kernel_rfl) (by kernel_rfl) (Nat.le_of_ble_eq_true rfl) trivial trivial ?_
      refine rs_look quietRS_ok quiet_any (TEq (.agg #[.int .i64 d.ins, .slice An 0 cn, .slice Ag d.gates.length cg, vo])) (stb_eq _ _) (fun ρ w' ho hK => by
        obtain ⟨h1, -⟩ := hK
        have h1' : ρ (.tmp 2) = .pointer (some ⟨w.heap.size, 0, none⟩) := h1
        have hb := only_below ho
        have q0 := (hb.cell (p := ⟨w.heap.size, 0, none⟩) z).trans p0
        have q1 := (hb.cell (p := ⟨w.heap.size, 1, none⟩) z).trans p1
        have q2 := (hb.cell (p := ⟨w.heap.size, 2, none⟩) z).trans p2
        have q3 := (hb.cell (p := ⟨w.heap.size, 3, none⟩) z).trans p3
        refine ⟨_, ?_, rfl⟩
        go_simp) ?_
      refine rs_alloc quietRS_ok quiet_any (TBools []) (stb_bools _) (fun ρ w' ho hK => by
        refine ⟨_, .cells #[] 4, ?_, bools_lit0 w' _⟩
        go_simp) ?_
      refine rs_old quietRS_ok quiet_any _ (.inl rfl) _ rfl rfl ?_
      refine rs_look quietRS_ok quiet_any (TEq (.pointer (some ⟨w.heap.size, 0, none⟩))) (stb_eq _ _) (fun ρ w' ho hK => by
        obtain ⟨h1, -⟩ := hK
        have h1' : ρ (.tmp 2) = .pointer (some ⟨w.heap.size, 0, none⟩) := h1
        refine ⟨_, ?_, rfl⟩
        go_simp) ?_
      refine rs_look quietRS_ok quiet_any (TEq (.int .i64 d.ins)) (stb_eq _ _) (fun ρ w' ho hK => by
        obtain ⟨h1, -⟩ := hK
        have h1' : ρ (.tmp 39) = .pointer (some ⟨w.heap.size, 0, none⟩) := h1
        have hb := only_below ho
        have q0 := (hb.cell (p := ⟨w.heap.size, 0, none⟩) z).trans p0
        refine ⟨_, ?_, rfl⟩
        go_simp) ?_
      refine rs_call quietRS_ok quiet_any (TBools (Cir.bits k d.ins)) (stb_bools _) 64 _ _ rfl (fun ρ w' ho hK => by
        obtain ⟨h0, h1, h2, -⟩ := hK
        have h1' : ρ (.tmp 38) = .int .i64 k := h1
        have h2' : ρ (.tmp 40) = .int .i64 d.ins := h2
        have h0' : ρ (.func 64) = .func (.func 64) #[] #[] := h0
        refine ⟨#[.int .i64 k, .int .i64 d.ins], ?_, ?_⟩
        · go_simp
        · refine (l4Bits_any k d.ins w' (by omega) (by omega)).mono ?_
          rintro e w2 ⟨v2, rfl, hown, hb⟩
          exact ⟨v2, rfl, ownBools_at hown, hb⟩) ?_
      refine rs_call quietRS_ok quiet_any (TBools (Cir.vals d [] (Cir.bits k d.ins))) (stb_bools _) 63 _ _ rfl (fun ρ w' ho hK => by
        obtain ⟨h0, h1, h2, h3, -⟩ := hK
        have h0' : ρ (.func 63) = .func (.func 63) #[] #[] := h0
        have h1' : ρ (.tmp 36) = .agg #[.int .i64 d.ins, .slice An 0 cn, .slice Ag d.gates.length cg, vo] := h1
        have h2' : BoolsAt w' (ρ (.tmp 37)) [] := h2
        have h3' : BoolsAt w' (ρ (.tmp 41)) (Cir.bits k d.ins) := h3
        refine ⟨#[.agg #[.int .i64 d.ins, .slice An 0 cn, .slice Ag d.gates.length cg, vo], ρ (.tmp 37), ρ (.tmp 41)], ?_, ?_⟩
        · go_simp
        · refine (l2Values_any _ _ _ d [] (Cir.bits k d.ins) w' (HCr.out.below (only_below ho)) Hd.out h2' h3' (Cir.bits_length _ _) (by simp [HN.out])).mono ?_
          rintro e w2 ⟨v2, rfl, hown, hb⟩
          exact ⟨v2, rfl, ownBools_at hown, hb⟩) ?_
      refine rs_old quietRS_ok quiet_any _ (.inl rfl) _ rfl rfl ?_
      refine rs_call quietRS_ok quiet_any (TEq (.bool (Cir.lit (Cir.vals d [] (Cir.bits k d.ins)) l))) (stb_eq _ _) 62 _ _ rfl (fun ρ w' ho hK => by
        obtain ⟨h0, h1, h2, -⟩ := hK
        have h0' : ρ (.func 62) = .func (.func 62) #[] #[] := h0
        have h1' : BoolsAt w' (ρ (.tmp 42)) (Cir.vals d [] (Cir.bits k d.ins)) := h1
        have h2' : ρ (.tmp 43) = .int .i64 l := h2
        refine ⟨#[ρ (.tmp 42), .int .i64 l], ?_, ?_⟩
        · go_simp
        · refine (l2Lit_any _ _ l w' h1' (by rw [HL.out]; exact hl) (by omega)).mono ?_
          rintro e w2 ⟨rfl, rfl⟩
          exact ⟨_, rfl, rfl, Below.refl _ _⟩) ?_
      intro f w6 k' hk' hI ht6 hcp
      have h8 : f 8 = .bool (Cir.lit (Cir.vals d [] (Cir.bits k d.ins)) l) := ht6 8 (Nat.le_of_ble_eq_true rfl)
      have hb6 := only_below hI.2.1
      have Hb6 := Lib.hid (Hb.out.trans (hb6.mono hzb))
      simp only [putAll, h8, Nat.zero_add, Nat.reduceAdd, Act.put, List.setIfInBounds_toArray, List.set_cons_succ, List.set_cons_zero]
      generalize f 0 = u0, f 1 = u1, f 2 = u2, f 3 = u3, f 4 = u4, f 5 = u5, f 6 = u6, f 7 = u7
      clear hI ht6 hcp hk' h8 hb6 c0 p0 p1 p2 p3
      cases hb : Cir.lit (Cir.vals d [] (Cir.bits k d.ins)) l
      · rw [hb] at Hs
        go_wp2_with fail
        go_roundw
        case rel => exact ⟨k + 1, by omega, by go_num, by rw [Hs.out]; rfl, Hb6.out⟩
        case measure => simp [intOf] <;> omega
      · rw [hb] at Hs
        have hwr : IntKind.i64.wrap ((Cir.tab d l k : Int) + (Y : Int)) = (Cir.tab d l k : Int) + (Y : Int) := IntWalk.i64_in _ (by omega)
        have hwY : IntKind.i64.wrap (Y : Int) = (Y : Int) := IntWalk.i64_in _ (by omega)
        go_wp2_with fail
        go_roundw
        case rel => exact ⟨k + 1, by omega, by go_num, by rw [Hs.out]; go_num, Hb6.out⟩
        case measure => simp [intOf] <;> omega
    · obtain rfl : k = M := by omega
      go_wp2_with fail
      go_ret
      exact ⟨rfl, Bq.out.trans (Hb.out.mono Bq.out.size)⟩
end Go.Proofs.Ytmlcbikljlhhkaa

namespace Go.Proofs.Ytmlcbikljlhhkaa
open Go.RowKit
set_option maxRecDepth 100000
/-! The values of all variables, by the program. -/
theorem own_of_block {w : World} {base g n : Nat} {e : TypeId} {cs : List Value} (hb : base ≤ g) (hh : w.heap[g]? = some (.cells cs.toArray e (0, 0))) (hl : cs.length = n) (hm : n ≤ maxLen) : w.ownsRow base e 1 (.slice (some ⟨g, 0, none⟩) n n) n cs :=
  ⟨by omega, .inr ⟨g, n, cs.toArray, rfl, hb, hh, Nat.le_refl _, hm, by simp; omega, by rw [List.take_of_length_le]; simp; omega⟩⟩
theorem splice_two {α : Type} (a b : List α) (z : α) (n k : Nat) (hk : k = 1 + a.length) (hn : 1 + a.length + b.length ≤ n) : splice (splice (List.replicate n z) 1 a) k b = z :: (a ++ b) ++ List.replicate (n - (1 + a.length + b.length)) z := by
  subst hk
  obtain ⟨m, rfl⟩ : ∃ m, n = 1 + a.length + b.length + m := ⟨n - (1 + a.length + b.length), by omega⟩
  have e1 : splice (List.replicate (1 + a.length + b.length + m) z) 1 a = (z :: a) ++ List.replicate (b.length + m) z := by
    unfold splice
    rw [List.take_replicate, List.drop_replicate, show min 1 (1 + a.length + b.length + m) = 1 from by omega, show 1 + a.length + b.length + m - (1 + a.length) = b.length + m from by omega]
    rfl
  rw [e1]
  unfold splice
  rw [List.take_append_of_le_length (by simp; omega), List.take_of_length_le (by simp; omega), List.drop_append, List.drop_eq_nil_of_le (by simp; omega), List.nil_append, List.drop_replicate, show b.length + m - (1 + a.length + b.length - (z :: a).length) = m from by simp; omega, show 1 + a.length + b.length + m - (1 + a.length + b.length) = m from by omega]
  simp
theorem lit_append {A B : List Bool} {l : Nat} (h : l / 2 < A.length) : Cir.lit (A ++ B) l = Cir.lit A l := by
  unfold Cir.lit
  rw [List.getD_eq_getElem?_getD, List.getD_eq_getElem?_getD, List.getElem?_append_left h]
/-- A stop for the walk, at a copy. -/
structure Stop (p : Prop) : Prop where
  out : p
theorem stop_copy {P : Program} {w : World} {ops : Array Oper} {rest : List Oper} {o : Oper} {a : Act} {Q : Exit → Act → World → Prop} (d s : Operand) (dT sT : TypeId)
    (ho : o.op = .call { callee := .builtin .copy, args := #[d, s], argTypes := #[dT, sT] }) (h : Stop (wpList P ops Q (o :: rest) a w)) : wpList P ops Q (o :: rest) a w := h.out
theorem stop_slice {P : Program} {w : World} {ops : Array Oper} {rest : List Oper} {o : Oper} {a : Act} {Q : Exit → Act → World → Prop} (t : TypeId) (x : Operand) (lo hi mx : Option Operand)
    (ho : o.op = .slice t x lo hi mx) (h : Stop (wpList P ops Q (o :: rest) a w)) : wpList P ops Q (o :: rest) a w := h.out
set_option maxHeartbeats 8000000 in
theorem evaluate_any (g : Nat) (d : Ci) (vs vi : Value) (st inp : List Bool) (w : World) (h : PCirc w g (Cir.toCz d)) (hd : Cir.Ok d) (hs : BoolsAt w vs st) (hi : BoolsAt w vi inp) (h1 : inp.length = d.ins) (h2 : st.length = d.next.length) :
    Calls Try.prog 130 #[.pointer (some ⟨g, 0, none⟩), vs, vi, .int .i64 (-1), .bool false] w (OwnBools (Cir.vals d st inp) w) := by
  have s1 := hd.ins
  have s2 := hd.nexts
  have s3 := hd.gatess
  have HGt := Lib.hid hd.gate
  have hnl : (Cir.toCz d).next.length = d.next.length := List.length_map _
  have hgl : (Cir.toCz d).gates.length = d.gates.length := List.length_map _
  obtain ⟨n, hn⟩ : ∃ n, n = Cir.nvars d := ⟨_, rfl⟩
  have hnd : n = 1 + d.ins + d.next.length + d.gates.length := hn
  have HV := vars_any g _ w h (by show (0 : Int) ≤ (d.ins : Int); omega) (by show (d.ins : Int) ≤ 100; omega) (by omega) (by omega)
  rw [Cir.vars_toCz, ← hn] at HV
  have Hv := Lib.hid HV
  have Hs := Lib.hid hs
  have Hi := Lib.hid hi
  have Hp := Lib.hid h
  obtain ⟨As, cs, hvs, hcs, hcms⟩ := Row.shape hs
  obtain ⟨Ai, ci, hvi, hci, hcmi⟩ := Row.shape hi
  subst hvs hvi
  have hmk := run_make_row' (P := Try.prog) 78 4 (.bool false) 1 Try.underlying78 info_bool rfl .i64 .i64 n (by omega) (by omega)
  obtain ⟨m, hm⟩ : ∃ m, m = n := ⟨_, rfl⟩
  have Hnd : Hid (m = 1 + d.ins + d.next.length + d.gates.length) := Lib.hid (hm.trans hnd)
  have b1 : 1 ≤ n := by omega
  have b2 : n ≤ 22 := by omega
  have b3 : 1 + d.ins ≤ n := by omega
  have b4 : 1 + d.ins + d.next.length ≤ n := by omega
  have Hm := Lib.hid hm
  have HB3 : Hid (1 + d.ins + d.next.length ≤ m) := Lib.hid (by omega)
  rw [h1] at hci Hi ⊢
  rw [h2] at hcs Hs ⊢
  have H1 := Lib.hid h1
  have H2 := Lib.hid h2
  have hww : IntKind.i64.wrap (1 + (d.ins : Int)) = 1 + d.ins := IntWalk.i64_in _ (by omega)
  obtain ⟨vn, vg, vo, hg, c0, c1, c2, c3, r1, r2, r3⟩ := Hp.out
  have C0 : Hid (w.cell? ⟨g, 0, none⟩ = some (.int .i64 d.ins)) := Lib.hid c0
  obtain ⟨Ag, cg, hvg, hcg, hcmg⟩ := Row.shape r2
  rw [hgl] at hvg
  subst hvg
  rw [hgl] at hcg
  have C2 := Lib.hid c2
  have R2 : Hid (Row w 2 (.slice Ag d.gates.length cg) d.gates.length (cubes (Cir.toCz d).gates)) := Lib.hid (by have := r2; unfold CubesAt at this; rwa [hgl] at this)
  have Hgl := Lib.hid hgl
  have SZ : (Try.prog.info? 4).map (·.size) = some 1 := by
    have := info_bool
    cases hi : Try.prog.info? 4 with
    | none => rw [hi] at this; cases this
    | some i => rw [hi] at this; simp at this; simp [this]
  clear r1 r2 r3 c0 c1 c2 c3
  clear HV h hs hi hnl hgl hn hnd h1 h2 hm hd
  go_enter Try.func130, Try.ntmps130
  go_wp2_with fail
  refine Hv.out.mono ?_
  rintro e w1 ⟨rfl, hb1⟩
  have hZ : Hid ((w1.alloc (.cells (madeCells #[Value.bool false] n) 4)).heap[w1.heap.size]? = some (.cells (bools (List.replicate m false)).toArray 4 (0, 0))) := Lib.hid (by
    rw [heap_alloc_new, made_one, Hm.out]
    simp [bools])
  have B1 : Hid (Below w.heap.size w (w1.alloc (.cells (madeCells #[Value.bool false] n) 4))) := Lib.hid (hb1.alloc hb1.size _)
  have hz1 := hb1.size
  have c0 : (w1.alloc (.cells (madeCells #[Value.bool false] n) 4)).cell? ⟨g, 0, none⟩ = some (.int .i64 d.ins) := (B1.out.cell (p := ⟨g, 0, none⟩) hg).trans C0.out
  generalize hW2 : w1.alloc (.cells (madeCells #[Value.bool false] n) 4) = W2 at *
  clear hb1 Hv
  go_wp2_with (refine stop_slice _ _ _ _ _ rfl ?_)
  refine ⟨?_⟩
  clear hmk
  have hcase : (n = 1 ∧ n = 1 + d.ins) ∨ (n ≠ 1 ∧ n = 1 + d.ins) ∨ (n ≠ 1 ∧ n ≠ 1 + d.ins) := by omega
  have hcase2 : ∃ p q : Prop, Hid ((p → n = 1) ∧ (¬ p → n ≠ 1) ∧ (q → n = 1 + d.ins) ∧ (¬ q → n ≠ 1 + d.ins)) ∧ (((n = 1) = True ∧ (n = 1 + d.ins) = True ∧ p ∧ q) ∨ ((n = 1) = False ∧ (n = 1 + d.ins) = True ∧ ¬ p ∧ q) ∨ ((n = 1) = False ∧ (n = 1 + d.ins) = False ∧ ¬ p ∧ ¬ q)) := by
    refine ⟨n = 1, n = 1 + d.ins, Lib.hid ⟨id, id, id, id⟩, ?_⟩
    rcases hcase with ⟨h, h'⟩ | ⟨h, h'⟩ | ⟨h, h'⟩
    · exact .inl ⟨eq_true h, eq_true h', h, h'⟩
    · exact .inr (.inl ⟨eq_false h, eq_true h', h, h'⟩)
    · exact .inr (.inr ⟨eq_false h, eq_false h', h, h'⟩)
  clear hcase
  obtain ⟨pp, qq, HQ, ⟨hq, hq', hp1, hp2⟩ | ⟨hq, hq', hp1, hp2⟩ | ⟨hq, hq', hp1, hp2⟩⟩ := hcase2
  all_goals have HP := Lib.hid (And.intro hp1 hp2)
  all_goals clear hp1 hp2
  all_goals go_wp2_with (first
    | (refine wpList_copy_splice rfl (.tmp 19) (.tmp 20) 78 78 rfl 4 Try.underlying78 SZ _ _ _ _ _ _ rfl rfl w1.heap.size 1 (bools (List.replicate m false)) 4 hZ.out (bools inp) ?_ ?_ ?_ (bools_one _) w.heap.size w B1.out hz1 ?_
       · have hb3 := HB3.out; have hmn := Hm.out; obtain ⟨q1, q2, q3, q4⟩ := HQ.out; obtain ⟨r1, r2⟩ := HP.out; simp only [r1, r2, not_true_eq_false, not_false_eq_true, true_implies, false_implies] at q1 q2 q3 q4; rw [bools_length, H1.out]; show d.ins = min _ _; omega
       · intro hp
         have hb3 := HB3.out
         have hmn := Hm.out
         obtain ⟨q1, q2, q3, q4⟩ := HQ.out
         obtain ⟨r1, r2⟩ := HP.out
         simp only [r1, r2, not_true_eq_false, not_false_eq_true, true_implies, false_implies] at q1 q2 q3 q4
         rw [bools_length, H1.out] at hp
         first
           | (exfalso; omega)
           | (refine ⟨by first | rfl | exact if_neg q2, ?_⟩
              obtain ⟨b, o, c', hv, _, _, _, hcell⟩ := Row.open (Row.below Hi.out B1.out) (by rw [H1.out]; exact hp)
              injection hv with hv1 hv2 hv3
              refine ⟨⟨b, o, none⟩, hv1, fun j u hu => ?_⟩
              rw [Go.WideShapes.add_plain]
              exact hcell j u hu)
       · rw [bools_length, bools_length, H1.out, List.length_replicate, Hnd.out]; omega
       intro w5 HG5 hB5; have HB5 := Lib.hid hB5; have c5 := (hB5.cell (p := ⟨g, 0, none⟩) hg).trans C0.out; clear hB5 c0)
    | (refine wpList_copy_splice rfl (.tmp 28) (.tmp 29) 78 78 rfl 4 Try.underlying78 SZ _ _ _ _ _ _ rfl rfl w1.heap.size (1 + d.ins) (splice (bools (List.replicate m false)) 1 (bools inp)) 4 HG5.out (bools st) ?_ ?_ ?_ (bools_one _) w.heap.size w HB5.out hz1 ?_
       · have hb3 := HB3.out; have hmn := Hm.out; obtain ⟨q1, q2, q3, q4⟩ := HQ.out; obtain ⟨r1, r2⟩ := HP.out; simp only [r1, r2, not_true_eq_false, not_false_eq_true, true_implies, false_implies] at q1 q2 q3 q4; rw [bools_length, H2.out]; show d.next.length = min _ _; omega
       · intro hp
         have hb3 := HB3.out
         have hmn := Hm.out
         obtain ⟨q1, q2, q3, q4⟩ := HQ.out
         obtain ⟨r1, r2⟩ := HP.out
         simp only [r1, r2, not_true_eq_false, not_false_eq_true, true_implies, false_implies] at q1 q2 q3 q4
         rw [bools_length, H2.out] at hp
         first
           | (exfalso; omega)
           | (refine ⟨by first | rfl | exact if_neg q4, ?_⟩
              obtain ⟨b, o, c', hv, _, _, _, hcell⟩ := Row.open (Row.below Hs.out HB5.out) (by rw [H2.out]; exact hp)
              injection hv with hv1 hv2 hv3
              refine ⟨⟨b, o, none⟩, hv1, fun j u hu => ?_⟩
              rw [Go.WideShapes.add_plain]
              exact hcell j u hu)
       · rw [length_splice _ _ _ (by rw [bools_length, bools_length, H1.out, List.length_replicate, Hnd.out]; omega), bools_length, bools_length, H2.out, List.length_replicate, Hnd.out]; omega
       intro w6 HG6 hB6; have HB6 := Lib.hid hB6; have c6 := (hB6.cell (p := ⟨g, 2, none⟩) hg).trans C2.out; clear hB6 c5 HB5 HG5))
  all_goals
    have hmm := Hm.out
    subst hmm
    have hm22 := b2
    have hnf : Cir.nfirst d ≤ 8 := by unfold Cir.nfirst; omega
    have Hnf : Hid (m = Cir.nfirst d + d.gates.length) := Lib.hid (by rw [Hnd.out]; unfold Cir.nfirst; omega)
    have HE : Hid (∀ k, k ≤ d.gates.length → (Cir.evalG (d.gates.take k) (false :: (inp ++ st))).length = Cir.nfirst d + k) := Lib.hid fun k hk => by
      rw [Cir.evalG_length]
      simp [Cir.nfirst, H1.out, H2.out]
      omega
    have Ho0 : Hid (w6.ownsRow w.heap.size 4 1 (.slice (some ⟨w1.heap.size, 0, none⟩) m m) m (bools (Cir.evalG (d.gates.take 0) (false :: (inp ++ st)) ++ List.replicate (d.gates.length - 0) false))) := Lib.hid (by
      have e0 : Cir.evalG (d.gates.take 0) (false :: (inp ++ st)) = false :: (inp ++ st) := rfl
      have hb3 := HB3.out
      have hnd := Hnd.out
      have h1 := H1.out
      have h2 := H2.out
      have e1 : bools (List.replicate m false) = List.replicate m (Value.bool false) := by simp [bools]
      have e2 : splice (splice (bools (List.replicate m false)) 1 (bools inp)) (1 + d.ins) (bools st) = bools (false :: (inp ++ st) ++ List.replicate (d.gates.length - 0) false) := by
        rw [e1, splice_two (bools inp) (bools st) (.bool false) m (1 + d.ins) (by rw [bools_length, h1]) (by rw [bools_length, bools_length, h1, h2]; omega), bools_length, bools_length, h1, h2, show m - (1 + d.ins + d.next.length) = d.gates.length - 0 by omega]
        simp [bools]
      rw [e0, ← e2]
      refine own_of_block hz1 HG6.out ?_ (by unfold maxLen; omega)
      rw [e2, bools_length]
      simp [h1, h2]
      omega)
    have HV : Hid (Cir.evalG (d.gates.take d.gates.length) (false :: (inp ++ st)) = Cir.vals d st inp) := Lib.hid (by rw [List.take_length]; rfl)
    have HPf : Hid (∀ w', Below w.heap.size w w' → Calls Try.prog 128 #[.pointer (some ⟨g, 0, none⟩)] w' fun e w'' => e = .returned (.int .i64 (Cir.nfirst d : Nat)) ∧ Below w'.heap.size w' w'') := Lib.hid fun w' hb => by
      have := firstGate_any g _ w' (Hp.out.below hb) (by show (0 : Int) ≤ (d.ins : Int); omega) (by show (d.ins : Int) ≤ 100; omega) (by show (List.map _ _).length ≤ 100; rw [List.length_map]; omega)
      rwa [Cir.first_toCz] at this
    generalize Cir.vals d st inp = res at *
    generalize Cir.nfirst d = nf at *
    generalize hI0 : (false :: (inp ++ st)) = I0 at *
    clear hq hq' HQ HP c6 C0 C2 hww HB3 Hnd Hm hZ HG6 H1 H2 B1 Hs Hi Hp
    go_loopw [42] (fun i wr => ∃ k : Nat, k ≤ d.gates.length ∧ i = .int .i64 k ∧ Hid (wr.ownsRow w.heap.size 4 1 (.slice (some ⟨w1.heap.size, 0, none⟩) m m) m (bools (Cir.evalG (d.gates.take k) I0 ++ List.replicate (d.gates.length - k) false))) ∧ Below w.heap.size w wr) (fun i _ => d.gates.length - (intOf i).toNat)
    case atStart => exact ⟨0, Nat.zero_le _, rfl, Ho0, HB6.out⟩
    case round =>
      obtain ⟨k, hk, rfl, Ho, hb⟩ := hrel
      clear Ho0 HB6
      by_cases hlt : k < d.gates.length
      · obtain ⟨b, o, x, rfl, hbl, hx, hs1, hs2⟩ := cubes_open R2.out hb Hgl.out.symm (i := k) (by rw [Hgl.out]; exact hlt)
        obtain ⟨gt, hgt⟩ := at_some hlt
        have hxe : x = ((gt.1 : Int), (gt.2 : Int)) := by
          have h1 := hx.out
          unfold Cir.toCz at h1
          simp only [List.getElem?_map, hgt] at h1
          exact (Option.some.inj h1).symm
        subst hxe
        obtain ⟨g1, g2⟩ := HGt.out k gt hgt
        have hEk := HE.out k (by omega)
        have HS := Lib.hid (Cir.evalG_take_snoc hgt I0)
        have hgv : Cir.gval (Cir.evalG (d.gates.take k) I0) gt = (Cir.lit (Cir.evalG (d.gates.take k) I0) gt.1 && Cir.lit (Cir.evalG (d.gates.take k) I0) gt.2) := rfl
        rw [hgv] at HS
        clear hgv hx hgt
        obtain ⟨E2, hE2⟩ : ∃ E2, Cir.evalG (d.gates.take (k + 1)) I0 = E2 := ⟨_, rfl⟩
        rw [hE2] at HS
        have HE2 := Lib.hid hE2
        clear hE2
        generalize Cir.evalG (d.gates.take k) I0 = E at *
        have Hb := Lib.hid hb
        have hz := hb.size
        have hlen : (E ++ List.replicate (d.gates.length - k) false).length = m := by
          have := Hnf.out
          simp [hEk]
          omega
        have HL := Lib.hid hlen
        have hmnf := Hnf.out
        have hkm : nf + k < m := by omega
        have HSet : ∀ u : Bool, Hid ((bools (E ++ List.replicate (d.gates.length - k) false)).set (nf + k) (.bool u) = bools (E ++ [u] ++ List.replicate (d.gates.length - (k + 1)) false)) := fun u => Lib.hid (by
          unfold bools
          rw [← List.map_set, set_mid_at _ _ _ _ _ hEk.symm (by omega), show d.gates.length - k - 1 = d.gates.length - (k + 1) from by omega])
        have HA1 := Lib.hid (lit_append (B := List.replicate (d.gates.length - k) false) (show gt.1 / 2 < E.length by omega))
        have HA2 := Lib.hid (lit_append (B := List.replicate (d.gates.length - k) false) (show gt.2 / 2 < E.length by omega))
        obtain ⟨G1, hG1⟩ : ∃ G1, G1 = gt.1 := ⟨_, rfl⟩
        obtain ⟨G2, hG2⟩ : ∃ G2, G2 = gt.2 := ⟨_, rfl⟩
        rw [← hG1] at g1 HS hs1 HA1
        rw [← hG2] at g2 HS hs2 HA2
        have hwk : IntKind.i64.wrap ((nf : Int) + (k : Int)) = (nf : Int) + (k : Int) := IntWalk.i64_in _ (by omega)
        have hn1 : ((nf : Int) + (k : Int) != -1) = true := by simp; omega
        have hix : ((nf : Int) + (k : Int)).toNat = nf + k := by omega
        clear hb hG1 hG2 hEk hlen hmnf
        go_wp2_with fail
        refine (HPf.out _ (Hb.out.alloc hz _)).mono ?_
        rintro e w9 ⟨rfl, hb9⟩
        have Hb9 := Lib.hid ((Hb.out.alloc hz _).trans (hb9.mono (by simp; omega)))
        have Ho9 := Lib.hid (own_below (Ho.out.alloc _) hb9)
        have q0 := (hb9.cell (p := ⟨wr.heap.size, 0, none⟩) (by simp)).trans (World.cell?_alloc_new _ _ _ 0)
        have q1 := (hb9.cell (p := ⟨wr.heap.size, 1, none⟩) (by simp)).trans (World.cell?_alloc_new _ _ _ 1)
        simp at q0 q1
        obtain ⟨u0, _, hd0, hf0⟩ := own_slot Ho9.out (j := nf + k) (by omega)
        have Hst := fun u => Lib.hid (Ho9.out.stored (nf + k) (.bool u))
        have HBA : Hid (BoolsAt w9 (.slice (some ⟨w1.heap.size, 0, none⟩) m m) (E ++ List.replicate (d.gates.length - k) false)) := Lib.hid (ownBools_at (b := w.heap.size) (by rw [HL.out]; exact Ho9.out))
        clear hb9
        go_wp2_with fail
        refine (litValue_any _ _ G1 _ HBA.out (by rw [HL.out]; omega) (by omega)).mono ?_
        rintro e w' ⟨rfl, rfl⟩
        rw [HA1.out]
        cases hv1 : Cir.lit E G1
        · have HEe : Hid (bools (E2 ++ List.replicate (d.gates.length - (k + 1)) false) = bools (E ++ [false] ++ List.replicate (d.gates.length - (k + 1)) false)) := Lib.hid (by rw [HS.out, hv1]; rfl)
          clear hv1 HS
          go_wp2_with fail
          go_roundw
          case rel => exact ⟨k + 1, by omega, by go_num, Lib.hid (by rw [HE2.out, HEe.out, ← (HSet false).out]; exact (Hst false).out.1), Hb9.out.grown (Hst false).out.2 Hb9.out.size (fun q hq => by have := Option.some.inj hq; omega)⟩
          case measure => simp [intOf] <;> omega
        · have HEe : Hid (bools (E2 ++ List.replicate (d.gates.length - (k + 1)) false) = bools (E ++ [Cir.lit E G2] ++ List.replicate (d.gates.length - (k + 1)) false)) := Lib.hid (by rw [HS.out, hv1, Bool.true_and])
          clear hv1 HS
          go_wp2_with fail
          refine (litValue_any _ _ G2 _ HBA.out (by rw [HL.out]; omega) (by omega)).mono ?_
          rintro e w' ⟨rfl, rfl⟩
          rw [HA2.out]
          generalize Cir.lit E G2 = u at *
          go_wp2_with fail
          go_roundw
          case rel => exact ⟨k + 1, by omega, by go_num, Lib.hid (by rw [HE2.out, HEe.out, ← (HSet u).out]; exact (Hst u).out.1), Hb9.out.grown (Hst u).out.2 Hb9.out.size (fun q hq => by have := Option.some.inj hq; omega)⟩
          case measure => simp [intOf] <;> omega
      · obtain rfl : k = d.gates.length := by omega
        have HR : Hid (res.length = m ∧ bools (Cir.evalG (d.gates.take d.gates.length) I0 ++ List.replicate (d.gates.length - d.gates.length) false) = bools res) := Lib.hid ⟨by rw [← HV.out, HE.out _ (Nat.le_refl _), Hnf.out], by rw [HV.out, Nat.sub_self]; simp⟩
        go_wp2_with fail
        go_ret
        exact ⟨_, rfl, by rw [HR.out.1, ← HR.out.2]; exact Ho.out, hb⟩
end Go.Proofs.Ytmlcbikljlhhkaa

namespace Go.Proofs.Ytmlcbikljlhhkaa
open Go.RowKit
set_option maxRecDepth 100000
namespace Cir
/-- The values of a literal, an assignment each. -/
def litAt (d : Ci) (l x : Nat) : Bool := lit (vals d (bits (x / 2 ^ d.ins) d.next.length) (bits x d.ins)) l
def litTab (d : Ci) (l n : Nat) : List Bool := (List.range n).map (litAt d l)
theorem litTab_snoc (d : Ci) (l n : Nat) : litTab d l (n + 1) = litTab d l n ++ [litAt d l n] := by
  unfold litTab
  rw [List.range_succ, List.map_append]
  rfl
theorem litTab_length (d : Ci) (l n : Nat) : (litTab d l n).length = n := by simp [litTab]
theorem litTab_get (d : Ci) (l : Nat) {n k : Nat} (h : k < n) : (litTab d l n)[k]? = some (litAt d l k) := by simp [litTab, h]
theorem litAt_flat {d : Ci} (h : d.next = []) (l x : Nat) : litAt d l x = lit (vals d [] (bits x d.ins)) l := by
  unfold litAt
  rw [h]
  rfl
/-- What TableOf answers. -/
def tabI (c : Cz) (l : Int) : Int := if valid c = true ∧ c.next = [] ∧ isLit l (vars c) = true then (tab (nat c) l.toNat (2 ^ (nat c).ins) : Nat) else -1
end Cir
set_option maxHeartbeats 4000000 in
theorem litTable_any (g : Nat) (d : Ci) (l : Nat) (w : World) (h : PCirc w g (Cir.toCz d)) (hd : Cir.Ok d) (hl : l < 2 * Cir.nvars d) :
    Calls Try.prog 69 #[.pointer (some ⟨g, 0, none⟩), .int .i64 l] w (OwnBools (Cir.litTab d l (2 ^ (d.ins + d.next.length))) w) := by
  have s1 := hd.ins
  have s2 := hd.nexts
  have s3 := hd.gatess
  have hnl : (Cir.toCz d).next.length = d.next.length := List.length_map _
  have hnv : Cir.nvars d ≤ 22 := by unfold Cir.nvars Cir.nfirst; omega
  obtain ⟨M, hM⟩ : ∃ M : Nat, M = 2 ^ (d.ins + d.next.length) := ⟨_, rfl⟩
  have hM128 : M ≤ 128 := by rw [hM]; exact Nat.pow_le_pow_right (show 0 < 2 by decide) (show _ ≤ 7 by omega)
  have HA : Hid (∀ w', Below w.heap.size w w' → Calls Try.prog 89 #[.pointer (some ⟨g, 0, none⟩)] w' fun e w'' => e = .returned (.int .i64 (M : Nat)) ∧ Below w'.heap.size w' w'') := Lib.hid fun w' hb => by
    rw [hM]
    exact assignments_any g _ (d.ins + d.next.length) w' (h.below hb) (by rw [hnl]; show (d.ins : Int) + _ = _; omega) (by omega)
  have HI : Hid (∀ (x : Nat) w', x ≤ 1000000 → Below w.heap.size w w' → Calls Try.prog 90 #[.pointer (some ⟨g, 0, none⟩), .int .i64 x] w' (OwnBools (Cir.bits x d.ins) w')) := Lib.hid fun x w' hx hb => inputBits_any g _ d.ins x w' (h.below hb) rfl (by omega) hx
  have HL : Hid (∀ (x : Nat) w', x ≤ 1000000 → Below w.heap.size w w' → Calls Try.prog 91 #[.pointer (some ⟨g, 0, none⟩), .int .i64 x] w' (OwnBools (Cir.bits (x / 2 ^ d.ins) d.next.length) w')) := Lib.hid fun x w' hx hb => latchBits_any g _ d.ins d.next.length x w' (h.below hb) rfl hnl (by omega) (by omega) hx
  have HP := Lib.hid h
  have HD := Lib.hid hd
  rw [← hM]
  clear hM h hd hnl
  go_enter Try.func69, Try.ntmps69
  go_wp2_with fail
  refine (HA.out _ (Below.refl _ _)).mono ?_
  rintro e w1 ⟨rfl, hb1⟩
  have B1 := Lib.hid hb1
  clear hb1 HA
  go_wp2_with fail
  go_loopw [5, 9] (fun v i wr => ∃ (vv : Value) (k : Nat), vv = v ∧ k ≤ M ∧ i = .int .i64 k ∧ Hid (wr.ownsRow w.heap.size 4 1 v k (bools (Cir.litTab d l k))) ∧ Below w.heap.size w wr) (fun _ i _ => M - (intOf i).toNat)
  case atStart => exact ⟨_, 0, rfl, Nat.zero_le _, rfl, Lib.hid (World.ownsRow_nil _ _ _ _), B1.out⟩
  case round =>
    obtain ⟨vv, k, hvv, hk, rfl, Ho, hb⟩ := hrel
    subst hvv
    by_cases hlt : k < M
    · have hz := hb.size
      have Hb := Lib.hid hb
      have HS : Hid (bools (Cir.litTab d l (k + 1)) = bools (Cir.litTab d l k) ++ [.bool (Cir.litAt d l k)]) := Lib.hid (by rw [Cir.litTab_snoc, bools_append]; rfl)
      have HX : Hid (Cir.lit (Cir.vals d (Cir.bits (k / 2 ^ d.ins) d.next.length) (Cir.bits k d.ins)) l = Cir.litAt d l k) := Lib.hid rfl
      have hk1 : k ≤ 1000000 := by omega
      clear hb
      go_wp2_with fail
      refine (HL.out k _ hk1 Hb.out).mono ?_
      rintro e w2 ⟨v2, rfl, hown2, hb2⟩
      have Ho2 := Lib.hid hown2
      have Hb2 := Lib.hid (Hb.out.trans (hb2.mono hz))
      have HoA := Lib.hid (own_below Ho.out hb2)
      have hz2 := Nat.le_trans hz hb2.size
      clear hown2 hb2
      go_wp2_with fail
      refine (HI.out k _ hk1 Hb2.out).mono ?_
      rintro e w3 ⟨v3, rfl, hown3, hb3⟩
      have Ho3 := Lib.hid hown3
      have Ho23 := Lib.hid (own_below Ho2.out hb3)
      have Hb3 := Lib.hid (Hb2.out.trans (hb3.mono hz2))
      have HoB := Lib.hid (own_below HoA.out hb3)
      have hz3 := Nat.le_trans hz2 hb3.size
      clear hown3 hb3
      go_wp2_with fail
      refine (evaluate_any g d v2 v3 _ _ _ (HP.out.below Hb3.out) HD.out (ownBools_at Ho23.out) (ownBools_at Ho3.out) (Cir.bits_length _ _) (Cir.bits_length _ _)).mono ?_
      rintro e w4 ⟨v4, rfl, hown4, hb4⟩
      have Ho4 := Lib.hid hown4
      have Hb4 := Lib.hid (Hb3.out.trans (hb4.mono hz3))
      have HoC := Lib.hid (own_below HoB.out hb4)
      have hz4 := Nat.le_trans hz3 hb4.size
      clear hown4 hb4
      go_wp2_with fail
      refine (litValue_any v4 _ l _ (ownBools_at Ho4.out) (by rw [Cir.vals_length d (Cir.bits_length _ _) (Cir.bits_length _ _)]; exact hl) (by omega)).mono ?_
      rintro e w' ⟨rfl, rfl⟩
      rw [HX.out]
      generalize Cir.litAt d l k = u at *
      have Hlit := Lib.hid (Row.of_own (World.ownsRow_lit (base := w4.heap.size) (e := 4) (size := 1) w4 #[.bool u] 1 (Nat.le_refl _) (by unfold maxLen; omega) rfl))
      go_wp2_with (at_builtin; refine append_bools rfl (.tmp 12) (.tmp 23) rfl w.heap.size _ k _ rfl (HoC.out.alloc _) _ 1 [.bool u] rfl Hlit.out (by simp [Value.oneCell']) (by omega) (by simp; omega) ?_; intro v7 w7 hown7 hg7 hat7; have Ho7 := Lib.hid hown7; have Hg7 := Lib.hid hg7; clear hown7 hg7 hat7)
      go_roundw
      case rel => exact ⟨_, k + 1, rfl, by omega, by go_num, Lib.hid (by rw [HS.out]; exact Ho7.out), (Hb4.out.alloc hz4 _).grown Hg7.out (Hb4.out.alloc hz4 _).size (own_ge0 HoC.out)⟩
      case measure => simp [intOf] <;> omega
    · obtain rfl : k = M := by omega
      go_wp2_with fail
      go_ret
      exact ⟨_, rfl, by rw [Cir.litTab_length]; exact Ho.out, hb⟩
theorem valid_sizes {c : Cz} (h : Cir.valid c = true) : 0 ≤ c.ins ∧ c.ins ≤ 4 ∧ c.next.length ≤ 3 ∧ c.gates.length ≤ 14 ∧ c.outs.length ≤ 3 := by
  unfold Cir.valid at h
  rw [Bool.and_eq_true, Bool.and_eq_true] at h
  have := h.1.1
  unfold Cir.sizes at this
  simpa using this
set_option maxHeartbeats 4000000 in
theorem implTable_no (v : Value) (c : Cz) (l : Int) (w : World) (h : CircAt w v c) (hno : Cir.valid c = false ∨ (Cir.valid c = true ∧ 0 < c.next.length) ∨ (Cir.valid c = true ∧ c.next.length = 0 ∧ Cir.isLit l (Cir.vars c) = false)) :
    Calls Try.prog 18 #[v, .int .i64 l] w fun e w' => e = .returned (.int .i64 (-1)) ∧ Below w.heap.size w w' := by
  obtain ⟨vn, vg, vo, rfl, r1, r2, r3⟩ := h
  obtain ⟨An, cn, hvn, hcn, hcmn⟩ := r1.shape
  subst hvn
  have hb0 : Below w.heap.size w (w.alloc (.cells #[.int .i64 c.ins, .slice An c.next.length cn, vg, vo] 30)) := (Below.refl _ _).alloc (Nat.le_refl _) _
  obtain ⟨z, p0, p1, p2, p3⟩ := PCells.boxed w c.ins (.slice An c.next.length cn) vg vo 30
  have hPC := PCirc.boxed (w := w) (c := c) 30 r1 r2 r3
  have HC : ∀ n : GW (w.alloc (.cells #[.int .i64 c.ins, .slice An c.next.length cn, vg, vo] 30)), CircAt (gw n) (.agg #[.int .i64 c.ins, .slice An c.next.length cn, vg, vo]) c := fun n =>
    ⟨_, _, _, rfl, Row.below r1 (hb0.trans ((gw_below n).mono hb0.size)), Row.below r2 (hb0.trans ((gw_below n).mono hb0.size)), Row.below r3 (hb0.trans ((gw_below n).mono hb0.size))⟩
  generalize hW : w.alloc (.cells #[.int .i64 c.ins, .slice An c.next.length cn, vg, vo] 30) = W at *
  have g0 := gw_cell p0 z
  have g1 := gw_cell p1 z
  have g2 := gw_cell p2 z
  have g3 := gw_cell p3 z
  have HV : Hid (∀ n : GW W, Calls Try.prog 66 #[.agg #[.int .i64 c.ins, .slice An c.next.length cn, vg, vo]] (gw n) fun e w' => e = .returned (.bool (Cir.valid c)) ∧ Below (gw n).heap.size (gw n) w') := Lib.hid fun n => implValid_any _ c _ (HC n)
  have B0 := Lib.hid hb0
  clear r1 r2 r3 hb0
  rcases hno with hv | ⟨hv, hl⟩ | ⟨hv, hl, hi⟩
  · rw [hv] at HV
    clear hv HC hPC
    go_enter Try.func18, Try.ntmps18
    go_wp2_with fail
    refine (HV.out ⟨W, Below.refl _ _⟩).mono ?_
    rintro e w1 ⟨rfl, hb1⟩
    have g1' := (hb1.cell (p := ⟨w.heap.size, 1, none⟩) z).trans p1
    have Hb1 : Hid (Below W.heap.size W w1) := Lib.hid hb1
    clear g0 g1 g2 g3 hb1 p0 p1 p2 p3
    go_wp2_with fail
    go_ret
    exact ⟨rfl, B0.out.trans (Hb1.out.mono B0.out.size)⟩
  · rw [hv] at HV
    have hd : decide (0 < c.next.length) = true := decide_eq_true hl
    clear hv HC hl hPC
    go_enter Try.func18, Try.ntmps18
    go_wp2_with fail
    refine (HV.out ⟨W, Below.refl _ _⟩).mono ?_
    rintro e w1 ⟨rfl, hb1⟩
    have g1' := (hb1.cell (p := ⟨w.heap.size, 1, none⟩) z).trans p1
    have Hb1 : Hid (Below W.heap.size W w1) := Lib.hid hb1
    clear g0 g1 g2 g3 hb1 p0 p1 p2 p3
    go_wp2_with fail
    go_ret
    exact ⟨rfl, B0.out.trans (Hb1.out.mono B0.out.size)⟩
  · rw [hv] at HV
    obtain ⟨s1, s2, s3, s4, s5⟩ := valid_sizes hv
    have HF : Hid (∀ n : GW W, Calls Try.prog 68 #[.pointer (some ⟨w.heap.size, 0, none⟩)] (gw n) fun e w' => e = .returned (.int .i64 (Cir.vars c)) ∧ Below (gw n).heap.size (gw n) w') := Lib.hid fun n => vars_any _ c _ (hPC.below (gw_below n)) s1 (by omega) (by omega) (by omega)
    have hvb : -1000000 ≤ Cir.vars c ∧ Cir.vars c ≤ 1000000 := by unfold Cir.vars Cir.first; omega
    have HI : Hid (∀ n : GW W, Calls Try.prog 67 #[.int .i64 l, .int .i64 (Cir.vars c)] (gw n) fun e w' => e = .returned (.bool false) ∧ gw n = w') := Lib.hid fun n => by
      have h1 := isLit_any l (Cir.vars c) (gw n) hvb.1 hvb.2
      rwa [hi] at h1
    have hd : decide (0 < c.next.length) = false := decide_eq_false (by omega)
    have hd4 : decide (4 < c.ins) = false := decide_eq_false (by omega)
    clear hv HC hi hl hPC
    generalize Cir.vars c = V at *
    go_enter Try.func18, Try.ntmps18
    go_wp2_with fail
    refine (HV.out ⟨W, Below.refl _ _⟩).mono ?_
    rintro e w1 ⟨rfl, hb1⟩
    have g1' := (hb1.cell (p := ⟨w.heap.size, 1, none⟩) z).trans p1
    have g0' := (hb1.cell (p := ⟨w.heap.size, 0, none⟩) z).trans p0
    have Hb1 : Hid (Below W.heap.size W w1) := Lib.hid hb1
    clear g0 g1 g2 g3 hb1 p0 p1 p2 p3
    go_wp2_with fail
    refine (HF.out ⟨w1, Hb1.out⟩).mono ?_
    rintro e w2 ⟨rfl, hb2⟩
    have Hb2 := Lib.hid (Hb1.out.trans (hb2.mono Hb1.out.size))
    clear hb2 g0' g1'
    go_wp2_with fail
    refine (HI.out ⟨w2, Hb2.out⟩).mono ?_
    rintro e w' ⟨rfl, rfl⟩
    simp only [gw]
    go_wp2_with fail
    go_ret
    exact ⟨rfl, B0.out.trans (Hb2.out.mono B0.out.size)⟩
set_option maxHeartbeats 4000000 in
theorem implTable_ok (v : Value) (d : Ci) (l : Nat) (w : World) (h : CircAt w v (Cir.toCz d)) (hd : Cir.Ok d) (hv : Cir.valid (Cir.toCz d) = true) (hn : d.next = []) (hl : l < 2 * Cir.nvars d) :
    Calls Try.prog 18 #[v, .int .i64 l] w fun e w' => e = .returned (.int .i64 (Cir.tab d l (2 ^ d.ins) : Nat)) ∧ Below w.heap.size w w' := by
  have s1 := hd.ins
  have s3 := hd.gatess
  have hnl : (Cir.toCz d).next.length = 0 := by simp [Cir.toCz, hn]
  have hgl : (Cir.toCz d).gates.length = d.gates.length := List.length_map _
  have hnv : Cir.nvars d ≤ 19 := by unfold Cir.nvars Cir.nfirst; rw [hn]; simp; omega
  have HCa := Lib.hid h
  have hins : (Cir.toCz d).ins = (d.ins : Int) := rfl
  obtain ⟨vn, vg, vo, rfl, r1, r2, r3⟩ := h
  obtain ⟨An, cn, hvn, hcn, hcmn⟩ := r1.shape
  rw [hnl] at hvn
  subst hvn
  have hPC : PCirc (w.alloc (.cells #[.int .i64 d.ins, .slice An 0 cn, vg, vo] 30)) w.heap.size (Cir.toCz d) := PCirc.boxed (w := w) (c := Cir.toCz d) 30 r1 r2 r3
  rw [hins] at HCa ⊢
  have hb0 : Below w.heap.size w (w.alloc (.cells #[.int .i64 d.ins, .slice An 0 cn, vg, vo] 30)) := (Below.refl _ _).alloc (Nat.le_refl _) _
  obtain ⟨z, p0, p1, p2, p3⟩ := PCells.boxed w d.ins (.slice An 0 cn) vg vo 30
  have HCW : Hid (CircAt (w.alloc (.cells #[.int .i64 d.ins, .slice An 0 cn, vg, vo] 30)) (.agg #[.int .i64 d.ins, .slice An 0 cn, vg, vo]) (Cir.toCz d)) := Lib.hid (HCa.out.below hb0)
  generalize hW : w.alloc (.cells #[.int .i64 d.ins, .slice An 0 cn, vg, vo] 30) = W at *
  have g0 := gw_cell p0 z
  have g1 := gw_cell p1 z
  have g2 := gw_cell p2 z
  have g3 := gw_cell p3 z
  have HV : Hid (∀ n : GW W, Calls Try.prog 66 #[.agg #[.int .i64 d.ins, .slice An 0 cn, vg, vo]] (gw n) fun e w' => e = .returned (.bool true) ∧ Below (gw n).heap.size (gw n) w') := Lib.hid fun n => by
    have := implValid_any _ _ _ (HCW.out.below (gw_below n))
    rwa [hv] at this
  have HF : Hid (∀ n : GW W, Calls Try.prog 68 #[.pointer (some ⟨w.heap.size, 0, none⟩)] (gw n) fun e w' => e = .returned (.int .i64 (Cir.nvars d : Nat)) ∧ Below (gw n).heap.size (gw n) w') := Lib.hid fun n => by
    have := vars_any _ _ _ (hPC.below (gw_below n)) (by show (0 : Int) ≤ (d.ins : Int); omega) (by show (d.ins : Int) ≤ 100; omega) (by omega) (by omega)
    rwa [Cir.vars_toCz] at this
  have HI : Hid (∀ n : GW W, Calls Try.prog 67 #[.int .i64 l, .int .i64 (Cir.nvars d : Nat)] (gw n) fun e w' => e = .returned (.bool true) ∧ gw n = w') := Lib.hid fun n => by
    have h1 := isLit_any l (Cir.nvars d : Nat) (gw n) (by omega) (by omega)
    rwa [show Cir.isLit (l : Int) ((Cir.nvars d : Nat) : Int) = true from decide_eq_true (by omega)] at h1
  have hd0 : decide (0 < 0) = false := rfl
  have hd4 : decide (4 < (d.ins : Int)) = false := decide_eq_false (by omega)
  have B0 := Lib.hid hb0
  have HD := Lib.hid hd
  have HP := Lib.hid hPC
  have HN := Lib.hid hn
  have Hl := Lib.hid hl
  obtain ⟨M, hM⟩ : ∃ M : Nat, M = 2 ^ d.ins := ⟨_, rfl⟩
  have hM16 : M ≤ 16 := by rw [hM]; exact Nat.pow_le_pow_right (show 0 < 2 by decide) s1
  have HM : Hid (2 ^ (d.ins + d.next.length) = M) := Lib.hid (by rw [hM, hn]; rfl)
  rw [← hM]
  clear r1 r2 r3 hb0 hd hv hn hnl hgl hM HCa hPC hl HCW
  obtain ⟨V, hV⟩ : ∃ V, Cir.nvars d = V := ⟨_, rfl⟩
  rw [hV] at HF HI hnv
  clear hV
  go_enter Try.func18, Try.ntmps18
  go_wp2_with fail
  refine (HV.out ⟨W, Below.refl _ _⟩).mono ?_
  rintro e w1 ⟨rfl, hb1⟩
  have g1' := (hb1.cell (p := ⟨w.heap.size, 1, none⟩) z).trans p1
  have g0' := (hb1.cell (p := ⟨w.heap.size, 0, none⟩) z).trans p0
  have Hb1 : Hid (Below W.heap.size W w1) := Lib.hid hb1
  clear g0 g1 g2 g3 hb1 p0 p1 p2 p3
  go_wp2_with fail
  refine (HF.out ⟨w1, Hb1.out⟩).mono ?_
  rintro e w2 ⟨rfl, hb2⟩
  have Hb2 := Lib.hid (Hb1.out.trans (hb2.mono Hb1.out.size))
  clear hb2 g0' g1'
  go_wp2_with fail
  refine (HI.out ⟨w2, Hb2.out⟩).mono ?_
  rintro e w' ⟨rfl, rfl⟩
  have e2 : gw (⟨w2, Hb2.out⟩ : GW W) = w2 := rfl
  rw [e2]
  clear e2
  have HPq := Lib.hid (HP.out.below Hb2.out)
  have Bq := Lib.hid (B0.out.trans (Hb2.out.mono B0.out.size))
  clear HV HF HI B0 HP
  go_wp2_with fail
  refine (litTable_any _ d l _ HPq.out HD.out Hl.out).mono ?_
  rintro e w3 ⟨v3, rfl, hown3, hb3⟩
  rw [Cir.litTab_length, HM.out] at hown3
  have hr3 := Row.of_own hown3
  obtain ⟨A3, c3, hv3, hc3, hcm3⟩ := hr3.shape
  subst hv3
  have Hr3 : Hid (Row w3 1 (.slice A3 M c3) M (bools (Cir.litTab d l M))) := Lib.hid hr3
  have B3 := Lib.hid (Bq.out.trans (hb3.mono Bq.out.size))
  clear hown3 hr3 hb3 hd0 hd4 hW Hb1 Hb2
  go_wp2_with fail
  go_loop [5, 31] (fun t x => ∃ k : Nat, k ≤ M ∧ x = .int .i64 k ∧ t = .int .i64 (Cir.tab d l k : Nat)) (fun _ x => M - (intOf x).toNat)
  case atStart => exact ⟨0, Nat.zero_le _, rfl, rfl⟩
  case round =>
    obtain ⟨k, hk, rfl, rfl⟩ := hrel
    by_cases hlt : k < M
    · have ht : Cir.tab d l k < 65536 := Nat.lt_of_lt_of_le (Cir.tab_lt d l k) (by
        have : (65536 : Nat) = 2 ^ 16 := by decide
        rw [this]; exact Nat.pow_le_pow_right (show 0 < 2 by decide) (by omega))
      have Hs : Hid (Cir.tab d l (k + 1) = Cir.tab d l k + (if Cir.litAt d l k then 2 ^ k else 0)) := Lib.hid (by rw [Cir.litAt_flat HN.out]; rfl)
      have hor := i64_or_nat (Cir.tab d l k) (2 ^ k) (by omega) (by
        have : 2 ^ k ≤ 2 ^ 15 := Nat.pow_le_pow_right (show 0 < 2 by decide) (by omega)
        have : (2 : Nat) ^ 15 = 32768 := by decide
        omega)
      rw [Cir.tab_or] at hor
      have hY : 2 ^ k ≤ 32768 := by
        have : (32768 : Nat) = 2 ^ 15 := by decide
        rw [this]; exact Nat.pow_le_pow_right (show 0 < 2 by decide) (by omega)
      have hYe : (2 : Int) ^ k = ((2 ^ k : Nat) : Int) := two_pow k
      generalize hYY : 2 ^ k = Y at *
      obtain ⟨b, o, c', hv, _, _, hbl, hcell⟩ := Hr3.out.open (by omega)
      injection hv with hv1 _ hv3
      subst hv1 hv3
      have hc0 := hcell k _ (show (bools (Cir.litTab d l M))[k]? = some (.bool (Cir.litAt d l k)) by unfold bools; rw [List.getElem?_map, Cir.litTab_get d l hlt]; rfl)
      have hwY : IntKind.i64.wrap (Y : Int) = (Y : Int) := IntWalk.i64_in _ (by omega)
      obtain ⟨T2, hT2⟩ : ∃ T2, Cir.tab d l (k + 1) = T2 := ⟨_, rfl⟩
      rw [hT2] at Hs
      have HT2 := Lib.hid hT2
      clear hcell hYY hT2
      cases hb : Cir.litAt d l k
      · rw [hb] at Hs hc0
        clear hor hb
        go_wp2_with fail
        go_round
        case rel => exact ⟨k + 1, by omega, by go_num, by rw [HT2.out, Hs.out]; rfl⟩
        case measure => simp [intOf] <;> omega
      · rw [hb] at Hs hc0
        clear hb
        go_wp2_with fail
        go_round
        case rel => exact ⟨k + 1, by omega, by go_num, by rw [HT2.out, Hs.out]; go_num⟩
        case measure => simp [intOf] <;> omega
    · obtain rfl : k = M := by omega
      go_wp2_with fail
      go_ret
      exact ⟨rfl, B3.out⟩
theorem next_nil {c : Cz} (h : c.next = []) : (Cir.nat c).next = [] := by unfold Cir.nat; rw [h]; rfl
theorem table_ok {c : Cz} {l : Int} (h : Cir.valid c = true ∧ c.next = [] ∧ Cir.isLit l (Cir.vars c) = true) : ∃ (d : Ci) (m : Nat), c = Cir.toCz d ∧ l = (m : Int) ∧ Cir.Ok d ∧ d.next = [] ∧ m < 2 * Cir.nvars d ∧ Cir.tabI c l = (Cir.tab d m (2 ^ d.ins) : Nat) := by
  obtain ⟨h1, h2⟩ := Cir.nat_ok h.1
  have h3 := h.2.2
  unfold Cir.isLit at h3
  rw [decide_eq_true_eq] at h3
  have h4 : Cir.vars c = (Cir.nvars (Cir.nat c) : Nat) := by
    rw [← Cir.vars_toCz, ← h1]
  exact ⟨Cir.nat c, l.toNat, h1, by omega, h2, next_nil h.2.1, by omega, by unfold Cir.tabI; rw [if_pos h]⟩
theorem table_no {c : Cz} {l : Int} (h : ¬ (Cir.valid c = true ∧ c.next = [] ∧ Cir.isLit l (Cir.vars c) = true)) : (Cir.valid c = false ∨ (Cir.valid c = true ∧ 0 < c.next.length) ∨ (Cir.valid c = true ∧ c.next.length = 0 ∧ Cir.isLit l (Cir.vars c) = false)) ∧ Cir.tabI c l = -1 := by
  refine ⟨?_, by unfold Cir.tabI; rw [if_neg h]⟩
  cases hv : Cir.valid c
  · exact .inl rfl
  · by_cases hn : c.next = []
    · refine .inr (.inr ⟨rfl, by rw [hn]; rfl, ?_⟩)
      cases hl : Cir.isLit l (Cir.vars c)
      · rfl
      · exact absurd ⟨hv, hn, hl⟩ h
    · exact .inr (.inl ⟨rfl, List.length_pos_iff.2 hn⟩)
theorem specTable_any (v : Value) (c : Cz) (l : Int) (w : World) (h : CircAt w v c) :
    Calls Try.prog 16 #[v, .int .i64 l] w fun e w' => e = .returned (.int .i64 (Cir.tabI c l)) ∧ Below w.heap.size w w' := by
  by_cases hc : Cir.valid c = true ∧ c.next = [] ∧ Cir.isLit l (Cir.vars c) = true
  · obtain ⟨d, m, rfl, rfl, hd, hn, hm, he⟩ := table_ok hc
    rw [he]
    exact specTable_ok v d m w h hd hc.1 hn hm
  · obtain ⟨h1, he⟩ := table_no hc
    rw [he]
    exact specTable_no v c l w h h1
theorem implTable_any (v : Value) (c : Cz) (l : Int) (w : World) (h : CircAt w v c) :
    Calls Try.prog 18 #[v, .int .i64 l] w fun e w' => e = .returned (.int .i64 (Cir.tabI c l)) ∧ Below w.heap.size w w' := by
  by_cases hc : Cir.valid c = true ∧ c.next = [] ∧ Cir.isLit l (Cir.vars c) = true
  · obtain ⟨d, m, rfl, rfl, hd, hn, hm, he⟩ := table_ok hc
    rw [he]
    exact implTable_ok v d m w h hd hc.1 hn hm
  · obtain ⟨h1, he⟩ := table_no hc
    rw [he]
    exact implTable_no v c l w h h1
end Go.Proofs.Ytmlcbikljlhhkaa
