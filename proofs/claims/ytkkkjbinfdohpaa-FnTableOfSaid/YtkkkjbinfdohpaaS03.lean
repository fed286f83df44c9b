import Derived.Test.YtkkkjbinfdohpaaS02
import Derived.BigRegion
import Derived.Test.YtkkkjbinfdohpaaS01
import Derived.Laws.CopyOwn
set_option linter.unusedVariables false
set_option linter.unusedSimpArgs false
namespace Go.Proofs.Ytkkkjbinfdohpaa
open Go.RowKit
namespace Cir
/-- The table of a literal of a circuit without latches, from its lowest bits. -/
def tab (c : Ci) (l : Nat) : Nat → Nat
  | 0 => 0
  | k + 1 => tab c l k + (if lit (vals c [] (bits k c.ins)) l then 2 ^ k else 0)
theorem tab_lt (c : Ci) (l : Nat) : ∀ k, tab c l k < 2 ^ k
  | 0 => by simp [tab]
  | k + 1 => by
    have := tab_lt c l k
    rw [tab, Nat.pow_succ]
    split <;> omega
theorem tab_or (c : Ci) (l k : Nat) : tab c l k ||| 2 ^ k = tab c l k + 2 ^ k := by
  have h := Nat.two_pow_add_eq_or_of_lt (tab_lt c l k) 1
  rw [Nat.mul_one] at h
  rw [Nat.or_comm, ← h, Nat.add_comm]
end Cir
set_option maxRecDepth 100000
set_option maxHeartbeats 4000000
theorem specTable_no (v : Value) (c : Cz) (l : Int) (w : World) (h : CircAt w v c) (hno : Cir.valid c = false ∨ (Cir.valid c = true ∧ 0 < c.next.length) ∨ (Cir.valid c = true ∧ c.next.length = 0 ∧ Cir.isLit l (Cir.vars c) = false)) :
    Calls Try.prog 9 #[v, .int .i64 l] w fun e w' => e = .returned (.int .i64 (-1)) ∧ Below w.heap.size w w' := by
  have hsz : Cir.valid c = true → 0 ≤ c.ins ∧ c.ins ≤ 4 ∧ c.next.length ≤ 3 ∧ c.gates.length ≤ 14 ∧ c.outs.length ≤ 3 := fun h => by
    unfold Cir.valid at h
    rw [Bool.and_eq_true, Bool.and_eq_true] at h
    have := h.1.1
    unfold Cir.sizes at this
    simpa using this
  obtain ⟨vn, vg, vo, rfl, r1, r2, r3⟩ := h
  obtain ⟨An, cn, hvn, hcn, hcmn⟩ := r1.shape
  obtain ⟨Ag, cg, hvg, hcg, hcmg⟩ := Row.shape r2
  subst hvn hvg
  have hb0 : Below w.heap.size w (w.alloc (.cells #[.int .i64 c.ins, .slice An c.next.length cn, .slice Ag c.gates.length cg, vo] 26)) := (Below.refl _ _).alloc (Nat.le_refl _) _
  obtain ⟨z, p0, p1, p2, p3⟩ := PCells.boxed w c.ins (.slice An c.next.length cn) (.slice Ag c.gates.length cg) vo 26
  have HC : ∀ n : GW (w.alloc (.cells #[.int .i64 c.ins, .slice An c.next.length cn, .slice Ag c.gates.length cg, vo] 26)), CircAt (gw n) (.agg #[.int .i64 c.ins, .slice An c.next.length cn, .slice Ag c.gates.length cg, vo]) c := fun n =>
    ⟨_, _, _, rfl, Row.below r1 (hb0.trans ((gw_below n).mono hb0.size)), Row.below r2 (hb0.trans ((gw_below n).mono hb0.size)), Row.below r3 (hb0.trans ((gw_below n).mono hb0.size))⟩
  generalize hW : w.alloc (.cells #[.int .i64 c.ins, .slice An c.next.length cn, .slice Ag c.gates.length cg, vo] 26) = W at *
  have g0 := gw_cell p0 z
  have g1 := gw_cell p1 z
  have g2 := gw_cell p2 z
  have g3 := gw_cell p3 z
  have HV : Hid (∀ n : GW W, Calls Try.prog 21 #[.agg #[.int .i64 c.ins, .slice An c.next.length cn, .slice Ag c.gates.length cg, vo]] (gw n) fun e w' => e = .returned (.bool (Cir.valid c)) ∧ Below (gw n).heap.size (gw n) w') := Lib.hid fun n => specValid_any _ c _ (HC n)
  have B0 := Lib.hid hb0
  clear r1 r2 r3 p0 p1 p2 p3 hb0
  rcases hno with hv | ⟨hv, hl⟩ | ⟨hv, hl, hi⟩
  · rw [hv] at HV
    clear hv hsz HC
    go_enter Try.func9, Try.ntmps9
    go_wp2_with fail
    refine wp_region_grow (by kernel_rfl) (by kernel_rfl) ?_
    repeat (go_big_quiet_step ((first | (go_at_call 21; exact grow_call (HV.out _)))))
    refine wpQuiet_nil ?_
    intro _ hw'
    obtain ⟨nq, hw''⟩ := hw'
    subst hw''
    have hgq := gw_below nq
    generalize gw nq = wq at *
    clear nq
    go_wp2_with fail
    go_ret
    exact ⟨rfl, B0.out.trans (hgq.mono B0.out.size)⟩
  · rw [hv] at HV
    have hd : decide (0 < c.next.length) = true := decide_eq_true hl
    clear hv hsz HC hl
    go_enter Try.func9, Try.ntmps9
    go_wp2_with fail
    refine wp_region_grow (by kernel_rfl) (by kernel_rfl) ?_
    repeat (go_big_quiet_step ((first | (go_at_call 21; exact grow_call (HV.out _)))))
    refine wpQuiet_nil ?_
    intro _ hw'
    obtain ⟨nq, hw''⟩ := hw'
    subst hw''
    have hgq := gw_below nq
    generalize gw nq = wq at *
    clear nq
    go_wp2_with fail
    go_ret
    exact ⟨rfl, B0.out.trans (hgq.mono B0.out.size)⟩
  · rw [hv] at HV
    obtain ⟨s1, s2, s3, s4, s5⟩ := hsz hv
    have HF : Hid (∀ n : GW W, Calls Try.prog 43 #[.agg #[.int .i64 c.ins, .slice An c.next.length cn, .slice Ag c.gates.length cg, vo]] (gw n) fun e w' => e = .returned (.int .i64 (Cir.first c)) ∧ Below (gw n).heap.size (gw n) w') := Lib.hid fun n => l1First_any _ c _ (HC n) s1 (by omega) (by omega)
    have HI : Hid (∀ n : GW W, Calls Try.prog 42 #[.int .i64 l, .int .i64 0, .int .i64 (2 * (Cir.first c + c.gates.length) - 1)] (gw n) fun e w' => e = .returned (.bool false) ∧ gw n = w') := Lib.hid fun n => by
      have h1 := l1In_any l 0 (2 * (Cir.first c + c.gates.length) - 1) (gw n)
      rw [show decide (0 ≤ l ∧ l ≤ 2 * (Cir.first c + c.gates.length) - 1) = Cir.isLit l (Cir.vars c) from isLit_in l (Cir.vars c), hi] at h1
      exact h1
    have hf : 1 ≤ Cir.first c ∧ Cir.first c ≤ 10 := by unfold Cir.first; omega
    obtain ⟨hf1, hf2⟩ := hf
    have hd : decide (0 < c.next.length) = false := decide_eq_false (by omega)
    clear hv hsz HC hi hl
    generalize Cir.first c = F at *
    go_enter Try.func9, Try.ntmps9
    go_wp2_with fail
    refine wp_region_grow (by kernel_rfl) (by kernel_rfl) ?_
    repeat (go_big_quiet_step ((first | (go_at_call 21; exact grow_call (HV.out _)) | (go_at_call 43; exact grow_call (HF.out _)) | (go_at_call 42; exact grow_same (HI.out _)))))
    refine wpQuiet_nil ?_
    intro _ hw'
    obtain ⟨nq, hw''⟩ := hw'
    subst hw''
    have hgq := gw_below nq
    generalize gw nq = wq at *
    clear nq
    go_wp2_with fail
    go_ret
    exact ⟨rfl, B0.out.trans (hgq.mono B0.out.size)⟩
end Go.Proofs.Ytkkkjbinfdohpaa

namespace Go.Proofs.Ytkkkjbinfdohpaa
open Go.RowKit
set_option maxRecDepth 100000
/-! The values of a circuit, by the program. -/
theorem litValue_any (v : Value) (xs : List Bool) (l : Nat) (w : World) (h : BoolsAt w v xs) (hl : l < 2 * xs.length) (hb : l ≤ 1000000) :
    Calls Try.prog 84 #[v, .int .i64 l] w fun e w' => e = .returned (.bool (Cir.lit xs l)) ∧ w = w' := by
  obtain ⟨A, c, hv, hc, hcm⟩ := Row.shape h
  subst hv
  have hi : l / 2 < xs.length := by omega
  obtain ⟨b, o, x, rfl, hbl, hx, hs⟩ := bools_open h (Below.refl _ _) rfl hi
  have HL := Lib.hid (lit_of hx.out)
  have hq : (l : Int).tdiv 2 = ((l / 2 : Nat) : Int) := by rw [Int.tdiv_eq_ediv_of_nonneg (by omega)]; omega
  have hm : bits .and .i64 (l : Int) 1 = ((l % 2 : Nat) : Int) := by
    have := i64_and_nat l 1 (by omega) (by omega)
    rw [Nat.and_one_is_mod] at this
    exact this
  have he : (((l % 2 : Nat) : Int) == 1) = (l % 2 == 1) := by
    rw [Bool.eq_iff_iff, beq_iff_eq, beq_iff_eq]
    omega
  have hqb : l / 2 ≤ 1000000 := by omega
  generalize l / 2 = q at *
  generalize l % 2 = r at *
  have hwr : IntKind.i64.wrap (q : Int) = q := IntWalk.i64_in _ (by omega)
  go_enter Try.func84, Try.ntmps84
  go_wp2
  go_ret
  refine ⟨ret_bool ?_, rfl⟩
  rw [HL.out]
  simp
  generalize (r == 1) = p
  cases x <;> cases p <;> rfl
theorem assignments_any (g : Nat) (c : Cz) (m : Nat) (w : World) (h : PCirc w g c) (hm : c.ins + c.next.length = m) (h1 : m ≤ 7) :
    Calls Try.prog 83 #[.pointer (some ⟨g, 0, none⟩)] w fun e w' => e = .returned (.int .i64 ((2 ^ m : Nat) : Int)) ∧ Below w.heap.size w w' := by
  obtain ⟨vn, vg, vo, hg, c0, c1, c2, c3, r1, r2, r3⟩ := h
  obtain ⟨A, cp, hv, hc, hcm⟩ := r1.shape
  subst hv
  have g0 := gw_cell c0 hg
  have g1 := gw_cell c1 hg
  have hw0 := IntWalk.i64_in (m : Int) (by omega)
  have h2 : 2 ^ m ≤ 128 := Nat.pow_le_pow_right (show 0 < 2 by decide) h1
  obtain ⟨M, hM⟩ : ∃ M, M = 2 ^ m := ⟨_, rfl⟩
  have e2 : (2 : Int) ^ m = (M : Int) := by rw [hM]; exact two_pow m
  rw [← hM] at h2 ⊢
  have hwM := IntWalk.i64_in (M : Int) (by omega)
  have hwu : IntKind.u64.wrap (m : Int) = m := by rw [IntKind.wrap_u64]; omega
  clear r1 r2 r3 c0 c1 c2 c3 hM
  go_enter Try.func83, Try.ntmps83
  go_wp2
  refine wp_region_grow (by kernel_rfl) (by kernel_rfl) ?_
  repeat (go_big_quiet_step ((fail)))
  refine wpQuiet_nil ?_
  intro _ hw'
  obtain ⟨nq, hw''⟩ := hw'
  subst hw''
  have hgq := gw_below nq
  generalize gw nq = wq at *
  clear nq
  go_wp2
  go_ret
  exact ⟨rfl, hgq⟩
theorem bits_snoc (x k : Nat) : Cir.bits x (k + 1) = Cir.bits x k ++ [x.testBit k] := by
  unfold Cir.bits
  rw [List.range_succ, List.map_append]
  rfl
theorem bits_get {x n k : Nat} (h : k < n) : (bools (Cir.bits x n))[k]? = some (.bool (x.testBit k)) := by
  simp [bools, Cir.bits, h]
theorem bitsOf_any (x n : Nat) (w : World) (hx : x ≤ 1000000) (hn : n ≤ 16) :
    Calls Try.prog 112 #[.int .i64 x, .int .i64 n] w (OwnBools (Cir.bits x n) w) := by
  have hmk := run_make_row' (P := Try.prog) 69 4 (.bool false) 1 Try.underlying69 info_bool rfl .i64 .i64 n (by omega) (by omega)
  go_enter Try.func112, Try.ntmps112
  go_wp2
  have hown0 := World.ownsRow_lit (base := w.heap.size) (e := 4) (size := 1) w (madeCells #[Value.bool false] n) n (Nat.le_refl _) (by unfold maxLen; omega) (by simp [madeCells])
  have hb0 : Below w.heap.size w (w.alloc (.cells (madeCells #[Value.bool false] n) 4)) := (Below.refl _ _).alloc (Nat.le_refl _) _
  go_loopw [11] (fun i wr => ∃ (k : Nat) (cs : List Value), k ≤ n ∧ i = .int .i64 k ∧ wr.ownsRow w.heap.size 4 1 (.slice (some ⟨w.heap.size, 0, none⟩) n n) n cs ∧ cs.take k = (bools (Cir.bits x n)).take k ∧ Below w.heap.size w wr)
    (fun i _ => n - (intOf i).toNat)
  case atStart => exact ⟨0, _, Nat.zero_le _, rfl, hown0, rfl, hb0⟩
  case round =>
    obtain ⟨k, cs, hk, rfl, hown, htk, hb⟩ := hrel
    clear hmk hown0 hb0
    by_cases hlt : k < n
    · have hq : (x : Int) / 2 ^ k = ((x / 2 ^ k : Nat) : Int) := by
        rw [Int.natCast_ediv, two_pow]
      have hy : x / 2 ^ k ≤ 1000000 := Nat.le_trans (Nat.div_le_self _ _) hx
      have hm : bits .and .i64 ((x / 2 ^ k : Nat) : Int) 1 = ((x / 2 ^ k % 2 : Nat) : Int) := by
        have := i64_and_nat (x / 2 ^ k) 1 (by omega) (by omega)
        rw [Nat.and_one_is_mod] at this
        exact this
      have he : (((x / 2 ^ k % 2 : Nat) : Int) == 1) = x.testBit k := by
        rw [Nat.testBit_eq_decide_div_mod_eq, Bool.eq_iff_iff, beq_iff_eq, decide_eq_true_iff]
        omega
      have hs := bits_get (x := x) hlt
      generalize x / 2 ^ k = y at hq hm he hy
      generalize y % 2 = r at hm he
      generalize x.testBit k = b at he hs
      have hl := hown.1
      obtain ⟨u0, _, hd, hf⟩ := own_slot hown (j := k) (by omega)
      have Hown := Lib.hid (hown.stored k (.bool b)).1
      have Hstep := Lib.hid (take_set_succ (by omega) htk hs)
      clear hs hl htk hown hy
      go_wp2
      go_roundw
      case rel => exact ⟨k + 1, _, by omega, by go_num, Hown.out, Hstep.out, hb.setCell (Nat.le_refl _) _⟩
      case measure => simp [intOf]; omega
    · go_wp2
      go_ret
      have hl2 : (Cir.bits x n).length = n := by simp [Cir.bits]
      have e : cs = bools (Cir.bits x n) := by
        have hl := hown.1
        rw [List.take_of_length_le (by omega), List.take_of_length_le (by rw [bools_length]; omega)] at htk
        exact htk
      exact ⟨_, rfl, by rw [hl2]; exact e ▸ hown, hb⟩
theorem inputBits_any (g : Nat) (c : Cz) (n x : Nat) (w : World) (h : PCirc w g c) (hn : c.ins = (n : Int)) (h1 : n ≤ 16) (hx : x ≤ 1000000) :
    Calls Try.prog 87 #[.pointer (some ⟨g, 0, none⟩), .int .i64 x] w (OwnBools (Cir.bits x n) w) := by
  obtain ⟨vn, vg, vo, hg, c0, c1, c2, c3, r1, r2, r3⟩ := h
  rw [hn] at c0
  clear r1 r2 r3 c1 c2 c3
  go_enter Try.func87, Try.ntmps87
  go_wp2_with fail
  refine (bitsOf_any x n _ hx h1).mono ?_
  rintro e w1 ⟨v1, rfl, hown, hb⟩
  go_wp2_with fail
  go_ret
  exact ⟨_, rfl, hown, hb⟩
theorem latchBits_any (g : Nat) (c : Cz) (n m x : Nat) (w : World) (h : PCirc w g c) (hn : c.ins = (n : Int)) (hm : c.next.length = m) (h1 : n ≤ 16) (h2 : m ≤ 16) (hx : x ≤ 1000000) :
    Calls Try.prog 86 #[.pointer (some ⟨g, 0, none⟩), .int .i64 x] w (OwnBools (Cir.bits (x / 2 ^ n) m) w) := by
  obtain ⟨vn, vg, vo, hg, c0, c1, c2, c3, r1, r2, r3⟩ := h
  rw [hn] at c0
  obtain ⟨A, cp, hv, hc, hcm⟩ := r1.shape
  subst hv
  rw [hm] at c1
  have hq : (x : Int) / 2 ^ n = ((x / 2 ^ n : Nat) : Int) := by
    rw [Int.natCast_ediv, two_pow]
  have hy : x / 2 ^ n ≤ 1000000 := Nat.le_trans (Nat.div_le_self _ _) hx
  generalize x / 2 ^ n = y at *
  have HC : Hid (∀ w, Calls Try.prog 112 #[.int .i64 y, .int .i64 m] w (OwnBools (Cir.bits y m) w)) := Lib.hid fun w => bitsOf_any y m w hy h2
  clear r1 r2 r3 c2 c3 hn hm
  go_enter Try.func86, Try.ntmps86
  go_wp2_with fail
  go_region_with ((go_at_call 112; refine (HC.out _).mono ?_; rintro e w1 ⟨v1, rfl, hown, hb⟩))
  all_goals
    go_wp2_with fail
    go_ret
    exact ⟨_, rfl, hown, ⟨hb.os, hb.tape, hb.output, hb.size, hb.block⟩⟩
end Go.Proofs.Ytkkkjbinfdohpaa

namespace Go.Proofs.Ytkkkjbinfdohpaa
/-! Circuits, plainly: the natural circuit of a valid one; ternary values; what the functions answer, as Lean functions. -/
namespace Cir
def nat (c : Cz) : Ci := { ins := c.ins.toNat, next := c.next.map Int.toNat, gates := c.gates.map fun g => (g.1.toNat, g.2.toNat), outs := c.outs.map Int.toNat }
theorem nat_toCz (d : Ci) : nat (toCz d) = d := by
  have e1 : ∀ l : List Nat, (l.map Int.ofNat).map Int.toNat = l := fun l => by
    rw [List.map_map]
    exact (List.map_congr_left fun x _ => (by simp : (Int.toNat ∘ Int.ofNat) x = id x)).trans (List.map_id l)
  have e2 : ∀ l : List (Nat × Nat), (l.map fun g => ((g.1 : Int), (g.2 : Int))).map (fun g => (g.1.toNat, g.2.toNat)) = l := fun l => by
    rw [List.map_map]
    exact (List.map_congr_left fun x _ => (by simp : ((fun g : Int × Int => (g.1.toNat, g.2.toNat)) ∘ fun g : Nat × Nat => ((g.1 : Int), (g.2 : Int))) x = id x)).trans (List.map_id l)
  unfold nat toCz
  simp only [e1, e2, Int.toNat_natCast]
theorem nat_ok {c : Cz} (h : valid c = true) : c = toCz (nat c) ∧ Ok (nat c) := by
  obtain ⟨d, rfl, hd⟩ := valid_nat h
  rw [nat_toCz]
  exact ⟨rfl, hd⟩
theorem vars_toCz (d : Ci) : vars (toCz d) = (nvars d : Nat) := by
  simp [vars, first, toCz, nvars, nfirst]
theorem first_toCz (d : Ci) : first (toCz d) = (nfirst d : Nat) := by
  simp [first, toCz, nfirst]
theorem bits_length (x n : Nat) : (bits x n).length = n := by simp [bits]
/-! ### Ternary values: 0, 1, and 2 for unknown -/
def tlit (v : List Nat) (l : Nat) : Nat := if v.getD (l / 2) 0 = 2 ∨ l % 2 = 0 then v.getD (l / 2) 0 else 1 - v.getD (l / 2) 0
def tand (a b : Nat) : Nat := if a = 0 ∨ b = 0 then 0 else if a = 1 ∧ b = 1 then 1 else 2
def tgval (v : List Nat) (g : Nat × Nat) : Nat := tand (tlit v g.1) (tlit v g.2)
def tevalG (gs : List (Nat × Nat)) (v : List Nat) : List Nat := gs.foldl (fun v g => v ++ [tgval v g]) v
def tvals (c : Ci) (st inp : List Nat) : List Nat := tevalG c.gates (0 :: (inp ++ st))
theorem tevalG_length : ∀ (gs : List (Nat × Nat)) (v : List Nat), (tevalG gs v).length = v.length + gs.length
  | [], v => rfl
  | g :: gs, v => by
    rw [tevalG, List.foldl_cons]
    have := tevalG_length gs (v ++ [tgval v g])
    rw [tevalG] at this
    rw [this]
    simp
    omega
theorem tevalG_take_snoc {gs : List (Nat × Nat)} {k : Nat} {g : Nat × Nat} (h : gs[k]? = some g) (v : List Nat) : tevalG (gs.take (k + 1)) v = tevalG (gs.take k) v ++ [tgval (tevalG (gs.take k) v) g] := by
  unfold tevalG
  rw [List.take_add_one, h, List.foldl_append]
  rfl
theorem tvals_length (c : Ci) {st inp : List Nat} (h1 : inp.length = c.ins) (h2 : st.length = c.next.length) : (tvals c st inp).length = nvars c := by
  rw [tvals, tevalG_length]
  simp [nvars, nfirst, h1, h2]
  omega
theorem tand_le (a b : Nat) : tand a b ≤ 2 := by unfold tand; split <;> (try split) <;> omega
theorem tlit_le {v : List Nat} (h : ∀ x ∈ v, x ≤ 2) (l : Nat) : tlit v l ≤ 2 := by
  have hx : v.getD (l / 2) 0 ≤ 2 := by
    rw [List.getD_eq_getElem?_getD]
    cases hi : v[l / 2]? with
    | none => simp
    | some x => exact h x (List.mem_of_getElem? hi)
  unfold tlit
  split <;> omega
theorem tevalG_le : ∀ (gs : List (Nat × Nat)) {v : List Nat}, (∀ x ∈ v, x ≤ 2) → ∀ x ∈ tevalG gs v, x ≤ 2
  | [], v, h => h
  | g :: gs, v, h => by
    have : tevalG (g :: gs) v = tevalG gs (v ++ [tgval v g]) := rfl
    rw [this]
    refine tevalG_le gs fun x hx => ?_
    rcases List.mem_append.1 hx with h1 | h1
    · exact h x h1
    · rw [List.mem_singleton.1 h1]; exact tand_le _ _
theorem tvals_le (c : Ci) {st inp : List Nat} (h1 : ∀ x ∈ st, x ≤ 2) (h2 : ∀ x ∈ inp, x ≤ 2) : ∀ x ∈ tvals c st inp, x ≤ 2 := by
  refine tevalG_le _ fun x hx => ?_
  rcases List.mem_cons.1 hx with rfl | hx
  · omega
  · rcases List.mem_append.1 hx with h | h
    · exact h2 x h
    · exact h1 x h
def tnext (c : Ci) (v : List Nat) : List Nat := c.next.map (tlit v)
/-- A ternary value that is right for a bit. -/
def Rt (t : Nat) (b : Bool) : Prop := t = 2 ∨ t = b.toNat
theorem rt_lit {v : List Nat} {u : List Bool} (hl : v.length = u.length) (h : ∀ (i t : Nat) (b : Bool), v[i]? = some t → u[i]? = some b → Rt t b) (l : Nat) (hlt : l / 2 < v.length) : Rt (tlit v l) (lit u l) := by
  have hv : v[l / 2]? = some (v[l / 2]'hlt) := List.getElem?_eq_getElem hlt
  have hu : u[l / 2]? = some (u[l / 2]'(by omega)) := List.getElem?_eq_getElem (by omega)
  have := h _ _ _ hv hu
  unfold tlit lit
  rw [List.getD_eq_getElem?_getD, List.getD_eq_getElem?_getD, hv, hu]
  generalize v[l / 2]'hlt = t at this
  generalize u[l / 2]'(by omega) = b at this
  simp only [Option.getD_some]
  unfold Rt at this ⊢
  rcases this with rfl | rfl
  · simp
  · right
    rcases Nat.mod_two_eq_zero_or_one l with h0 | h0
    · rw [h0]; cases b <;> simp
    · rw [h0]; cases b <;> simp
theorem rt_and {a b : Nat} {x y : Bool} (h1 : Rt a x) (h2 : Rt b y) : Rt (tand a b) (x && y) := by
  unfold Rt at *
  rcases h1 with rfl | rfl <;> rcases h2 with rfl | rfl <;> (try cases x) <;> (try cases y) <;> simp [tand]
def RtAll (v : List Nat) (u : List Bool) : Prop := v.length = u.length ∧ ∀ (i t : Nat) (b : Bool), v[i]? = some t → u[i]? = some b → Rt t b
theorem RtAll.snoc {v : List Nat} {u : List Bool} (h : RtAll v u) {t : Nat} {b : Bool} (ht : Rt t b) : RtAll (v ++ [t]) (u ++ [b]) := by
  refine ⟨by simp [h.1], fun i t' b' h1 h2 => ?_⟩
  rcases Nat.lt_or_ge i v.length with hi | hi
  · rw [List.getElem?_append_left hi] at h1
    rw [List.getElem?_append_left (by have := h.1; omega)] at h2
    exact h.2 i _ _ h1 h2
  · rw [List.getElem?_append_right hi] at h1
    rw [List.getElem?_append_right (by have := h.1; omega)] at h2
    have e : u.length = v.length := h.1.symm
    rw [e] at h2
    rcases hj : i - v.length with _ | j
    · rw [hj] at h1 h2
      simp at h1 h2
      subst h1 h2
      exact ht
    · rw [hj] at h1
      simp at h1
theorem rt_eval : ∀ (gs : List (Nat × Nat)) (f : Nat) {v : List Nat} {u : List Bool}, RtAll v u → v.length = f → (∀ (k : Nat) (g : Nat × Nat), gs[k]? = some g → g.1 < 2 * (f + k) ∧ g.2 < 2 * (f + k)) → RtAll (tevalG gs v) (evalG gs u)
  | [], f, v, u, h, _, _ => h
  | g :: gs, f, v, u, h, hf, hg => by
    have e1 : tevalG (g :: gs) v = tevalG gs (v ++ [tgval v g]) := rfl
    have e2 : evalG (g :: gs) u = evalG gs (u ++ [gval u g]) := rfl
    rw [e1, e2]
    have h0 := hg 0 g rfl
    refine rt_eval gs (f + 1) (h.snoc (rt_and (rt_lit h.1 h.2 _ (by omega)) (rt_lit h.1 h.2 _ (by omega)))) (by simp [hf]) fun k g' hk => ?_
    have := hg (k + 1) g' (by simpa using hk)
    omega
theorem rtAll_cons {v : List Nat} {u : List Bool} (h : RtAll v u) {t : Nat} {b : Bool} (ht : Rt t b) : RtAll (t :: v) (b :: u) := by
  refine ⟨by simp [h.1], fun i t' b' h1 h2 => ?_⟩
  cases i with
  | zero => simp at h1 h2; subst h1 h2; exact ht
  | succ i => simp at h1 h2; exact h.2 i _ _ h1 h2
theorem rtAll_append {v v' : List Nat} {u u' : List Bool} (h : RtAll v u) (h' : RtAll v' u') : RtAll (v ++ v') (u ++ u') := by
  refine ⟨by simp [h.1, h'.1], fun i t b h1 h2 => ?_⟩
  rcases Nat.lt_or_ge i v.length with hi | hi
  · rw [List.getElem?_append_left hi] at h1
    rw [List.getElem?_append_left (by have := h.1; omega)] at h2
    exact h.2 i _ _ h1 h2
  · rw [List.getElem?_append_right hi] at h1
    rw [List.getElem?_append_right (by have := h.1; omega)] at h2
    rw [← h.1] at h2
    exact h'.2 _ _ _ h1 h2
/-- A known ternary value is right for all completions. -/
theorem rt_vals (c : Ci) (hc : Ok c) {st inp : List Nat} {st' inp' : List Bool} (h1 : RtAll inp inp') (h2 : RtAll st st') (l1 : inp.length = c.ins) (l2 : st.length = c.next.length) : RtAll (tvals c st inp) (vals c st' inp') := by
  refine rt_eval c.gates (nfirst c) (rtAll_cons (rtAll_append h1 h2) (.inr rfl)) (by simp [nfirst, l1, l2]; omega) fun k g hk => ?_
  exact hc.gate k g hk
end Cir
end Go.Proofs.Ytkkkjbinfdohpaa

namespace Go.Proofs.Ytkkkjbinfdohpaa
open Go.RowKit
set_option maxRecDepth 100000
/-! The tables of literals. -/
theorem bools_lit0 (w : World) (t : TypeId) : BoolsAt (w.alloc (.cells #[] t)) (.slice (some ⟨w.heap.size, 0, none⟩) 0 0) [] :=
  ⟨rfl, _, 0, rfl, Nat.le_refl _, Nat.zero_le _, fun h => absurd h (by simp)⟩
set_option maxHeartbeats 4000000 in
theorem specTable_ok (v : Value) (d : Ci) (l : Nat) (w : World) (h : CircAt w v (Cir.toCz d)) (hd : Cir.Ok d) (hv : Cir.valid (Cir.toCz d) = true) (hn : d.next = []) (hl : l < 2 * Cir.nvars d) :
    Calls Try.prog 9 #[v, .int .i64 l] w fun e w' => e = .returned (.int .i64 (Cir.tab d l (2 ^ d.ins) : Nat)) ∧ Below w.heap.size w w' := by
  have s1 := hd.ins
  have s3 := hd.gatess
  have hi : Cir.isLit l (Cir.vars (Cir.toCz d)) = true := by
    rw [Cir.vars_toCz]
    unfold Cir.isLit
    simp
    omega
  have hnl : (Cir.toCz d).next.length = 0 := by simp [Cir.toCz, hn]
  have hgl : (Cir.toCz d).gates.length = d.gates.length := List.length_map _
  have hnv : Cir.nvars d ≤ 19 := by unfold Cir.nvars Cir.nfirst; rw [hn]; simp; omega
  have HCa := Lib.hid h
  have hins : (Cir.toCz d).ins = (d.ins : Int) := rfl
  obtain ⟨vn, vg, vo, rfl, r1, r2, r3⟩ := h
  obtain ⟨An, cn, hvn, hcn, hcmn⟩ := r1.shape
  obtain ⟨Ag, cg, hvg, hcg, hcmg⟩ := Row.shape r2
  rw [hnl] at hvn
  rw [hgl] at hvg
  subst hvn hvg
  rw [hins] at HCa ⊢
  have hb0 : Below w.heap.size w (w.alloc (.cells #[.int .i64 d.ins, .slice An 0 cn, .slice Ag d.gates.length cg, vo] 26)) := (Below.refl _ _).alloc (Nat.le_refl _) _
  obtain ⟨z, p0, p1, p2, p3⟩ := PCells.boxed w d.ins (.slice An 0 cn) (.slice Ag d.gates.length cg) vo 26
  have HCW : Hid (CircAt (w.alloc (.cells #[.int .i64 d.ins, .slice An 0 cn, .slice Ag d.gates.length cg, vo] 26)) (.agg #[.int .i64 d.ins, .slice An 0 cn, .slice Ag d.gates.length cg, vo]) (Cir.toCz d)) := Lib.hid (HCa.out.below hb0)
  generalize hW : w.alloc (.cells #[.int .i64 d.ins, .slice An 0 cn, .slice Ag d.gates.length cg, vo] 26) = W at *
  have HC : ∀ n : GW W, CircAt (gw n) (.agg #[.int .i64 d.ins, .slice An 0 cn, .slice Ag d.gates.length cg, vo]) (Cir.toCz d) := fun n => HCW.out.below (gw_below n)
  have g0 := gw_cell p0 z
  have g1 := gw_cell p1 z
  have g2 := gw_cell p2 z
  have g3 := gw_cell p3 z
  have HV : Hid (∀ n : GW W, Calls Try.prog 21 #[.agg #[.int .i64 d.ins, .slice An 0 cn, .slice Ag d.gates.length cg, vo]] (gw n) fun e w' => e = .returned (.bool true) ∧ Below (gw n).heap.size (gw n) w') := Lib.hid fun n => by
    have := specValid_any _ _ _ (HC n)
    rwa [hv] at this
  have HF : Hid (∀ n : GW W, Calls Try.prog 43 #[.agg #[.int .i64 d.ins, .slice An 0 cn, .slice Ag d.gates.length cg, vo]] (gw n) fun e w' => e = .returned (.int .i64 (Cir.nfirst d : Nat)) ∧ Below (gw n).heap.size (gw n) w') := Lib.hid fun n => by
    have := l1First_any _ _ _ (HC n) (by rw [hins]; omega) (by rw [hins]; omega) (by omega)
    rwa [Cir.first_toCz] at this
  have HI : Hid (∀ n : GW W, Calls Try.prog 42 #[.int .i64 l, .int .i64 0, .int .i64 (2 * ((Cir.nfirst d : Nat) + d.gates.length) - 1)] (gw n) fun e w' => e = .returned (.bool true) ∧ gw n = w') := Lib.hid fun n => by
    have h1 := l1In_any l 0 (2 * ((Cir.nfirst d : Nat) + d.gates.length) - 1) (gw n)
    rw [show decide (0 ≤ (l : Int) ∧ (l : Int) ≤ 2 * (((Cir.nfirst d : Nat) : Int) + d.gates.length) - 1) = true from decide_eq_true (by unfold Cir.nvars at hl; omega)] at h1
    exact h1
  have hnf : Cir.nfirst d ≤ 5 := by unfold Cir.nfirst; rw [hn]; simp; omega
  have B0 := Lib.hid hb0
  have Hd := Lib.hid hd
  have PC : Hid (PCells W w.heap.size d.ins (.slice An 0 cn) (.slice Ag d.gates.length cg) vo) := Lib.hid ⟨z, p0, p1, p2, p3⟩
  obtain ⟨M, e, hM⟩ : ∃ M : Nat, (2 : Int) ^ d.ins = (M : Int) ∧ M = 2 ^ d.ins := ⟨2 ^ d.ins, two_pow d.ins, rfl⟩
  have hM16 : M ≤ 16 := by rw [hM]; exact Nat.pow_le_pow_right (show 0 < 2 by decide) s1
  rw [← hM]
  have HL : Hid (∀ x, (Cir.vals d [] (Cir.bits x d.ins)).length = Cir.nvars d) := Lib.hid fun x => Cir.vals_length d (Cir.bits_length _ _) (by simp [hn])
  have HN := Lib.hid hn
  have hdn : decide (0 < 0) = false := rfl
  clear r1 r2 r3 p0 p1 p2 p3 hb0 hd hv hn hi hnl hgl hM HCa HC
  generalize Cir.nfirst d = F at *
  have hwM := IntWalk.i64_in (M : Int) (by omega)
  go_enter Try.func9, Try.ntmps9
  go_wp2_with fail
  refine wp_region_grow (by kernel_rfl) (by kernel_rfl) ?_
  repeat (go_big_quiet_step ((first | (go_at_call 21; exact grow_call (HV.out _)) | (go_at_call 43; exact grow_call (HF.out _)) | (go_at_call 42; exact grow_same (HI.out _)))))
  refine wpQuiet_nil ?_
  intro _ hw'
  obtain ⟨nq, hw''⟩ := hw'
  subst hw''
  have hgq := gw_below nq
  generalize gw nq = wq at *
  clear nq
  clear HV HF HI
  obtain ⟨W1, hW1⟩ : ∃ W1, W1 = wq := ⟨_, rfl⟩
  subst hW1
  have HCq := Lib.hid (HCW.out.below hgq)
  have PCq := Lib.hid (PC.out.below hgq)
  have Bq := Lib.hid (B0.out.trans (hgq.mono B0.out.size))
  clear hgq g0 g1 g2 g3 PC B0 hW
  go_wp2_with fail
  go_loopw [5, 6] (fun t x wr => ∃ k : Nat, k ≤ M ∧ x = .int .i64 k ∧ t = .int .i64 (Cir.tab d l k : Nat) ∧ Below W1.heap.size W1 wr) (fun _ x _ => M - (intOf x).toNat)
  case atStart => exact ⟨0, Nat.zero_le _, rfl, rfl, Below.refl _ _⟩
  case round =>
    obtain ⟨k, hk, rfl, rfl, hb⟩ := hrel
    obtain ⟨z, p0, p1, p2, p3⟩ := PCq.out.below hb
    have HCr := Lib.hid (HCq.out.below hb)
    have Hb := Lib.hid hb
    have hzb := hb.size
    clear hb
    by_cases hlt : k < M
    · have ht : Cir.tab d l k < 65536 := Nat.lt_of_lt_of_le (Cir.tab_lt d l k) (by
        have : (65536 : Nat) = 2 ^ 16 := by decide
        rw [this]; exact Nat.pow_le_pow_right (show 0 < 2 by decide) (by omega))
      have Hs : Hid (Cir.tab d l (k + 1) = Cir.tab d l k + (if Cir.lit (Cir.vals d [] (Cir.bits k d.ins)) l then 2 ^ k else 0)) := Lib.hid rfl
      have hY : 2 ^ k ≤ 32768 := by
        have : (32768 : Nat) = 2 ^ 15 := by decide
        rw [this]; exact Nat.pow_le_pow_right (show 0 < 2 by decide) (by omega)
      have hYe : (2 : Int) ^ k = ((2 ^ k : Nat) : Int) := two_pow k
      generalize hYY : 2 ^ k = Y at *
      go_wp2_with fail
      have c0 := p0
      refine wp_region_rs (quietRS Try.prog _ wr _) quietRS_ok (by kernel_rfl) (by kernel_rfl) (by kernel_rfl) (Nat.le_of_ble_eq_true rfl) trivial trivial ?_
      refine rs_look quietRS_ok quiet_any (TEq (.agg #[.int .i64 d.ins, .slice An 0 cn, .slice Ag d.gates.length cg, vo])) (stb_eq _ _) (fun ρ w' ho hK => by
        obtain ⟨h1, -⟩ := hK
        have h1' : ρ (.tmp 2) = .pointer (some ⟨w.heap.size, 0, none⟩) := h1
        have hb := only_below ho
        have q0 := (hb.cell (p := ⟨w.heap.size, 0, none⟩) z).trans p0
        have q1 := (hb.cell (p := ⟨w.heap.size, 1, none⟩) z).trans p1
        have q2 := (hb.cell (p := ⟨w.heap.size, 2, none⟩) z).trans p2
        have q3 := (hb.cell (p := ⟨w.heap.size, 3, none⟩) z).trans p3
        refine ⟨_, ?_, rfl⟩
        go_simp) ?_
      refine rs_alloc quietRS_ok quiet_any (TBools []) (stb_bools _) (fun ρ w' ho hK => by
        refine ⟨_, .cells #[] 4, ?_, bools_lit0 w' _⟩
        go_simp) ?_
      refine rs_old quietRS_ok quiet_any _ (.inl rfl) _ rfl rfl ?_
      refine rs_look quietRS_ok quiet_any (TEq (.pointer (some ⟨w.heap.size, 0, none⟩))) (stb_eq _ _) (fun ρ w' ho hK => by
        obtain ⟨h1, -⟩ := hK
        have h1' : ρ (.tmp 2) = .pointer (some ⟨w.heap.size, 0, none⟩) := h1
        refine ⟨_, ?_, rfl⟩
        go_simp) ?_
      refine rs_look quietRS_ok quiet_any (TEq (.int .i64 d.ins)) (stb_eq _ _) (fun ρ w' ho hK => by
        obtain ⟨h1, -⟩ := hK
        have h1' : ρ (.tmp 39) = .pointer (some ⟨w.heap.size, 0, none⟩) := h1
        have hb := only_below ho
        have q0 := (hb.cell (p := ⟨w.heap.size, 0, none⟩) z).trans p0
        refine ⟨_, ?_, rfl⟩
        go_simp) ?_
      refine rs_call quietRS_ok quiet_any (TBools (Cir.bits k d.ins)) (stb_bools _) 46 _ _ rfl (fun ρ w' ho hK => by
        obtain ⟨h0, h1, h2, -⟩ := hK
        have h1' : ρ (.tmp 38) = .int .i64 k := h1
        have h2' : ρ (.tmp 40) = .int .i64 d.ins := h2
        have h0' : ρ (.func 46) = .func (.func 46) #[] #[] := h0
        refine ⟨#[.int .i64 k, .int .i64 d.ins], ?_, ?_⟩
        · go_simp
        · refine (l4Bits_any k d.ins w' (by omega) (by omega)).mono ?_
          rintro e w2 ⟨v2, rfl, hown, hb⟩
          exact ⟨v2, rfl, ownBools_at hown, hb⟩) ?_
      refine rs_call quietRS_ok quiet_any (TBools (Cir.vals d [] (Cir.bits k d.ins))) (stb_bools _) 45 _ _ rfl (fun ρ w' ho hK => by
        obtain ⟨h0, h1, h2, h3, -⟩ := hK
        have h0' : ρ (.func 45) = .func (.func 45) #[] #[] := h0
        have h1' : ρ (.tmp 36) = .agg #[.int .i64 d.ins, .slice An 0 cn, .slice Ag d.gates.length cg, vo] := h1
        have h2' : BoolsAt w' (ρ (.tmp 37)) [] := h2
        have h3' : BoolsAt w' (ρ (.tmp 41)) (Cir.bits k d.ins) := h3
        refine ⟨#[.agg #[.int .i64 d.ins, .slice An 0 cn, .slice Ag d.gates.length cg, vo], ρ (.tmp 37), ρ (.tmp 41)], ?_, ?_⟩
        · go_simp
        · refine (l2Values_any _ _ _ d [] (Cir.bits k d.ins) w' (HCr.out.below (only_below ho)) Hd.out h2' h3' (Cir.bits_length _ _) (by simp [HN.out])).mono ?_
          rintro e w2 ⟨v2, rfl, hown, hb⟩
          exact ⟨v2, rfl, ownBools_at hown, hb⟩) ?_
      refine rs_old quietRS_ok quiet_any _ (.inl rfl) _ rfl rfl ?_
      refine rs_call quietRS_ok quiet_any (TEq (.bool (Cir.lit (Cir.vals d [] (Cir.bits k d.ins)) l))) (stb_eq _ _) 44 _ _ rfl (fun ρ w' ho hK => by
        obtain ⟨h0, h1, h2, -⟩ := hK
        have h0' : ρ (.func 44) = .func (.func 44) #[] #[] := h0
        have h1' : BoolsAt w' (ρ (.tmp 42)) (Cir.vals d [] (Cir.bits k d.ins)) := h1
        have h2' : ρ (.tmp 43) = .int .i64 l := h2
        refine ⟨#[ρ (.tmp 42), .int .i64 l], ?_, ?_⟩
        · go_simp
        · refine (l2Lit_any _ _ l w' h1' (by rw [HL.out]; exact hl) (by omega)).mono ?_
          rintro e w2 ⟨rfl, rfl⟩
          exact ⟨_, rfl, rfl, Below.refl _ _⟩) ?_
      intro f w6 k' hk' hI ht6 hcp
      have h8 : f 8 = .bool (Cir.lit (Cir.vals d [] (Cir.bits k d.ins)) l) := ht6 8 (Nat.le_of_ble_eq_true rfl)
      have hb6 := only_below hI.2.1
      have Hb6 := Lib.hid (Hb.out.trans (hb6.mono hzb))
      simp only [putAll, h8, Nat.zero_add, Nat.reduceAdd, Act.put, List.setIfInBounds_toArray, List.set_cons_succ, List.set_cons_zero]
      generalize f 0 = u0, f 1 = u1, f 2 = u2, f 3 = u3, f 4 = u4, f 5 = u5, f 6 = u6, f 7 = u7
      clear hI ht6 hcp hk' h8 hb6 c0 p0 p1 p2 p3
      cases hb : Cir.lit (Cir.vals d [] (Cir.bits k d.ins)) l
      · rw [hb] at Hs
        go_wp2_with fail
        go_roundw
        case rel => exact ⟨k + 1, by omega, by go_num, by rw [Hs.out]; rfl, Hb6.out⟩
        case measure => simp [intOf] <;> omega
      · rw [hb] at Hs
        have hwr : IntKind.i64.wrap ((Cir.tab d l k : Int) + (Y : Int)) = (Cir.tab d l k : Int) + (Y : Int) := IntWalk.i64_in _ (by omega)
        have hwY : IntKind.i64.wrap (Y : Int) = (Y : Int) := IntWalk.i64_in _ (by omega)
        go_wp2_with fail
        go_roundw
        case rel => exact ⟨k + 1, by omega, by go_num, by rw [Hs.out]; go_num, Hb6.out⟩
        case measure => simp [intOf] <;> omega
    · obtain rfl : k = M := by omega
      go_wp2_with fail
      go_ret
      exact ⟨rfl, Bq.out.trans (Hb.out.mono Bq.out.size)⟩
end Go.Proofs.Ytkkkjbinfdohpaa

namespace Go.Proofs.Ytkkkjbinfdohpaa
open Go.RowKit
set_option maxRecDepth 100000
/-! The values of all variables, by the program. -/
theorem own_of_block {w : World} {base g n : Nat} {e : TypeId} {cs : List Value} (hb : base ≤ g) (hh : w.heap[g]? = some (.cells cs.toArray e (0, 0))) (hl : cs.length = n) (hm : n ≤ maxLen) : w.ownsRow base e 1 (.slice (some ⟨g, 0, none⟩) n n) n cs :=
  ⟨by omega, .inr ⟨g, n, cs.toArray, rfl, hb, hh, Nat.le_refl _, hm, by simp; omega, by rw [List.take_of_length_le]; simp; omega⟩⟩
theorem splice_two {α : Type} (a b : List α) (z : α) (n k : Nat) (hk : k = 1 + a.length) (hn : 1 + a.length + b.length ≤ n) : splice (splice (List.replicate n z) 1 a) k b = z :: (a ++ b) ++ List.replicate (n - (1 + a.length + b.length)) z := by
  subst hk
  obtain ⟨m, rfl⟩ : ∃ m, n = 1 + a.length + b.length + m := ⟨n - (1 + a.length + b.length), by omega⟩
  have e1 : splice (List.replicate (1 + a.length + b.length + m) z) 1 a = (z :: a) ++ List.replicate (b.length + m) z := by
    unfold splice
    rw [List.take_replicate, List.drop_replicate, show min 1 (1 + a.length + b.length + m) = 1 from by omega, show 1 + a.length + b.length + m - (1 + a.length) = b.length + m from by omega]
    rfl
  rw [e1]
  unfold splice
  rw [List.take_append_of_le_length (by simp; omega), List.take_of_length_le (by simp; omega), List.drop_append, List.drop_eq_nil_of_le (by simp; omega), List.nil_append, List.drop_replicate, show b.length + m - (1 + a.length + b.length - (z :: a).length) = m from by simp; omega, show 1 + a.length + b.length + m - (1 + a.length + b.length) = m from by omega]
  simp
theorem lit_append {A B : List Bool} {l : Nat} (h : l / 2 < A.length) : Cir.lit (A ++ B) l = Cir.lit A l := by
  unfold Cir.lit
  rw [List.getD_eq_getElem?_getD, List.getD_eq_getElem?_getD, List.getElem?_append_left h]
/-- A stop for the walk, at a copy. -/
structure Stop (p : Prop) : Prop where
  out : p
theorem stop_copy {P : Program} {w : World} {ops : Array Oper} {rest : List Oper} {o : Oper} {a : Act} {Q : Exit → Act → World → Prop} (d s : Operand) (dT sT : TypeId)
    (ho : o.op = .call { callee := .builtin .copy, args := #[d, s], argTypes := #[dT, sT] }) (h : Stop (wpList P ops Q (o :: rest) a w)) : wpList P ops Q (o :: rest) a w := h.out
theorem stop_slice {P : Program} {w : World} {ops : Array Oper} {rest : List Oper} {o : Oper} {a : Act} {Q : Exit → Act → World → Prop} (t : TypeId) (x : Operand) (lo hi mx : Option Operand)
    (ho : o.op = .slice t x lo hi mx) (h : Stop (wpList P ops Q (o :: rest) a w)) : wpList P ops Q (o :: rest) a w := h.out
set_option maxHeartbeats 8000000 in
theorem evaluate_any (g : Nat) (d : Ci) (vs vi : Value) (st inp : List Bool) (w : World) (h : PCirc w g (Cir.toCz d)) (hd : Cir.Ok d) (hs : BoolsAt w vs st) (hi : BoolsAt w vi inp) (h1 : inp.length = d.ins) (h2 : st.length = d.next.length) :
    Calls Try.prog 85 #[.pointer (some ⟨g, 0, none⟩), vs, vi, .int .i64 (-1), .bool false] w (OwnBools (Cir.vals d st inp) w) := by
  have s1 := hd.ins
  have s2 := hd.nexts
  have s3 := hd.gatess
  have HGt := Lib.hid hd.gate
  have hnl : (Cir.toCz d).next.length = d.next.length := List.length_map _
  have hgl : (Cir.toCz d).gates.length = d.gates.length := List.length_map _
  obtain ⟨n, hn⟩ : ∃ n, n = Cir.nvars d := ⟨_, rfl⟩
  have hnd : n = 1 + d.ins + d.next.length + d.gates.length := hn
  have HV := vars_any g _ w h (by show (0 : Int) ≤ (d.ins : Int); omega) (by show (d.ins : Int) ≤ 100; omega) (by omega) (by omega)
  rw [Cir.vars_toCz, ← hn] at HV
  have Hv := Lib.hid HV
  have Hs := Lib.hid hs
  have Hi := Lib.hid hi
  have Hp := Lib.hid h
  obtain ⟨As, cs, hvs, hcs, hcms⟩ := Row.shape hs
  obtain ⟨Ai, ci, hvi, hci, hcmi⟩ := Row.shape hi
  subst hvs hvi
  have hmk := run_make_row' (P := Try.prog) 69 4 (.bool false) 1 Try.underlying69 info_bool rfl .i64 .i64 n (by omega) (by omega)
  obtain ⟨m, hm⟩ : ∃ m, m = n := ⟨_, rfl⟩
  have Hnd : Hid (m = 1 + d.ins + d.next.length + d.gates.length) := Lib.hid (hm.trans hnd)
  have b1 : 1 ≤ n := by omega
  have b2 : n ≤ 22 := by omega
  have b3 : 1 + d.ins ≤ n := by omega
  have b4 : 1 + d.ins + d.next.length ≤ n := by omega
  have Hm := Lib.hid hm
  have HB3 : Hid (1 + d.ins + d.next.length ≤ m) := Lib.hid (by omega)
  rw [h1] at hci Hi ⊢
  rw [h2] at hcs Hs ⊢
  have H1 := Lib.hid h1
  have H2 := Lib.hid h2
  have hww : IntKind.i64.wrap (1 + (d.ins : Int)) = 1 + d.ins := IntWalk.i64_in _ (by omega)
  obtain ⟨vn, vg, vo, hg, c0, c1, c2, c3, r1, r2, r3⟩ := Hp.out
  have C0 : Hid (w.cell? ⟨g, 0, none⟩ = some (.int .i64 d.ins)) := Lib.hid c0
  obtain ⟨Ag, cg, hvg, hcg, hcmg⟩ := Row.shape r2
  rw [hgl] at hvg
  subst hvg
  rw [hgl] at hcg
  have C2 := Lib.hid c2
  have R2 : Hid (Row w 2 (.slice Ag d.gates.length cg) d.gates.length (cubes (Cir.toCz d).gates)) := Lib.hid (by have := r2; unfold CubesAt at this; rwa [hgl] at this)
  have Hgl := Lib.hid hgl
  have SZ : (Try.prog.info? 4).map (·.size) = some 1 := by
    have := info_bool
    cases hi : Try.prog.info? 4 with
    | none => rw [hi] at this; cases this
    | some i => rw [hi] at this; simp at this; simp [this]
  clear r1 r2 r3 c0 c1 c2 c3
  clear HV h hs hi hnl hgl hn hnd h1 h2 hm hd
  go_enter Try.func85, Try.ntmps85
  go_wp2_with fail
  refine Hv.out.mono ?_
  rintro e w1 ⟨rfl, hb1⟩
  have hZ : Hid ((w1.alloc (.cells (madeCells #[Value.bool false] n) 4)).heap[w1.heap.size]? = some (.cells (bools (List.replicate m false)).toArray 4 (0, 0))) := Lib.hid (by
    rw [heap_alloc_new, made_one, Hm.out]
    simp [bools])
  have B1 : Hid (Below w.heap.size w (w1.alloc (.cells (madeCells #[Value.bool false] n) 4))) := Lib.hid (hb1.alloc hb1.size _)
  have hz1 := hb1.size
  have c0 : (w1.alloc (.cells (madeCells #[Value.bool false] n) 4)).cell? ⟨g, 0, none⟩ = some (.int .i64 d.ins) := (B1.out.cell (p := ⟨g, 0, none⟩) hg).trans C0.out
  generalize hW2 : w1.alloc (.cells (madeCells #[Value.bool false] n) 4) = W2 at *
  clear hb1 Hv
  go_wp2_with (refine stop_slice _ _ _ _ _ rfl ?_)
  refine ⟨?_⟩
  clear hmk
  have hcase : (n = 1 ∧ n = 1 + d.ins) ∨ (n ≠ 1 ∧ n = 1 + d.ins) ∨ (n ≠ 1 ∧ n ≠ 1 + d.ins) := by omega
  have hcase2 : ∃ p q : Prop, Hid ((p → n = 1) ∧ (¬ p → n ≠ 1) ∧ (q → n = 1 + d.ins) ∧ (¬ q → n ≠ 1 + d.ins)) ∧ (((n = 1) = True ∧ (n = 1 + d.ins) = True ∧ p ∧ q) ∨ ((n = 1) = False ∧ (n = 1 + d.ins) = True ∧ ¬ p ∧ q) ∨ ((n = 1) = False ∧ (n = 1 + d.ins) = False ∧ ¬ p ∧ ¬ q)) := by
    refine ⟨n = 1, n = 1 + d.ins, Lib.hid ⟨id, id, id, id⟩, ?_⟩
    rcases hcase with ⟨h, h'⟩ | ⟨h, h'⟩ | ⟨h, h'⟩
    · exact .inl ⟨eq_true h, eq_true h', h, h'⟩
    · exact .inr (.inl ⟨eq_false h, eq_true h', h, h'⟩)
    · exact .inr (.inr ⟨eq_false h, eq_false h', h, h'⟩)
  clear hcase
  obtain ⟨pp, qq, HQ, ⟨hq, hq', hp1, hp2⟩ | ⟨hq, hq', hp1, hp2⟩ | ⟨hq, hq', hp1, hp2⟩⟩ := hcase2
  all_goals have HP := Lib.hid (And.intro hp1 hp2)
  all_goals clear hp1 hp2
  all_goals go_wp2_with (first
    | (refine wpList_copy_splice rfl (.tmp 19) (.tmp 20) 69 69 rfl 4 Try.underlying69 SZ _ _ _ _ _ _ rfl rfl w1.heap.size 1 (bools (List.replicate m false)) 4 hZ.out (bools inp) ?_ ?_ ?_ (bools_one _) w.heap.size w B1.out hz1 ?_
       · have hb3 := HB3.out; have hmn := Hm.out; obtain ⟨q1, q2, q3, q4⟩ := HQ.out; obtain ⟨r1, r2⟩ := HP.out; simp only [r1, r2, not_true_eq_false, not_false_eq_true, true_implies, false_implies] at q1 q2 q3 q4; rw [bools_length, H1.out]; show d.ins = min _ _; omega
       · intro hp
         have hb3 := HB3.out
         have hmn := Hm.out
         obtain ⟨q1, q2, q3, q4⟩ := HQ.out
         obtain ⟨r1, r2⟩ := HP.out
         simp only [r1, r2, not_true_eq_false, not_false_eq_true, true_implies, false_implies] at q1 q2 q3 q4
         rw [bools_length, H1.out] at hp
         first
           | (exfalso; omega)
           | (refine ⟨by first | rfl | exact if_neg q2, ?_⟩
              obtain ⟨b, o, c', hv, _, _, _, hcell⟩ := Row.open (Row.below Hi.out B1.out) (by rw [H1.out]; exact hp)
              injection hv with hv1 hv2 hv3
              refine ⟨⟨b, o, none⟩, hv1, fun j u hu => ?_⟩
              rw [Go.WideShapes.add_plain]
              exact hcell j u hu)
       · rw [bools_length, bools_length, H1.out, List.length_replicate, Hnd.out]; omega
       intro w5 HG5 hB5; have HB5 := Lib.hid hB5; have c5 := (hB5.cell (p := ⟨g, 0, none⟩) hg).trans C0.out; clear hB5 c0)
    | (refine wpList_copy_splice rfl (.tmp 28) (.tmp 29) 69 69 rfl 4 Try.underlying69 SZ _ _ _ _ _ _ rfl rfl w1.heap.size (1 + d.ins) (splice (bools (List.replicate m false)) 1 (bools inp)) 4 HG5.out (bools st) ?_ ?_ ?_ (bools_one _) w.heap.size w HB5.out hz1 ?_
       · have hb3 := HB3.out; have hmn := Hm.out; obtain ⟨q1, q2, q3, q4⟩ := HQ.out; obtain ⟨r1, r2⟩ := HP.out; simp only [r1, r2, not_true_eq_false, not_false_eq_true, true_implies, false_implies] at q1 q2 q3 q4; rw [bools_length, H2.out]; show d.next.length = min _ _; omega
       · intro hp
         have hb3 := HB3.out
         have hmn := Hm.out
         obtain ⟨q1, q2, q3, q4⟩ := HQ.out
         obtain ⟨r1, r2⟩ := HP.out
         simp only [r1, r2, not_true_eq_false, not_false_eq_true, true_implies, false_implies] at q1 q2 q3 q4
         rw [bools_length, H2.out] at hp
         first
           | (exfalso; omega)
           | (refine ⟨by first | rfl | exact if_neg q4, ?_⟩
              obtain ⟨b, o, c', hv, _, _, _, hcell⟩ := Row.open (Row.below Hs.out HB5.out) (by rw [H2.out]; exact hp)
              injection hv with hv1 hv2 hv3
              refine ⟨⟨b, o, none⟩, hv1, fun j u hu => ?_⟩
              rw [Go.WideShapes.add_plain]
              exact hcell j u hu)
       · rw [length_splice _ _ _ (by rw [bools_length, bools_length, H1.out, List.length_replicate, Hnd.out]; omega), bools_length, bools_length, H2.out, List.length_replicate, Hnd.out]; omega
       intro w6 HG6 hB6; have HB6 := Lib.hid hB6; have c6 := (hB6.cell (p := ⟨g, 2, none⟩) hg).trans C2.out; clear hB6 c5 HB5 HG5))
  all_goals
    have hmm := Hm.out
    subst hmm
    have hm22 := b2
    have hnf : Cir.nfirst d ≤ 8 := by unfold Cir.nfirst; omega
    have Hnf : Hid (m = Cir.nfirst d + d.gates.length) := Lib.hid (by rw [Hnd.out]; unfold Cir.nfirst; omega)
    have HE : Hid (∀ k, k ≤ d.gates.length → (Cir.evalG (d.gates.take k) (false :: (inp ++ st))).length = Cir.nfirst d + k) := Lib.hid fun k hk => by
      rw [Cir.evalG_length]
      simp [Cir.nfirst, H1.out, H2.out]
      omega
    have Ho0 : Hid (w6.ownsRow w.heap.size 4 1 (.slice (some ⟨w1.heap.size, 0, none⟩) m m) m (bools (Cir.evalG (d.gates.take 0) (false :: (inp ++ st)) ++ List.replicate (d.gates.length - 0) false))) := Lib.hid (by
      have e0 : Cir.evalG (d.gates.take 0) (false :: (inp ++ st)) = false :: (inp ++ st) := rfl
      have hb3 := HB3.out
      have hnd := Hnd.out
      have h1 := H1.out
      have h2 := H2.out
      have e1 : bools (List.replicate m false) = List.replicate m (Value.bool false) := by simp [bools]
      have e2 : splice (splice (bools (List.replicate m false)) 1 (bools inp)) (1 + d.ins) (bools st) = bools (false :: (inp ++ st) ++ List.replicate (d.gates.length - 0) false) := by
        rw [e1, splice_two (bools inp) (bools st) (.bool false) m (1 + d.ins) (by rw [bools_length, h1]) (by rw [bools_length, bools_length, h1, h2]; omega), bools_length, bools_length, h1, h2, show m - (1 + d.ins + d.next.length) = d.gates.length - 0 by omega]
        simp [bools]
      rw [e0, ← e2]
      refine own_of_block hz1 HG6.out ?_ (by unfold maxLen; omega)
      rw [e2, bools_length]
      simp [h1, h2]
      omega)
    have HV : Hid (Cir.evalG (d.gates.take d.gates.length) (false :: (inp ++ st)) = Cir.vals d st inp) := Lib.hid (by rw [List.take_length]; rfl)
    have HPf : Hid (∀ w', Below w.heap.size w w' → Calls Try.prog 82 #[.pointer (some ⟨g, 0, none⟩)] w' fun e w'' => e = .returned (.int .i64 (Cir.nfirst d : Nat)) ∧ Below w'.heap.size w' w'') := Lib.hid fun w' hb => by
      have := firstGate_any g _ w' (Hp.out.below hb) (by show (0 : Int) ≤ (d.ins : Int); omega) (by show (d.ins : Int) ≤ 100; omega) (by show (List.map _ _).length ≤ 100; rw [List.length_map]; omega)
      rwa [Cir.first_toCz] at this
    generalize Cir.vals d st inp = res at *
    generalize Cir.nfirst d = nf at *
    generalize hI0 : (false :: (inp ++ st)) = I0 at *
    clear hq hq' HQ HP c6 C0 C2 hww HB3 Hnd Hm hZ HG6 H1 H2 B1 Hs Hi Hp
    go_loopw [42] (fun i wr => ∃ k : Nat, k ≤ d.gates.length ∧ i = .int .i64 k ∧ Hid (wr.ownsRow w.heap.size 4 1 (.slice (some ⟨w1.heap.size, 0, none⟩) m m) m (bools (Cir.evalG (d.gates.take k) I0 ++ List.replicate (d.gates.length - k) false))) ∧ Below w.heap.size w wr) (fun i _ => d.gates.length - (intOf i).toNat)
    case atStart => exact ⟨0, Nat.zero_le _, rfl, Ho0, HB6.out⟩
    case round =>
      obtain ⟨k, hk, rfl, Ho, hb⟩ := hrel
      clear Ho0 HB6
      by_cases hlt : k < d.gates.length
      · obtain ⟨b, o, x, rfl, hbl, hx, hs1, hs2⟩ := cubes_open R2.out hb Hgl.out.symm (i := k) (by rw [Hgl.out]; exact hlt)
        obtain ⟨gt, hgt⟩ := at_some hlt
        have hxe : x = ((gt.1 : Int), (gt.2 : Int)) := by
          have h1 := hx.out
          unfold Cir.toCz at h1
          simp only [List.getElem?_map, hgt] at h1
          exact (Option.some.inj h1).symm
        subst hxe
        obtain ⟨g1, g2⟩ := HGt.out k gt hgt
        have hEk := HE.out k (by omega)
        have HS := Lib.hid (Cir.evalG_take_snoc hgt I0)
        have hgv : Cir.gval (Cir.evalG (d.gates.take k) I0) gt = (Cir.lit (Cir.evalG (d.gates.take k) I0) gt.1 && Cir.lit (Cir.evalG (d.gates.take k) I0) gt.2) := rfl
        rw [hgv] at HS
        clear hgv hx hgt
        obtain ⟨E2, hE2⟩ : ∃ E2, Cir.evalG (d.gates.take (k + 1)) I0 = E2 := ⟨_, rfl⟩
        rw [hE2] at HS
        have HE2 := Lib.hid hE2
        clear hE2
        generalize Cir.evalG (d.gates.take k) I0 = E at *
        have Hb := Lib.hid hb
        have hz := hb.size
        have hlen : (E ++ List.replicate (d.gates.length - k) false).length = m := by
          have := Hnf.out
          simp [hEk]
          omega
        have HL := Lib.hid hlen
        have hmnf := Hnf.out
        have hkm : nf + k < m := by omega
        have HSet : ∀ u : Bool, Hid ((bools (E ++ List.replicate (d.gates.length - k) false)).set (nf + k) (.bool u) = bools (E ++ [u] ++ List.replicate (d.gates.length - (k + 1)) false)) := fun u => Lib.hid (by
          unfold bools
          rw [← List.map_set, set_mid_at _ _ _ _ _ hEk.symm (by omega), show d.gates.length - k - 1 = d.gates.length - (k + 1) from by omega])
        have HA1 := Lib.hid (lit_append (B := List.replicate (d.gates.length - k) false) (show gt.1 / 2 < E.length by omega))
        have HA2 := Lib.hid (lit_append (B := List.replicate (d.gates.length - k) false) (show gt.2 / 2 < E.length by omega))
        obtain ⟨G1, hG1⟩ : ∃ G1, G1 = gt.1 := ⟨_, rfl⟩
        obtain ⟨G2, hG2⟩ : ∃ G2, G2 = gt.2 := ⟨_, rfl⟩
        rw [← hG1] at g1 HS hs1 HA1
        rw [← hG2] at g2 HS hs2 HA2
        have hwk : IntKind.i64.wrap ((nf : Int) + (k : Int)) = (nf : Int) + (k : Int) := IntWalk.i64_in _ (by omega)
        have hn1 : ((nf : Int) + (k : Int) != -1) = true := by simp; omega
        have hix : ((nf : Int) + (k : Int)).toNat = nf + k := by omega
        clear hb hG1 hG2 hEk hlen hmnf
        go_wp2_with fail
        refine (HPf.out _ (Hb.out.alloc hz _)).mono ?_
        rintro e w9 ⟨rfl, hb9⟩
        have Hb9 := Lib.hid ((Hb.out.alloc hz _).trans (hb9.mono (by simp; omega)))
        have Ho9 := Lib.hid (own_below (Ho.out.alloc _) hb9)
        have q0 := (hb9.cell (p := ⟨wr.heap.size, 0, none⟩) (by simp)).trans (World.cell?_alloc_new _ _ _ 0)
        have q1 := (hb9.cell (p := ⟨wr.heap.size, 1, none⟩) (by simp)).trans (World.cell?_alloc_new _ _ _ 1)
        simp at q0 q1
        obtain ⟨u0, _, hd0, hf0⟩ := own_slot Ho9.out (j := nf + k) (by omega)
        have Hst := fun u => Lib.hid (Ho9.out.stored (nf + k) (.bool u))
        have HBA : Hid (BoolsAt w9 (.slice (some ⟨w1.heap.size, 0, none⟩) m m) (E ++ List.replicate (d.gates.length - k) false)) := Lib.hid (ownBools_at (b := w.heap.size) (by rw [HL.out]; exact Ho9.out))
        clear hb9
        go_wp2_with fail
        refine (litValue_any _ _ G1 _ HBA.out (by rw [HL.out]; omega) (by omega)).mono ?_
        rintro e w' ⟨rfl, rfl⟩
        rw [HA1.out]
        cases hv1 : Cir.lit E G1
        · have HEe : Hid (bools (E2 ++ List.replicate (d.gates.length - (k + 1)) false) = bools (E ++ [false] ++ List.replicate (d.gates.length - (k + 1)) false)) := Lib.hid (by rw [HS.out, hv1]; rfl)
          clear hv1 HS
          go_wp2_with fail
          go_roundw
          case rel => exact ⟨k + 1, by omega, by go_num, Lib.hid (by rw [HE2.out, HEe.out, ← (HSet false).out]; exact (Hst false).out.1), Hb9.out.grown (Hst false).out.2 Hb9.out.size (fun q hq => by have := Option.some.inj hq; omega)⟩
          case measure => simp [intOf] <;> omega
        · have HEe : Hid (bools (E2 ++ List.replicate (d.gates.length - (k + 1)) false) = bools (E ++ [Cir.lit E G2] ++ List.replicate (d.gates.length - (k + 1)) false)) := Lib.hid (by rw [HS.out, hv1, Bool.true_and])
          clear hv1 HS
          go_wp2_with fail
          refine (litValue_any _ _ G2 _ HBA.out (by rw [HL.out]; omega) (by omega)).mono ?_
          rintro e w' ⟨rfl, rfl⟩
          rw [HA2.out]
          generalize Cir.lit E G2 = u at *
          go_wp2_with fail
          go_roundw
          case rel => exact ⟨k + 1, by omega, by go_num, Lib.hid (by rw [HE2.out, HEe.out, ← (HSet u).out]; exact (Hst u).out.1), Hb9.out.grown (Hst u).out.2 Hb9.out.size (fun q hq => by have := Option.some.inj hq; omega)⟩
          case measure => simp [intOf] <;> omega
      · obtain rfl : k = d.gates.length := by omega
        have HR : Hid (res.length = m ∧ bools (Cir.evalG (d.gates.take d.gates.length) I0 ++ List.replicate (d.gates.length - d.gates.length) false) = bools res) := Lib.hid ⟨by rw [← HV.out, HE.out _ (Nat.le_refl _), Hnf.out], by rw [HV.out, Nat.sub_self]; simp⟩
        go_wp2_with fail
        go_ret
        exact ⟨_, rfl, by rw [HR.out.1, ← HR.out.2]; exact Ho.out, hb⟩
end Go.Proofs.Ytkkkjbinfdohpaa

namespace Go.Proofs.Ytkkkjbinfdohpaa
open Go.RowKit
set_option maxRecDepth 100000
namespace Cir
/-- The values of a literal, an assignment each. -/
def litAt (d : Ci) (l x : Nat) : Bool := lit (vals d (bits (x / 2 ^ d.ins) d.next.length) (bits x d.ins)) l
def litTab (d : Ci) (l n : Nat) : List Bool := (List.range n).map (litAt d l)
theorem litTab_snoc (d : Ci) (l n : Nat) : litTab d l (n + 1) = litTab d l n ++ [litAt d l n] := by
  unfold litTab
  rw [List.range_succ, List.map_append]
  rfl
theorem litTab_length (d : Ci) (l n : Nat) : (litTab d l n).length = n := by simp [litTab]
theorem litTab_get (d : Ci) (l : Nat) {n k : Nat} (h : k < n) : (litTab d l n)[k]? = some (litAt d l k) := by simp [litTab, h]
theorem litAt_flat {d : Ci} (h : d.next = []) (l x : Nat) : litAt d l x = lit (vals d [] (bits x d.ins)) l := by
  unfold litAt
  rw [h]
  rfl
/-- What TableOf answers. -/
def tabI (c : Cz) (l : Int) : Int := if valid c = true ∧ c.next = [] ∧ isLit l (vars c) = true then (tab (nat c) l.toNat (2 ^ (nat c).ins) : Nat) else -1
end Cir
set_option maxHeartbeats 4000000 in
theorem litTable_any (g : Nat) (d : Ci) (l : Nat) (w : World) (h : PCirc w g (Cir.toCz d)) (hd : Cir.Ok d) (hl : l < 2 * Cir.nvars d) :
    Calls Try.prog 41 #[.pointer (some ⟨g, 0, none⟩), .int .i64 l] w (OwnBools (Cir.litTab d l (2 ^ (d.ins + d.next.length))) w) := by
  have s1 := hd.ins
  have s2 := hd.nexts
  have s3 := hd.gatess
  have hnl : (Cir.toCz d).next.length = d.next.length := List.length_map _
  have hnv : Cir.nvars d ≤ 22 := by unfold Cir.nvars Cir.nfirst; omega
  obtain ⟨M, hM⟩ : ∃ M : Nat, M = 2 ^ (d.ins + d.next.length) := ⟨_, rfl⟩
  have hM128 : M ≤ 128 := by rw [hM]; exact Nat.pow_le_pow_right (show 0 < 2 by decide) (show _ ≤ 7 by omega)
  have HA : Hid (∀ w', Below w.heap.size w w' → Calls Try.prog 83 #[.pointer (some ⟨g, 0, none⟩)] w' fun e w'' => e = .returned (.int .i64 (M : Nat)) ∧ Below w'.heap.size w' w'') := Lib.hid fun w' hb => by
    rw [hM]
    exact assignments_any g _ (d.ins + d.next.length) w' (h.below hb) (by rw [hnl]; show (d.ins : Int) + _ = _; omega) (by omega)
  have HI : Hid (∀ (x : Nat) w', x ≤ 1000000 → Below w.heap.size w w' → Calls Try.prog 87 #[.pointer (some ⟨g, 0, none⟩), .int .i64 x] w' (OwnBools (Cir.bits x d.ins) w')) := Lib.hid fun x w' hx hb => inputBits_any g _ d.ins x w' (h.below hb) rfl (by omega) hx
  have HL : Hid (∀ (x : Nat) w', x ≤ 1000000 → Below w.heap.size w w' → Calls Try.prog 86 #[.pointer (some ⟨g, 0, none⟩), .int .i64 x] w' (OwnBools (Cir.bits (x / 2 ^ d.ins) d.next.length) w')) := Lib.hid fun x w' hx hb => latchBits_any g _ d.ins d.next.length x w' (h.below hb) rfl hnl (by omega) (by omega) hx
  have HP := Lib.hid h
  have HD := Lib.hid hd
  rw [← hM]
  clear hM h hd hnl
  go_enter Try.func41, Try.ntmps41
  go_wp2_with fail
  refine (HA.out _ (Below.refl _ _)).mono ?_
  rintro e w1 ⟨rfl, hb1⟩
  have B1 := Lib.hid hb1
  clear hb1 HA
  go_wp2_with fail
  go_loopw [5, 9] (fun v i wr => ∃ (vv : Value) (k : Nat), vv = v ∧ k ≤ M ∧ i = .int .i64 k ∧ Hid (wr.ownsRow w.heap.size 4 1 v k (bools (Cir.litTab d l k))) ∧ Below w.heap.size w wr) (fun _ i _ => M - (intOf i).toNat)
  case atStart => exact ⟨_, 0, rfl, Nat.zero_le _, rfl, Lib.hid (World.ownsRow_nil _ _ _ _), B1.out⟩
  case round =>
    obtain ⟨vv, k, hvv, hk, rfl, Ho, hb⟩ := hrel
    subst hvv
    by_cases hlt : k < M
    · have hz := hb.size
      have Hb := Lib.hid hb
      have HS : Hid (bools (Cir.litTab d l (k + 1)) = bools (Cir.litTab d l k) ++ [.bool (Cir.litAt d l k)]) := Lib.hid (by rw [Cir.litTab_snoc, bools_append]; rfl)
      have HX : Hid (Cir.lit (Cir.vals d (Cir.bits (k / 2 ^ d.ins) d.next.length) (Cir.bits k d.ins)) l = Cir.litAt d l k) := Lib.hid rfl
      have hk1 : k ≤ 1000000 := by omega
      clear hb
      go_wp2_with fail
      refine (HL.out k _ hk1 Hb.out).mono ?_
      rintro e w2 ⟨v2, rfl, hown2, hb2⟩
      have Ho2 := Lib.hid hown2
      have Hb2 := Lib.hid (Hb.out.trans (hb2.mono hz))
      have HoA := Lib.hid (own_below Ho.out hb2)
      have hz2 := Nat.le_trans hz hb2.size
      clear hown2 hb2
      go_wp2_with fail
      refine (HI.out k _ hk1 Hb2.out).mono ?_
      rintro e w3 ⟨v3, rfl, hown3, hb3⟩
      have Ho3 := Lib.hid hown3
      have Ho23 := Lib.hid (own_below Ho2.out hb3)
      have Hb3 := Lib.hid (Hb2.out.trans (hb3.mono hz2))
      have HoB := Lib.hid (own_below HoA.out hb3)
      have hz3 := Nat.le_trans hz2 hb3.size
      clear hown3 hb3
      go_wp2_with fail
      refine (evaluate_any g d v2 v3 _ _ _ (HP.out.below Hb3.out) HD.out (ownBools_at Ho23.out) (ownBools_at Ho3.out) (Cir.bits_length _ _) (Cir.bits_length _ _)).mono ?_
      rintro e w4 ⟨v4, rfl, hown4, hb4⟩
      have Ho4 := Lib.hid hown4
      have Hb4 := Lib.hid (Hb3.out.trans (hb4.mono hz3))
      have HoC := Lib.hid (own_below HoB.out hb4)
      have hz4 := Nat.le_trans hz3 hb4.size
      clear hown4 hb4
      go_wp2_with fail
      refine (litValue_any v4 _ l _ (ownBools_at Ho4.out) (by rw [Cir.vals_length d (Cir.bits_length _ _) (Cir.bits_length _ _)]; exact hl) (by omega)).mono ?_
      rintro e w' ⟨rfl, rfl⟩
      rw [HX.out]
      generalize Cir.litAt d l k = u at *
      have Hlit := Lib.hid (Row.of_own (World.ownsRow_lit (base := w4.heap.size) (e := 4) (size := 1) w4 #[.bool u] 1 (Nat.le_refl _) (by unfold maxLen; omega) rfl))
      go_wp2_with (at_builtin; refine append_bools rfl (.tmp 12) (.tmp 23) rfl w.heap.size _ k _ rfl (HoC.out.alloc _) _ 1 [.bool u] rfl Hlit.out (by simp [Value.oneCell']) (by omega) (by simp; omega) ?_; intro v7 w7 hown7 hg7 hat7; have Ho7 := Lib.hid hown7; have Hg7 := Lib.hid hg7; clear hown7 hg7 hat7)
      go_roundw
      case rel => exact ⟨_, k + 1, rfl, by omega, by go_num, Lib.hid (by rw [HS.out]; exact Ho7.out), (Hb4.out.alloc hz4 _).grown Hg7.out (Hb4.out.alloc hz4 _).size (own_ge0 HoC.out)⟩
      case measure => simp [intOf] <;> omega
    · obtain rfl : k = M := by omega
      go_wp2_with fail
      go_ret
      exact ⟨_, rfl, by rw [Cir.litTab_length]; exact Ho.out, hb⟩
theorem valid_sizes {c : Cz} (h : Cir.valid c = true) : 0 ≤ c.ins ∧ c.ins ≤ 4 ∧ c.next.length ≤ 3 ∧ c.gates.length ≤ 14 ∧ c.outs.length ≤ 3 := by
  unfold Cir.valid at h
  rw [Bool.and_eq_true, Bool.and_eq_true] at h
  have := h.1.1
  unfold Cir.sizes at this
  simpa using this
set_option maxHeartbeats 4000000 in
theorem implTable_no (v : Value) (c : Cz) (l : Int) (w : World) (h : CircAt w v c) (hno : Cir.valid c = false ∨ (Cir.valid c = true ∧ 0 < c.next.length) ∨ (Cir.valid c = true ∧ c.next.length = 0 ∧ Cir.isLit l (Cir.vars c) = false)) :
    Calls Try.prog 8 #[v, .int .i64 l] w fun e w' => e = .returned (.int .i64 (-1)) ∧ Below w.heap.size w w' := by
  obtain ⟨vn, vg, vo, rfl, r1, r2, r3⟩ := h
  obtain ⟨An, cn, hvn, hcn, hcmn⟩ := r1.shape
  subst hvn
  have hb0 : Below w.heap.size w (w.alloc (.cells #[.int .i64 c.ins, .slice An c.next.length cn, vg, vo] 26)) := (Below.refl _ _).alloc (Nat.le_refl _) _
  obtain ⟨z, p0, p1, p2, p3⟩ := PCells.boxed w c.ins (.slice An c.next.length cn) vg vo 26
  have hPC := PCirc.boxed (w := w) (c := c) 26 r1 r2 r3
  have HC : ∀ n : GW (w.alloc (.cells #[.int .i64 c.ins, .slice An c.next.length cn, vg, vo] 26)), CircAt (gw n) (.agg #[.int .i64 c.ins, .slice An c.next.length cn, vg, vo]) c := fun n =>
    ⟨_, _, _, rfl, Row.below r1 (hb0.trans ((gw_below n).mono hb0.size)), Row.below r2 (hb0.trans ((gw_below n).mono hb0.size)), Row.below r3 (hb0.trans ((gw_below n).mono hb0.size))⟩
  generalize hW : w.alloc (.cells #[.int .i64 c.ins, .slice An c.next.length cn, vg, vo] 26) = W at *
  have g0 := gw_cell p0 z
  have g1 := gw_cell p1 z
  have g2 := gw_cell p2 z
  have g3 := gw_cell p3 z
  have HV : Hid (∀ n : GW W, Calls Try.prog 38 #[.agg #[.int .i64 c.ins, .slice An c.next.length cn, vg, vo]] (gw n) fun e w' => e = .returned (.bool (Cir.valid c)) ∧ Below (gw n).heap.size (gw n) w') := Lib.hid fun n => implValid_any _ c _ (HC n)
  have B0 := Lib.hid hb0
  clear r1 r2 r3 hb0
  rcases hno with hv | ⟨hv, hl⟩ | ⟨hv, hl, hi⟩
  · rw [hv] at HV
    clear hv HC hPC
    go_enter Try.func8, Try.ntmps8
    go_wp2_with fail
    refine (HV.out ⟨W, Below.refl _ _⟩).mono ?_
    rintro e w1 ⟨rfl, hb1⟩
    have g1' := (hb1.cell (p := ⟨w.heap.size, 1, none⟩) z).trans p1
    have Hb1 : Hid (Below W.heap.size W w1) := Lib.hid hb1
    clear g0 g1 g2 g3 hb1 p0 p1 p2 p3
    go_wp2_with fail
    go_ret
    exact ⟨rfl, B0.out.trans (Hb1.out.mono B0.out.size)⟩
  · rw [hv] at HV
    have hd : decide (0 < c.next.length) = true := decide_eq_true hl
    clear hv HC hl hPC
    go_enter Try.func8, Try.ntmps8
    go_wp2_with fail
    refine (HV.out ⟨W, Below.refl _ _⟩).mono ?_
    rintro e w1 ⟨rfl, hb1⟩
    have g1' := (hb1.cell (p := ⟨w.heap.size, 1, none⟩) z).trans p1
    have Hb1 : Hid (Below W.heap.size W w1) := Lib.hid hb1
    clear g0 g1 g2 g3 hb1 p0 p1 p2 p3
    go_wp2_with fail
    go_ret
    exact ⟨rfl, B0.out.trans (Hb1.out.mono B0.out.size)⟩
  · rw [hv] at HV
    obtain ⟨s1, s2, s3, s4, s5⟩ := valid_sizes hv
    have HF : Hid (∀ n : GW W, Calls Try.prog 40 #[.pointer (some ⟨w.heap.size, 0, none⟩)] (gw n) fun e w' => e = .returned (.int .i64 (Cir.vars c)) ∧ Below (gw n).heap.size (gw n) w') := Lib.hid fun n => vars_any _ c _ (hPC.below (gw_below n)) s1 (by omega) (by omega) (by omega)
    have hvb : -1000000 ≤ Cir.vars c ∧ Cir.vars c ≤ 1000000 := by unfold Cir.vars Cir.first; omega
    have HI : Hid (∀ n : GW W, Calls Try.prog 39 #[.int .i64 l, .int .i64 (Cir.vars c)] (gw n) fun e w' => e = .returned (.bool false) ∧ gw n = w') := Lib.hid fun n => by
      have h1 := isLit_any l (Cir.vars c) (gw n) hvb.1 hvb.2
      rwa [hi] at h1
    have hd : decide (0 < c.next.length) = false := decide_eq_false (by omega)
    have hd4 : decide (4 < c.ins) = false := decide_eq_false (by omega)
    clear hv HC hi hl hPC
    generalize Cir.vars c = V at *
    go_enter Try.func8, Try.ntmps8
    go_wp2_with fail
    refine (HV.out ⟨W, Below.refl _ _⟩).mono ?_
    rintro e w1 ⟨rfl, hb1⟩
    have g1' := (hb1.cell (p := ⟨w.heap.size, 1, none⟩) z).trans p1
    have g0' := (hb1.cell (p := ⟨w.heap.size, 0, none⟩) z).trans p0
    have Hb1 : Hid (Below W.heap.size W w1) := Lib.hid hb1
    clear g0 g1 g2 g3 hb1 p0 p1 p2 p3
    go_wp2_with fail
    refine (HF.out ⟨w1, Hb1.out⟩).mono ?_
    rintro e w2 ⟨rfl, hb2⟩
    have Hb2 := Lib.hid (Hb1.out.trans (hb2.mono Hb1.out.size))
    clear hb2 g0' g1'
    go_wp2_with fail
    refine (HI.out ⟨w2, Hb2.out⟩).mono ?_
    rintro e w' ⟨rfl, rfl⟩
    simp only [gw]
    go_wp2_with fail
    go_ret
    exact ⟨rfl, B0.out.trans (Hb2.out.mono B0.out.size)⟩
set_option maxHeartbeats 4000000 in
theorem implTable_ok (v : Value) (d : Ci) (l : Nat) (w : World) (h : CircAt w v (Cir.toCz d)) (hd : Cir.Ok d) (hv : Cir.valid (Cir.toCz d) = true) (hn : d.next = []) (hl : l < 2 * Cir.nvars d) :
    Calls Try.prog 8 #[v, .int .i64 l] w fun e w' => e = .returned (.int .i64 (Cir.tab d l (2 ^ d.ins) : Nat)) ∧ Below w.heap.size w w' := by
  have s1 := hd.ins
  have s3 := hd.gatess
  have hnl : (Cir.toCz d).next.length = 0 := by simp [Cir.toCz, hn]
  have hgl : (Cir.toCz d).gates.length = d.gates.length := List.length_map _
  have hnv : Cir.nvars d ≤ 19 := by unfold Cir.nvars Cir.nfirst; rw [hn]; simp; omega
  have HCa := Lib.hid h
  have hins : (Cir.toCz d).ins = (d.ins : Int) := rfl
  obtain ⟨vn, vg, vo, rfl, r1, r2, r3⟩ := h
  obtain ⟨An, cn, hvn, hcn, hcmn⟩ := r1.shape
  rw [hnl] at hvn
  subst hvn
  have hPC : PCirc (w.alloc (.cells #[.int .i64 d.ins, .slice An 0 cn, vg, vo] 26)) w.heap.size (Cir.toCz d) := PCirc.boxed (w := w) (c := Cir.toCz d) 26 r1 r2 r3
  rw [hins] at HCa ⊢
  have hb0 : Below w.heap.size w (w.alloc (.cells #[.int .i64 d.ins, .slice An 0 cn, vg, vo] 26)) := (Below.refl _ _).alloc (Nat.le_refl _) _
  obtain ⟨z, p0, p1, p2, p3⟩ := PCells.boxed w d.ins (.slice An 0 cn) vg vo 26
  have HCW : Hid (CircAt (w.alloc (.cells #[.int .i64 d.ins, .slice An 0 cn, vg, vo] 26)) (.agg #[.int .i64 d.ins, .slice An 0 cn, vg, vo]) (Cir.toCz d)) := Lib.hid (HCa.out.below hb0)
  generalize hW : w.alloc (.cells #[.int .i64 d.ins, .slice An 0 cn, vg, vo] 26) = W at *
  have g0 := gw_cell p0 z
  have g1 := gw_cell p1 z
  have g2 := gw_cell p2 z
  have g3 := gw_cell p3 z
  have HV : Hid (∀ n : GW W, Calls Try.prog 38 #[.agg #[.int .i64 d.ins, .slice An 0 cn, vg, vo]] (gw n) fun e w' => e = .returned (.bool true) ∧ Below (gw n).heap.size (gw n) w') := Lib.hid fun n => by
    have := implValid_any _ _ _ (HCW.out.below (gw_below n))
    rwa [hv] at this
  have HF : Hid (∀ n : GW W, Calls Try.prog 40 #[.pointer (some ⟨w.heap.size, 0, none⟩)] (gw n) fun e w' => e = .returned (.int .i64 (Cir.nvars d : Nat)) ∧ Below (gw n).heap.size (gw n) w') := Lib.hid fun n => by
    have := vars_any _ _ _ (hPC.below (gw_below n)) (by show (0 : Int) ≤ (d.ins : Int); omega) (by show (d.ins : Int) ≤ 100; omega) (by omega) (by omega)
    rwa [Cir.vars_toCz] at this
  have HI : Hid (∀ n : GW W, Calls Try.prog 39 #[.int .i64 l, .int .i64 (Cir.nvars d : Nat)] (gw n) fun e w' => e = .returned (.bool true) ∧ gw n = w') := Lib.hid fun n => by
    have h1 := isLit_any l (Cir.nvars d : Nat) (gw n) (by omega) (by omega)
    rwa [show Cir.isLit (l : Int) ((Cir.nvars d : Nat) : Int) = true from decide_eq_true (by omega)] at h1
  have hd0 : decide (0 < 0) = false := rfl
  have hd4 : decide (4 < (d.ins : Int)) = false := decide_eq_false (by omega)
  have B0 := Lib.hid hb0
  have HD := Lib.hid hd
  have HP := Lib.hid hPC
  have HN := Lib.hid hn
  have Hl := Lib.hid hl
  obtain ⟨M, hM⟩ : ∃ M : Nat, M = 2 ^ d.ins := ⟨_, rfl⟩
  have hM16 : M ≤ 16 := by rw [hM]; exact Nat.pow_le_pow_right (show 0 < 2 by decide) s1
  have HM : Hid (2 ^ (d.ins + d.next.length) = M) := Lib.hid (by rw [hM, hn]; rfl)
  rw [← hM]
  clear r1 r2 r3 hb0 hd hv hn hnl hgl hM HCa hPC hl HCW
  obtain ⟨V, hV⟩ : ∃ V, Cir.nvars d = V := ⟨_, rfl⟩
  rw [hV] at HF HI hnv
  clear hV
  go_enter Try.func8, Try.ntmps8
  go_wp2_with fail
  refine (HV.out ⟨W, Below.refl _ _⟩).mono ?_
  rintro e w1 ⟨rfl, hb1⟩
  have g1' := (hb1.cell (p := ⟨w.heap.size, 1, none⟩) z).trans p1
  have g0' := (hb1.cell (p := ⟨w.heap.size, 0, none⟩) z).trans p0
  have Hb1 : Hid (Below W.heap.size W w1) := Lib.hid hb1
  clear g0 g1 g2 g3 hb1 p0 p1 p2 p3
  go_wp2_with fail
  refine (HF.out ⟨w1, Hb1.out⟩).mono ?_
  rintro e w2 ⟨rfl, hb2⟩
  have Hb2 := Lib.hid (Hb1.out.trans (hb2.mono Hb1.out.size))
  clear hb2 g0' g1'
  go_wp2_with fail
  refine (HI.out ⟨w2, Hb2.out⟩).mono ?_
  rintro e w' ⟨rfl, rfl⟩
  have e2 : gw (⟨w2, Hb2.out⟩ : GW W) = w2 := rfl
  rw [e2]
  clear e2
  have HPq := Lib.hid (HP.out.below Hb2.out)
  have Bq := Lib.hid (B0.out.trans (Hb2.out.mono B0.out.size))
  clear HV HF HI B0 HP
  go_wp2_with fail
  refine (litTable_any _ d l _ HPq.out HD.out Hl.out).mono ?_
  rintro e w3 ⟨v3, rfl, hown3, hb3⟩
  rw [Cir.litTab_length, HM.out] at hown3
  have hr3 := Row.of_own hown3
  obtain ⟨A3, c3, hv3, hc3, hcm3⟩ := hr3.shape
  subst hv3
  have Hr3 : Hid (Row w3 1 (.slice A3 M c3) M (bools (Cir.litTab d l M))) := Lib.hid hr3
  have B3 := Lib.hid (Bq.out.trans (hb3.mono Bq.out.size))
  clear hown3 hr3 hb3 hd0 hd4 hW Hb1 Hb2
  go_wp2_with fail
  go_loop [5, 31] (fun t x => ∃ k : Nat, k ≤ M ∧ x = .int .i64 k ∧ t = .int .i64 (Cir.tab d l k : Nat)) (fun _ x => M - (intOf x).toNat)
  case atStart => exact ⟨0, Nat.zero_le _, rfl, rfl⟩
  case round =>
    obtain ⟨k, hk, rfl, rfl⟩ := hrel
    by_cases hlt : k < M
    · have ht : Cir.tab d l k < 65536 := Nat.lt_of_lt_of_le (Cir.tab_lt d l k) (by
        have : (65536 : Nat) = 2 ^ 16 := by decide
        rw [this]; exact Nat.pow_le_pow_right (show 0 < 2 by decide) (by omega))
      have Hs : Hid (Cir.tab d l (k + 1) = Cir.tab d l k + (if Cir.litAt d l k then 2 ^ k else 0)) := Lib.hid (by rw [Cir.litAt_flat HN.out]; rfl)
      have hor := i64_or_nat (Cir.tab d l k) (2 ^ k) (by omega) (by
        have : 2 ^ k ≤ 2 ^ 15 := Nat.pow_le_pow_right (show 0 < 2 by decide) (by omega)
        have : (2 : Nat) ^ 15 = 32768 := by decide
        omega)
      rw [Cir.tab_or] at hor
      have hY : 2 ^ k ≤ 32768 := by
        have : (32768 : Nat) = 2 ^ 15 := by decide
        rw [this]; exact Nat.pow_le_pow_right (show 0 < 2 by decide) (by omega)
      have hYe : (2 : Int) ^ k = ((2 ^ k : Nat) : Int) := two_pow k
      generalize hYY : 2 ^ k = Y at *
      obtain ⟨b, o, c', hv, _, _, hbl, hcell⟩ := Hr3.out.open (by omega)
      injection hv with hv1 _ hv3
      subst hv1 hv3
      have hc0 := hcell k _ (show (bools (Cir.litTab d l M))[k]? = some (.bool (Cir.litAt d l k)) by unfold bools; rw [List.getElem?_map, Cir.litTab_get d l hlt]; rfl)
      have hwY : IntKind.i64.wrap (Y : Int) = (Y : Int) := IntWalk.i64_in _ (by omega)
      obtain ⟨T2, hT2⟩ : ∃ T2, Cir.tab d l (k + 1) = T2 := ⟨_, rfl⟩
      rw [hT2] at Hs
      have HT2 := Lib.hid hT2
      clear hcell hYY hT2
      cases hb : Cir.litAt d l k
      · rw [hb] at Hs hc0
        clear hor hb
        go_wp2_with fail
        go_round
        case rel => exact ⟨k + 1, by omega, by go_num, by rw [HT2.out, Hs.out]; rfl⟩
        case measure => simp [intOf] <;> omega
      · rw [hb] at Hs hc0
        clear hb
        go_wp2_with fail
        go_round
        case rel => exact ⟨k + 1, by omega, by go_num, by rw [HT2.out, Hs.out]; go_num⟩
        case measure => simp [intOf] <;> omega
    · obtain rfl : k = M := by omega
      go_wp2_with fail
      go_ret
      exact ⟨rfl, B3.out⟩
theorem next_nil {c : Cz} (h : c.next = []) : (Cir.nat c).next = [] := by unfold Cir.nat; rw [h]; rfl
theorem table_ok {c : Cz} {l : Int} (h : Cir.valid c = true ∧ c.next = [] ∧ Cir.isLit l (Cir.vars c) = true) : ∃ (d : Ci) (m : Nat), c = Cir.toCz d ∧ l = (m : Int) ∧ Cir.Ok d ∧ d.next = [] ∧ m < 2 * Cir.nvars d ∧ Cir.tabI c l = (Cir.tab d m (2 ^ d.ins) : Nat) := by
  obtain ⟨h1, h2⟩ := Cir.nat_ok h.1
  have h3 := h.2.2
  unfold Cir.isLit at h3
  rw [decide_eq_true_eq] at h3
  have h4 : Cir.vars c = (Cir.nvars (Cir.nat c) : Nat) := by
    rw [← Cir.vars_toCz, ← h1]
  exact ⟨Cir.nat c, l.toNat, h1, by omega, h2, next_nil h.2.1, by omega, by unfold Cir.tabI; rw [if_pos h]⟩
theorem table_no {c : Cz} {l : Int} (h : ¬ (Cir.valid c = true ∧ c.next = [] ∧ Cir.isLit l (Cir.vars c) = true)) : (Cir.valid c = false ∨ (Cir.valid c = true ∧ 0 < c.next.length) ∨ (Cir.valid c = true ∧ c.next.length = 0 ∧ Cir.isLit l (Cir.vars c) = false)) ∧ Cir.tabI c l = -1 := by
  refine ⟨?_, by unfold Cir.tabI; rw [if_neg h]⟩
  cases hv : Cir.valid c
  · exact .inl rfl
  · by_cases hn : c.next = []
    · refine .inr (.inr ⟨rfl, by rw [hn]; rfl, ?_⟩)
      cases hl : Cir.isLit l (Cir.vars c)
      · rfl
      · exact absurd ⟨hv, hn, hl⟩ h
    · exact .inr (.inl ⟨rfl, List.length_pos_iff.2 hn⟩)
theorem specTable_any (v : Value) (c : Cz) (l : Int) (w : World) (h : CircAt w v c) :
    Calls Try.prog 9 #[v, .int .i64 l] w fun e w' => e = .returned (.int .i64 (Cir.tabI c l)) ∧ Below w.heap.size w w' := by
  by_cases hc : Cir.valid c = true ∧ c.next = [] ∧ Cir.isLit l (Cir.vars c) = true
  · obtain ⟨d, m, rfl, rfl, hd, hn, hm, he⟩ := table_ok hc
    rw [he]
    exact specTable_ok v d m w h hd hc.1 hn hm
  · obtain ⟨h1, he⟩ := table_no hc
    rw [he]
    exact specTable_no v c l w h h1
theorem implTable_any (v : Value) (c : Cz) (l : Int) (w : World) (h : CircAt w v c) :
    Calls Try.prog 8 #[v, .int .i64 l] w fun e w' => e = .returned (.int .i64 (Cir.tabI c l)) ∧ Below w.heap.size w w' := by
  by_cases hc : Cir.valid c = true ∧ c.next = [] ∧ Cir.isLit l (Cir.vars c) = true
  · obtain ⟨d, m, rfl, rfl, hd, hn, hm, he⟩ := table_ok hc
    rw [he]
    exact implTable_ok v d m w h hd hc.1 hn hm
  · obtain ⟨h1, he⟩ := table_no hc
    rw [he]
    exact implTable_no v c l w h h1
end Go.Proofs.Ytkkkjbinfdohpaa

namespace Go.Proofs.Ytkkkjbinfdohpaa
open Go.RowKit
set_option maxRecDepth 100000
/-! Ternary simulation: the small functions. -/
theorem tlit_of {v : List Nat} {l x : Nat} (h : v[l / 2]? = some x) : Cir.tlit v l = if x = 2 ∨ l % 2 = 0 then x else 1 - x := by
  unfold Cir.tlit
  rw [List.getD_eq_getElem?_getD, h]
  rfl
def Cir.tern (x : Int) : Bool := decide (0 ≤ x ∧ x ≤ 2)
theorem all_dropT {p : Int → Bool} {l : List Int} {k : Nat} {x : Int} (h : l[k]? = some x) : (l.drop k).all p = (p x && (l.drop (k + 1)).all p) := all_drop h
end Go.Proofs.Ytkkkjbinfdohpaa

namespace Go.Proofs.Ytkkkjbinfdohpaa
open Go.RowKit
set_option maxRecDepth 100000
/-! Ternary simulation: the values of all variables, by the program. -/
theorem tlit_append {A B : List Nat} {l : Nat} (h : l / 2 < A.length) : Cir.tlit (A ++ B) l = Cir.tlit A l := by
  unfold Cir.tlit
  rw [List.getD_eq_getElem?_getD, List.getD_eq_getElem?_getD, List.getElem?_append_left h]
end Go.Proofs.Ytkkkjbinfdohpaa

namespace Go.Proofs.Ytkkkjbinfdohpaa
open Go.RowKit
set_option maxRecDepth 100000
/-! Values of lists of literals; numbers of bits. -/
theorem lits_snoc {v : List Bool} {ls : List Nat} {k l : Nat} (h : ls[k]? = some l) : Cir.lits v (ls.take (k + 1)) = Cir.lits v (ls.take k) ++ [Cir.lit v l] := by
  unfold Cir.lits
  rw [take_snoc h, List.map_append]
  rfl
theorem lits_length (v : List Bool) (ls : List Nat) : (Cir.lits v ls).length = ls.length := List.length_map _
theorem litValues_any (v vl : Value) (xs : List Bool) (ls : List Nat) (w : World) (h : BoolsAt w v xs) (hl : NatsAt w vl ls) (hlt : ∀ l ∈ ls, l < 2 * xs.length) (hn : ls.length ≤ 1000) (hx : xs.length ≤ 1000) :
    Calls Try.prog 114 #[v, vl] w (OwnBools (Cir.lits xs ls) w) := by
  obtain ⟨A, c, rfl, hc, hcm⟩ := hl.shape
  have hmk := run_make_cap (P := Try.prog) 69 4 (.bool false) 1 1 Try.underlying69 info_bool .i64 .i64 ls.length (by omega) (by omega)
  simp only [Value.cells, Nat.mul_one] at hmk
  have Hl := Lib.hid hl
  have H := Lib.hid h
  have HLt := Lib.hid hlt
  clear hl h hlt
  go_enter Try.func114, Try.ntmps114
  go_wp2_with fail
  have hown0 := World.ownsRow_made (base := w.heap.size) (e := 4) (size := 1) w (madeCells #[Value.bool false] ls.length) ls.length (Nat.le_refl _) (by unfold maxLen; omega) (by simp [madeCells])
  have hb0 : Below w.heap.size w (w.alloc (.cells (madeCells #[Value.bool false] ls.length) 4)) := (Below.refl _ _).alloc (Nat.le_refl _) _
  clear hmk
  go_loopw [5, 13] (fun v i wr => ∃ (vv : Value) (k : Nat), vv = v ∧ k ≤ ls.length ∧ i = .int .i64 k ∧ Hid (wr.ownsRow w.heap.size 4 1 v k (bools (Cir.lits xs (ls.take k)))) ∧ Below w.heap.size w wr) (fun _ i _ => ls.length - (intOf i).toNat)
  case atStart => exact ⟨_, 0, rfl, Nat.zero_le _, rfl, Lib.hid hown0, hb0⟩
  case round =>
    obtain ⟨vv, k, hvv, hk, rfl, Ho, hb⟩ := hrel
    subst hvv
    clear hown0 hb0
    by_cases hlt : k < ls.length
    · have hz := hb.size
      have Hb := Lib.hid hb
      obtain ⟨b, o, l, rfl, hbl, hx0, hs0⟩ := nats_cell (nats_row (Hl.out.below hb)) rfl hlt
      have hl2 := HLt.out l (List.mem_of_getElem? hx0.out)
      have HS : Hid (bools (Cir.lits xs (ls.take (k + 1))) = bools (Cir.lits xs (ls.take k)) ++ [.bool (Cir.lit xs l)]) := Lib.hid (by rw [lits_snoc hx0.out, bools_append]; rfl)
      have Hx := Lib.hid (Row.below H.out hb)
      clear hb
      go_wp2_with fail
      refine (litValue_any _ xs l _ Hx.out hl2 (by omega)).mono ?_
      rintro e w' ⟨rfl, rfl⟩
      generalize Cir.lit xs l = u at *
      have Hlit := Lib.hid (Row.of_own (World.ownsRow_lit (base := wr.heap.size) (e := 4) (size := 1) wr #[.bool u] 1 (Nat.le_refl _) (by unfold maxLen; omega) rfl))
      go_wp2_with (at_builtin; refine append_bools rfl (.tmp 17) (.tmp 21) rfl w.heap.size _ k _ rfl (Ho.out.alloc _) _ 1 [.bool u] rfl Hlit.out (by simp [Value.oneCell']) (by omega) (by simp; omega) ?_; intro v7 w7 hown7 hg7 hat7; have Ho7 := Lib.hid hown7; have Hg7 := Lib.hid hg7; clear hown7 hg7 hat7)
      go_roundw
      case rel => exact ⟨_, k + 1, rfl, by omega, by go_num, Lib.hid (by rw [HS.out]; exact Ho7.out), (Hb.out.alloc hz _).grown Hg7.out (Hb.out.alloc hz _).size (own_ge0 Ho.out)⟩
      case measure => simp [intOf] <;> omega
    · obtain rfl : k = ls.length := by omega
      go_wp2_with fail
      go_ret
      exact ⟨_, rfl, by rw [lits_length]; have := Ho.out; rwa [List.take_length] at this, hb⟩
theorem l2Lits_any (v vl : Value) (xs : List Bool) (ls : List Nat) (w : World) (h : BoolsAt w v xs) (hl : NatsAt w vl ls) (hlt : ∀ l ∈ ls, l < 2 * xs.length) (hn : ls.length ≤ 1000) (hx : xs.length ≤ 1000) :
    Calls Try.prog 127 #[v, vl] w (OwnBools (Cir.lits xs ls) w) := by
  obtain ⟨A, c, rfl, hc, hcm⟩ := hl.shape
  have Hl := Lib.hid hl
  have H := Lib.hid h
  have HLt := Lib.hid hlt
  clear hl h hlt
  go_enter Try.func127, Try.ntmps127
  go_wp2_with fail
  go_loopw [5, 6] (fun v i wr => ∃ (vv : Value) (k : Nat), vv = v ∧ k ≤ ls.length ∧ i = .int .i64 k ∧ Hid (wr.ownsRow w.heap.size 4 1 v k (bools (Cir.lits xs (ls.take k)))) ∧ Below w.heap.size w wr) (fun _ i _ => ls.length - (intOf i).toNat)
  case atStart => exact ⟨_, 0, rfl, Nat.zero_le _, rfl, Lib.hid (World.ownsRow_lit (base := w.heap.size) (e := 4) (size := 1) w #[] 0 (Nat.le_refl _) (by unfold maxLen; omega) rfl), (Below.refl _ _).alloc (Nat.le_refl _) _⟩
  case round =>
    obtain ⟨vv, k, hvv, hk, rfl, Ho, hb⟩ := hrel
    subst hvv
    by_cases hlt : k < ls.length
    · have hz := hb.size
      have Hb := Lib.hid hb
      obtain ⟨b, o, l, rfl, hbl, hx0, hs0⟩ := nats_cell (nats_row (Hl.out.below hb)) rfl hlt
      have hl2 := HLt.out l (List.mem_of_getElem? hx0.out)
      have HS : Hid (bools (Cir.lits xs (ls.take (k + 1))) = bools (Cir.lits xs (ls.take k)) ++ [.bool (Cir.lit xs l)]) := Lib.hid (by rw [lits_snoc hx0.out, bools_append]; rfl)
      have Hx := Lib.hid (Row.below H.out hb)
      clear hb
      go_wp2_with fail
      refine (l2Lit_any _ xs l _ Hx.out hl2 (by omega)).mono ?_
      rintro e w' ⟨rfl, rfl⟩
      generalize Cir.lit xs l = u at *
      have Hlit := Lib.hid (Row.of_own (World.ownsRow_lit (base := wr.heap.size) (e := 4) (size := 1) wr #[.bool u] 1 (Nat.le_refl _) (by unfold maxLen; omega) rfl))
      go_wp2_with (at_builtin; refine append_bools rfl (.tmp 14) (.tmp 21) rfl w.heap.size _ k _ rfl (Ho.out.alloc _) _ 1 [.bool u] rfl Hlit.out (by simp [Value.oneCell']) (by omega) (by simp; omega) ?_; intro v7 w7 hown7 hg7 hat7; have Ho7 := Lib.hid hown7; have Hg7 := Lib.hid hg7; clear hown7 hg7 hat7)
      go_roundw
      case rel => exact ⟨_, k + 1, rfl, by omega, by go_num, Lib.hid (by rw [HS.out]; exact Ho7.out), (Hb.out.alloc hz _).grown Hg7.out (Hb.out.alloc hz _).size (own_ge0 Ho.out)⟩
      case measure => simp [intOf] <;> omega
    · obtain rfl : k = ls.length := by omega
      go_wp2_with fail
      go_ret
      exact ⟨_, rfl, by rw [lits_length]; have := Ho.out; rwa [List.take_length] at this, hb⟩
/-! ### numbers -/
theorem num_append : ∀ (a b : List Bool), Cir.num (a ++ b) = Cir.num a + 2 ^ a.length * Cir.num b
  | [], b => by simp [Cir.num]
  | x :: a, b => by
    rw [List.cons_append, Cir.num, Cir.num, num_append a b, List.length_cons, Nat.pow_succ]
    rw [Nat.mul_add, ← Nat.mul_assoc, Nat.mul_comm 2 (2 ^ a.length)]
    omega
theorem num_snoc (a : List Bool) (b : Bool) : Cir.num (a ++ [b]) = Cir.num a + (if b then 2 ^ a.length else 0) := by
  rw [num_append]
  cases b <;> simp [Cir.num]
theorem num_drop {l : List Bool} {k : Nat} {b : Bool} (h : l[k]? = some b) : Cir.num (l.drop k) = (if b then 1 else 0) + 2 * Cir.num (l.drop (k + 1)) := by
  obtain ⟨hk, rfl⟩ := List.getElem?_eq_some_iff.1 h
  rw [List.drop_eq_getElem_cons hk, Cir.num]
theorem num_or {a : List Bool} : Cir.num a ||| 2 ^ a.length = Cir.num a + 2 ^ a.length := by
  have h := Cir.num_lt a
  rw [Nat.or_comm]
  have := Nat.two_pow_add_eq_or_of_lt h 1
  rw [Nat.mul_one] at this
  omega
theorem number_any (v : Value) (xs : List Bool) (w : World) (h : BoolsAt w v xs) (hx : xs.length ≤ 16) :
    Calls Try.prog 113 #[v] w fun e w' => e = .returned (.int .i64 (Cir.num xs : Nat)) ∧ w = w' := by
  obtain ⟨A, c, hv, hc, hcm⟩ := Row.shape h
  subst hv
  have H := Lib.hid h
  clear h
  go_enter Try.func113, Try.ntmps113
  go_wp2_with fail
  go_loop [3, 8] (fun x i => ∃ (k : Nat), k ≤ xs.length ∧ i = .int .i64 k ∧ x = .int .i64 (Cir.num (xs.take k) : Nat)) (fun _ i => xs.length - (intOf i).toNat)
  case atStart => exact ⟨0, Nat.zero_le _, rfl, rfl⟩
  case round =>
    obtain ⟨k, hk, rfl, rfl⟩ := hrel
    by_cases hlt : k < xs.length
    · obtain ⟨b, o, u, rfl, hbl, hx0, hs0⟩ := bools_open H.out (Below.refl _ _) rfl hlt
      have htl : (xs.take k).length = k := by rw [List.length_take]; omega
      have HS : Hid (Cir.num (xs.take (k + 1)) = Cir.num (xs.take k) + (if u then 2 ^ k else 0)) := Lib.hid (by rw [take_snoc hx0.out, num_snoc, htl])
      have hlt2 : Cir.num (xs.take k) < 65536 := by
        have h1 := Cir.num_lt (xs.take k)
        rw [htl] at h1
        have h2 : 2 ^ k ≤ 2 ^ 16 := Nat.pow_le_pow_right (show 0 < 2 by decide) (by omega)
        omega
      have hor : Cir.num (xs.take k) ||| 2 ^ k = Cir.num (xs.take k) + 2 ^ k := by have := num_or (a := xs.take k); rwa [htl] at this
      have h2 : 2 ^ k ≤ 65536 := by
        have h2 : 2 ^ k ≤ 2 ^ 16 := Nat.pow_le_pow_right (show 0 < 2 by decide) (by omega)
        omega
      have hbor := i64_or_nat (Cir.num (xs.take k)) (2 ^ k) (by omega) (by omega)
      rw [hor] at hbor
      clear hor htl
      obtain ⟨N2, hN2⟩ : ∃ N2, Cir.num (xs.take (k + 1)) = N2 := ⟨_, rfl⟩
      rw [hN2] at HS
      have HN2 := Lib.hid hN2
      clear hN2
      generalize Cir.num (xs.take k) = N at *
      have e2 : (2 : Int) ^ k = ((2 ^ k : Nat) : Int) := two_pow k
      generalize 2 ^ k = M at *
      have hwM := IntWalk.i64_in (M : Int) (by omega)
      cases u
      · go_wp2_with fail
        go_round
        case rel => exact ⟨k + 1, by omega, by go_num, by rw [HN2.out, HS.out]; rfl⟩
        case measure => simp [intOf] <;> omega
      · go_wp2_with fail
        go_round
        case rel => exact ⟨k + 1, by omega, by go_num, by rw [HN2.out, HS.out]; rfl⟩
        case measure => simp [intOf] <;> omega
    · obtain rfl : k = xs.length := by omega
      go_wp2_with fail
      go_ret
      exact ⟨rfl, rfl⟩
theorem l16Number_any (v : Value) (xs : List Bool) (w : World) (h : BoolsAt w v xs) (hx : xs.length ≤ 16) :
    Calls Try.prog 76 #[v] w fun e w' => e = .returned (.int .i64 (Cir.num xs : Nat)) ∧ w = w' := by
  obtain ⟨A, c, hv, hc, hcm⟩ := Row.shape h
  subst hv
  have H := Lib.hid h
  have H0 : Hid (xs.drop xs.length = []) := Lib.hid (List.drop_eq_nil_of_le (Nat.le_refl _))
  have HD : Hid (xs.drop 0 = xs) := Lib.hid rfl
  clear h
  go_enter Try.func76, Try.ntmps76
  go_wp2_with fail
  go_loop [3, 4] (fun x i => ∃ (k : Nat), k ≤ xs.length ∧ i = .int .i64 ((k : Int) - 1) ∧ x = .int .i64 (Cir.num (xs.drop k) : Nat)) (fun _ i => (intOf i + 1).toNat)
  case atStart => exact ⟨xs.length, Nat.le_refl _, rfl, by rw [H0.out]; rfl⟩
  case round =>
    obtain ⟨k, hk, rfl, rfl⟩ := hrel
    by_cases hlt : 0 < k
    · obtain ⟨j, rfl⟩ : ∃ j, k = j + 1 := ⟨k - 1, by omega⟩
      have ej : ((j + 1 : Nat) : Int) - 1 = (j : Int) := by omega
      rw [ej]
      obtain ⟨b, o, u, rfl, hbl, hx0, hs0⟩ := bools_open H.out (Below.refl _ _) rfl (show j < xs.length by omega)
      have HS : Hid (Cir.num (xs.drop j) = (if u then 1 else 0) + 2 * Cir.num (xs.drop (j + 1))) := Lib.hid (num_drop hx0.out)
      have hlt2 : Cir.num (xs.drop (j + 1)) < 65536 := by
        have h1 := Cir.num_lt (xs.drop (j + 1))
        have h2 : 2 ^ (xs.drop (j + 1)).length ≤ 2 ^ 16 := Nat.pow_le_pow_right (show 0 < 2 by decide) (by rw [List.length_drop]; omega)
        omega
      generalize Cir.num (xs.drop (j + 1)) = N at *
      clear ej
      cases u
      · go_wp2_with fail
        go_round
        case rel => exact ⟨j, by omega, by go_num, by rw [HS.out]; simp only [Bool.false_eq_true, if_false, Nat.zero_add]; rfl⟩
        case measure => simp [intOf] <;> omega
      · go_wp2_with fail
        go_round
        case rel => exact ⟨j, by omega, by go_num, by first | (rw [HS.out]; done) | (rw [HS.out]; go_num)⟩
        case measure => simp [intOf] <;> omega
    · obtain rfl : k = 0 := by omega
      go_wp2_with fail
      go_ret
      exact ⟨rfl, rfl⟩
end Go.Proofs.Ytkkkjbinfdohpaa

namespace Go.Proofs.Ytkkkjbinfdohpaa
open Go.RowKit
set_option maxRecDepth 100000
/-! One clock cycle, by the program. -/
theorem toCz_next (d : Ci) : (Cir.toCz d).next.length = d.next.length := List.length_map _
theorem toCz_outs (d : Ci) : (Cir.toCz d).outs.length = d.outs.length := List.length_map _
theorem toCz_gates (d : Ci) : (Cir.toCz d).gates.length = d.gates.length := List.length_map _
set_option maxHeartbeats 4000000 in
theorem cycle_any (g : Nat) (d : Ci) (s x : Nat) (w : World) (h : PCirc w g (Cir.toCz d)) (hd : Cir.Ok d) (hs : s ≤ 1000) (hx : x ≤ 1000) :
    Calls Try.prog 78 #[.pointer (some ⟨g, 0, none⟩), .int .i64 s, .int .i64 x] w fun e w' => e = .returned (.tuple #[.int .i64 (Cir.nextOf d s x : Nat), .int .i64 (Cir.num (Cir.outsOf d s x) : Nat)]) ∧ Below w.heap.size w w' := by
  have l1 := hd.ins
  have l2 := hd.nexts
  have l3 := hd.outss
  have HN := Lib.hid hd.next
  have HO := Lib.hid hd.out
  have HP := Lib.hid h
  obtain ⟨vn, vg, vo, hg, c0, c1, c2, c3, r1, r2, r3⟩ := h
  obtain ⟨An, cn, rfl, hcn, hcmn⟩ := NatsAt.shape (xs := d.next) r1
  obtain ⟨Ao, co, rfl, hco, hcmo⟩ := NatsAt.shape (xs := d.outs) r3
  have R1 : Hid (NatsAt w (.slice An d.next.length cn) d.next) := Lib.hid r1
  have R3 : Hid (NatsAt w (.slice Ao d.outs.length co) d.outs) := Lib.hid r3
  have C0 : Hid (w.cell? ⟨g, 0, none⟩ = some (.int .i64 d.ins)) := Lib.hid c0
  have C1 := Lib.hid c1
  have C3 := Lib.hid c3
  have HL : Hid ((Cir.vals d (Cir.bits s d.next.length) (Cir.bits x d.ins)).length = Cir.nvars d) := Lib.hid (Cir.vals_length d (Cir.bits_length _ _) (Cir.bits_length _ _))
  have hnv : Cir.nvars d ≤ 22 := by have := hd.gatess; unfold Cir.nvars Cir.nfirst; omega
  have Hd := Lib.hid hd
  clear r1 r2 r3 c0 c1 c2 c3 hd
  go_enter Try.func78, Try.ntmps78
  go_wp2_with fail
  refine wp_region_rs (quietRS Try.prog _ w _) quietRS_ok (by kernel_rfl) (by kernel_rfl) (by kernel_rfl) (Nat.le_of_ble_eq_true rfl) trivial trivial ?_
  refine rs_old quietRS_ok quiet_any _ (.inl rfl) _ rfl rfl ?_
  refine rs_old quietRS_ok quiet_any _ (.inl rfl) _ rfl rfl ?_
  refine rs_old quietRS_ok quiet_any _ (.inl rfl) _ rfl rfl ?_
  apply rs_eq quietRS_ok quiet_any
  · intro ρ w' ho hK
    have ho : Only _ w w' := ho
    obtain ⟨h0, -⟩ := hK
    have h0' : ρ (.tmp 11) = _ := h0
    go_simp
    try exact rfl
  apply rs_eq quietRS_ok quiet_any
  · intro ρ w' ho hK
    have ho : Only _ w w' := ho
    obtain ⟨h0, -⟩ := hK
    have h0' : ρ (.tmp 12) = _ := h0
    go_simp
    try exact rfl
  apply rs_eq quietRS_ok quiet_any
  · intro ρ w' ho hK
    have ho : Only _ w w' := ho
    obtain ⟨h0, -⟩ := hK
    have h0' : ρ (.tmp 13) = _ := h0
    have hb := only_below ho
    have q0 := (hb.cell (p := ⟨g, 0, none⟩) hg).trans C0.out
    have q1 := (hb.cell (p := ⟨g, 1, none⟩) hg).trans C1.out
    go_simp
    try exact rfl
  apply rs_eq quietRS_ok quiet_any
  · intro ρ w' ho hK
    have ho : Only _ w w' := ho
    obtain ⟨h0, -⟩ := hK
    have h0' : ρ (.tmp 14) = _ := h0
    go_simp
    try exact rfl
  refine rs_call quietRS_ok quiet_any (TBools (Cir.bits s d.next.length)) (stb_bools _) 112 _ _ rfl (fun ρ w' ho hK => by
    have ho : Only _ w w' := ho
    obtain ⟨h0, h1, h2, -⟩ := hK
    have h0' : ρ (.func 112) = .func (.func 112) #[] #[] := h0
    have h1' : ρ (.tmp 10) = _ := h1
    have h2' : ρ (.tmp 15) = _ := h2
    refine ⟨#[ρ (.tmp 10), ρ (.tmp 15)], ?_, ?_⟩
    · go_simp
    · rw [h1', h2']
      refine (bitsOf_any s d.next.length w' (by omega) (by omega)).mono ?_
      rintro e w2 ⟨v2, rfl, hO, hb⟩
      exact ⟨v2, rfl, Row.of_own hO, hb⟩) ?_
  refine rs_old quietRS_ok quiet_any _ (.inl rfl) _ rfl rfl ?_
  refine rs_old quietRS_ok quiet_any _ (.inl rfl) _ rfl rfl ?_
  apply rs_eq quietRS_ok quiet_any
  · intro ρ w' ho hK
    have ho : Only _ w w' := ho
    obtain ⟨h0, -⟩ := hK
    have h0' : ρ (.tmp 18) = _ := h0
    go_simp
    try exact rfl
  apply rs_eq quietRS_ok quiet_any
  · intro ρ w' ho hK
    have ho : Only _ w w' := ho
    obtain ⟨h0, -⟩ := hK
    have h0' : ρ (.tmp 19) = _ := h0
    go_simp
    try exact rfl
  apply rs_eq quietRS_ok quiet_any
  · intro ρ w' ho hK
    have ho : Only _ w w' := ho
    obtain ⟨h0, -⟩ := hK
    have h0' : ρ (.tmp 20) = _ := h0
    have hb := only_below ho
    have q0 := (hb.cell (p := ⟨g, 0, none⟩) hg).trans C0.out
    have q1 := (hb.cell (p := ⟨g, 1, none⟩) hg).trans C1.out
    go_simp
    try exact rfl
  refine rs_call quietRS_ok quiet_any (TBools (Cir.bits x d.ins)) (stb_bools _) 112 _ _ rfl (fun ρ w' ho hK => by
    have ho : Only _ w w' := ho
    obtain ⟨h0, h1, h2, -⟩ := hK
    have h0' : ρ (.func 112) = .func (.func 112) #[] #[] := h0
    have h1' : ρ (.tmp 17) = _ := h1
    have h2' : ρ (.tmp 21) = _ := h2
    refine ⟨#[ρ (.tmp 17), ρ (.tmp 21)], ?_, ?_⟩
    · go_simp
    · rw [h1', h2']
      refine (bitsOf_any x d.ins w' (by omega) (by omega)).mono ?_
      rintro e w2 ⟨v2, rfl, hO, hb⟩
      exact ⟨v2, rfl, Row.of_own hO, hb⟩) ?_
  refine rs_call quietRS_ok quiet_any (TBools (Cir.vals d (Cir.bits s d.next.length) (Cir.bits x d.ins))) (stb_bools _) 85 _ _ rfl (fun ρ w' ho hK => by
    have ho : Only _ w w' := ho
    obtain ⟨h0, h1, h2, h3, h4, h5, -⟩ := hK
    have h0' : ρ (.func 85) = .func (.func 85) #[] #[] := h0
    have h1' : ρ (.tmp 9) = _ := h1
    have h2' : (TBools (Cir.bits s d.next.length)) w' (ρ (.tmp 16)) := h2
    have h3' : (TBools (Cir.bits x d.ins)) w' (ρ (.tmp 22)) := h3
    have h4' : ρ (.const (Value.int IntKind.i64 (-1))) = (Value.int IntKind.i64 (-1)) := h4
    have h5' : ρ (.const (Value.bool false)) = (Value.bool false) := h5
    refine ⟨#[ρ (.tmp 9), ρ (.tmp 16), ρ (.tmp 22), ρ (.const (Value.int IntKind.i64 (-1))), ρ (.const (Value.bool false))], ?_, ?_⟩
    · go_simp
    · rw [h1', h4', h5']
      refine (evaluate_any g d _ _ _ _ w' (HP.out.below (only_below ho)) Hd.out h2' h3' (Cir.bits_length _ _) (Cir.bits_length _ _)).mono ?_
      rintro e w2 ⟨v2, rfl, hO, hb⟩
      exact ⟨v2, rfl, Row.of_own hO, hb⟩) ?_
  refine rs_same quietRS_ok quiet_any 23 14 (.inr rfl) rfl _ rfl ?_
  intro f w9 k9 hk9 hI9 ht9 hcp9
  have E0 : f 0 = _ := ht9 0 (Nat.le_of_ble_eq_true rfl)
  conv at E0 => rhs; whnf
  have E1 : f 1 = _ := ht9 1 (Nat.le_of_ble_eq_true rfl)
  conv at E1 => rhs; whnf
  have E2 : f 2 = _ := ht9 2 (Nat.le_of_ble_eq_true rfl)
  conv at E2 => rhs; whnf
  have E3 : f 3 = _ := ht9 3 (Nat.le_of_ble_eq_true rfl)
  have E4 : f 4 = _ := ht9 4 (Nat.le_of_ble_eq_true rfl)
  have E5 : f 5 = _ := ht9 5 (Nat.le_of_ble_eq_true rfl)
  have E6 : f 6 = _ := ht9 6 (Nat.le_of_ble_eq_true rfl)
  have E7 : (TBools (Cir.bits s d.next.length)) w9 (f 7) := ht9 7 (Nat.le_of_ble_eq_true rfl)
  have E8 : f 8 = _ := ht9 8 (Nat.le_of_ble_eq_true rfl)
  conv at E8 => rhs; whnf
  have E9 : f 9 = _ := ht9 9 (Nat.le_of_ble_eq_true rfl)
  conv at E9 => rhs; whnf
  have E10 : f 10 = _ := ht9 10 (Nat.le_of_ble_eq_true rfl)
  have E11 : f 11 = _ := ht9 11 (Nat.le_of_ble_eq_true rfl)
  have E12 : f 12 = _ := ht9 12 (Nat.le_of_ble_eq_true rfl)
  have E13 : (TBools (Cir.bits x d.ins)) w9 (f 13) := ht9 13 (Nat.le_of_ble_eq_true rfl)
  have E14 : (TBools (Cir.vals d (Cir.bits s d.next.length) (Cir.bits x d.ins))) w9 (f 14) := ht9 14 (Nat.le_of_ble_eq_true rfl)
  have E15 : (TBools (Cir.vals d (Cir.bits s d.next.length) (Cir.bits x d.ins))) w9 (f 15) := ht9 15 (Nat.le_of_ble_eq_true rfl)
  have Ho9 : Only _ w w9 := hI9.2.1
  have C15 : f 15 = f 14 := (hcp9 15 _ 23 14 rfl rfl rfl rfl).2
  simp only [putAll, E0, E1, E2, E3, E4, E5, E6, E8, E9, E10, E11, E12, C15, Nat.zero_add, Nat.reduceAdd, Act.put, List.setIfInBounds_toArray, List.set_cons_succ, List.set_cons_zero]
  clear E0 E1 E2 E3 E4 E5 E6 E8 E9 E10 E11 E12
  clear hI9 ht9 hcp9 hk9
  generalize f 7 = r7 at *
  generalize f 13 = r13 at *
  generalize f 14 = r14 at *
  have hb9 := only_below Ho9
  have HV9 := Lib.hid E14
  have C1 := Lib.hid ((hb9.cell (p := ⟨g, 1, none⟩) hg).trans C1.out)
  have C3 := Lib.hid ((hb9.cell (p := ⟨g, 3, none⟩) hg).trans C3.out)
  have R1 := Lib.hid (R1.out.below hb9)
  have R3 := Lib.hid (R3.out.below hb9)
  have B9 := Lib.hid hb9
  have hg9 : g < w9.heap.size := Nat.lt_of_lt_of_le hg hb9.size
  clear hb9 E7 E13 E14 Ho9 HP Hd C0
  go_wp2_with fail
  obtain ⟨w1, hw1⟩ : ∃ w1, w1 = w9 := ⟨_, rfl⟩
  subst hw1
  obtain ⟨u, hu⟩ : ∃ u, u = r14 := ⟨_, rfl⟩
  subst hu
  have HN2 : Hid (Cir.nextOf d s x = Cir.num (Cir.lits (Cir.vals d (Cir.bits s d.next.length) (Cir.bits x d.ins)) d.next)) := Lib.hid rfl
  have HO2 : Hid (Cir.num (Cir.outsOf d s x) = Cir.num (Cir.lits (Cir.vals d (Cir.bits s d.next.length) (Cir.bits x d.ins)) d.outs)) := Lib.hid rfl
  generalize Cir.vals d (Cir.bits s d.next.length) (Cir.bits x d.ins) = V at *
  refine wp_region_rs (quietRS Try.prog _ w1 _) quietRS_ok (by kernel_rfl) (by kernel_rfl) (by kernel_rfl) (Nat.le_of_ble_eq_true rfl) trivial trivial ?_
  refine rs_old quietRS_ok quiet_any _ (.inl rfl) _ rfl rfl ?_
  refine rs_old quietRS_ok quiet_any _ (.inl rfl) _ rfl rfl ?_
  apply rs_eq quietRS_ok quiet_any
  · intro ρ w' ho hK
    have ho : Only _ w1 w' := ho
    obtain ⟨h0, -⟩ := hK
    have h0' : ρ (.tmp 25) = _ := h0
    go_simp
    try exact rfl
  apply rs_eq quietRS_ok quiet_any
  · intro ρ w' ho hK
    have ho : Only _ w1 w' := ho
    obtain ⟨h0, -⟩ := hK
    have h0' : ρ (.tmp 26) = _ := h0
    go_simp
    try exact rfl
  apply rs_eq quietRS_ok quiet_any
  · intro ρ w' ho hK
    have ho : Only _ w1 w' := ho
    obtain ⟨h0, -⟩ := hK
    have h0' : ρ (.tmp 27) = _ := h0
    have hb := only_below ho
    have q0 := (hb.cell (p := ⟨g, 1, none⟩) hg9).trans C1.out
    have q1 := (hb.cell (p := ⟨g, 3, none⟩) hg9).trans C3.out
    go_simp
    try exact rfl
  refine rs_call quietRS_ok quiet_any (TBools (Cir.lits V d.next)) (stb_bools _) 114 _ _ rfl (fun ρ w' ho hK => by
    have ho : Only _ w1 w' := ho
    obtain ⟨h0, h1, h2, -⟩ := hK
    have h0' : ρ (.func 114) = .func (.func 114) #[] #[] := h0
    have h1' : ρ (.tmp 24) = _ := h1
    have h2' : ρ (.tmp 28) = _ := h2
    refine ⟨#[ρ (.tmp 24), ρ (.tmp 28)], ?_, ?_⟩
    · go_simp
    · rw [h1', h2']
      refine (litValues_any _ _ V d.next w' (Row.below HV9.out (only_below ho)) (R1.out.below (only_below ho)) (by rw [HL.out]; exact HN.out) (by omega) (by rw [HL.out]; omega)).mono ?_
      rintro e w2 ⟨v2, rfl, hO, hb⟩
      exact ⟨v2, rfl, Row.of_own hO, hb⟩) ?_
  refine rs_call quietRS_ok quiet_any (TEq (.int .i64 (Cir.num (Cir.lits V d.next) : Nat))) (stb_eq _ _) 113 _ _ rfl (fun ρ w' ho hK => by
    have ho : Only _ w1 w' := ho
    obtain ⟨h0, h1, -⟩ := hK
    have h0' : ρ (.func 113) = .func (.func 113) #[] #[] := h0
    have h1' : (TBools (Cir.lits V d.next)) w' (ρ (.tmp 29)) := h1
    refine ⟨#[ρ (.tmp 29)], ?_, ?_⟩
    · go_simp
    · skip
      refine (number_any _ _ w' h1' (by rw [lits_length]; omega)).mono ?_
      rintro e w2 ⟨rfl, rfl⟩
      exact ⟨_, rfl, rfl, Below.refl _ _⟩) ?_
  refine rs_old quietRS_ok quiet_any _ (.inl rfl) _ rfl rfl ?_
  refine rs_old quietRS_ok quiet_any _ (.inl rfl) _ rfl rfl ?_
  apply rs_eq quietRS_ok quiet_any
  · intro ρ w' ho hK
    have ho : Only _ w1 w' := ho
    obtain ⟨h0, -⟩ := hK
    have h0' : ρ (.tmp 32) = _ := h0
    go_simp
    try exact rfl
  apply rs_eq quietRS_ok quiet_any
  · intro ρ w' ho hK
    have ho : Only _ w1 w' := ho
    obtain ⟨h0, -⟩ := hK
    have h0' : ρ (.tmp 33) = _ := h0
    go_simp
    try exact rfl
  apply rs_eq quietRS_ok quiet_any
  · intro ρ w' ho hK
    have ho : Only _ w1 w' := ho
    obtain ⟨h0, -⟩ := hK
    have h0' : ρ (.tmp 34) = _ := h0
    have hb := only_below ho
    have q0 := (hb.cell (p := ⟨g, 1, none⟩) hg9).trans C1.out
    have q1 := (hb.cell (p := ⟨g, 3, none⟩) hg9).trans C3.out
    go_simp
    try exact rfl
  refine rs_call quietRS_ok quiet_any (TBools (Cir.lits V d.outs)) (stb_bools _) 114 _ _ rfl (fun ρ w' ho hK => by
    have ho : Only _ w1 w' := ho
    obtain ⟨h0, h1, h2, -⟩ := hK
    have h0' : ρ (.func 114) = .func (.func 114) #[] #[] := h0
    have h1' : ρ (.tmp 31) = _ := h1
    have h2' : ρ (.tmp 35) = _ := h2
    refine ⟨#[ρ (.tmp 31), ρ (.tmp 35)], ?_, ?_⟩
    · go_simp
    · rw [h1', h2']
      refine (litValues_any _ _ V d.outs w' (Row.below HV9.out (only_below ho)) (R3.out.below (only_below ho)) (by rw [HL.out]; exact HO.out) (by omega) (by rw [HL.out]; omega)).mono ?_
      rintro e w2 ⟨v2, rfl, hO, hb⟩
      exact ⟨v2, rfl, Row.of_own hO, hb⟩) ?_
  refine rs_call quietRS_ok quiet_any (TEq (.int .i64 (Cir.num (Cir.lits V d.outs) : Nat))) (stb_eq _ _) 113 _ _ rfl (fun ρ w' ho hK => by
    have ho : Only _ w1 w' := ho
    obtain ⟨h0, h1, -⟩ := hK
    have h0' : ρ (.func 113) = .func (.func 113) #[] #[] := h0
    have h1' : (TBools (Cir.lits V d.outs)) w' (ρ (.tmp 36)) := h1
    refine ⟨#[ρ (.tmp 36)], ?_, ?_⟩
    · go_simp
    · skip
      refine (number_any _ _ w' h1' (by rw [lits_length]; omega)).mono ?_
      rintro e w2 ⟨rfl, rfl⟩
      exact ⟨_, rfl, rfl, Below.refl _ _⟩) ?_
  refine rs_same quietRS_ok quiet_any 30 6 (.inr rfl) rfl _ rfl ?_
  refine rs_same quietRS_ok quiet_any 37 13 (.inr rfl) rfl _ rfl ?_
  intro f w9 k9 hk9 hI9 ht9 hcp9
  have E0 : f 0 = _ := ht9 0 (Nat.le_of_ble_eq_true rfl)
  conv at E0 => rhs; whnf
  have E1 : f 1 = _ := ht9 1 (Nat.le_of_ble_eq_true rfl)
  conv at E1 => rhs; whnf
  have E2 : f 2 = _ := ht9 2 (Nat.le_of_ble_eq_true rfl)
  have E3 : f 3 = _ := ht9 3 (Nat.le_of_ble_eq_true rfl)
  have E4 : f 4 = _ := ht9 4 (Nat.le_of_ble_eq_true rfl)
  have E5 : (TBools (Cir.lits V d.next)) w9 (f 5) := ht9 5 (Nat.le_of_ble_eq_true rfl)
  have E6 : f 6 = _ := ht9 6 (Nat.le_of_ble_eq_true rfl)
  have E7 : f 7 = _ := ht9 7 (Nat.le_of_ble_eq_true rfl)
  conv at E7 => rhs; whnf
  have E8 : f 8 = _ := ht9 8 (Nat.le_of_ble_eq_true rfl)
  conv at E8 => rhs; whnf
  have E9 : f 9 = _ := ht9 9 (Nat.le_of_ble_eq_true rfl)
  have E10 : f 10 = _ := ht9 10 (Nat.le_of_ble_eq_true rfl)
  have E11 : f 11 = _ := ht9 11 (Nat.le_of_ble_eq_true rfl)
  have E12 : (TBools (Cir.lits V d.outs)) w9 (f 12) := ht9 12 (Nat.le_of_ble_eq_true rfl)
  have E13 : f 13 = _ := ht9 13 (Nat.le_of_ble_eq_true rfl)
  have E14 : f 14 = _ := ht9 14 (Nat.le_of_ble_eq_true rfl)
  have E15 : f 15 = _ := ht9 15 (Nat.le_of_ble_eq_true rfl)
  have Ho9 : Only _ w1 w9 := hI9.2.1
  simp only [putAll, E0, E1, E2, E3, E4, E6, E7, E8, E9, E10, E11, E13, E14, E15, Nat.zero_add, Nat.reduceAdd, Act.put, List.setIfInBounds_toArray, List.set_cons_succ, List.set_cons_zero]
  clear E0 E1 E2 E3 E4 E6 E7 E8 E9 E10 E11 E13 E14 E15
  clear hI9 ht9 hcp9 hk9
  generalize f 5 = r5 at *
  generalize f 12 = r12 at *
  have B := Lib.hid (B9.out.trans ((only_below Ho9).mono B9.out.size))
  clear Ho9 E5 E12 HV9 B9
  go_wp2_with fail
  exact bodyPost_ret (v := .tuple #[.int .i64 (Cir.num (Cir.lits V d.next) : Nat), .int .i64 (Cir.num (Cir.lits V d.outs) : Nat)]) (by simp [results, Try.results78, go_sem]) rfl ⟨by rw [HN2.out, HO2.out], B.out⟩
end Go.Proofs.Ytkkkjbinfdohpaa

namespace Go.Proofs.Ytkkkjbinfdohpaa
open Go.RowKit
set_option maxRecDepth 100000
/-! One clock cycle, by the reference. -/
/-- What l2Step makes. -/
def OwnStep (so st : List Bool) (w : World) (e : Ending) (w' : World) : Prop := ∃ a b, e = .returned (.agg #[a, b]) ∧ w'.ownsRow w.heap.size 4 1 a so.length (bools so) ∧ w'.ownsRow w.heap.size 4 1 b st.length (bools st) ∧ Below w.heap.size w w'
/-- The result's cells. -/
def R1Step (g0 : Nat) (so st : List Bool) (w : World) : Prop := ∃ a b, g0 + 1 < w.heap.size ∧ w.cell? ⟨g0 + 1, 0, none⟩ = some a ∧ w.cell? ⟨g0 + 1, 1, none⟩ = some b ∧ w.ownsRow (g0 + 2) 4 1 a so.length (bools so) ∧ w.ownsRow (g0 + 2) 4 1 b st.length (bools st)
theorem R1Step.below {g0 : Nat} {so st : List Bool} {w w' : World} (h : R1Step g0 so st w) (hb : Below w.heap.size w w') : R1Step g0 so st w' := by
  obtain ⟨a, b, hg, c0, c1, o0, o1⟩ := h
  exact ⟨a, b, Nat.lt_of_lt_of_le hg hb.size, (hb.cell (p := ⟨g0 + 1, 0, none⟩) hg).trans c0, (hb.cell (p := ⟨g0 + 1, 1, none⟩) hg).trans c1, own_below o0 hb, own_below o1 hb⟩
set_option maxHeartbeats 4000000 in
theorem l2Step_any (v vs vi : Value) (d : Ci) (st inp : List Bool) (w : World) (h : CircAt w v (Cir.toCz d)) (hd : Cir.Ok d) (hs : BoolsAt w vs st) (hi : BoolsAt w vi inp) (h1 : inp.length = d.ins) (h2 : st.length = d.next.length) :
    Calls Try.prog 111 #[v, vs, vi] w (OwnStep (Cir.lits (Cir.vals d st inp) d.outs) (Cir.lits (Cir.vals d st inp) d.next) w) := by
  have l2 := hd.nexts
  have l3 := hd.outss
  have HN := Lib.hid hd.next
  have HO := Lib.hid hd.out
  have HC := Lib.hid h
  obtain ⟨vn, vg, vo, rfl, r1, r2, r3⟩ := h
  obtain ⟨An, cn, rfl, hcn, hcmn⟩ := NatsAt.shape (xs := d.next) r1
  obtain ⟨Ao, co, rfl, hco, hcmo⟩ := NatsAt.shape (xs := d.outs) r3
  have hins : (Cir.toCz d).ins = (d.ins : Int) := rfl
  rw [hins] at HC ⊢
  obtain ⟨ag, hag⟩ : ∃ ag, ag = Obj.cells #[.int .i64 d.ins, .slice An d.next.length cn, vg, .slice Ao d.outs.length co] 26 := ⟨_, rfl⟩
  have hbz := bel_new w ag
  obtain ⟨z, p0, p1, p2, p3⟩ := PCells.boxed w d.ins (.slice An d.next.length cn) vg (.slice Ao d.outs.length co) 26
  rw [← hag] at z p0 p1 p2 p3
  have HL : Hid ((Cir.vals d st inp).length = Cir.nvars d) := Lib.hid (Cir.vals_length d h1 h2)
  have hnv : Cir.nvars d ≤ 22 := by have := hd.gatess; have := hd.ins; unfold Cir.nvars Cir.nfirst; omega
  have hb1 := bel_new (w.alloc ag) (.cells #[.slice none 0 0, .slice none 0 0] 138)
  have B0 := Lib.hid (hbz.trans (hb1.mono hbz.size))
  have P0 := Lib.hid (PCells.below ⟨z, p0, p1, p2, p3⟩ hb1)
  have R1 : Hid (NatsAt w (.slice An d.next.length cn) d.next) := Lib.hid r1
  have R3 : Hid (NatsAt w (.slice Ao d.outs.length co) d.outs) := Lib.hid r3
  have HW : Hid (((w.alloc ag).alloc (.cells #[.slice none 0 0, .slice none 0 0] 138)).heap[w.heap.size + 1]? = some (.cells #[.slice none 0 0, .slice none 0 0] 138 (0, 0))) := Lib.hid (by
    have := heap_alloc_new (w.alloc ag) (.cells #[.slice none 0 0, .slice none 0 0] 138)
    rwa [World.size_alloc] at this)
  have HV := Lib.hid (l2Values_any _ _ _ d st inp _ (HC.out.below B0.out) hd (Row.below hs B0.out) (Row.below hi B0.out) h1 h2)
  have hsz : ((w.alloc ag).alloc (.cells #[.slice none 0 0, .slice none 0 0] 138)).heap.size = w.heap.size + 2 := by simp
  clear r1 r2 r3 z p0 p1 p2 p3 hbz hb1 hs hi h1 h2 HC hd hins
  go_enter Try.func111, Try.ntmps111
  obtain ⟨z, p0, p1, p2, p3⟩ := P0.out
  go_wp2_with fail
  rw [← hag]
  clear hag
  generalize (w.alloc ag).alloc (.cells #[.slice none 0 0, .slice none 0 0] 138) = W at *
  generalize Cir.vals d st inp = V at *
  refine HV.out.mono ?_
  rintro e w1 ⟨v1, rfl, hO1, hb1⟩
  have B1 := Lib.hid (B0.out.trans (hb1.mono B0.out.size))
  have HW1 := Lib.hid ((hb1.block _ (by omega)).trans HW.out)
  have HV1 := Lib.hid (own_mono hO1 (show w.heap.size + 2 ≤ W.heap.size by omega))
  have P1 := Lib.hid (P0.out.below hb1)
  have z1 := hb1.size
  clear hb1 hO1 P0 HW HV p0 p1 p2 p3 z B0
  obtain ⟨z, p0, p1, p2, p3⟩ := P1.out
  go_wp2_with fail
  obtain ⟨G, hG⟩ : ∃ G, G = w.heap.size + 1 := ⟨_, rfl⟩
  have hO := fun ops a => stepRS_ok (Pg := Try.prog) (ops := ops) (w := w1) (a := a) (E := fun g => g = w.heap.size + 1) (R0 := fun w' => w'.heap[w.heap.size + 1]? = some (.cells #[.slice none 0 0, .slice none 0 0] 138 (0, 0)))
    (R1 := R1Step w.heap.size (Cir.lits V d.outs) (Cir.lits V d.next)) (d := 9) (fun g hg => by have h : g = w.heap.size + 1 := hg; omega) (fun w1 w2 h hb => (hb.block _ (heap_lt h)).trans h) (fun _ _ => R1Step.below)
  have HBw : ∀ w', Only (fun g => g = w.heap.size + 1) w1 w' → Below w.heap.size w w' := fun w' ho => Only.below B1.out ho B1.out.size (fun g hg => by have h : g = w.heap.size + 1 := hg; omega)
  have HVw : ∀ w', Only (fun g => g = w.heap.size + 1) w1 w' → BoolsAt w' v1 V := fun w' ho => ownBools_at (own_only HV1.out ho (fun g hg he => by have h1 := (HV1.out.lt g hg).1; have h : g = w.heap.size + 1 := he; omega))
  refine wp_region_rs (stepRS Try.prog _ w1 _ (fun g => g = w.heap.size + 1) (fun w' => w'.heap[w.heap.size + 1]? = some (.cells #[.slice none 0 0, .slice none 0 0] 138 (0, 0))) (R1Step w.heap.size (Cir.lits V d.outs) (Cir.lits V d.next)) 9) (hO _ _) (by kernel_rfl) (by kernel_rfl) (by kernel_rfl) (Nat.le_of_ble_eq_true rfl) trivial HW1.out ?_
  refine rs_old (hO _ _) (.inl (Nat.ne_of_beq_eq_false rfl)) _ (.inl rfl) _ rfl rfl ?_
  apply rs_eq (hO _ _) (.inl (Nat.ne_of_beq_eq_false rfl))
  · intro ρ w' ho hK
    have ho : Only _ w1 w' := ho
    obtain ⟨h0, -⟩ := hK
    have h0' : ρ (.tmp 3) = _ := h0
    go_simp
    try exact rfl
  apply rs_eq (hO _ _) (.inl (Nat.ne_of_beq_eq_false rfl))
  · intro ρ w' ho hK
    have ho : Only _ w1 w' := ho
    obtain ⟨h0, -⟩ := hK
    have h0' : ρ (.tmp 13) = _ := h0
    have q1 := cell_on ho (by omega) z p1
    have q3 := cell_on ho (by omega) z p3
    go_simp
    try exact rfl
  refine rs_call (hO _ _) (.inl (Nat.ne_of_beq_eq_false rfl)) (TOwn (w.heap.size + 2) 4 1 (Cir.lits V d.outs).length (bools (Cir.lits V d.outs))) (stb_own (fun g hg => by have h : g = w.heap.size + 1 := hg; omega) _ _ _ _) 127 _ _ rfl (fun ρ w' ho hK => by
    have ho : Only _ w1 w' := ho
    obtain ⟨h0, h1, h2, -⟩ := hK
    have h0' : ρ (.func 127) = .func (.func 127) #[] #[] := h0
    have h1' : ρ (.tmp 12) = _ := h1
    have h2' : ρ (.tmp 14) = _ := h2
    refine ⟨#[ρ (.tmp 12), ρ (.tmp 14)], ?_, ?_⟩
    · go_simp
    · rw [h1', h2']
      refine (l2Lits_any _ _ V d.outs w' (HVw _ ho) (R3.out.below (HBw _ ho)) (by rw [HL.out]; exact HO.out) (by omega) (by rw [HL.out]; omega)).mono ?_
      rintro e w2 ⟨v2, rfl, hO2, hb2⟩
      exact ⟨v2, rfl, own_mono hO2 (by have := ho.size; omega), hb2⟩) ?_
  refine rs_old (hO _ _) (.inl (Nat.ne_of_beq_eq_false rfl)) _ (.inl rfl) _ rfl rfl ?_
  apply rs_eq (hO _ _) (.inl (Nat.ne_of_beq_eq_false rfl))
  · intro ρ w' ho hK
    have ho : Only _ w1 w' := ho
    obtain ⟨h0, -⟩ := hK
    have h0' : ρ (.tmp 3) = _ := h0
    go_simp
    try exact rfl
  apply rs_eq (hO _ _) (.inl (Nat.ne_of_beq_eq_false rfl))
  · intro ρ w' ho hK
    have ho : Only _ w1 w' := ho
    obtain ⟨h0, -⟩ := hK
    have h0' : ρ (.tmp 17) = _ := h0
    have q1 := cell_on ho (by omega) z p1
    have q3 := cell_on ho (by omega) z p3
    go_simp
    try exact rfl
  refine rs_call (hO _ _) (.inl (Nat.ne_of_beq_eq_false rfl)) (TOwn (w.heap.size + 2) 4 1 (Cir.lits V d.next).length (bools (Cir.lits V d.next))) (stb_own (fun g hg => by have h : g = w.heap.size + 1 := hg; omega) _ _ _ _) 127 _ _ rfl (fun ρ w' ho hK => by
    have ho : Only _ w1 w' := ho
    obtain ⟨h0, h1, h2, -⟩ := hK
    have h0' : ρ (.func 127) = .func (.func 127) #[] #[] := h0
    have h1' : ρ (.tmp 16) = _ := h1
    have h2' : ρ (.tmp 18) = _ := h2
    refine ⟨#[ρ (.tmp 16), ρ (.tmp 18)], ?_, ?_⟩
    · go_simp
    · rw [h1', h2']
      refine (l2Lits_any _ _ V d.next w' (HVw _ ho) (R1.out.below (HBw _ ho)) (by rw [HL.out]; exact HN.out) (by omega) (by rw [HL.out]; omega)).mono ?_
      rintro e w2 ⟨v2, rfl, hO2, hb2⟩
      exact ⟨v2, rfl, own_mono hO2 (by have := ho.size; omega), hb2⟩) ?_
  refine rs_look (hO _ _) (.inl (Nat.ne_of_beq_eq_false rfl)) (TOwn2 (w.heap.size + 2) 4 (Cir.lits V d.outs).length (bools (Cir.lits V d.outs)) 4 (Cir.lits V d.next).length (bools (Cir.lits V d.next))) (stb_own2 (fun g hg => by have h : g = w.heap.size + 1 := hg; omega) _ _ _ _ _ _) (fun ρ w' ho hK => by
    have ho : Only _ w1 w' := ho
    obtain ⟨h1, h2, -⟩ := hK
    have h1' : w'.ownsRow (w.heap.size + 2) 4 1 (ρ (.tmp 15)) (Cir.lits V d.outs).length (bools (Cir.lits V d.outs)) := h1
    have h2' : w'.ownsRow (w.heap.size + 2) 4 1 (ρ (.tmp 19)) (Cir.lits V d.next).length (bools (Cir.lits V d.next)) := h2
    obtain ⟨A1, c1, e1⟩ := slice_of_own h1'
    obtain ⟨A2, c2, e2⟩ := slice_of_own h2'
    refine ⟨.agg #[ρ (.tmp 15), ρ (.tmp 19)], ?_, ⟨_, _, rfl, h1', h2'⟩⟩
    go_simp) ?_
  refine rs_do rfl rfl rfl (fun ρ w' ho h0 hK => by
    have ho : Only _ w1 w' := ho
    obtain ⟨h1, h2, -⟩ := hK
    have h1' : ρ (.tmp 6) = .pointer (some ⟨w.heap.size + 1, 0, none⟩) := h1
    obtain ⟨a, b, e2, oa, ob⟩ : (TOwn2 (w.heap.size + 2) 4 (Cir.lits V d.outs).length (bools (Cir.lits V d.outs)) 4 (Cir.lits V d.next).length (bools (Cir.lits V d.next))) w' (ρ (.tmp 20)) := h2
    obtain ⟨A1, c1, rfl⟩ := slice_of_own oa
    obtain ⟨A2, c2, rfl⟩ := slice_of_own ob
    have hl := heap_lt h0
    have k0 := blk_cell h0 0
    have k1 := blk_cell h0 1
    have f0 := blk_free h0 0
    have f1 := blk_free h0 1
    simp at k0 k1
    have s1 := heap_setCell_same w' (w.heap.size + 1) 0 _ _ (.slice A1 (Cir.lits V d.outs).length c1) h0
    have s2 := heap_setCell_same _ (w.heap.size + 1) 1 _ _ (.slice A2 (Cir.lits V d.next).length c2) s1
    refine ⟨(w'.setCell ⟨w.heap.size + 1, 0, none⟩ (.slice A1 (Cir.lits V d.outs).length c1)).setCell ⟨w.heap.size + 1, 1, none⟩ (.slice A2 (Cir.lits V d.next).length c2), ?_, ⟨_, _, heap_lt s2, blk_cell s2 0, blk_cell s2 1, ?_, ?_⟩, ?_⟩
    · clear s1 s2
      go_simp
    · exact own_set (own_set oa (by omega)) (by omega)
    · exact own_set (own_set ob (by omega)) (by omega)
    · exact (Only.grown (set_grown w' (w.heap.size + 1) 0 _) (fun q hq => (Option.some.inj hq).symm)).trans (Only.grown (set_grown _ (w.heap.size + 1) 1 _) (fun q hq => (Option.some.inj hq).symm))) ?_
  intro f w9 k9 hk9 hI9 ht9 hcp9
  have E0 : f 0 = _ := ht9 0 (Nat.le_of_ble_eq_true rfl)
  conv at E0 => rhs; whnf
  have E1 : f 1 = _ := ht9 1 (Nat.le_of_ble_eq_true rfl)
  have E2 : f 2 = _ := ht9 2 (Nat.le_of_ble_eq_true rfl)
  have E3 : (TOwn (w.heap.size + 2) 4 1 (Cir.lits V d.outs).length (bools (Cir.lits V d.outs))) w9 (f 3) := ht9 3 (Nat.le_of_ble_eq_true rfl)
  have E4 : f 4 = _ := ht9 4 (Nat.le_of_ble_eq_true rfl)
  conv at E4 => rhs; whnf
  have E5 : f 5 = _ := ht9 5 (Nat.le_of_ble_eq_true rfl)
  have E6 : f 6 = _ := ht9 6 (Nat.le_of_ble_eq_true rfl)
  have E7 : (TOwn (w.heap.size + 2) 4 1 (Cir.lits V d.next).length (bools (Cir.lits V d.next))) w9 (f 7) := ht9 7 (Nat.le_of_ble_eq_true rfl)
  have E8 : (TOwn2 (w.heap.size + 2) 4 (Cir.lits V d.outs).length (bools (Cir.lits V d.outs)) 4 (Cir.lits V d.next).length (bools (Cir.lits V d.next))) w9 (f 8) := ht9 8 (Nat.le_of_ble_eq_true rfl)
  have E9 : (TAny) w9 (f 9) := ht9 9 (Nat.le_of_ble_eq_true rfl)
  have Ho9 : Only _ w1 w9 := hI9.2.1
  have HJ9 := hI9.2.2
  simp only [putAll, E0, E1, E2, E4, E5, E6, Nat.zero_add, Nat.reduceAdd, Act.put, List.setIfInBounds_toArray, List.set_cons_succ, List.set_cons_zero]
  clear E0 E1 E2 E4 E5 E6
  clear hI9 ht9 hcp9 hk9
  generalize f 3 = r3 at *
  generalize f 7 = r7 at *
  generalize f 8 = r8 at *
  generalize f 9 = r9 at *
  have hR : R1Step w.heap.size (Cir.lits V d.outs) (Cir.lits V d.next) w9 := HJ9
  have B := Lib.hid (HBw _ Ho9)
  obtain ⟨a, b, hg, c0, c1, oa, ob⟩ := hR
  have Oa := Lib.hid oa
  have Ob := Lib.hid ob
  clear E3 E7 E8 E9 HJ9 Ho9 oa ob HBw HVw hO p0 p1 p2 p3
  go_wp2_with fail
  exact bodyPost_ret (v := .agg #[a, b]) (by simp [results, Try.results111, go_sem, c0, c1]) rfl ⟨_, _, rfl, own_mono Oa.out (by omega), own_mono Ob.out (by omega), B.out⟩
end Go.Proofs.Ytkkkjbinfdohpaa

namespace Go.Proofs.Ytkkkjbinfdohpaa
open Go.RowKit Go.Op Go.Instr
set_option maxRecDepth 100000
/-! What laws do with lists and circuits. -/
theorem bits_any (x n : Nat) (w : World) (hx : x ≤ 1000000) (hn : n ≤ 16) :
    Calls Try.prog 52 #[.int .i64 x, .int .i64 n] w (OwnBools (Cir.bits x n) w) := by
  go_enter Try.func52, Try.ntmps52
  go_wp2_with fail
  go_loopw [5, 6] (fun v i wr => ∃ (vv : Value) (k : Nat), vv = v ∧ k ≤ n ∧ i = .int .i64 k ∧ Hid (wr.ownsRow w.heap.size 4 1 v k (bools (Cir.bits x k))) ∧ Below w.heap.size w wr) (fun _ i _ => n - (intOf i).toNat)
  case atStart => exact ⟨_, 0, rfl, Nat.zero_le _, rfl, Lib.hid (World.ownsRow_lit (base := w.heap.size) (e := 4) (size := 1) w #[] 0 (Nat.le_refl _) (by unfold maxLen; omega) rfl), (Below.refl _ _).alloc (Nat.le_refl _) _⟩
  case round =>
    obtain ⟨vv, k, hvv, hk, rfl, Ho, hb⟩ := hrel
    subst hvv
    by_cases hlt : k < n
    · have hz := hb.size
      have Hb := Lib.hid hb
      have HS : Hid (bools (Cir.bits x (k + 1)) = bools (Cir.bits x k) ++ [.bool (x.testBit k)]) := Lib.hid (by unfold Cir.bits; rw [List.range_succ, List.map_append, bools_append]; rfl)
      have hq : (x : Int) / 2 ^ k = ((x / 2 ^ k : Nat) : Int) := by
        rw [Int.natCast_ediv, two_pow]
      have hm := tmod_two (x / 2 ^ k)
      have he : (((x / 2 ^ k % 2 : Nat) : Int) == 1) = x.testBit k := by
        rw [Nat.testBit_eq_decide_div_mod_eq, Bool.eq_iff_iff, beq_iff_eq, decide_eq_true_iff]
        omega
      generalize x / 2 ^ k = y at hq hm he
      generalize y % 2 = r at hm he
      generalize x.testBit k = b at *
      have Hlit := Lib.hid (Row.of_own (World.ownsRow_lit (base := wr.heap.size) (e := 4) (size := 1) wr #[.bool b] 1 (Nat.le_refl _) (by unfold maxLen; omega) rfl))
      clear hb
      go_wp2_with (at_builtin; refine append_bools rfl (.tmp 13) (.tmp 19) rfl w.heap.size _ k _ rfl (Ho.out.alloc _) _ 1 [.bool b] rfl Hlit.out (by simp [Value.oneCell']) (by omega) (by simp; omega) ?_; intro v7 w7 hown7 hg7 hat7; have Ho7 := Lib.hid hown7; have Hg7 := Lib.hid hg7; clear hown7 hg7 hat7)
      go_roundw
      case rel => exact ⟨_, k + 1, rfl, by omega, by go_num, Lib.hid (by rw [HS.out]; exact Ho7.out), (Hb.out.alloc hz _).grown Hg7.out (Hb.out.alloc hz _).size (own_ge0 Ho.out)⟩
      case measure => simp [intOf] <;> omega
    · obtain rfl : k = n := by omega
      go_wp2
      go_ret
      exact ⟨_, rfl, by simpa [Cir.bits] using Ho.out, hb⟩
theorem sameInts_same (v v2 : Value) (xs : List Int) (w : World) (h : IntsAt w v xs) (h2 : IntsAt w v2 xs) :
    Calls Try.prog 109 #[v, v2] w
      fun e w' => e = .returned (.bool true) ∧ Below w.heap.size w w' := by
  obtain ⟨A, c, hv, hc, hcm⟩ := h.shape
  obtain ⟨A2, c2, hv2, hc2, hcm2⟩ := h2.shape
  subst hv hv2
  unfold maxLen at hcm hcm2
  have he1 : ((xs.length : Int) != (xs.length : Int)) = false := by simp
  go_enter Try.func109, Try.ntmps109
  go_wp2
  go_loopw [5] (fun i wr => ∃ (k : Nat), k ≤ xs.length ∧ i = .int .i64 k ∧ Below w.heap.size w wr)
    (fun i _ => xs.length - (intOf i).toNat)
  case atStart => exact ⟨0, Nat.zero_le _, rfl, Below.refl _ _⟩
  case round =>
    obtain ⟨k, hk, rfl, hd⟩ := hrel
    by_cases hlt : k < xs.length
    · obtain ⟨b, o, x, rfl, hbl, hx, hs1⟩ := ints_open h hd rfl hlt
      obtain ⟨b2, o2, y, rfl, hbl2, hy, ht1⟩ := ints_open h2 hd rfl hlt
      obtain rfl : x = y := Option.some.inj (hx.out.symm.trans hy.out)
      have Hd := Lib.hid hd
      have hz := hd.size
      have g1 := gw_cell hs1 (by simp only; omega)
      have g3 := gw_cell ht1 (by simp only; omega)
      have hne : (x != x) = false := by simp
      clear h h2 hd hs1 ht1 hx hy
      go_wp2
      refine wp_region_grow (by kernel_rfl) (by kernel_rfl) ?_
      repeat (go_big_quiet_step ((fail)))
      refine wpQuiet_nil ?_
      intro _ hw'
      obtain ⟨nq, hw''⟩ := hw'
      subst hw''
      have hgq := gw_below nq
      generalize gw nq = wq at *
      clear nq
      clear hne g1 g3
      go_wp2_with fail
      go_roundw
      case rel => exact ⟨k + 1, by omega, by go_num, Hd.out.trans (hgq.mono hz)⟩
      case measure => simp [intOf] <;> omega
    · go_wp2
      go_ret
      exact ⟨rfl, hd⟩
theorem own_set' {w : World} {base n size : Nat} {e : TypeId} {v : Value} {xs : List Value} {g i : Nat} {u : Value} (h : w.ownsRow base e size v n xs) (hg : g < base) : (w.setCell ⟨g, i, none⟩ u).ownsRow base e size v n xs :=
  own_kept h (set_grown w g i u) fun k hk e => by have := (h.lt k hk).1; have := Option.some.inj e; omega
theorem run_eql_nilB (w : World) (g n c : Nat) : (binOp .eql 69 (.slice (some ⟨g, 0, none⟩) n c) (.slice none 0 0)).run Try.prog w = .ok (.bool false) w := by kernel_rfl
set_option maxHeartbeats 4000000 in
theorem evalVars_ok (v vs vi : Value) (d : Ci) (st inp : List Bool) (w : World) (h : CircAt w v (Cir.toCz d)) (hd : Cir.Ok d) (hv : Cir.valid (Cir.toCz d) = true) (hs : BoolsAt w vs st) (hi : BoolsAt w vi inp) (h1 : inp.length = d.ins) (h2 : st.length = d.next.length) :
    Calls Try.prog 51 #[v, vs, vi] w (OwnBools (Cir.vals d st inp) w) := by
  have l1 := hd.ins
  have l2 := hd.nexts
  have HC := Lib.hid h
  have Hd := Lib.hid hd
  have HS := Lib.hid hs
  have HI := Lib.hid hi
  obtain ⟨vn, vg, vo, rfl, r1, r2, r3⟩ := h
  obtain ⟨An, cn, rfl, hcn, hcmn⟩ := NatsAt.shape (xs := d.next) r1
  obtain ⟨As, cs, rfl, hcs, hcms⟩ := Row.shape hs
  obtain ⟨Ai, ci, rfl, hci, hcmi⟩ := Row.shape hi
  have hins : (Cir.toCz d).ins = (d.ins : Int) := rfl
  have HP := Lib.hid (PCirc.boxed (c := Cir.toCz d) 26 r1 r2 r3)
  rw [hins] at HC HP ⊢
  have B0 := Lib.hid (bel_new w (.cells #[.int .i64 d.ins, .slice An d.next.length cn, vg, vo] 26))
  have PC := Lib.hid (PCells.boxed w d.ins (.slice An d.next.length cn) vg vo 26)
  have hsz : (w.alloc (.cells #[.int .i64 d.ins, .slice An d.next.length cn, vg, vo] 26)).heap.size = w.heap.size + 1 := by simp
  obtain ⟨z, p0, p1, p2, p3⟩ := PC.out
  have HV := Lib.hid (implValid_any _ _ _ (HC.out.below B0.out))
  rw [hv] at HV
  have e1 : ((st.length : Int) != (d.next.length : Int)) = false := by rw [h2]; simp
  have e2 : ((inp.length : Int) != (d.ins : Int)) = false := by rw [h1]; simp
  have H1 := Lib.hid h1
  have H2 := Lib.hid h2
  clear r1 r2 r3 hd hins hv HC hs hi hcs hci h1 h2
  go_enter Try.func51, Try.ntmps51
  go_wp2_with fail
  generalize w.alloc (.cells #[.int .i64 d.ins, .slice An d.next.length cn, vg, vo] 26) = W at *
  refine HV.out.mono ?_
  rintro e w1 ⟨rfl, hb1⟩
  have Hb1 := Lib.hid (B0.out.trans (hb1.mono B0.out.size))
  have HP1 := Lib.hid (HP.out.below hb1)
  have PC1 := Lib.hid (PC.out.below hb1)
  have z1 := hb1.size
  clear hb1 p0 p1 p2 p3 z HV HP PC
  obtain ⟨z, p0, p1, p2, p3⟩ := PC1.out
  go_wp2_with fail
  refine (evaluate_any _ d _ _ st inp _ HP1.out Hd.out (Row.below HS.out Hb1.out) (Row.below HI.out Hb1.out) H1.out H2.out).mono ?_
  rintro e w2 ⟨v2, rfl, hown2, hb2⟩
  have Ho2 := Lib.hid hown2
  have Hb2 := Lib.hid (Hb1.out.trans (hb2.mono Hb1.out.size))
  clear hown2 hb2
  go_wp2_with fail
  go_ret
  exact ⟨_, rfl, own_mono Ho2.out (by have := Hb1.out.size; omega), Hb2.out⟩
end Go.Proofs.Ytkkkjbinfdohpaa

namespace Go.Proofs.Ytkkkjbinfdohpaa
open Go.RowKit
set_option maxRecDepth 100000
/-! A drawn circuit. -/
theorem Only.aft {E F : Nat → Prop} {a b c : World} (h : Only E a b) (h' : Only F b c) (hF : ∀ g, F g → a.heap.size ≤ g ∨ E g) : Only E a c :=
  ⟨h'.os.trans h.os, h'.tape.trans h.tape, h'.output.trans h.output, Nat.le_trans h.size h'.size, fun k hk hn => (h'.block k (Nat.lt_of_lt_of_le hk h.size) (fun hf => by
    rcases hF k hf with h1 | h1
    · omega
    · exact hn h1)).trans (h.block k hk hn)⟩
theorem odd_every (n : Int) (R P : Nat) (w : World) (h : Rd w R P) (hP : P ≤ 1000000) (h1 : 0 ≤ n) (h2 : n ≤ 1000000) :
    Calls Try.prog 80 #[.pointer (some ⟨R, 0, none⟩), .int .i64 n] w (Odd R P w) := by
  by_cases hn : n = 0
  · subst hn
    refine (odd_zero R P w h).mono ?_
    rintro e w' ⟨rfl, rfl⟩
    exact ⟨false, rfl, h.more (by omega), World.grownBy.refl w _⟩
  · exact odd_any n R P w h hP (by omega) h2
theorem ix_drawn : IxOk Try.prog 23 := by
  intro w g n j h1 h2
  have : (j : Int) < (n : Int) := by omega
  simp [Instr.indexAt, go_sem, Try.underlying23, Result.andThen, h1]
theorem fn_draw : FnOk Try.prog 36 := by
  intro args w
  kernel_rfl
theorem ag_drawn : ∀ w, (isAgg 3).run Try.prog w = .ok false w := by
  intro w
  kernel_rfl
/-- pick, whatever is asked for. -/
theorem pick_upto (n : Int) (hi : Nat) (R P : Nat) (w : World) (h : Rd w R P) (hP : P ≤ 1000000) (h1 : 1 ≤ n) (h2 : n ≤ hi + 1) (h3 : hi ≤ 999999) :
    Calls Try.prog 36 #[.pointer (some ⟨R, 0, none⟩), .int .i64 n] w fun e w' => ∃ x : Int, 0 ≤ x ∧ x ≤ hi ∧ e = .returned (.int .i64 x) ∧ Rd w' R (P + 1) ∧ w.grownBy w' (some R) :=
  (pick_any n R P w h hP h1 (by omega)).mono fun _ _ ⟨x, h4, h5, h6⟩ => ⟨x, h4, by omega, h6⟩
/-- A circuit under construction: its box, its rows. -/
structure CB (gm : Nat) (c : Cz) (vN vG vO : Value) (w : World) : Prop where
  box : w.heap[gm]? = some (.cells #[.int .i64 c.ins, vN, vG, vO] 26 (0, 0))
  n : w.ownsRow (gm + 1) 3 1 vN c.next.length (ints c.next)
  g : w.ownsRow (gm + 1) 64 2 vG c.gates.length (cubes c.gates)
  o : w.ownsRow (gm + 1) 3 1 vO c.outs.length (ints c.outs)
  ng : Apart vN vG
  no : Apart vN vO
  go : Apart vG vO
theorem ints_app4 (xs : List Int) (a b c d : Int) : ints (xs ++ [a, b, c, d]) = ints xs ++ [.int .i64 a, .int .i64 b, .int .i64 c, .int .i64 d] := by simp [ints]
theorem blk_lt {w : World} {g : Nat} {o : Obj} (h : w.heap[g]? = some o) : g < w.heap.size := by
  rcases Nat.lt_or_ge g w.heap.size with hl | hl
  · exact hl
  · rw [Array.getElem?_eq_none hl] at h
    cases h
theorem CB.start {ins : Int} {w : World} (_ : True) : CB w.heap.size ⟨ins, [], [], []⟩ (.slice none 0 0) (.slice none 0 0) (.slice none 0 0) (w.alloc (.cells #[.int .i64 ins, .slice none 0 0, .slice none 0 0, .slice none 0 0] 26)) :=
  ⟨heap_alloc_new _ _, World.ownsRow_nil _ _ _ _, World.ownsRow_nil _ _ _ _, World.ownsRow_nil _ _ _ _, fun _ h => by simp [Value.ownBlock] at h, fun _ h => by simp [Value.ownBlock] at h, fun _ h => by simp [Value.ownBlock] at h⟩
section
variable {gm : Nat} {c : Cz} {vN vG vO : Value} {w w' : World}
theorem CB.only {E : Nat → Prop} (h : CB gm c vN vG vO w) (ho : Only E w w') (hE : ∀ g, gm ≤ g → ¬ E g) : CB gm c vN vG vO w' :=
  ⟨(ho.block gm (blk_lt h.box) (hE gm (Nat.le_refl _))).trans h.box, own_only h.n ho (fun g hg => hE g (by have := (h.n.lt g hg).1; omega)), own_only h.g ho (fun g hg => hE g (by have := (h.g.lt g hg).1; omega)), own_only h.o ho (fun g hg => hE g (by have := (h.o.lt g hg).1; omega)), h.ng, h.no, h.go⟩
theorem CB.drawn {R : Nat} (h : CB gm c vN vG vO w) (hg : w.grownBy w' (some R)) (hR : R < gm) : CB gm c vN vG vO w' :=
  h.only (E := (· = R)) (Only.grown hg fun k hk => (Option.some.inj hk).symm) fun g hg e => by subst e; omega
theorem CB.below (h : CB gm c vN vG vO w) (hb : Below w.heap.size w w') : CB gm c vN vG vO w' :=
  h.only (E := fun _ => False) (Only.of_below _ hb) fun _ _ e => e
theorem CB.cells (h : CB gm c vN vG vO w) : gm < w.heap.size ∧ w.cell? ⟨gm, 0, none⟩ = some (.int .i64 c.ins) ∧ w.cell? ⟨gm, 1, none⟩ = some vN ∧ w.cell? ⟨gm, 2, none⟩ = some vG ∧ w.cell? ⟨gm, 3, none⟩ = some vO :=
  ⟨blk_lt h.box, blk_cell h.box 0, blk_cell h.box 1, blk_cell h.box 2, blk_cell h.box 3⟩
theorem CB.free (h : CB gm c vN vG vO w) : w.frozen? ⟨gm, 0, none⟩ = false ∧ w.frozen? ⟨gm, 1, none⟩ = false ∧ w.frozen? ⟨gm, 2, none⟩ = false ∧ w.frozen? ⟨gm, 3, none⟩ = false :=
  ⟨blk_free h.box 0, blk_free h.box 1, blk_free h.box 2, blk_free h.box 3⟩
/-- Another number in the box. -/
theorem CB.setIns (h : CB gm c vN vG vO w) (x : Int) : CB gm { c with ins := x } vN vG vO (w.setCell ⟨gm, 0, none⟩ (.int .i64 x)) :=
  ⟨heap_setCell_same w gm 0 _ _ _ h.box, own_set' h.n (Nat.lt_succ_self _), own_set' h.g (Nat.lt_succ_self _), own_set' h.o (Nat.lt_succ_self _), h.ng, h.no, h.go⟩
theorem apart_at {v v' u : Value} (h : Apart v u) (hat : ∀ g, v'.ownBlock = some g → v.ownBlock = some g ∨ w.heap.size ≤ g) (hu : ∀ g, u.ownBlock = some g → g < w.heap.size) : Apart v' u := fun g hg e => by
  rcases hat g hg with h1 | h1
  · exact h g h1 e
  · have := hu g e; omega
theorem at_of {v v' : Value} (hat : v'.ownBlock = v.ownBlock ∨ v'.ownBlock = some w.heap.size) : ∀ g, v'.ownBlock = some g → v.ownBlock = some g ∨ w.heap.size ≤ g := fun g hg => by
  rcases hat with h | h
  · exact .inl (h ▸ hg)
  · rw [h] at hg; exact .inr (by have := Option.some.inj hg; omega)
/-- More of a row: what lies elsewhere. w0: the world in which the row was v; w1: that of the append. -/
theorem CB.addN {w1 : World} {E : Nat → Prop} {v' : Value} {xs : List Int} (h : CB gm c vN vG vO w) (ho : Only E w w1) (hE : ∀ g, gm ≤ g → vN.ownBlock ≠ some g → ¬ E g) (hown : w1.ownsRow (gm + 1) 3 1 v' xs.length (ints xs)) (hat : ∀ g, v'.ownBlock = some g → vN.ownBlock = some g ∨ w.heap.size ≤ g) :
    CB gm { c with next := xs } v' vG vO (w1.setCell ⟨gm, 1, none⟩ v') := by
  have hgm : vN.ownBlock ≠ some gm := fun e => by have := (h.n.lt gm e).1; omega
  have hbox := (ho.block gm (blk_lt h.box) (hE gm (Nat.le_refl _) hgm)).trans h.box
  exact ⟨heap_setCell_same w1 gm 1 _ _ _ hbox, own_set' hown (Nat.lt_succ_self _), own_set' (own_only h.g ho fun g hg => hE g (by have := (h.g.lt g hg).1; omega) fun e => h.ng g e hg) (Nat.lt_succ_self _), own_set' (own_only h.o ho fun g hg => hE g (by have := (h.o.lt g hg).1; omega) fun e => h.no g e hg) (Nat.lt_succ_self _), apart_at h.ng hat fun g hg => (h.g.lt g hg).2, apart_at h.no hat fun g hg => (h.o.lt g hg).2, h.go⟩
theorem CB.addG {w1 : World} {E : Nat → Prop} {v' : Value} {xs : List (Int × Int)} (h : CB gm c vN vG vO w) (ho : Only E w w1) (hE : ∀ g, gm ≤ g → vG.ownBlock ≠ some g → ¬ E g) (hown : w1.ownsRow (gm + 1) 64 2 v' xs.length (cubes xs)) (hat : ∀ g, v'.ownBlock = some g → vG.ownBlock = some g ∨ w.heap.size ≤ g) :
    CB gm { c with gates := xs } vN v' vO (w1.setCell ⟨gm, 2, none⟩ v') := by
  have hgm : vG.ownBlock ≠ some gm := fun e => by have := (h.g.lt gm e).1; omega
  have hbox := (ho.block gm (blk_lt h.box) (hE gm (Nat.le_refl _) hgm)).trans h.box
  exact ⟨heap_setCell_same w1 gm 2 _ _ _ hbox, own_set' (own_only h.n ho fun g hg => hE g (by have := (h.n.lt g hg).1; omega) fun e => h.ng g hg e) (Nat.lt_succ_self _), own_set' hown (Nat.lt_succ_self _), own_set' (own_only h.o ho fun g hg => hE g (by have := (h.o.lt g hg).1; omega) fun e => h.go g e hg) (Nat.lt_succ_self _), (apart_at h.ng.symm hat fun g hg => (h.n.lt g hg).2).symm, h.no, apart_at h.go hat fun g hg => (h.o.lt g hg).2⟩
theorem CB.addO {w1 : World} {E : Nat → Prop} {v' : Value} {xs : List Int} (h : CB gm c vN vG vO w) (ho : Only E w w1) (hE : ∀ g, gm ≤ g → vO.ownBlock ≠ some g → ¬ E g) (hown : w1.ownsRow (gm + 1) 3 1 v' xs.length (ints xs)) (hat : ∀ g, v'.ownBlock = some g → vO.ownBlock = some g ∨ w.heap.size ≤ g) :
    CB gm { c with outs := xs } vN vG v' (w1.setCell ⟨gm, 3, none⟩ v') := by
  have hgm : vO.ownBlock ≠ some gm := fun e => by have := (h.o.lt gm e).1; omega
  have hbox := (ho.block gm (blk_lt h.box) (hE gm (Nat.le_refl _) hgm)).trans h.box
  exact ⟨heap_setCell_same w1 gm 3 _ _ _ hbox, own_set' (own_only h.n ho fun g hg => hE g (by have := (h.n.lt g hg).1; omega) fun e => h.no g hg e) (Nat.lt_succ_self _), own_set' (own_only h.g ho fun g hg => hE g (by have := (h.g.lt g hg).1; omega) fun e => h.go g hg e) (Nat.lt_succ_self _), own_set' hown (Nat.lt_succ_self _), h.ng, (apart_at h.no.symm hat fun g hg => (h.n.lt g hg).2).symm, (apart_at h.go.symm hat fun g hg => (h.g.lt g hg).2).symm⟩
end
theorem info_gate' : (Try.prog.info? 64).map (fun i => (i.zero, i.size, i.bytes)) = some (some (.agg #[.int .i64 0, .int .i64 0]), 2, 16) := by kernel_rfl
theorem append_gates {w : World} {ops : Array Oper} {rest : List Oper} {o : Oper} {a : Act} {Q : Exit → Act → World → Prop} (hgd : o.guard = none) (s x : Operand)
    (ho : o.op = .call { callee := .builtin .append, args := #[s, x], argTypes := #[24, 24] })
    (base : Nat) (v : Value) (n : Nat) (xs : List Value) (hs : a.eval s = v) (hown : w.ownsRow base 64 2 v n xs) (sv : Value) (m : Nat) (news : List Value) (hx : a.eval x = sv) (hr : Row w 2 sv m news) (h1 : ∀ u ∈ news, u.oneCell' = true)
    (h63 : n + m ≤ 1000000) (hbase : base ≤ w.heap.size)
    (h : ∀ v' w', w'.ownsRow base 64 2 v' (n + m) (xs ++ news) → w.grownBy w' v.ownBlock → (v'.ownBlock = v.ownBlock ∨ v'.ownBlock = some w.heap.size) → wpList Try.prog ops Q rest (a.put o.dst v') w') : wpList Try.prog ops Q (o :: rest) a w := by
  obtain ⟨i, hi, hz0, hz1, hz2⟩ := info_parts info_gate'
  exact wpList_append_at hgd s x 24 ho base 64 i _ 2 16 Try.underlying24 hi hz0 hz1 hz2 rfl (by decide) v n xs hs hown sv m news hx hr h1 (by unfold maxLen; omega) (by omega) hbase h
/-- The append's world, as the box sees it. -/
theorem app_only {w w' : World} {o : Obj} {v : Value} (hg : (w.alloc o).grownBy w' v.ownBlock) : Only (fun g => v.ownBlock = some g) w w' :=
  (Only.of_below _ (bel_new w o)).trans (Only.grown hg fun _ hk => hk)
theorem app_at {w : World} {o : Obj} {v v' : Value} (hat : v'.ownBlock = v.ownBlock ∨ v'.ownBlock = some (w.alloc o).heap.size) : ∀ g, v'.ownBlock = some g → v.ownBlock = some g ∨ w.heap.size ≤ g := fun g hg =>
  (at_of hat g hg).imp id fun h => by rw [World.size_alloc] at h; omega
theorem app_rd {w w' : World} {o : Obj} {v : Value} {R P B n size : Nat} {e : TypeId} {xs : List Value} (h : Rd w R P) (hg : (w.alloc o).grownBy w' v.ownBlock) (hown : w.ownsRow B e size v n xs) (hB : R < B) : Rd w' R P :=
  (h.alloc o).grown hg fun k hk => by have := (hown.lt k hk).1; omega
def gsLen (gm : Nat) (w : World) : Nat := match w.cell? ⟨gm, 2, none⟩ with
  | some (.slice _ n _) => n
  | _ => 0
theorem gsLen_is {gm : Nat} {c : Cz} {vN vG vO : Value} {w : World} (h : CB gm c vN vG vO w) : gsLen gm w = c.gates.length := by
  obtain ⟨A, k, e⟩ := slice_of_own h.g
  subst e
  obtain ⟨_, _, _, h2, _⟩ := h.cells
  unfold gsLen
  rw [h2]
/-- A circuit of the call's own. -/
def OwnC (B : Nat) (v : Value) (c : Cz) (w : World) : Prop := ∃ vN vG vO, v = .agg #[.int .i64 c.ins, vN, vG, vO] ∧ w.ownsRow B 3 1 vN c.next.length (ints c.next) ∧ w.ownsRow B 64 2 vG c.gates.length (cubes c.gates) ∧ w.ownsRow B 3 1 vO c.outs.length (ints c.outs) ∧ Apart vN vG ∧ Apart vN vO ∧ Apart vG vO
theorem OwnC.at {B : Nat} {v : Value} {c : Cz} {w : World} (h : OwnC B v c w) : CircAt w v c := by
  obtain ⟨vN, vG, vO, rfl, h1, h2, h3, -⟩ := h
  exact ⟨vN, vG, vO, rfl, Row.of_own h1, Row.of_own h2, Row.of_own h3⟩
def LitS (x : Int) : Prop := -100 ≤ x ∧ x ≤ 1000
/-- What is known of a drawn circuit's numbers. -/
structure Small (c : Cz) : Prop where
  i1 : -1 ≤ c.ins
  i2 : c.ins ≤ 5
  n : c.next.length ≤ 4
  g : c.gates.length ≤ 15
  o : c.outs.length ≤ 7
  ln : ∀ x ∈ c.next, LitS x
  lg : ∀ x ∈ c.gates, LitS x.1 ∧ LitS x.2
  lo : ∀ x ∈ c.outs, LitS x
def DrewC (R P : Nat) (w : World) (e : Ending) (w' : World) : Prop := ∃ v c, e = .returned v ∧ OwnC w.heap.size v c w' ∧ Small c ∧ Rd w' R (P + 10000) ∧ w.grownBy w' (some R)
theorem only_drawn {E : Nat → Prop} {a b c : World} {R : Nat} (h : Only E a b) (hg : b.grownBy c (some R)) (hR : a.heap.size ≤ R ∨ E R) : Only E a c :=
  h.aft (F := (· = R)) (Only.grown hg fun k hk => (Option.some.inj hk).symm) fun g hg => by subst hg; exact hR
theorem only_alloc {E : Nat → Prop} {a b : World} (h : Only E a b) (o : Obj) : Only E a (b.alloc o) :=
  h.trans (Only.of_below _ (bel_new b o))
theorem only_set {E : Nat → Prop} {a b : World} {g i : Nat} {v : Value} (h : Only E a b) (hg : a.heap.size ≤ g) : Only E a (b.setCell ⟨g, i, none⟩ v) :=
  h.aft (F := (· = g)) (Only.grown (set_grown b g i v) fun k hk => (Option.some.inj hk).symm) fun k hk => by subst hk; exact .inl hg
theorem rd_set {w : World} {R P g i : Nat} {v : Value} (h : Rd w R P) (hg : R < g) : Rd (w.setCell ⟨g, i, none⟩ v) R P :=
  h.grown (set_grown w g i v) fun k hk => by have := Option.some.inj hk; omega
theorem res_set {w : World} {g k i : Nat} {o : Obj} {v : Value} (h : w.heap[k]? = some o) (hg : k ≠ g) : (w.setCell ⟨g, i, none⟩ v).heap[k]? = some o :=
  ((set_grown w g i v).block k (blk_lt h) (fun e => hg (Option.some.inj e))).trans h
theorem res_grown {w w' : World} {k : Nat} {r : Option Nat} {o : Obj} (h : w.heap[k]? = some o) (hg : w.grownBy w' r) (hr : r ≠ some k) : w'.heap[k]? = some o :=
  (hg.block k (blk_lt h) (fun e => hr e.symm)).trans h
theorem cb_set {gm : Nat} {c : Cz} {vN vG vO : Value} {w : World} (h : CB gm c vN vG vO w) {k i : Nat} (u : Value) (hk : k < gm) : CB gm c vN vG vO (w.setCell ⟨k, i, none⟩ u) :=
  h.only (E := (· = k)) (Only.grown (set_grown w k i u) fun g hg => (Option.some.inj hg).symm) fun g hg e => by subst e; omega
theorem finC {gm : Nat} {c : Cz} {vN vG vO : Value} {w0 w : World} {R P Q : Nat} (HC : CB gm c vN vG vO w) (HO : Only (· = R) w0 w) (Hr : Rd w R Q) (hk : w0.heap.size < gm) (hR : R < w0.heap.size) (hQ : Q ≤ P + 10000) (hs : Small c) (a b d e : Value) :
    DrewC R P w0 (.returned (.agg #[.int .i64 c.ins, vN, vG, vO])) ((((w.setCell ⟨w0.heap.size, 0, none⟩ a).setCell ⟨w0.heap.size, 1, none⟩ b).setCell ⟨w0.heap.size, 2, none⟩ d).setCell ⟨w0.heap.size, 3, none⟩ e) := by
  have H := cb_set (i := 3) (cb_set (i := 2) (cb_set (i := 1) (cb_set (i := 0) HC a hk) b hk) d hk) e hk
  exact ⟨_, c, rfl, ⟨vN, vG, vO, rfl, own_mono H.n (by omega), own_mono H.g (by omega), own_mono H.o (by omega), H.ng, H.no, H.go⟩, hs, (rd_set (rd_set (rd_set (rd_set Hr hR) hR) hR) hR).more hQ, (only_set (only_set (only_set (only_set HO (Nat.le_refl _)) (Nat.le_refl _)) (Nat.le_refl _)) (Nat.le_refl _)).grownBy⟩
end Go.Proofs.Ytkkkjbinfdohpaa
