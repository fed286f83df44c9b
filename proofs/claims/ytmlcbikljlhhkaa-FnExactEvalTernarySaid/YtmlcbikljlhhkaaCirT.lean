import Derived.Test.YtmlcbikljlhhkaaCirF
namespace Go.Proofs.Ytmlcbikljlhhkaa
open Go.RowKit
namespace Cir
/-- The table of a literal of a circuit without latches, from its lowest bits. -/
def tab (c : Ci) (l : Nat) : Nat → Nat
  | 0 => 0
  | k + 1 => tab c l k + (if lit (vals c [] (bits k c.ins)) l then 2 ^ k else 0)
theorem tab_lt (c : Ci) (l : Nat) : ∀ k, tab c l k < 2 ^ k
  | 0 => by simp [tab]
  | k + 1 => by
    have := tab_lt c l k
    rw [tab, Nat.pow_succ]
    split <;> omega
theorem tab_or (c : Ci) (l k : Nat) : tab c l k ||| 2 ^ k = tab c l k + 2 ^ k := by
  have h := Nat.two_pow_add_eq_or_of_lt (tab_lt c l k) 1
  rw [Nat.mul_one] at h
  rw [Nat.or_comm, ← h, Nat.add_comm]
end Cir
set_option maxRecDepth 100000
set_option maxHeartbeats 4000000
theorem specTable_no (v : Value) (c : Cz) (l : Int) (w : World) (h : CircAt w v c) (hno : Cir.valid c = false ∨ (Cir.valid c = true ∧ 0 < c.next.length) ∨ (Cir.valid c = true ∧ c.next.length = 0 ∧ Cir.isLit l (Cir.vars c) = false)) :
    Calls Try.prog 16 #[v, .int .i64 l] w fun e w' => e = .returned (.int .i64 (-1)) ∧ Below w.heap.size w w' := by
  have hsz : Cir.valid c = true → 0 ≤ c.ins ∧ c.ins ≤ 4 ∧ c.next.length ≤ 3 ∧ c.gates.length ≤ 14 ∧ c.outs.length ≤ 3 := fun h => by
    unfold Cir.valid at h
    rw [Bool.and_eq_true, Bool.and_eq_true] at h
    have := h.1.1
    unfold Cir.sizes at this
    simpa using this
  obtain ⟨vn, vg, vo, rfl, r1, r2, r3⟩ := h
  obtain ⟨An, cn, hvn, hcn, hcmn⟩ := r1.shape
  obtain ⟨Ag, cg, hvg, hcg, hcmg⟩ := Row.shape r2
  subst hvn hvg
  have hb0 : Below w.heap.size w (w.alloc (.cells #[.int .i64 c.ins, .slice An c.next.length cn, .slice Ag c.gates.length cg, vo] 30)) := (Below.refl _ _).alloc (Nat.le_refl _) _
  obtain ⟨z, p0, p1, p2, p3⟩ := PCells.boxed w c.ins (.slice An c.next.length cn) (.slice Ag c.gates.length cg) vo 30
  have HC : ∀ n : GW (w.alloc (.cells #[.int .i64 c.ins, .slice An c.next.length cn, .slice Ag c.gates.length cg, vo] 30)), CircAt (gw n) (.agg #[.int .i64 c.ins, .slice An c.next.length cn, .slice Ag c.gates.length cg, vo]) c := fun n =>
    ⟨_, _, _, rfl, Row.below r1 (hb0.trans ((gw_below n).mono hb0.size)), Row.below r2 (hb0.trans ((gw_below n).mono hb0.size)), Row.below r3 (hb0.trans ((gw_below n).mono hb0.size))⟩
  generalize hW : w.alloc (.cells #[.int .i64 c.ins, .slice An c.next.length cn, .slice Ag c.gates.length cg, vo] 30) = W at *
  have g0 := gw_cell p0 z
  have g1 := gw_cell p1 z
  have g2 := gw_cell p2 z
  have g3 := gw_cell p3 z
  have HV : Hid (∀ n : GW W, Calls Try.prog 59 #[.agg #[.int .i64 c.ins, .slice An c.next.length cn, .slice Ag c.gates.length cg, vo]] (gw n) fun e w' => e = .returned (.bool (Cir.valid c)) ∧ Below (gw n).heap.size (gw n) w') := Lib.hid fun n => specValid_any _ c _ (HC n)
  have B0 := Lib.hid hb0
  clear r1 r2 r3 p0 p1 p2 p3 hb0
  rcases hno with hv | ⟨hv, hl⟩ | ⟨hv, hl, hi⟩
  · rw [hv] at HV
    clear hv hsz HC
    go_enter Try.func16, Try.ntmps16
    go_wp2_with fail
    refine wp_region_grow (by kernel_rfl) (by kernel_rfl) ?_
    repeat (go_big_quiet_step ((first | (go_at_call 59; exact grow_call (HV.out _)))))
    refine wpQuiet_nil ?_
    intro _ hw'
    obtain ⟨nq, hw''⟩ := hw'
    subst hw''
    have hgq := gw_below nq
    generalize gw nq = wq at *
    clear nq
    go_wp2_with fail
    go_ret
    exact ⟨rfl, B0.out.trans (hgq.mono B0.out.size)⟩
  · rw [hv] at HV
    have hd : decide (0 < c.next.length) = true := decide_eq_true hl
    clear hv hsz HC hl
    go_enter Try.func16, Try.ntmps16
    go_wp2_with fail
    refine wp_region_grow (by kernel_rfl) (by kernel_rfl) ?_
    repeat (go_big_quiet_step ((first | (go_at_call 59; exact grow_call (HV.out _)))))
    refine wpQuiet_nil ?_
    intro _ hw'
    obtain ⟨nq, hw''⟩ := hw'
    subst hw''
    have hgq := gw_below nq
    generalize gw nq = wq at *
    clear nq
    go_wp2_with fail
    go_ret
    exact ⟨rfl, B0.out.trans (hgq.mono B0.out.size)⟩
  · rw [hv] at HV
    obtain ⟨s1, s2, s3, s4, s5⟩ := hsz hv
    have HF : Hid (∀ n : GW W, Calls Try.prog 61 #[.agg #[.int .i64 c.ins, .slice An c.next.length cn, .slice Ag c.gates.length cg, vo]] (gw n) fun e w' => e = .returned (.int .i64 (Cir.first c)) ∧ Below (gw n).heap.size (gw n) w') := Lib.hid fun n => l1First_any _ c _ (HC n) s1 (by omega) (by omega)
    have HI : Hid (∀ n : GW W, Calls Try.prog 60 #[.int .i64 l, .int .i64 0, .int .i64 (2 * (Cir.first c + c.gates.length) - 1)] (gw n) fun e w' => e = .returned (.bool false) ∧ gw n = w') := Lib.hid fun n => by
      have h1 := l1In_any l 0 (2 * (Cir.first c + c.gates.length) - 1) (gw n)
      rw [show decide (0 ≤ l ∧ l ≤ 2 * (Cir.first c + c.gates.length) - 1) = Cir.isLit l (Cir.vars c) from isLit_in l (Cir.vars c), hi] at h1
      exact h1
    have hf : 1 ≤ Cir.first c ∧ Cir.first c ≤ 10 := by unfold Cir.first; omega
    obtain ⟨hf1, hf2⟩ := hf
    have hd : decide (0 < c.next.length) = false := decide_eq_false (by omega)
    clear hv hsz HC hi hl
    generalize Cir.first c = F at *
    go_enter Try.func16, Try.ntmps16
    go_wp2_with fail
    refine wp_region_grow (by kernel_rfl) (by kernel_rfl) ?_
    repeat (go_big_quiet_step ((first | (go_at_call 59; exact grow_call (HV.out _)) | (go_at_call 61; exact grow_call (HF.out _)) | (go_at_call 60; exact grow_same (HI.out _)))))
    refine wpQuiet_nil ?_
    intro _ hw'
    obtain ⟨nq, hw''⟩ := hw'
    subst hw''
    have hgq := gw_below nq
    generalize gw nq = wq at *
    clear nq
    go_wp2_with fail
    go_ret
    exact ⟨rfl, B0.out.trans (hgq.mono B0.out.size)⟩
end Go.Proofs.Ytmlcbikljlhhkaa
