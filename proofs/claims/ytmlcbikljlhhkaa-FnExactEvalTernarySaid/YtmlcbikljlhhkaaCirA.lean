import Derived.Test.YtmlcbikljlhhkaaProg
import Derived.Test.YtmlcbikljlhhkaaCirM
import Derived.Test.YtmlcbikljlhhkaaPair
import Derived.Test.YtmlcbikljlhhkaaIntS
import Derived.Test.YtmlcbikljlhhkaaLone
import Derived.Test.YtmlcbikljlhhkaaGrow
import Derived.Test.YtmlcbikljlhhkaaStep
namespace Go.Proofs.Ytmlcbikljlhhkaa
open Go.RowKit
/-- A circuit as a value. -/
def CircAt (w : World) (v : Value) (c : Cz) : Prop := ∃ vn vg vo, v = .agg #[.int .i64 c.ins, vn, vg, vo] ∧ IntsAt w vn c.next ∧ CubesAt w vg c.gates ∧ IntsAt w vo c.outs
/-- A circuit behind a pointer. -/
def PCirc (w : World) (g : Nat) (c : Cz) : Prop := ∃ vn vg vo, g < w.heap.size ∧ w.cell? ⟨g, 0, none⟩ = some (.int .i64 c.ins) ∧ w.cell? ⟨g, 1, none⟩ = some vn ∧ w.cell? ⟨g, 2, none⟩ = some vg ∧ w.cell? ⟨g, 3, none⟩ = some vo ∧ IntsAt w vn c.next ∧ CubesAt w vg c.gates ∧ IntsAt w vo c.outs
theorem CircAt.below {w w' : World} {v : Value} {c : Cz} (h : CircAt w v c) (hb : Below w.heap.size w w') : CircAt w' v c := by
  obtain ⟨vn, vg, vo, hv, h1, h2, h3⟩ := h
  exact ⟨vn, vg, vo, hv, Row.below h1 hb, Row.below h2 hb, Row.below h3 hb⟩
theorem PCirc.below {w w' : World} {g : Nat} {c : Cz} (h : PCirc w g c) (hb : Below w.heap.size w w') : PCirc w' g c := by
  obtain ⟨vn, vg, vo, hg, c0, c1, c2, c3, h1, h2, h3⟩ := h
  exact ⟨vn, vg, vo, Nat.lt_of_lt_of_le hg hb.size, (hb.cell (p := ⟨g, 0, none⟩) hg).trans c0, (hb.cell (p := ⟨g, 1, none⟩) hg).trans c1, (hb.cell (p := ⟨g, 2, none⟩) hg).trans c2, (hb.cell (p := ⟨g, 3, none⟩) hg).trans c3, Row.below h1 hb, Row.below h2 hb, Row.below h3 hb⟩
theorem PCirc.boxed {w : World} {c : Cz} {vn vg vo : Value} (t : TypeId) (h1 : IntsAt w vn c.next) (h2 : CubesAt w vg c.gates) (h3 : IntsAt w vo c.outs) : PCirc (w.alloc (.cells #[.int .i64 c.ins, vn, vg, vo] t)) w.heap.size c :=
  ⟨vn, vg, vo, by simp, World.cell?_alloc_new _ _ _ 0, World.cell?_alloc_new _ _ _ 1, World.cell?_alloc_new _ _ _ 2, World.cell?_alloc_new _ _ _ 3, Row.alloc h1 _, Row.alloc h2 _, Row.alloc h3 _⟩
theorem isLit_any (l v : Int) (w : World) (h1 : -1000000 ≤ v) (h2 : v ≤ 1000000) :
    Calls Try.prog 67 #[.int .i64 l, .int .i64 v] w fun e w' => e = .returned (.bool (Cir.isLit l v)) ∧ w = w' := by
  go_enter Try.func67, Try.ntmps67
  go_wp2
  all_goals
    go_ret
    refine ⟨ret_bool ?_, rfl⟩
    simp [Cir.isLit]
    try omega
theorem firstGate_any (g : Nat) (c : Cz) (w : World) (h : PCirc w g c) (h1 : 0 ≤ c.ins) (h2 : c.ins ≤ 100) (h3 : c.next.length ≤ 100) :
    Calls Try.prog 128 #[.pointer (some ⟨g, 0, none⟩)] w fun e w' => e = .returned (.int .i64 (Cir.first c)) ∧ Below w.heap.size w w' := by
  obtain ⟨vn, vg, vo, hg, c0, c1, c2, c3, r1, r2, r3⟩ := h
  obtain ⟨A, cp, hv, hc, hcm⟩ := r1.shape
  subst hv
  have g0 := gw_cell c0 hg
  have g1 := gw_cell c1 hg
  have hw1 := IntWalk.i64_in (1 + c.ins) (by omega)
  have hw2 := IntWalk.i64_in (1 + c.ins + c.next.length) (by omega)
  clear r1 r2 r3 c0 c1 c2 c3
  go_enter Try.func128, Try.ntmps128
  go_wp2
  refine wp_region_grow (by kernel_rfl) (by kernel_rfl) ?_
  repeat (go_big_quiet_step ((fail)))
  refine wpQuiet_nil ?_
  intro _ hw'
  obtain ⟨nq, hw''⟩ := hw'
  subst hw''
  have hgq := gw_below nq
  generalize gw nq = wq at *
  clear nq
  go_wp2
  go_ret
  exact ⟨rfl, hgq⟩
theorem vars_any (g : Nat) (c : Cz) (w : World) (h : PCirc w g c) (h1 : 0 ≤ c.ins) (h2 : c.ins ≤ 100) (h3 : c.next.length ≤ 100) (h4 : c.gates.length ≤ 100) :
    Calls Try.prog 68 #[.pointer (some ⟨g, 0, none⟩)] w fun e w' => e = .returned (.int .i64 (Cir.vars c)) ∧ Below w.heap.size w w' := by
  have HF : Hid (∀ n : GW w, Calls Try.prog 128 #[.pointer (some ⟨g, 0, none⟩)] (gw n) fun e w' => e = .returned (.int .i64 (Cir.first c)) ∧ Below (gw n).heap.size (gw n) w') := Lib.hid fun n => firstGate_any g c _ (h.below (gw_below n)) h1 h2 h3
  have hF : Hid (Cir.vars c = Cir.first c + c.gates.length) := Lib.hid rfl
  have hb : 0 ≤ Cir.first c ∧ Cir.first c ≤ 300 := by unfold Cir.first; omega
  obtain ⟨hb1, hb2⟩ := hb
  obtain ⟨vn, vg, vo, hg, c0, c1, c2, c3, r1, r2, r3⟩ := h
  obtain ⟨A, cp, hv, hc, hcm⟩ := Row.shape r2
  subst hv
  have g2 := gw_cell c2 hg
  have hw1 := IntWalk.i64_in (Cir.first c + c.gates.length) (by omega)
  clear r1 r2 r3 c0 c1 c2 c3
  go_enter Try.func68, Try.ntmps68
  go_wp2
  refine wp_region_grow (by kernel_rfl) (by kernel_rfl) ?_
  repeat (go_big_quiet_step ((go_at_call 128; exact grow_call (HF.out _))))
  refine wpQuiet_nil ?_
  intro _ hw'
  obtain ⟨nq, hw''⟩ := hw'
  subst hw''
  have hgq := gw_below nq
  generalize gw nq = wq at *
  clear nq
  go_wp2
  go_ret
  exact ⟨ret_int hF.out.symm, hgq⟩
theorem append_ints {w : World} {ops : Array Oper} {rest : List Oper} {o : Oper} {a : Act} {Q : Exit → Act → World → Prop} (hgd : o.guard = none) (s x : Operand)
    (ho : o.op = .call { callee := .builtin .append, args := #[s, x], argTypes := #[22, 22] })
    (base : Nat) (v : Value) (n : Nat) (xs : List Value) (hs : a.eval s = v) (hown : w.ownsRow base 3 1 v n xs) (sv : Value) (m : Nat) (news : List Value) (hx : a.eval x = sv) (hr : Row w 1 sv m news) (h1 : ∀ u ∈ news, u.oneCell' = true)
    (h63 : n + m ≤ 10000000) (hbase : base ≤ w.heap.size)
    (h : ∀ v' w', w'.ownsRow base 3 1 v' (n + m) (xs ++ news) → w.grownBy w' v.ownBlock → (v'.ownBlock = v.ownBlock ∨ v'.ownBlock = some w.heap.size) → wpList Try.prog ops Q rest (a.put o.dst v') w') : wpList Try.prog ops Q (o :: rest) a w := by
  obtain ⟨i, hi, hz0, hz1, hz2⟩ := info_parts info_int
  exact wpList_append_at hgd s x 22 ho base 3 i _ 1 8 Try.underlying22 hi hz0 hz1 hz2 rfl (by decide) v n xs hs hown sv m news hx hr h1 (by unfold maxLen; omega) (by omega) hbase h
theorem ints_one (xs : List Int) : ∀ u ∈ ints xs, u.oneCell' = true := by
  intro u hu
  obtain ⟨x, _, rfl⟩ := List.mem_map.1 hu
  rfl
theorem own_ge0 {w : World} {base n size : Nat} {e : TypeId} {v : Value} {xs : List Value} (h : w.ownsRow base e size v n xs) : ∀ k, v.ownBlock = some k → base ≤ k := fun k hk => (h.lt k hk).1
def OwnInts (xs : List Int) (w : World) (e : Ending) (w' : World) : Prop := ∃ v, e = .returned v ∧ w'.ownsRow w.heap.size 3 1 v xs.length (ints xs) ∧ Below w.heap.size w w'
theorem roots_any (g : Nat) (c : Cz) (w : World) (h : PCirc w g c) (h1 : c.next.length ≤ 100000) (h2 : c.outs.length ≤ 100000) :
    Calls Try.prog 127 #[.pointer (some ⟨g, 0, none⟩)] w (OwnInts (c.next ++ c.outs) w) := by
  obtain ⟨i0, hi0, hz0, hz1, hz2⟩ := info_parts info_int
  obtain ⟨vn, vg, vo, hg, c0, c1, c2, c3, r1, r2, r3⟩ := h
  have R1 : Hid (Row w.drew 1 vn c.next.length (ints c.next)) := Lib.hid r1
  have R3 : Hid (Row w 1 vo c.outs.length (ints c.outs)) := Lib.hid r3
  have e1 : ints (c.next ++ c.outs) = [] ++ ints c.next ++ ints c.outs := by simp [ints]
  have E1 := Lib.hid e1
  clear r1 r2 r3 e1
  have k1 : ∀ w', Below w.heap.size w w' → w'.cell? ⟨g, 1, none⟩ = some vn := fun w' hb => (hb.cell (p := ⟨g, 1, none⟩) hg).trans c1
  have k3 : ∀ w', Below w.heap.size w w' → w'.cell? ⟨g, 3, none⟩ = some vo := fun w' hb => (hb.cell (p := ⟨g, 3, none⟩) hg).trans c3
  have K3 := Lib.hid k3
  clear k1 k3
  go_enter Try.func127, Try.ntmps127
  go_wp2_with fail
  go_region_law (first
    | (refine step_append_at rfl (.const (.slice none 0 0)) (.tmp 6) 22 rfl w.heap.size 3 i0 _ 1 8 Try.underlying22 hi0 hz0 hz1 hz2 rfl (by decide) (.slice none 0 0) 0 [] rfl (World.ownsRow_nil _ _ _ _) vn c.next.length (ints c.next) (by simp [Act.eval, Act.put]) R1.out (ints_one _) (by unfold maxLen; omega) (by omega) (by simp) ?_; intro v1 w1 hown1 hg1; have hb1 := (Below.refl w.heap.size w).drew.grown hg1 (Nat.le_refl _) (by simp [Value.ownBlock]); have hk3 := K3.out w1 hb1)
    | (refine step_append_at rfl (.tmp 7) (.tmp 11) 22 rfl w.heap.size 3 i0 _ 1 8 Try.underlying22 hi0 hz0 hz1 hz2 rfl (by decide) v1 (0 + c.next.length) ([] ++ ints c.next) (by simp [Act.eval, Act.put]) hown1 vo c.outs.length (ints c.outs) (by simp [Act.eval, Act.put]) (Row.below R3.out hb1) (ints_one _) (by unfold maxLen; omega) (by omega) hb1.size ?_; intro v2 w2 hown2 hg2))
  all_goals
    have Ho2 := Lib.hid hown2
    have Hb := Lib.hid (hb1.grown hg2 hb1.size (own_ge0 hown1))
    clear hown1 hown2 hg1 hg2 hb1 hk3
    go_wp2_with fail
    go_ret
    refine ⟨_, rfl, ?_, Hb.out⟩
    rw [E1.out, List.length_append, ← Nat.zero_add c.next.length]
    exact Ho2.out
end Go.Proofs.Ytmlcbikljlhhkaa
