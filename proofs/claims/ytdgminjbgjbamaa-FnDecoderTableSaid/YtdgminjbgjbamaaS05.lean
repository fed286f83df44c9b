import Derived.Test.YtdgminjbgjbamaaS04
import Derived.Test.YtdgminjbgjbamaaS02
import Derived.Test.YtdgminjbgjbamaaS03
import Derived.Test.YtdgminjbgjbamaaProg
import Derived.Test.YtdgminjbgjbamaaS01
import Derived.Lib.SmallJoins
import Derived.ProofKit
import Derived.Deep.Slices
import Derived.Deep.Fields
import Derived.ChangeSame
set_option linter.unusedVariables false
set_option linter.unusedSimpArgs false
namespace Go.Proofs.Ytdgminjbgjbamaa
open Go.RowKit
/-! Rows that lie in blocks of a set: they stay while only other blocks are written. -/
def RowIn (F : Nat → Prop) (w : World) (size : Nat) (v : Value) (n : Nat) (cs : List Value) : Prop := Row w size v n cs ∧ (0 < n → ∀ g, v.ownBlock = some g → F g)
/-- The blocks from B on. -/
def From (B : Nat) : Nat → Prop := fun g => B ≤ g
theorem RowIn.only {F E : Nat → Prop} {w w' : World} {size n : Nat} {v : Value} {cs : List Value} (h : RowIn F w size v n cs) (ho : Only E w w') (hE : ∀ g, F g → ¬ E g) : RowIn F w' size v n cs := by
  obtain ⟨⟨h1, A, c, rfl, h2, h3, h4⟩, h5⟩ := h
  refine ⟨⟨h1, A, c, rfl, h2, h3, fun hn => ?_⟩, h5⟩
  obtain ⟨b, o, rfl, hb, hc⟩ := h4 hn
  refine ⟨b, o, rfl, Nat.lt_of_lt_of_le hb ho.size, fun j u hu => ?_⟩
  rw [World.cell?_of_block (ho.block b hb (hE b (h5 hn b rfl)))]
  exact hc j u hu
theorem RowIn.mono {F F' : Nat → Prop} {w : World} {size n : Nat} {v : Value} {cs : List Value} (h : RowIn F w size v n cs) (hF : ∀ g, F g → F' g) : RowIn F' w size v n cs := ⟨h.1, fun hn g hg => hF g (h.2 hn g hg)⟩
theorem RowIn.below {F : Nat → Prop} {w w' : World} {size n : Nat} {v : Value} {cs : List Value} (h : RowIn F w size v n cs) (hb : Below w.heap.size w w') : RowIn F w' size v n cs := ⟨h.1.below hb, h.2⟩
theorem RowIn.of_own {w : World} {B size n : Nat} {e : TypeId} {v : Value} {cs : List Value} (h : w.ownsRow B e size v n cs) : RowIn (fun g => B ≤ g ∧ g < w.heap.size) w size v n cs := ⟨Row.of_own h, fun _ g hg => h.lt g hg⟩
def SSIn {α : Type} (enc : List α → List Value) (F : Nat → Prop) (w : World) (v : Value) (xss : List (List α)) : Prop :=
  ∃ vs : List Value, vs.length = xss.length ∧ RowIn F w 1 v xss.length vs ∧ ∀ (i : Nat) (x : List α) (u : Value), xss[i]? = some x → vs[i]? = some u → RowIn F w 1 u x.length (enc x)
variable {α : Type} {enc : List α → List Value} {F : Nat → Prop} {w w' : World} {v : Value} {xss : List (List α)}
theorem SSIn.at (h : SSIn enc F w v xss) : SSAt enc w v xss := by
  obtain ⟨vs, h1, h2, h3⟩ := h
  exact ⟨vs, h1, h2.1, fun i x u hx hu => (h3 i x u hx hu).1⟩
theorem SSIn.only {E : Nat → Prop} (h : SSIn enc F w v xss) (ho : Only E w w') (hE : ∀ g, F g → ¬ E g) : SSIn enc F w' v xss := by
  obtain ⟨vs, h1, h2, h3⟩ := h
  exact ⟨vs, h1, h2.only ho hE, fun i x u hx hu => (h3 i x u hx hu).only ho hE⟩
theorem SSIn.below (h : SSIn enc F w v xss) (hb : Below w.heap.size w w') : SSIn enc F w' v xss := by
  obtain ⟨vs, h1, h2, h3⟩ := h
  exact ⟨vs, h1, h2.below hb, fun i x u hx hu => (h3 i x u hx hu).below hb⟩
theorem SSIn.mono {F' : Nat → Prop} (h : SSIn enc F w v xss) (hF : ∀ g, F g → F' g) : SSIn enc F' w v xss := by
  obtain ⟨vs, h1, h2, h3⟩ := h
  exact ⟨vs, h1, h2.mono hF, fun i x u hx hu => (h3 i x u hx hu).mono hF⟩
theorem SSIn.nil (enc : List α → List Value) (F : Nat → Prop) (w : World) : SSIn enc F w (.slice none 0 0) [] := ⟨[], rfl, ⟨Row.nil w 1, fun h => absurd h (Nat.lt_irrefl 0)⟩, fun i x u hx _ => by simp at hx⟩
/-- A row that was copied, and one more row behind it. -/
theorem SSIn.snoc {B : Nat} {e ti : TypeId} {v' u : Value} {x : List α} {vs : List Value} (h1 : vs.length = xss.length) (h3 : ∀ (i : Nat) (x : List α) (u : Value), xss[i]? = some x → vs[i]? = some u → RowIn F w 1 u x.length (enc x))
    (hu : w.ownsRow B ti 1 u x.length (enc x)) (hv : w.ownsRow B e 1 v' (xss.length + 1) (vs ++ [u])) : SSIn enc (fun g => F g ∨ (B ≤ g ∧ g < w.heap.size)) w v' (xss ++ [x]) := by
  refine ⟨vs ++ [u], by simp [h1], ?_, fun i y z hy hz => ?_⟩
  · rw [List.length_append, List.length_singleton]
    exact (RowIn.of_own hv).mono fun g hg => .inr hg
  · rcases Nat.lt_or_ge i xss.length with hi | hi
    · rw [List.getElem?_append_left hi] at hy
      rw [List.getElem?_append_left (by omega)] at hz
      exact (h3 i y z hy hz).mono fun g hg => .inl hg
    · have hil : i = xss.length := by
        rcases Nat.lt_or_ge xss.length i with h | h
        · rw [List.getElem?_eq_none (by simp; omega)] at hy; cases hy
        · omega
      subst hil
      rw [List.getElem?_append_right (Nat.le_refl _), Nat.sub_self] at hy
      rw [List.getElem?_append_right (by omega), h1, Nat.sub_self] at hz
      obtain rfl := Option.some.inj hy
      obtain rfl := Option.some.inj hz
      exact (RowIn.of_own hu).mono fun g hg => .inr hg
end Go.Proofs.Ytdgminjbgjbamaa

namespace Go.Proofs.Ytdgminjbgjbamaa
open Go.RowKit
set_option maxRecDepth 100000
/-! slices.Clone of rows of booleans, and of rows of rows. -/
theorem info_bool2 : (Try.prog.info? 4).map (fun i => (i.zero, i.size, i.bytes)) = some (some (.bool false), 1, 1) := by kernel_rfl
theorem info_bools2 : (Try.prog.info? 64).map (fun i => (i.zero, i.size, i.bytes)) = some (some (.slice none 0 0), 1, 24) := by kernel_rfl
theorem info_boolss2 : (Try.prog.info? 29).map (fun i => (i.zero, i.size, i.bytes)) = some (some (.slice none 0 0), 1, 24) := by kernel_rfl
def Cloned (e : TypeId) (n : Nat) (cs : List Value) (w : World) (r : Ending) (w' : World) : Prop := ∃ v', r = .returned v' ∧ w'.ownsRow w.heap.size e 1 v' n cs ∧ Below w.heap.size w w'
/-! append -/
theorem append_rows {w : World} {ops : Array Oper} {rest : List Oper} {o : Oper} {a : Act} {Q : Exit → Act → World → Prop} (hgd : o.guard = none) (s x : Operand)
    (ho : o.op = .call { callee := .builtin .append, args := #[s, x], argTypes := #[29, 29] })
    (base : Nat) (v : Value) (n : Nat) (xs : List Value) (hs : a.eval s = v) (hown : w.ownsRow base 64 1 v n xs) (sv : Value) (m : Nat) (news : List Value) (hx : a.eval x = sv) (hr : Row w 1 sv m news) (h1 : ∀ u ∈ news, u.oneCell' = true)
    (h63 : n + m ≤ 1000000) (hbase : base ≤ w.heap.size)
    (h : ∀ v' w', w'.ownsRow base 64 1 v' (n + m) (xs ++ news) → w.grownBy w' v.ownBlock → (v'.ownBlock = v.ownBlock ∨ v'.ownBlock = some w.heap.size) → wpList Try.prog ops Q rest (a.put o.dst v') w') : wpList Try.prog ops Q (o :: rest) a w := by
  obtain ⟨i, hi, hz0, hz1, hz2⟩ := info_parts info_bools2
  exact wpList_append_at hgd s x 29 ho base 64 i _ 1 24 Try.underlying29 hi hz0 hz1 hz2 rfl (by decide) v n xs hs hown sv m news hx hr h1 (by unfold maxLen; omega) (by omega) hbase h
theorem append_bits {w : World} {ops : Array Oper} {rest : List Oper} {o : Oper} {a : Act} {Q : Exit → Act → World → Prop} (hgd : o.guard = none) (s x : Operand)
    (ho : o.op = .call { callee := .builtin .append, args := #[s, x], argTypes := #[64, 64] })
    (base : Nat) (v : Value) (n : Nat) (xs : List Value) (hs : a.eval s = v) (hown : w.ownsRow base 4 1 v n xs) (sv : Value) (m : Nat) (news : List Value) (hx : a.eval x = sv) (hr : Row w 1 sv m news) (h1 : ∀ u ∈ news, u.oneCell' = true)
    (h63 : n + m ≤ 1000000) (hbase : base ≤ w.heap.size)
    (h : ∀ v' w', w'.ownsRow base 4 1 v' (n + m) (xs ++ news) → w.grownBy w' v.ownBlock → (v'.ownBlock = v.ownBlock ∨ v'.ownBlock = some w.heap.size) → wpList Try.prog ops Q rest (a.put o.dst v') w') : wpList Try.prog ops Q (o :: rest) a w := by
  obtain ⟨i, hi, hz0, hz1, hz2⟩ := info_parts info_bool2
  exact wpList_append_at hgd s x 64 ho base 4 i _ 1 1 Try.underlying64 hi hz0 hz1 hz2 rfl (by decide) v n xs hs hown sv m news hx hr h1 (by unfold maxLen; omega) (by omega) hbase h
theorem append_paths {w : World} {ops : Array Oper} {rest : List Oper} {o : Oper} {a : Act} {Q : Exit → Act → World → Prop} (hgd : o.guard = none) (s x : Operand)
    (ho : o.op = .call { callee := .builtin .append, args := #[s, x], argTypes := #[106, 106] })
    (base : Nat) (v : Value) (n : Nat) (xs : List Value) (hs : a.eval s = v) (hown : w.ownsRow base 29 1 v n xs) (sv : Value) (m : Nat) (news : List Value) (hx : a.eval x = sv) (hr : Row w 1 sv m news) (h1 : ∀ u ∈ news, u.oneCell' = true)
    (h63 : n + m ≤ 1000000) (hbase : base ≤ w.heap.size)
    (h : ∀ v' w', w'.ownsRow base 29 1 v' (n + m) (xs ++ news) → w.grownBy w' v.ownBlock → (v'.ownBlock = v.ownBlock ∨ v'.ownBlock = some w.heap.size) → wpList Try.prog ops Q rest (a.put o.dst v') w') : wpList Try.prog ops Q (o :: rest) a w := by
  obtain ⟨i, hi, hz0, hz1, hz2⟩ := info_parts info_boolss2
  exact wpList_append_at hgd s x 106 ho base 29 i _ 1 24 Try.underlying106 hi hz0 hz1 hz2 rfl (by decide) v n xs hs hown sv m news hx hr h1 (by unfold maxLen; omega) (by omega) hbase h
theorem cloneB_any (v : Value) (n : Nat) (cs : List Value) (w : World) (h : Row w 1 v n cs) (h1 : ∀ u ∈ cs, u.oneCell' = true) (hn : n ≤ 1000) :
    Calls Try.prog 84 #[v] w (Cloned 4 n cs w) := by
  have he := fun (w : World) (a : Option Addr) (n c : Nat) => Lib.run_eql_slice_nil (P := Try.prog) w 64 4 a n c 0 0 Try.underlying64
  have hr := Lib.hid h
  obtain ⟨hl, A, c, rfl, hc, hcm, hcell⟩ := h
  cases A with
  | none =>
    have hn0 : n = 0 := by
      rcases Nat.eq_zero_or_pos n with h0 | h0
      · exact h0
      · obtain ⟨b, o, hx, -⟩ := hcell h0; cases hx
    subst hn0
    obtain rfl : cs = [] := List.eq_nil_of_length_eq_zero (by simpa using hl)
    clear hl hcell h1 hr
    go_enter Try.func84, Try.ntmps84
    go_wp2_with fail
    go_ret
    exact ⟨_, rfl, World.ownsRow_nil _ _ _ _, Below.refl _ _⟩
  | some p =>
    have Hown0 := Lib.hid (World.ownsRow_lit (base := w.heap.size) (e := 4) (size := 1) w #[] 0 (Nat.le_refl _) (by unfold maxLen; omega) rfl)
    have H1 := Lib.hid h1
    clear hl hcell h1
    go_enter Try.func84, Try.ntmps84
    go_wp2_with (at_builtin; refine append_bits rfl (.tmp 5) (.tmp 6) rfl w.heap.size _ 0 _ rfl Hown0.out _ n cs rfl (hr.out.alloc _) H1.out (by omega) (by simp) ?_; intro v5 w5 hown5 hg5 hat5; have Ho5 := Lib.hid hown5; have Hg5 := Lib.hid hg5; clear hown5 hg5 hat5)
    go_ret
    refine ⟨_, rfl, ?_, ((Below.refl _ _).alloc (Nat.le_refl _) _).grown Hg5.out (by simp) (own_ge0 Hown0.out)⟩
    have := Ho5.out
    simpa using this
theorem cloneSS_any (v : Value) (n : Nat) (cs : List Value) (w : World) (h : Row w 1 v n cs) (h1 : ∀ u ∈ cs, u.oneCell' = true) (hn : n ≤ 1000) :
    Calls Try.prog 82 #[v] w (Cloned 64 n cs w) := by
  have he := fun (w : World) (a : Option Addr) (n c : Nat) => Lib.run_eql_slice_nil (P := Try.prog) w 29 64 a n c 0 0 Try.underlying29
  have hr := Lib.hid h
  obtain ⟨hl, A, c, rfl, hc, hcm, hcell⟩ := h
  cases A with
  | none =>
    have hn0 : n = 0 := by
      rcases Nat.eq_zero_or_pos n with h0 | h0
      · exact h0
      · obtain ⟨b, o, hx, -⟩ := hcell h0; cases hx
    subst hn0
    obtain rfl : cs = [] := List.eq_nil_of_length_eq_zero (by simpa using hl)
    clear hl hcell h1 hr
    go_enter Try.func82, Try.ntmps82
    go_wp2_with fail
    go_ret
    exact ⟨_, rfl, World.ownsRow_nil _ _ _ _, Below.refl _ _⟩
  | some p =>
    have Hown0 := Lib.hid (World.ownsRow_lit (base := w.heap.size) (e := 64) (size := 1) w #[] 0 (Nat.le_refl _) (by unfold maxLen; omega) rfl)
    have H1 := Lib.hid h1
    clear hl hcell h1
    go_enter Try.func82, Try.ntmps82
    go_wp2_with (at_builtin; refine append_rows rfl (.tmp 5) (.tmp 6) rfl w.heap.size _ 0 _ rfl Hown0.out _ n cs rfl (hr.out.alloc _) H1.out (by omega) (by simp) ?_; intro v5 w5 hown5 hg5 hat5; have Ho5 := Lib.hid hown5; have Hg5 := Lib.hid hg5; clear hown5 hg5 hat5)
    go_ret
    refine ⟨_, rfl, ?_, ((Below.refl _ _).alloc (Nat.le_refl _) _).grown Hg5.out (by simp) (own_ge0 Hown0.out)⟩
    have := Ho5.out
    simpa using this
end Go.Proofs.Ytdgminjbgjbamaa

namespace Go.Proofs.Ytdgminjbgjbamaa
open Go.RowKit
set_option maxRecDepth 100000
/-! The next state and the outputs, by the reference; small searches in lists. -/
theorem step_field0 (A B : Option Addr) (n m c q : Nat) (w : World) : (Instr.field 115 (.agg #[.slice A n c, .slice B m q]) 0).run Try.prog w = .ok (.slice A n c) w := by kernel_rfl
theorem step_field1 (A B : Option Addr) (n m c q : Nat) (w : World) : (Instr.field 115 (.agg #[.slice A n c, .slice B m q]) 1).run Try.prog w = .ok (.slice B m q) w := by kernel_rfl
/-- l2Step, drawn: a struct of two rows. -/
def TStep (so st : List Bool) : Ty := fun w v => ∃ a b, v = .agg #[a, b] ∧ BoolsAt w a so ∧ BoolsAt w b st
theorem stb_step (so st : List Bool) : Stb (fun _ => False) (TStep so st) := by
  rintro v w w' ⟨a, b, rfl, h1, h2⟩ ho
  exact ⟨a, b, rfl, stb_bools _ _ _ _ h1 ho, stb_bools _ _ _ _ h2 ho⟩
set_option maxHeartbeats 4000000 in
theorem l16Next_any (v : Value) (d : Ci) (s x : Nat) (w : World) (h : CircAt w v (Cir.toCz d)) (hd : Cir.Ok d) (hs : s ≤ 1000) (hx : x ≤ 1000) :
    Calls Try.prog 41 #[v, .int .i64 s, .int .i64 x] w fun e w' => e = .returned (.int .i64 (Cir.nextOf d s x : Nat)) ∧ Below w.heap.size w w' := by
  have l1 := hd.ins
  have l2 := hd.nexts
  have HC := Lib.hid h
  obtain ⟨vn, vg, vo, rfl, r1, r2, r3⟩ := h
  obtain ⟨An, cn, rfl, hcn, hcmn⟩ := NatsAt.shape (xs := d.next) r1
  have hins : (Cir.toCz d).ins = (d.ins : Int) := rfl
  rw [hins] at HC ⊢
  have B0 := Lib.hid (bel_new w (.cells #[.int .i64 d.ins, .slice An d.next.length cn, vg, vo] 26))
  obtain ⟨z, p0, p1, p2, p3⟩ := PCells.boxed w d.ins (.slice An d.next.length cn) vg vo 26
  have HC := Lib.hid (HC.out.below B0.out)
  have Hd := Lib.hid hd
  have HNx : Hid (Cir.nextOf d s x = Cir.num (Cir.lits (Cir.vals d (Cir.bits s d.next.length) (Cir.bits x d.ins)) d.next)) := Lib.hid rfl
  clear r1 r2 r3 hd hins
  go_enter Try.func41, Try.ntmps41
  go_wp2_with fail
  generalize w.alloc (.cells #[.int .i64 d.ins, .slice An d.next.length cn, vg, vo] 26) = W at *
  refine wp_region_rs (quietRS Try.prog _ W _) quietRS_ok (by kernel_rfl) (by kernel_rfl) (by kernel_rfl) (Nat.le_of_ble_eq_true rfl) trivial trivial ?_
  apply rs_eq quietRS_ok quiet_any
  · intro ρ w' ho hK
    have ho : Only _ W w' := ho
    obtain ⟨h0, -⟩ := hK
    have h0' : ρ (.tmp 3) = _ := h0
    have hb := only_below ho
    have q0 := (hb.cell (p := ⟨w.heap.size, 0, none⟩) z).trans p0
    have q1 := (hb.cell (p := ⟨w.heap.size, 1, none⟩) z).trans p1
    have q2 := (hb.cell (p := ⟨w.heap.size, 2, none⟩) z).trans p2
    have q3 := (hb.cell (p := ⟨w.heap.size, 3, none⟩) z).trans p3
    go_simp
    try exact rfl
  refine rs_old quietRS_ok quiet_any _ (.inl rfl) _ rfl rfl ?_
  apply rs_eq quietRS_ok quiet_any
  · intro ρ w' ho hK
    have ho : Only _ W w' := ho
    obtain ⟨h0, -⟩ := hK
    have h0' : ρ (.tmp 3) = _ := h0
    go_simp
    try exact rfl
  apply rs_eq quietRS_ok quiet_any
  · intro ρ w' ho hK
    have ho : Only _ W w' := ho
    obtain ⟨h0, -⟩ := hK
    have h0' : ρ (.tmp 9) = _ := h0
    have hb := only_below ho
    have q0 := (hb.cell (p := ⟨w.heap.size, 0, none⟩) z).trans p0
    have q1 := (hb.cell (p := ⟨w.heap.size, 1, none⟩) z).trans p1
    have q2 := (hb.cell (p := ⟨w.heap.size, 2, none⟩) z).trans p2
    have q3 := (hb.cell (p := ⟨w.heap.size, 3, none⟩) z).trans p3
    go_simp
    try exact rfl
  apply rs_eq quietRS_ok quiet_any
  · intro ρ w' ho hK
    have ho : Only _ W w' := ho
    obtain ⟨h0, -⟩ := hK
    have h0' : ρ (.tmp 10) = _ := h0
    go_simp
    try exact rfl
  refine rs_call quietRS_ok quiet_any (TBools (Cir.bits s d.next.length)) (stb_bools _) 89 _ _ rfl (fun ρ w' ho hK => by
    have ho : Only _ W w' := ho
    obtain ⟨h0, h1, h2, -⟩ := hK
    have h0' : ρ (.func 89) = .func (.func 89) #[] #[] := h0
    have h1' : ρ (.tmp 8) = _ := h1
    have h2' : ρ (.tmp 11) = _ := h2
    refine ⟨#[ρ (.tmp 8), ρ (.tmp 11)], ?_, ?_⟩
    · go_simp
    · rw [h1', h2']
      refine (l4Bits_any s d.next.length w' (by omega) (by omega)).mono ?_
      rintro e w2 ⟨v2, rfl, hO, hb⟩
      exact ⟨v2, rfl, Row.of_own hO, hb⟩) ?_
  refine rs_old quietRS_ok quiet_any _ (.inl rfl) _ rfl rfl ?_
  apply rs_eq quietRS_ok quiet_any
  · intro ρ w' ho hK
    have ho : Only _ W w' := ho
    obtain ⟨h0, -⟩ := hK
    have h0' : ρ (.tmp 3) = _ := h0
    go_simp
    try exact rfl
  apply rs_eq quietRS_ok quiet_any
  · intro ρ w' ho hK
    have ho : Only _ W w' := ho
    obtain ⟨h0, -⟩ := hK
    have h0' : ρ (.tmp 14) = _ := h0
    have hb := only_below ho
    have q0 := (hb.cell (p := ⟨w.heap.size, 0, none⟩) z).trans p0
    have q1 := (hb.cell (p := ⟨w.heap.size, 1, none⟩) z).trans p1
    have q2 := (hb.cell (p := ⟨w.heap.size, 2, none⟩) z).trans p2
    have q3 := (hb.cell (p := ⟨w.heap.size, 3, none⟩) z).trans p3
    go_simp
    try exact rfl
  refine rs_call quietRS_ok quiet_any (TBools (Cir.bits x d.ins)) (stb_bools _) 89 _ _ rfl (fun ρ w' ho hK => by
    have ho : Only _ W w' := ho
    obtain ⟨h0, h1, h2, -⟩ := hK
    have h0' : ρ (.func 89) = .func (.func 89) #[] #[] := h0
    have h1' : ρ (.tmp 13) = _ := h1
    have h2' : ρ (.tmp 15) = _ := h2
    refine ⟨#[ρ (.tmp 13), ρ (.tmp 15)], ?_, ?_⟩
    · go_simp
    · rw [h1', h2']
      refine (l4Bits_any x d.ins w' (by omega) (by omega)).mono ?_
      rintro e w2 ⟨v2, rfl, hO, hb⟩
      exact ⟨v2, rfl, Row.of_own hO, hb⟩) ?_
  refine rs_call quietRS_ok quiet_any (TStep (Cir.outsOf d s x) (Cir.lits (Cir.vals d (Cir.bits s d.next.length) (Cir.bits x d.ins)) d.next)) (stb_step _ _) 88 _ _ rfl (fun ρ w' ho hK => by
    have ho : Only _ W w' := ho
    obtain ⟨h0, h1, h2, h3, -⟩ := hK
    have h0' : ρ (.func 88) = .func (.func 88) #[] #[] := h0
    have h1' : ρ (.tmp 7) = _ := h1
    have h2' : (TBools (Cir.bits s d.next.length)) w' (ρ (.tmp 12)) := h2
    have h3' : (TBools (Cir.bits x d.ins)) w' (ρ (.tmp 16)) := h3
    refine ⟨#[ρ (.tmp 7), ρ (.tmp 12), ρ (.tmp 16)], ?_, ?_⟩
    · go_simp
    · rw [h1']
      refine (l2Step_any _ _ _ d _ _ w' (HC.out.below (only_below ho)) Hd.out h2' h3' (Cir.bits_length _ _) (Cir.bits_length _ _)).mono ?_
      rintro e w2 ⟨a, b, rfl, oa, ob, hb⟩
      exact ⟨_, rfl, ⟨a, b, rfl, Row.of_own oa, Row.of_own ob⟩, hb⟩) ?_
  refine rs_look quietRS_ok quiet_any (TBools (Cir.lits (Cir.vals d (Cir.bits s d.next.length) (Cir.bits x d.ins)) d.next)) (stb_bools _) (fun ρ w' ho hK => by
    obtain ⟨h0, -⟩ := hK
    obtain ⟨a, b, e0, ha, hb⟩ : (TStep (Cir.outsOf d s x) (Cir.lits (Cir.vals d (Cir.bits s d.next.length) (Cir.bits x d.ins)) d.next)) w' (ρ (.tmp 17)) := h0
    obtain ⟨Aa, ca, rfl, -⟩ := Row.shape ha
    obtain ⟨Ab, cb, rfl, -⟩ := Row.shape hb
    have hf := fun n m => step_field1 Aa Ab n m ca cb w'
    refine ⟨_, ?_, hb⟩
    go_simp) ?_
  refine rs_call quietRS_ok quiet_any (TEq (.int .i64 (Cir.nextOf d s x : Nat))) (stb_eq _ _) 52 _ _ rfl (fun ρ w' ho hK => by
    have ho : Only _ W w' := ho
    obtain ⟨h0, h1, -⟩ := hK
    have h0' : ρ (.func 52) = .func (.func 52) #[] #[] := h0
    have h1' : (TBools (Cir.lits (Cir.vals d (Cir.bits s d.next.length) (Cir.bits x d.ins)) d.next)) w' (ρ (.tmp 18)) := h1
    refine ⟨#[ρ (.tmp 18)], ?_, ?_⟩
    · go_simp
    · skip
      refine (l16Number_any _ _ w' h1' (by rw [lits_length]; omega)).mono ?_
      rintro e w2 ⟨rfl, rfl⟩
      exact ⟨_, rfl, by rw [HNx.out]; rfl, Below.refl _ _⟩) ?_
  refine rs_same quietRS_ok quiet_any 19 12 (.inr rfl) rfl _ rfl ?_
  intro f w9 k9 hk9 hI9 ht9 hcp9
  have E0 : f 0 = _ := ht9 0 (Nat.le_of_ble_eq_true rfl)
  have E1 : f 1 = _ := ht9 1 (Nat.le_of_ble_eq_true rfl)
  conv at E1 => rhs; whnf
  have E2 : f 2 = _ := ht9 2 (Nat.le_of_ble_eq_true rfl)
  have E3 : f 3 = _ := ht9 3 (Nat.le_of_ble_eq_true rfl)
  have E4 : f 4 = _ := ht9 4 (Nat.le_of_ble_eq_true rfl)
  have E5 : (TBools (Cir.bits s d.next.length)) w9 (f 5) := ht9 5 (Nat.le_of_ble_eq_true rfl)
  have E6 : f 6 = _ := ht9 6 (Nat.le_of_ble_eq_true rfl)
  conv at E6 => rhs; whnf
  have E7 : f 7 = _ := ht9 7 (Nat.le_of_ble_eq_true rfl)
  have E8 : f 8 = _ := ht9 8 (Nat.le_of_ble_eq_true rfl)
  have E9 : (TBools (Cir.bits x d.ins)) w9 (f 9) := ht9 9 (Nat.le_of_ble_eq_true rfl)
  have E10 : (TStep (Cir.outsOf d s x) (Cir.lits (Cir.vals d (Cir.bits s d.next.length) (Cir.bits x d.ins)) d.next)) w9 (f 10) := ht9 10 (Nat.le_of_ble_eq_true rfl)
  have E11 : (TBools (Cir.lits (Cir.vals d (Cir.bits s d.next.length) (Cir.bits x d.ins)) d.next)) w9 (f 11) := ht9 11 (Nat.le_of_ble_eq_true rfl)
  have E12 : f 12 = _ := ht9 12 (Nat.le_of_ble_eq_true rfl)
  have E13 : f 13 = _ := ht9 13 (Nat.le_of_ble_eq_true rfl)
  have Ho9 : Only _ W w9 := hI9.2.1
  simp only [putAll, E0, E1, E2, E3, E4, E6, E7, E8, E12, E13, Nat.zero_add, Nat.reduceAdd, Act.put, List.setIfInBounds_toArray, List.set_cons_succ, List.set_cons_zero]
  clear E0 E1 E2 E3 E4 E6 E7 E8 E12 E13
  clear hI9 ht9 hcp9 hk9
  generalize f 5 = r5 at *
  generalize f 9 = r9 at *
  generalize f 10 = r10 at *
  generalize f 11 = r11 at *
  have B := Lib.hid (B0.out.trans ((only_below Ho9).mono B0.out.size))
  clear Ho9 E5 E9 E10 E11 p0 p1 p2 p3
  go_wp2_with fail
  go_ret
  exact ⟨rfl, B.out⟩
set_option maxHeartbeats 4000000 in
theorem l16Outs_any (v : Value) (d : Ci) (s x : Nat) (w : World) (h : CircAt w v (Cir.toCz d)) (hd : Cir.Ok d) (hs : s ≤ 1000) (hx : x ≤ 1000) :
    Calls Try.prog 39 #[v, .int .i64 s, .int .i64 x] w fun e w' => (∃ u, e = .returned u ∧ BoolsAt w' u (Cir.outsOf d s x)) ∧ Below w.heap.size w w' := by
  have l1 := hd.ins
  have l2 := hd.nexts
  have HC := Lib.hid h
  obtain ⟨vn, vg, vo, rfl, r1, r2, r3⟩ := h
  obtain ⟨An, cn, rfl, hcn, hcmn⟩ := NatsAt.shape (xs := d.next) r1
  have hins : (Cir.toCz d).ins = (d.ins : Int) := rfl
  rw [hins] at HC ⊢
  have B0 := Lib.hid (bel_new w (.cells #[.int .i64 d.ins, .slice An d.next.length cn, vg, vo] 26))
  obtain ⟨z, p0, p1, p2, p3⟩ := PCells.boxed w d.ins (.slice An d.next.length cn) vg vo 26
  have HC := Lib.hid (HC.out.below B0.out)
  have Hd := Lib.hid hd
  clear r1 r2 r3 hd hins
  go_enter Try.func39, Try.ntmps39
  go_wp2_with fail
  generalize w.alloc (.cells #[.int .i64 d.ins, .slice An d.next.length cn, vg, vo] 26) = W at *
  refine wp_region_rs (quietRS Try.prog _ W _) quietRS_ok (by kernel_rfl) (by kernel_rfl) (by kernel_rfl) (Nat.le_of_ble_eq_true rfl) trivial trivial ?_
  apply rs_eq quietRS_ok quiet_any
  · intro ρ w' ho hK
    have ho : Only _ W w' := ho
    obtain ⟨h0, -⟩ := hK
    have h0' : ρ (.tmp 3) = _ := h0
    have hb := only_below ho
    have q0 := (hb.cell (p := ⟨w.heap.size, 0, none⟩) z).trans p0
    have q1 := (hb.cell (p := ⟨w.heap.size, 1, none⟩) z).trans p1
    have q2 := (hb.cell (p := ⟨w.heap.size, 2, none⟩) z).trans p2
    have q3 := (hb.cell (p := ⟨w.heap.size, 3, none⟩) z).trans p3
    go_simp
    try exact rfl
  refine rs_old quietRS_ok quiet_any _ (.inl rfl) _ rfl rfl ?_
  apply rs_eq quietRS_ok quiet_any
  · intro ρ w' ho hK
    have ho : Only _ W w' := ho
    obtain ⟨h0, -⟩ := hK
    have h0' : ρ (.tmp 3) = _ := h0
    go_simp
    try exact rfl
  apply rs_eq quietRS_ok quiet_any
  · intro ρ w' ho hK
    have ho : Only _ W w' := ho
    obtain ⟨h0, -⟩ := hK
    have h0' : ρ (.tmp 9) = _ := h0
    have hb := only_below ho
    have q0 := (hb.cell (p := ⟨w.heap.size, 0, none⟩) z).trans p0
    have q1 := (hb.cell (p := ⟨w.heap.size, 1, none⟩) z).trans p1
    have q2 := (hb.cell (p := ⟨w.heap.size, 2, none⟩) z).trans p2
    have q3 := (hb.cell (p := ⟨w.heap.size, 3, none⟩) z).trans p3
    go_simp
    try exact rfl
  apply rs_eq quietRS_ok quiet_any
  · intro ρ w' ho hK
    have ho : Only _ W w' := ho
    obtain ⟨h0, -⟩ := hK
    have h0' : ρ (.tmp 10) = _ := h0
    go_simp
    try exact rfl
  refine rs_call quietRS_ok quiet_any (TBools (Cir.bits s d.next.length)) (stb_bools _) 89 _ _ rfl (fun ρ w' ho hK => by
    have ho : Only _ W w' := ho
    obtain ⟨h0, h1, h2, -⟩ := hK
    have h0' : ρ (.func 89) = .func (.func 89) #[] #[] := h0
    have h1' : ρ (.tmp 8) = _ := h1
    have h2' : ρ (.tmp 11) = _ := h2
    refine ⟨#[ρ (.tmp 8), ρ (.tmp 11)], ?_, ?_⟩
    · go_simp
    · rw [h1', h2']
      refine (l4Bits_any s d.next.length w' (by omega) (by omega)).mono ?_
      rintro e w2 ⟨v2, rfl, hO, hb⟩
      exact ⟨v2, rfl, Row.of_own hO, hb⟩) ?_
  refine rs_old quietRS_ok quiet_any _ (.inl rfl) _ rfl rfl ?_
  apply rs_eq quietRS_ok quiet_any
  · intro ρ w' ho hK
    have ho : Only _ W w' := ho
    obtain ⟨h0, -⟩ := hK
    have h0' : ρ (.tmp 3) = _ := h0
    go_simp
    try exact rfl
  apply rs_eq quietRS_ok quiet_any
  · intro ρ w' ho hK
    have ho : Only _ W w' := ho
    obtain ⟨h0, -⟩ := hK
    have h0' : ρ (.tmp 14) = _ := h0
    have hb := only_below ho
    have q0 := (hb.cell (p := ⟨w.heap.size, 0, none⟩) z).trans p0
    have q1 := (hb.cell (p := ⟨w.heap.size, 1, none⟩) z).trans p1
    have q2 := (hb.cell (p := ⟨w.heap.size, 2, none⟩) z).trans p2
    have q3 := (hb.cell (p := ⟨w.heap.size, 3, none⟩) z).trans p3
    go_simp
    try exact rfl
  refine rs_call quietRS_ok quiet_any (TBools (Cir.bits x d.ins)) (stb_bools _) 89 _ _ rfl (fun ρ w' ho hK => by
    have ho : Only _ W w' := ho
    obtain ⟨h0, h1, h2, -⟩ := hK
    have h0' : ρ (.func 89) = .func (.func 89) #[] #[] := h0
    have h1' : ρ (.tmp 13) = _ := h1
    have h2' : ρ (.tmp 15) = _ := h2
    refine ⟨#[ρ (.tmp 13), ρ (.tmp 15)], ?_, ?_⟩
    · go_simp
    · rw [h1', h2']
      refine (l4Bits_any x d.ins w' (by omega) (by omega)).mono ?_
      rintro e w2 ⟨v2, rfl, hO, hb⟩
      exact ⟨v2, rfl, Row.of_own hO, hb⟩) ?_
  refine rs_call quietRS_ok quiet_any (TStep (Cir.outsOf d s x) (Cir.lits (Cir.vals d (Cir.bits s d.next.length) (Cir.bits x d.ins)) d.next)) (stb_step _ _) 88 _ _ rfl (fun ρ w' ho hK => by
    have ho : Only _ W w' := ho
    obtain ⟨h0, h1, h2, h3, -⟩ := hK
    have h0' : ρ (.func 88) = .func (.func 88) #[] #[] := h0
    have h1' : ρ (.tmp 7) = _ := h1
    have h2' : (TBools (Cir.bits s d.next.length)) w' (ρ (.tmp 12)) := h2
    have h3' : (TBools (Cir.bits x d.ins)) w' (ρ (.tmp 16)) := h3
    refine ⟨#[ρ (.tmp 7), ρ (.tmp 12), ρ (.tmp 16)], ?_, ?_⟩
    · go_simp
    · rw [h1']
      refine (l2Step_any _ _ _ d _ _ w' (HC.out.below (only_below ho)) Hd.out h2' h3' (Cir.bits_length _ _) (Cir.bits_length _ _)).mono ?_
      rintro e w2 ⟨a, b, rfl, oa, ob, hb⟩
      exact ⟨_, rfl, ⟨a, b, rfl, Row.of_own oa, Row.of_own ob⟩, hb⟩) ?_
  refine rs_look quietRS_ok quiet_any (TBools (Cir.outsOf d s x)) (stb_bools _) (fun ρ w' ho hK => by
    obtain ⟨h0, -⟩ := hK
    obtain ⟨a, b, e0, ha, hb⟩ : (TStep (Cir.outsOf d s x) (Cir.lits (Cir.vals d (Cir.bits s d.next.length) (Cir.bits x d.ins)) d.next)) w' (ρ (.tmp 17)) := h0
    obtain ⟨Aa, ca, rfl, -⟩ := Row.shape ha
    obtain ⟨Ab, cb, rfl, -⟩ := Row.shape hb
    have hf := fun n m => step_field0 Aa Ab n m ca cb w'
    refine ⟨_, ?_, ha⟩
    go_simp) ?_
  refine rs_same quietRS_ok quiet_any 18 11 (.inr rfl) rfl _ rfl ?_
  intro f w9 k9 hk9 hI9 ht9 hcp9
  have E0 : f 0 = _ := ht9 0 (Nat.le_of_ble_eq_true rfl)
  have E1 : f 1 = _ := ht9 1 (Nat.le_of_ble_eq_true rfl)
  conv at E1 => rhs; whnf
  have E2 : f 2 = _ := ht9 2 (Nat.le_of_ble_eq_true rfl)
  have E3 : f 3 = _ := ht9 3 (Nat.le_of_ble_eq_true rfl)
  have E4 : f 4 = _ := ht9 4 (Nat.le_of_ble_eq_true rfl)
  have E5 : (TBools (Cir.bits s d.next.length)) w9 (f 5) := ht9 5 (Nat.le_of_ble_eq_true rfl)
  have E6 : f 6 = _ := ht9 6 (Nat.le_of_ble_eq_true rfl)
  conv at E6 => rhs; whnf
  have E7 : f 7 = _ := ht9 7 (Nat.le_of_ble_eq_true rfl)
  have E8 : f 8 = _ := ht9 8 (Nat.le_of_ble_eq_true rfl)
  have E9 : (TBools (Cir.bits x d.ins)) w9 (f 9) := ht9 9 (Nat.le_of_ble_eq_true rfl)
  have E10 : (TStep (Cir.outsOf d s x) (Cir.lits (Cir.vals d (Cir.bits s d.next.length) (Cir.bits x d.ins)) d.next)) w9 (f 10) := ht9 10 (Nat.le_of_ble_eq_true rfl)
  have E11 : (TBools (Cir.outsOf d s x)) w9 (f 11) := ht9 11 (Nat.le_of_ble_eq_true rfl)
  have E12 : (TBools (Cir.outsOf d s x)) w9 (f 12) := ht9 12 (Nat.le_of_ble_eq_true rfl)
  have Ho9 : Only _ W w9 := hI9.2.1
  have C12 : f 12 = f 11 := (hcp9 12 _ 18 11 rfl rfl rfl rfl).2
  simp only [putAll, E0, E1, E2, E3, E4, E6, E7, E8, C12, Nat.zero_add, Nat.reduceAdd, Act.put, List.setIfInBounds_toArray, List.set_cons_succ, List.set_cons_zero]
  clear E0 E1 E2 E3 E4 E6 E7 E8
  clear hI9 ht9 hcp9 hk9
  generalize f 5 = r5 at *
  generalize f 9 = r9 at *
  generalize f 10 = r10 at *
  generalize f 11 = r11 at *
  have B := Lib.hid (B0.out.trans ((only_below Ho9).mono B0.out.size))
  have HU := Lib.hid E11
  clear Ho9 E5 E9 E10 E11 p0 p1 p2 p3
  go_wp2_with fail
  go_ret
  exact ⟨⟨_, rfl, HU.out⟩, B.out⟩
theorem l16Has_any (v : Value) (xs : List Nat) (n : Nat) (w : World) (h : NatsAt w v xs) (hn : n ≤ 1000000) :
    Calls Try.prog 42 #[v, .int .i64 n] w fun e w' => e = .returned (.bool (Cir.memB xs n)) ∧ w = w' := by
  obtain ⟨A, c, rfl, hc, hcm⟩ := h.shape
  unfold maxLen at hcm
  have H := Lib.hid h
  have h0 : Hid (Cir.memB xs n = (xs.drop 0).contains n) := Lib.hid rfl
  generalize Cir.memB xs n = res at h0 ⊢
  clear h
  go_enter Try.func42, Try.ntmps42
  go_wp2_with fail
  go_loop [5] (fun i => ∃ k : Nat, k ≤ xs.length ∧ i = .int .i64 k ∧ Hid (res = (xs.drop k).contains n)) (fun i => xs.length - (intOf i).toNat)
  case atStart => exact ⟨0, Nat.zero_le _, rfl, h0⟩
  case round =>
    obtain ⟨k, hk, rfl, hres⟩ := hrel
    clear h0
    by_cases hlt : k < xs.length
    · obtain ⟨b, o, x, rfl, hbl, hx, hs1⟩ := nats_cell (nats_row H.out) rfl hlt
      have Hstep : Hid ((xs.drop k).contains n = (n == x || (xs.drop (k + 1)).contains n)) := Lib.hid (by
        obtain ⟨hk', e⟩ := List.getElem?_eq_some_iff.1 hx.out
        rw [List.drop_eq_getElem_cons hk', e, List.contains_cons])
      by_cases hxn : x = n
      · obtain rfl : res = true := by rw [hres.out, Hstep.out, hxn]; simp
        have hq : ((x : Int) == (n : Int)) = true := by simp [hxn]
        clear hxn
        go_wp2_with fail
        go_ret
        exact ⟨rfl, rfl⟩
      · have Hn : Hid (res = (xs.drop (k + 1)).contains n) := Lib.hid (by rw [hres.out, Hstep.out, show (n == x) = false from by simpa using fun e => hxn e.symm]; rfl)
        have hq : ((x : Int) == (n : Int)) = false := by simp; omega
        clear hxn
        go_wp2_with fail
        go_round
        case rel => exact ⟨k + 1, by omega, by go_num, Hn⟩
        case measure => simp [intOf] <;> omega
    · obtain rfl : res = false := by rw [hres.out, List.drop_eq_nil_of_le (by omega : xs.length ≤ k)]; rfl
      go_wp2_with fail
      go_ret
      exact ⟨rfl, rfl⟩
end Go.Proofs.Ytdgminjbgjbamaa

namespace Go.Proofs.Ytdgminjbgjbamaa
open Go.RowKit
set_option maxRecDepth 100000
namespace Cir
def evalOk (c : Cz) (st inp : List Int) : Bool := valid c && (decide (st.length = c.next.length) && (decide ((inp.length : Int) = c.ins) && (st.all tern && inp.all tern)))
/-- What EvalTernary answers. -/
def evalT (c : Cz) (st inp : List Int) : List Int := if evalOk c st inp = true then nats (tvals (nat c) (st.map Int.toNat) (inp.map Int.toNat)) else []
theorem tern_nats : ∀ {xs : List Int}, xs.all tern = true → xs = nats (xs.map Int.toNat) ∧ ∀ x ∈ xs.map Int.toNat, x ≤ 2
  | [], _ => ⟨rfl, by simp⟩
  | x :: xs, h => by
    rw [List.all_cons, Bool.and_eq_true] at h
    obtain ⟨h1, h2⟩ := tern_nats h.2
    have h0 : 0 ≤ x ∧ x ≤ 2 := by have := h.1; unfold tern at this; simpa using this
    refine ⟨?_, ?_⟩
    · rw [List.map_cons, nats, List.map_cons, ← nats, ← h1]
      congr 1
      simp; omega
    · intro y hy
      rw [List.map_cons] at hy
      rcases List.mem_cons.1 hy with rfl | hy
      · omega
      · exact h2 y hy
theorem evalT_no {c : Cz} {st inp : List Int} (h : evalOk c st inp = false) : evalT c st inp = [] := by unfold evalT; rw [h]; rfl
end Cir
theorem bel_al (w : World) (o : Obj) : Below w.heap.size w (w.alloc o) := (Below.refl _ _).alloc (Nat.le_refl _) o
end Go.Proofs.Ytdgminjbgjbamaa

namespace Go.Proofs.Ytdgminjbgjbamaa
open Go.RowKit
set_option maxRecDepth 100000
/-! Reachable, by the program. -/
def Cir.reachI (c : Cz) : List Int := if Cir.valid c then nats (Cir.reach (Cir.nat c)) else []
theorem own_no_map {w : World} {B n size b m : Nat} {e : TypeId} {v : Value} {cs : List Value} {S : Nat → Bool} (h : w.ownsRow B e size v n cs) (hs : SetAt w b m S) : ¬ v.ownBlock = some b := by
  rintro hv
  obtain ⟨D, ⟨es, clock, h1, _⟩, _⟩ := hs
  rcases h.2 with ⟨rfl, _⟩ | ⟨g, cap, cur, rfl, _, h2, _⟩
  · simp [Value.ownBlock] at hv
  · simp [Value.ownBlock] at hv
    subst hv
    rw [h1] at h2
    cases h2
set_option maxHeartbeats 4000000 in
theorem implReach_ok (v : Value) (d : Ci) (w : World) (h : CircAt w v (Cir.toCz d)) (hd : Cir.Ok d) (hv : Cir.valid (Cir.toCz d) = true) :
    Calls Try.prog 46 #[v] w (OwnInts (nats (Cir.reach d)) w) := by
  have l1 := hd.ins
  have l2 := hd.nexts
  have HC := Lib.hid h
  obtain ⟨vn, vg, vo, rfl, r1, r2, r3⟩ := h
  have hins : (Cir.toCz d).ins = (d.ins : Int) := rfl
  have HP := Lib.hid (PCirc.boxed (c := Cir.toCz d) 26 r1 r2 r3)
  rw [hins] at HC HP ⊢
  have B0 := Lib.hid (bel_new w (.cells #[.int .i64 d.ins, vn, vg, vo] 26))
  have hsz : (w.alloc (.cells #[.int .i64 d.ins, vn, vg, vo] 26)).heap.size = w.heap.size + 1 := by simp
  obtain ⟨z, p0, p1, p2, p3⟩ := PCells.boxed w d.ins vn vg vo 26
  have HV := Lib.hid (implValid_any _ _ _ (HC.out.below B0.out))
  rw [hv] at HV
  have Hd := Lib.hid hd
  obtain ⟨M, e, hM⟩ : ∃ M : Nat, (2 : Int) ^ d.ins = (M : Int) ∧ M = 2 ^ d.ins := ⟨2 ^ d.ins, two_pow d.ins, rfl⟩
  have hM16 : M ≤ 16 := by rw [hM]; exact Nat.pow_le_pow_right (show 0 < 2 by decide) l1
  have hwM := IntWalk.i64_in (M : Int) (by omega)
  have HM := Lib.hid hM
  have hmm := @run_makeMap Try.prog
  clear r1 r2 r3 hd hins hM hv HC
  go_enter Try.func46, Try.ntmps46
  go_wp2_with fail
  generalize w.alloc (.cells #[.int .i64 d.ins, vn, vg, vo] 26) = W at *
  refine HV.out.mono ?_
  rintro e w1 ⟨rfl, hb1⟩
  have B1 := Lib.hid (B0.out.trans (hb1.mono B0.out.size))
  have HP1 := Lib.hid (HP.out.below hb1)
  have q0 := (hb1.cell (p := ⟨w.heap.size, 0, none⟩) z).trans p0
  have z1 := hb1.size
  clear hb1 p0 p1 p2 p3 HV HP
  have Hset0 : Hid (SetAt ((w1.alloc (.cells #[.int .i64 0] 3)).alloc (.map #[] 0)) (w1.heap.size + 1) 0 (fun _ => false)) := Lib.hid (by have := setAt_made (w1.alloc (.cells #[.int .i64 0] 3)); rwa [World.size_alloc] at this)
  have Hlit : Hid (((w1.alloc (.cells #[.int .i64 0] 3)).alloc (.map #[] 0)).ownsRow w1.heap.size 3 1 (.slice (some ⟨w1.heap.size, 0, none⟩) 1 1) 1 [.int .i64 0]) := Lib.hid ((World.ownsRow_lit (base := w1.heap.size) (e := 3) (size := 1) w1 #[.int .i64 0] 1 (Nat.le_refl _) (by unfold maxLen; omega) rfl).alloc _)
  have hs1 : (w1.alloc (.cells #[.int .i64 0] 3)).heap.size = w1.heap.size + 1 := by simp
  have Bm : Hid (Below w1.heap.size w1 ((w1.alloc (.cells #[.int .i64 0] 3)).alloc (.map #[] 0))) := Lib.hid (((Below.refl _ _).alloc (Nat.le_refl _) _).alloc (by simp) _)
  go_wp2_with (with_reducible refine wpList_add_set _ rfl (.tmp 13) _ _ (.inr rfl) _ _ _ rfl Hset0.out (by omega) 0 (by omega) rfl rfl ?_; intro w2 hset2 hg2)
  have Hset2 := Lib.hid (hset2.congr (S' := fun x => Cir.memB [0] x) (fun x => by rw [Cir.memB_zero, Bool.false_or]))
  have Ho2 := Lib.hid (own_kept Hlit.out hg2 (fun g hg e => own_no_map Hlit.out Hset0.out (hg.trans e.symm)))
  have B2 := Lib.hid (Bm.out.grown hg2 Bm.out.size (fun q hq => by have := Option.some.inj hq; omega))
  clear hset2 hg2 Hset0 Hlit Bm hmm
  have hR0 : Hid (Cir.reach d = Cir.bfs d (9 - 0) 0 [0]) := Lib.hid rfl
  generalize Cir.reach d = res at *
  go_wp2_with fail
  go_loopw [3, 5] (fun v i wr => ∃ (vv : Value) (k m : Nat) (l : List Nat), vv = v ∧ i = .int .i64 k ∧ k ≤ l.length ∧ l.length ≤ 8 ∧ m ≤ 300 ∧ Hid (Cir.Sts d l) ∧ Hid (res = Cir.bfs d (9 - k) k l) ∧ Hid (wr.ownsRow w1.heap.size 3 1 v l.length (nints l)) ∧ Hid (SetAt wr (w1.heap.size + 1) m (fun x => Cir.memB l x)) ∧ m ≤ 1 + k * 16 ∧ Below w1.heap.size w1 wr) (fun v i _ => 8 - (intOf i).toNat)
  case atStart => exact ⟨_, 0, 1, [0], rfl, rfl, by simp, by simp, by omega, Lib.hid (Cir.Sts.zero d), hR0, Ho2, Lib.hid (Hset2.out.mono (by omega)), by omega, B2.out⟩
  case round =>
    obtain ⟨vv, k, m, l, hvv, rfl, hk, hl8, hm3, Hst, hres, Ho, Hs, hm16, hb⟩ := hrel
    subst hvv
    clear Ho2 Hset2 B2 hR0
    obtain ⟨A, c, rfl, hc, hcm⟩ := NatsAt.shape (own_nats Ho.out)
    unfold maxLen at hcm
    have Hb := Lib.hid hb
    have hzb := hb.size
    have c0 := (hb.cell (p := ⟨w.heap.size, 0, none⟩) (show w.heap.size < w1.heap.size by omega)).trans q0
    clear hb
    by_cases hlt : k < l.length
    · obtain ⟨s, hs⟩ := at_some hlt
      have hs8 : s < 8 := by
        have h1 := Hst.out.lt s (List.mem_of_getElem? hs)
        have h2 : 2 ^ d.next.length ≤ 2 ^ 3 := Nat.pow_le_pow_right (show 0 < 2 by decide) l2
        omega
      have Hstep := Lib.hid (Cir.bfs_step (c := d) (f := 9 - (k + 1)) hs)
      have hf : 9 - k = 9 - (k + 1) + 1 := by omega
      rw [hf] at hres
      have Hgs := Lib.hid hs
      have hdl : decide (k < l.length) = true := decide_eq_true hlt
      clear hs hf
      go_wp2_with fail
      obtain ⟨Wk, hWk⟩ : ∃ Wk, Wk = wr := ⟨_, rfl⟩
      subst hWk
      go_loopw [3, 24] (fun v i wr => ∃ (vv : Value) (j q : Nat), vv = v ∧ i = .int .i64 j ∧ j ≤ M ∧ q ≤ m + j ∧ Hid (wr.ownsRow w1.heap.size 3 1 v (Cir.pushes d s j l).length (nints (Cir.pushes d s j l))) ∧ Hid (SetAt wr (w1.heap.size + 1) q (fun x => Cir.memB (Cir.pushes d s j l) x)) ∧ Below w1.heap.size w1 wr) (fun v i _ => M - (intOf i).toNat)
      case atStart => exact ⟨_, 0, m, rfl, rfl, Nat.zero_le _, by omega, Ho, Hs, Hb.out⟩
      case round =>
        obtain ⟨vv, j, q, hvv, rfl, hj, hq, Ho, Hs, hb⟩ := hrel
        subst hvv
        clear c0
        have Hb := Lib.hid hb
        have hzb := hb.size
        have c0 := (hb.cell (p := ⟨w.heap.size, 0, none⟩) (show w.heap.size < w1.heap.size by omega)).trans q0
        have Hst2 := Lib.hid (Hst.out.pushes s j)
        have hL8 := Hst2.out.len Hd.out
        have Hgj := Lib.hid (Cir.pushes_get (c := d) (s := s) (j := j) Hgs.out)
        have Hsu := Lib.hid (Cir.pushes_succ d s j l)
        by_cases hlj : j < M
        · obtain ⟨L2, hL2⟩ : ∃ L2, Cir.pushes d s (j + 1) l = L2 := ⟨_, rfl⟩
          rw [hL2] at Hsu
          have HL2 := Lib.hid hL2
          clear hL2
          generalize Cir.pushes d s j l = L at *
          obtain ⟨A, c, rfl, hc, hcm⟩ := NatsAt.shape (own_nats Ho.out)
          unfold maxLen at hcm
          have hkL : k < L.length := (List.getElem?_eq_some_iff.1 Hgj.out).1
          obtain ⟨b, o, s', rfl, hbl, hx0, hs0⟩ := nats_cell (nats_row (own_nats Ho.out)) rfl hkL
          obtain rfl : s' = s := Option.some.inj (hx0.out.symm.trans Hgj.out)
          clear hb
          go_wp2_with fail
          refine (cycle_any w.heap.size d s' j _ (HP1.out.below Hb.out) Hd.out (by omega) (by omega)).mono ?_
          rintro e w5 ⟨rfl, hb5⟩
          have Hb5 := Lib.hid (Hb.out.trans (hb5.mono hzb))
          have Ho5 := Lib.hid (own_below Ho.out hb5)
          have Hs5 := Lib.hid (Hs.out.below hb5)
          have hz5 := hb5.size
          have hN8 : Cir.nextOf d s' j < 8 := by
            have h1 := Cir.nextOf_lt d s' j
            have h2 : 2 ^ d.next.length ≤ 2 ^ 3 := Nat.pow_le_pow_right (show 0 < 2 by decide) l2
            omega
          clear hb5 Ho Hs c0 hs0
          generalize Cir.nextOf d s' j = N at *
          generalize Cir.num (Cir.outsOf d s' j) = On at *
          cases hc : Cir.memB L N
          · have HP := Lib.hid (Cir.push_no hc)
            go_wp2_with (first
              | (at_lookup; refine wpList_look_set _ rfl (.tmp 36) (.tmp 37) rfl _ _ _ rfl Hs5.out N (by omega) rfl ?_)
              | (at_mapUpdate; refine wpList_add_set _ rfl (.tmp 40) (.tmp 41) _ (.inl rfl) _ _ _ rfl Hs5.out (by omega) N (by omega) rfl rfl ?_; intro w6 hset6 hg6; have Hset6 := Lib.hid (hset6.congr (S' := fun x => Cir.memB (L ++ [N]) x) (fun x => by rw [Cir.memB_snoc])); have Ho6 := Lib.hid (own_kept Ho5.out hg6 (fun g hg e => own_no_map Ho5.out Hs5.out (hg.trans e.symm))); have Hb6 := Lib.hid (Hb5.out.grown hg6 Hb5.out.size (fun q hq => by have := Option.some.inj hq; omega)); have hz6 := hg6.size; have Hlit := Lib.hid (Row.of_own (World.ownsRow_lit (base := w6.heap.size) (e := 3) (size := 1) w6 #[.int .i64 N] 1 (Nat.le_refl _) (by unfold maxLen; omega) rfl)); clear hset6 hg6)
              | (at_builtin; refine append_ints rfl (.tmp 42) (.tmp 44) rfl w1.heap.size _ L.length (nints L) rfl (Ho6.out.alloc _) _ 1 [.int .i64 N] rfl Hlit.out (by simp [Value.oneCell']) (by omega) (by simp; omega) ?_; intro v7 w7 hown7 hg7 hat7; have Ho7 := Lib.hid hown7; have Hset7 := Lib.hid ((Hset6.out.below (bel_new w6 (.cells #[.int .i64 N] 3))).only (Only.grown (E := fun g => some g = (Value.slice (some ⟨b, o, none⟩) L.length c).ownBlock) hg7 (fun k hk => hk.symm)) (fun hq => own_no_map Ho6.out Hset6.out hq.symm)); have Hg7 := Lib.hid hg7; clear hown7 hg7 hat7))
            go_roundw
            case rel => exact ⟨_, j + 1, q + 1, rfl, by go_num, by omega, by omega, Lib.hid (by rw [HL2.out, Hsu.out, HP.out, nints_snoc, List.length_append]; exact Ho7.out), Lib.hid (by rw [HL2.out, Hsu.out, HP.out]; exact Hset7.out), (Hb6.out.alloc Hb6.out.size _).grown Hg7.out (Hb6.out.alloc Hb6.out.size _).size (own_ge0 Ho6.out)⟩
            case measure => simp [intOf] <;> omega
          · have HP := Lib.hid (Cir.push_yes hc)
            go_wp2_with (first
              | (at_lookup; refine wpList_look_set _ rfl (.tmp 36) (.tmp 37) rfl _ _ _ rfl Hs5.out N (by omega) rfl ?_))
            go_roundw
            case rel => exact ⟨_, j + 1, q, rfl, by go_num, by omega, by omega, Lib.hid (by rw [HL2.out, Hsu.out, HP.out]; exact Ho5.out), Lib.hid (by rw [HL2.out, Hsu.out, HP.out]; exact Hs5.out), Hb5.out⟩
            case measure => simp [intOf] <;> omega
        · obtain rfl : j = M := by omega
          have HMr : Hid (res = Cir.bfs d (9 - (k + 1)) (k + 1) (Cir.pushes d s j l)) := Lib.hid (by rw [hres.out, Hstep.out, HM.out])
          have Hlk := Lib.hid (show k + 1 ≤ (Cir.pushes d s j l).length by have := (List.getElem?_eq_some_iff.1 Hgj.out).1; omega)
          clear hb
          generalize Cir.pushes d s j l = L at *
          go_wp2_with fail
          go_roundw
          case rel => exact ⟨_, k + 1, q, L, rfl, by go_num, Hlk.out, hL8, by omega, Hst2, HMr, Ho, Hs, by omega, Hb.out⟩
          case measure => simp [intOf] <;> omega
    · obtain rfl : k = l.length := by omega
      have hr : res = l := by rw [hres.out, Cir.bfs_end]
      go_wp2_with fail
      go_ret
      exact ⟨_, rfl, by rw [hr, nats_length]; exact own_mono Ho.out (by omega), B1.out.trans (Hb.out.mono B1.out.size)⟩
end Go.Proofs.Ytdgminjbgjbamaa

namespace Go.Proofs.Ytdgminjbgjbamaa
open Go.RowKit
set_option maxRecDepth 100000
/-! A breadth-first search under way: its queue, its paths, its set of seen states. -/
def rowsOf (ins : Nat) (p : List Nat) : List (List Bool) := p.map fun x => Cir.bits x ins
theorem rowsOf_snoc (ins : Nat) (p : List Nat) (x : Nat) : rowsOf ins (p ++ [x]) = rowsOf ins p ++ [Cir.bits x ins] := by unfold rowsOf; simp
theorem rowsOf_length (ins : Nat) (p : List Nat) : (rowsOf ins p).length = p.length := by unfold rowsOf; simp
structure VB (B mb ins N : Nat) (l : List (Nat × List Nat)) (vq vp : Value) (pv : List Value) (F : Nat → Prop) (w : World) : Prop where
  q : w.ownsRow B 3 1 vq l.length (nints (Cir.vsts l))
  p : w.ownsRow B 29 1 vp l.length pv
  s : SetAt w mb N (fun x => Cir.memB (Cir.vsts l) x)
  r : ∀ (i s : Nat) (x : List Nat) (u : Value), l[i]? = some (s, x) → pv[i]? = some u → SSIn bools F w u (rowsOf ins x)
  f : ∀ g, F g → g < w.heap.size ∧ vq.ownBlock ≠ some g ∧ vp.ownBlock ≠ some g ∧ g ≠ mb
  a : Apart vq vp
  am : vq.ownBlock ≠ some mb ∧ vp.ownBlock ≠ some mb
theorem VB.pl {B mb ins N : Nat} {l : List (Nat × List Nat)} {vq vp : Value} {pv : List Value} {F : Nat → Prop} {w : World} (h : VB B mb ins N l vq vp pv F w) : pv.length = l.length := by
  have := h.p.1; omega
theorem VB.below {B mb ins N : Nat} {l : List (Nat × List Nat)} {vq vp : Value} {pv : List Value} {F : Nat → Prop} {w w' : World} (h : VB B mb ins N l vq vp pv F w) (hb : Below w.heap.size w w') : VB B mb ins N l vq vp pv F w' :=
  ⟨own_below h.q hb, own_below h.p hb, h.s.below hb, fun i s x u hx hu => (h.r i s x u hx hu).below hb, fun g hg => ⟨Nat.lt_of_lt_of_le (h.f g hg).1 hb.size, (h.f g hg).2⟩, h.a, h.am⟩
theorem VB.mono {B mb ins N N' : Nat} {l : List (Nat × List Nat)} {vq vp : Value} {pv : List Value} {F : Nat → Prop} {w : World} (h : VB B mb ins N l vq vp pv F w) (hN : N ≤ N') : VB B mb ins N' l vq vp pv F w :=
  ⟨h.q, h.p, h.s.mono hN, h.r, h.f, h.a, h.am⟩
/-- A state more. -/
theorem VB.push {B mb ins N n j : Nat} {l : List (Nat × List Nat)} {x : List Nat} {vq vp vq' vp' u : Value} {pv : List Value} {F F' : Nat → Prop} {w w1 w3 w5 : World} {o1 o2 : Obj} (h : VB B mb ins N l vq vp pv F w)
    (hu : SSIn bools F' w u (rowsOf ins (x ++ [j]))) (hF : ∀ g, F g → F' g) (hF' : ∀ g, F' g → g < w.heap.size ∧ vq.ownBlock ≠ some g ∧ vp.ownBlock ≠ some g ∧ g ≠ mb)
    (s1 : SetAt w1 mb (N + 1) (fun z => Cir.memB (Cir.vsts l) z || z == n)) (g1 : w.grownBy w1 (some mb))
    (own3 : w3.ownsRow B 3 1 vq' (l.length + 1) (nints (Cir.vsts l) ++ [.int .i64 (n : Int)])) (g3 : (w1.alloc o1).grownBy w3 vq.ownBlock) (at3 : vq'.ownBlock = vq.ownBlock ∨ vq'.ownBlock = some (w1.alloc o1).heap.size)
    (own5 : w5.ownsRow B 29 1 vp' (l.length + 1) (pv ++ [u])) (g5 : (w3.alloc o2).grownBy w5 vp.ownBlock) (at5 : vp'.ownBlock = vp.ownBlock ∨ vp'.ownBlock = some (w3.alloc o2).heap.size) :
    VB B mb ins (N + 1) (l ++ [(n, x ++ [j])]) vq' vp' (pv ++ [u]) F' w5 := by
  have z1 := g1.size
  have z3 := g3.size
  have z5 := g5.size
  rw [World.size_alloc] at z3 z5
  have hvs : Cir.vsts (l ++ [(n, x ++ [j])]) = Cir.vsts l ++ [n] := by unfold Cir.vsts; simp
  have mbl := h.s.lt
  have hq' : ∀ g, vq'.ownBlock = some g → vq.ownBlock = some g ∨ g = w1.heap.size + 1 := fun g hg => by
    rcases at3 with e | e
    · exact .inl (e.symm.trans hg)
    · rw [World.size_alloc] at e; exact .inr (Option.some.inj (hg.symm.trans e))
  have hp' : ∀ g, vp'.ownBlock = some g → vp.ownBlock = some g ∨ g = w3.heap.size + 1 := fun g hg => by
    rcases at5 with e | e
    · exact .inl (e.symm.trans hg)
    · rw [World.size_alloc] at e; exact .inr (Option.some.inj (hg.symm.trans e))
  have hql : ∀ g, vq.ownBlock = some g → g < w.heap.size := fun g hg => (h.q.lt g hg).2
  have hpl : ∀ g, vp.ownBlock = some g → g < w.heap.size := fun g hg => (h.p.lt g hg).2
  have ho : Only (fun g => g = mb ∨ vq.ownBlock = some g ∨ vp.ownBlock = some g) w w5 := by
    have a1 : Only (fun g => g = mb ∨ vq.ownBlock = some g ∨ vp.ownBlock = some g) w w1 := Only.grown g1 fun k hk => .inl (Option.some.inj hk).symm
    have a2 := Only.of_below (fun g => g = mb ∨ vq.ownBlock = some g ∨ vp.ownBlock = some g) (bel_new w1 o1)
    have a3 : Only (fun g => g = mb ∨ vq.ownBlock = some g ∨ vp.ownBlock = some g) (w1.alloc o1) w3 := Only.grown g3 fun k hk => .inr (.inl hk)
    have a4 := Only.of_below (fun g => g = mb ∨ vq.ownBlock = some g ∨ vp.ownBlock = some g) (bel_new w3 o2)
    have a5 : Only (fun g => g = mb ∨ vq.ownBlock = some g ∨ vp.ownBlock = some g) (w3.alloc o2) w5 := Only.grown g5 fun k hk => .inr (.inr hk)
    exact (((a1.trans a2).trans a3).trans a4).trans a5
  have hE : ∀ g, F' g → ¬ (g = mb ∨ vq.ownBlock = some g ∨ vp.ownBlock = some g) := fun g hg he => by
    have := hF' g hg
    rcases he with he | he | he
    · exact this.2.2.2 he
    · exact this.2.1 he
    · exact this.2.2.1 he
  refine ⟨?_, ?_, ?_, fun i s y z hy hz => ?_, fun g hg => ?_, fun g h1 h2 => ?_, ?_, ?_⟩
  · rw [List.length_append, List.length_singleton, hvs, nints_snoc]
    refine own_kept (own_below own3 (bel_new _ _)) g5 fun g h1 h2 => ?_
    rcases hq' g h1 with e | e
    · exact h.a g e h2
    · have := hpl g h2; omega
  · rw [List.length_append, List.length_singleton]
    exact own5
  · have s3 : SetAt w3 mb (N + 1) _ := (s1.below (bel_new w1 o1)).only (Only.grown (E := fun g => vq.ownBlock = some g) g3 fun k hk => hk) (h.am.1)
    have s5 := (s3.below (bel_new w3 o2)).only (Only.grown (E := fun g => vp.ownBlock = some g) g5 fun k hk => hk) (h.am.2)
    exact s5.congr fun z => by rw [hvs, Cir.memB_snoc]
  · rcases Nat.lt_or_ge i l.length with hi | hi
    · rw [List.getElem?_append_left hi] at hy
      rw [List.getElem?_append_left (by rw [h.pl]; exact hi)] at hz
      exact ((h.r i s y z hy hz).mono hF).only ho hE
    · have hil : i = l.length := by
        rcases Nat.lt_or_ge l.length i with hh | hh
        · rw [List.getElem?_eq_none (by simp; omega)] at hy; cases hy
        · omega
      subst hil
      rw [List.getElem?_append_right (Nat.le_refl _), Nat.sub_self] at hy
      rw [List.getElem?_append_right (by rw [h.pl]; exact Nat.le_refl _), h.pl, Nat.sub_self] at hz
      obtain ⟨rfl, rfl⟩ := Prod.mk.inj (Option.some.inj hy)
      obtain rfl := Option.some.inj hz
      exact hu.only ho hE
  · have := hF' g hg
    refine ⟨by omega, fun h1 => ?_, fun h1 => ?_, this.2.2.2⟩
    · rcases hq' g h1 with e | e
      · exact this.2.1 e
      · omega
    · rcases hp' g h1 with e | e
      · exact this.2.2.1 e
      · omega
  · rcases hq' g h1 with e | e
    · rcases hp' g h2 with e2 | e2
      · exact h.a g e e2
      · have := hql g e; omega
    · rcases hp' g h2 with e2 | e2
      · have := hpl g e2; omega
      · omega
  · intro h1
    rcases hq' _ h1 with e | e
    · exact h.am.1 e
    · omega
  · intro h1
    rcases hp' _ h1 with e | e
    · exact h.am.2 e
    · omega
open Go.Maps in
theorem run_look_set {w : World} {b n : Nat} {S : Nat → Bool} (h : SetAt w b n S) (k : Nat) (hk : (k : Int) ≤ 9223372036854775807) : (Instr.lookup 107 (.map (some b)) (.int .i64 (k : Int)) false).run Try.prog w = .ok (.bool (S k)) w := by
  obtain ⟨D, h1, h2, h3, -⟩ := h
  obtain ⟨v, ps, hrun, hv⟩ := h1.lookup set_keyed Try.underlying107 (zero_bool w) (plainElem_bool Try.underlying4 false) (keyOf_int_mk Try.underlying3 (i64_wf hk))
  rw [h3 k] at hv
  have hvb : v = .bool (S k) := by
    unfold plainElem at hv
    rw [Try.underlying4] at hv
    cases v <;> simp at hv
    rw [hv.1]
  subst hvb
  exact hrun
/-! The closure of FindViolation. -/
theorem num_bit : ∀ (l : List Bool) (o : Nat), (Cir.num l).testBit o = l.getD o false
  | [], o => by simp [Cir.num]
  | b :: l, 0 => by
    rw [Cir.num, Nat.testBit_zero]
    cases b <;> simp <;> omega
  | b :: l, o + 1 => by
    rw [Cir.num, Nat.testBit_succ]
    have : ((if b then 1 else 0) + 2 * Cir.num l) / 2 = Cir.num l := by split <;> omega
    rw [this, num_bit l o]
    simp
theorem outsOf_length (d : Ci) (s x : Nat) : (Cir.outsOf d s x).length = d.outs.length := by unfold Cir.outsOf; rw [lits_length]
theorem viClo_any (g go : Nat) (d : Ci) (o s x : Nat) (w : World) (h : PCirc w g (Cir.toCz d)) (hgo : w.cell? ⟨go, 0, none⟩ = some (.int .i64 o)) (hlt : go < w.heap.size) (hd : Cir.Ok d) (hs : s ≤ 1000) (hx : x ≤ 1000) (ho : o < d.outs.length) :
    Calls Try.prog 36 #[.int .i64 s, .int .i64 x, .pointer (some ⟨g, 0, none⟩), .pointer (some ⟨go, 0, none⟩)] w fun e w' => e = .returned (.tuple #[.int .i64 (Cir.nextOf d s x : Nat), .bool (Cir.bad d o s x)]) ∧ Below w.heap.size w w' := by
  have hC := Lib.hid (cycle_any g d s x w h hd hs hx)
  have l4 := hd.outss
  have hnb := num_bit (Cir.outsOf d s x) o
  have hnl := Cir.num_lt (Cir.outsOf d s x)
  rw [outsOf_length] at hnl
  have hn8 : 2 ^ d.outs.length ≤ 2 ^ 3 := Nat.pow_le_pow_right (show 0 < 2 by decide) l4
  have hN : Cir.num (Cir.outsOf d s x) ≤ 1000000 := by omega
  have hB : (Cir.outsOf d s x).getD o false = Cir.bad d o s x := rfl
  rw [hB] at hnb
  clear hn8 hnl hB h
  generalize Cir.num (Cir.outsOf d s x) = y at *
  generalize Cir.bad d o s x = b at *
  generalize Cir.nextOf d s x = n at *
  have hq : (y : Int) / 2 ^ o = ((y / 2 ^ o : Nat) : Int) := by rw [Int.natCast_ediv, two_pow]
  have hy : y / 2 ^ o ≤ 1000000 := Nat.le_trans (Nat.div_le_self _ _) hN
  have hm : bits .and .i64 ((y / 2 ^ o : Nat) : Int) 1 = ((y / 2 ^ o % 2 : Nat) : Int) := by
    have := i64_and_nat (y / 2 ^ o) 1 (by omega) (by omega)
    rw [Nat.and_one_is_mod] at this
    exact this
  have he : (((y / 2 ^ o % 2 : Nat) : Int) == 1) = b := by
    rw [← hnb, Nat.testBit_eq_decide_div_mod_eq, Bool.eq_iff_iff, beq_iff_eq, decide_eq_true_iff]
    omega
  generalize y / 2 ^ o = y' at hq hm he hy
  generalize y' % 2 = r at hm he
  clear hnb
  go_enter Try.func36, Try.ntmps36
  go_wp2_with fail
  refine hC.out.mono ?_
  rintro e w1 ⟨rfl, hb1⟩
  have c1 := (hb1.cell (p := ⟨go, 0, none⟩) hlt).trans hgo
  have Hb := Lib.hid hb1
  clear hb1 hgo hC
  go_wp2_with fail
  go_region
  go_wp2_with fail
  exact bodyPost_ret (v := .tuple #[.int .i64 n, .bool b]) (by simp [results, Try.results36, go_sem]) rfl ⟨rfl, Hb.out.os, Hb.out.tape, Hb.out.output, Hb.out.size, Hb.out.block⟩
end Go.Proofs.Ytdgminjbgjbamaa

namespace Go.Proofs.Ytdgminjbgjbamaa
open Go.RowKit
set_option maxRecDepth 100000
/-! What laws do with slices of slices of booleans. -/
theorem info_boolss : (Try.prog.info? 64).map (fun i => (i.zero, i.size, i.bytes)) = some (some (.slice none 0 0), 1, 24) := by kernel_rfl
def OwnBoolSS (B T : Nat) (w : World) (v : Value) (xss : List (List Bool)) : Prop := OwnSS bools 64 4 B T w v xss
theorem take_eq_getB {α : Type} {xs ys : List α} {k : Nat} {x : α} (h : xs.take k = ys.take k) (hx : xs[k]? = some x) (hy : ys[k]? = some x) : xs.take (k + 1) = ys.take (k + 1) := by
  rw [take_snoc hx, take_snoc hy, h]
end Go.Proofs.Ytdgminjbgjbamaa

namespace Go.Proofs.Ytdgminjbgjbamaa
open Go.RowKit
set_option maxRecDepth 100000
/-! The search of FindViolation. -/
def Searched (ins : Nat) (r : Option (List Nat)) (w : World) (e : Ending) (w' : World) : Prop :=
  match r with
  | none => e = .returned (.tuple #[.slice none 0 0, .bool false]) ∧ Below w.heap.size w w'
  | some p => ∃ v, e = .returned (.tuple #[v, .bool true]) ∧ OwnBoolSS w.heap.size w'.heap.size w' v (rowsOf ins p) ∧ Below w.heap.size w w'
theorem SSIn.one {F : Nat → Prop} {w : World} {xss : List (List Bool)} {vs : List Value} (h1 : vs.length = xss.length) (h3 : ∀ (i : Nat) (x : List Bool) (u : Value), xss[i]? = some x → vs[i]? = some u → RowIn F w 1 u x.length (bools x)) : ∀ u ∈ vs, u.oneCell' = true := fun u hu => by
  obtain ⟨i, hi, rfl⟩ := List.mem_iff_getElem.1 hu
  obtain ⟨_, A, c, hv, -⟩ := (h3 i _ _ (List.getElem?_eq_getElem (by omega)) (List.getElem?_eq_getElem hi)).1
  rw [hv]; rfl
set_option maxHeartbeats 16000000 in
theorem searchV_any (g go : Nat) (d : Ci) (o : Nat) (w : World) (h : PCirc w g (Cir.toCz d)) (hgo : w.cell? ⟨go, 0, none⟩ = some (.int .i64 o)) (hlt : go < w.heap.size) (hd : Cir.Ok d) (ho : o < d.outs.length) :
    Calls Try.prog 35 #[.int .i64 d.ins, .int .i64 0, .func (.func 36) #[] #[.pointer (some ⟨g, 0, none⟩), .pointer (some ⟨go, 0, none⟩)]] w (Searched d.ins (Cir.viol d o) w) := by
  have l1 := hd.ins
  have l2 := hd.nexts
  have HP := Lib.hid h
  have Hgo := Lib.hid hgo
  have Hd := Lib.hid hd
  have Ho := Lib.hid ho
  obtain ⟨M, e, hM⟩ : ∃ M : Nat, (2 : Int) ^ d.ins = (M : Int) ∧ M = 2 ^ d.ins := ⟨2 ^ d.ins, two_pow d.ins, rfl⟩
  have hM16 : M ≤ 16 := by rw [hM]; exact Nat.pow_le_pow_right (show 0 < 2 by decide) l1
  have hwM := IntWalk.i64_in (M : Int) (by omega)
  have HM := Lib.hid hM
  have hmm := @run_makeMap Try.prog
  have hwins := IntWalk.i64_in (d.ins : Int) (by omega)
  clear h hgo hd ho hM
  have Hset0 : Hid (SetAt (((w.alloc (.cells #[.int .i64 0] 3)).alloc (.cells #[.slice none 0 0] 29)).alloc (.map #[] 0)) (w.heap.size + 1 + 1) 0 (fun _ => false)) := Lib.hid (by have := setAt_made ((w.alloc (.cells #[.int .i64 0] 3)).alloc (.cells #[.slice none 0 0] 29)); rwa [World.size_alloc, World.size_alloc] at this)
  have Hq0 : Hid ((((w.alloc (.cells #[.int .i64 0] 3)).alloc (.cells #[.slice none 0 0] 29)).alloc (.map #[] 0)).ownsRow w.heap.size 3 1 (.slice (some ⟨w.heap.size, 0, none⟩) 1 1) 1 [.int .i64 0]) := Lib.hid (((World.ownsRow_lit (base := w.heap.size) (e := 3) (size := 1) w #[.int .i64 0] 1 (Nat.le_refl _) (by unfold maxLen; omega) rfl).alloc _).alloc _)
  have Hp0 : Hid ((((w.alloc (.cells #[.int .i64 0] 3)).alloc (.cells #[.slice none 0 0] 29)).alloc (.map #[] 0)).ownsRow w.heap.size 29 1 (.slice (some ⟨w.heap.size + 1, 0, none⟩) 1 1) 1 [.slice none 0 0]) := Lib.hid (by
    have := (World.ownsRow_lit (base := w.heap.size) (e := 29) (size := 1) (w.alloc (.cells #[.int .i64 0] 3)) #[.slice none 0 0] 1 (by simp) (by unfold maxLen; omega) rfl).alloc (.map #[] 0)
    rwa [World.size_alloc] at this)
  have hsz : (((w.alloc (.cells #[.int .i64 0] 3)).alloc (.cells #[.slice none 0 0] 29)).alloc (.map #[] 0)).heap.size = w.heap.size + 3 := by simp
  have Bm : Hid (Below w.heap.size w (((w.alloc (.cells #[.int .i64 0] 3)).alloc (.cells #[.slice none 0 0] 29)).alloc (.map #[] 0))) := Lib.hid ((((Below.refl _ _).alloc (Nat.le_refl _) _).alloc (by simp) _).alloc (by simp; omega) _)
  go_enter Try.func35, Try.ntmps35
  go_wp2_with (with_reducible refine wpList_add_set _ rfl (.tmp 22) _ _ (.inr rfl) _ _ _ rfl Hset0.out (by omega) 0 (by omega) rfl rfl ?_; intro w2 hset2 hg2)
  have HV0 : Hid (VB w.heap.size (w.heap.size + 1 + 1) d.ins 1 [(0, [])] (.slice (some ⟨w.heap.size, 0, none⟩) 1 1) (.slice (some ⟨w.heap.size + 1, 0, none⟩) 1 1) [.slice none 0 0] (fun _ => False) w2) := Lib.hid (by
    have hz2 := hg2.size
    refine ⟨own_kept Hq0.out hg2 (fun g h1 h2 => ?_), own_kept Hp0.out hg2 (fun g h1 h2 => ?_), hset2.congr (fun x => by rw [show Cir.vsts [(0, [])] = [0] from rfl, Cir.memB_zero, Bool.false_or]), fun i s x u h1 h2 => ?_, fun g hg => hg.elim, fun g h1 h2 => ?_, ?_, ?_⟩
    · have := Option.some.inj h1; have := Option.some.inj h2; simp only at *; omega
    · have := Option.some.inj h1; have := Option.some.inj h2; simp only at *; omega
    · cases i with
      | zero =>
        obtain ⟨rfl, rfl⟩ := Prod.mk.inj (Option.some.inj h1)
        obtain rfl := Option.some.inj h2
        exact SSIn.nil _ _ _
      | succ i => simp at h1
    · have := Option.some.inj h1; have := Option.some.inj h2; simp only at *; omega
    · intro h1; have := Option.some.inj h1; simp only at *; omega
    · intro h1; have := Option.some.inj h1; simp only at *; omega)
  have B2 := Lib.hid (Bm.out.grown hg2 Bm.out.size (fun q hq => by have := Option.some.inj hq; omega))
  have z2 := hg2.size
  rw [hsz] at z2
  clear hset2 hg2 Hset0 Hq0 Hp0 Bm hmm hsz
  have hR0 : Hid (Cir.viol d o = Cir.vbfs d o (9 - 0) 0 [(0, [])]) := Lib.hid rfl
  generalize Cir.viol d o = res at *
  go_wp2_with fail
  go_loopw [8, 9, 11] (fun vq vp i wr => ∃ (q p : Value) (k m : Nat) (l : List (Nat × List Nat)) (pv : List Value) (F : Nat → Prop), q = vq ∧ p = vp ∧ i = .int .i64 k ∧ k ≤ l.length ∧ 1 ≤ l.length ∧ l.length ≤ 8 ∧ m ≤ 1 + k * 16 ∧ Hid (Cir.Vs d l) ∧ Hid (res = Cir.vbfs d o (9 - k) k l) ∧ Hid (VB w.heap.size (w.heap.size + 1 + 1) d.ins m l vq vp pv F wr) ∧ Below w.heap.size w wr) (fun _ _ i _ => 8 - (intOf i).toNat)
  case atStart => exact ⟨_, _, 0, 1, [(0, [])], _, _, rfl, rfl, rfl, by simp, by simp, by simp, by omega, Lib.hid (Cir.Vs.zero d), hR0, HV0, B2.out⟩
  case round =>
    obtain ⟨vq, vp, k, m, l, pv, F, hq, hp, rfl, hk, hpos, hl8, hm16, Hvs, hres, HV, hb⟩ := hrel
    subst hq hp
    clear HV0 B2 hR0
    have Hb := Lib.hid hb
    have hzb := hb.size
    clear hb
    by_cases hlt2 : k < l.length
    · obtain ⟨⟨s, p⟩, hs⟩ := at_some hlt2
      have Hgs := Lib.hid hs
      have hf : 9 - k = 9 - (k + 1) + 1 := by omega
      rw [hf] at hres
      have hdl : decide (k < l.length) = true := decide_eq_true hlt2
      obtain ⟨gq, cq, hvq, hgq, hgq2, hcq, hcqm⟩ := own_open HV.out.q (by omega)
      subst hvq
      unfold maxLen at hcqm
      clear hs hf
      go_wp2_with fail
      obtain ⟨Wk, hWk⟩ : ∃ Wk, Wk = wr := ⟨_, rfl⟩
      subst hWk
      go_loopw [8, 9, 33] (fun vq2 vp2 i2 wr2 => ∃ (q2 p2 : Value) (j m2 : Nat) (pv2 : List Value) (F2 : Nat → Prop), q2 = vq2 ∧ p2 = vp2 ∧ i2 = .int .i64 j ∧ j ≤ M ∧ m2 ≤ m + j ∧ Hid (∀ y, y < j → Cir.bad d o s y = false) ∧ Hid (VB w.heap.size (w.heap.size + 1 + 1) d.ins m2 (Cir.vpushes d s p j l) vq2 vp2 pv2 F2 wr2) ∧ Below w.heap.size w wr2) (fun _ _ i _ => M - (intOf i).toNat)
      case atStart => exact ⟨_, _, 0, m, pv, F, rfl, rfl, rfl, Nat.zero_le _, by omega, Lib.hid (fun y hy => by omega), HV, Hb.out⟩
      case round =>
        obtain ⟨q2, p2, j, m2, pv2, F2, hq2, hp2, rfl, hj, hm2, Hnb, HV2, hb2⟩ := hrel
        subst hq2 hp2
        have Hb2 := Lib.hid hb2
        have hzb2 := hb2.size
        clear HV hb2
        have Hvs2 := Lib.hid (Hvs.out.pushes Hgs.out j (by rw [← HM.out]; exact hj))
        have hL8 := Hvs2.out.size Hd.out
        have Hgj := Lib.hid (Cir.vpushes_get (c := d) (s := s) (p := p) (j := j) Hgs.out)
        have Hsu := Lib.hid (Cir.vpushes_succ d s p j l)
        have hkL := (List.getElem?_eq_some_iff.1 Hgj.out).1
        by_cases hlj : j < M
        · obtain ⟨L2, hL2⟩ : ∃ L2, Cir.vpushes d s p (j + 1) l = L2 := ⟨_, rfl⟩
          rw [hL2] at Hsu
          have HL2 := Lib.hid hL2
          clear hL2
          generalize Cir.vpushes d s p j l = L at *
          obtain ⟨gq, cq, hvq, hgq, hgq2, hcq, hcqm⟩ := own_open HV2.out.q (by omega)
          subst hvq
          obtain ⟨gp, cp, hvp, hgp, hgp2, hcp, hcpm⟩ := own_open HV2.out.p (by omega)
          subst hvp
          unfold maxLen at hcqm hcpm
          obtain ⟨u0, hu0, hd0, hf0⟩ := own_slot HV2.out.q (j := k) (by omega)
          have hu0' : u0 = .int .i64 (s : Int) := by
            have h1 := Cir.vsts_get Hgj.out
            have h2 : (nints (Cir.vsts L))[k]? = some (.int .i64 (s : Int)) := by unfold nints ints nats; rw [List.map_map, List.getElem?_map, h1]; rfl
            exact Option.some.inj (hu0.symm.trans h2)
          subst hu0'
          obtain ⟨u1, hu1, hd1, hf1⟩ := own_slot HV2.out.p (j := k) (by omega)
          have HS := Lib.hid (HV2.out.r k s p u1 Hgj.out hu1)
          have hs8 : s < 8 := by
            have h1 := Hvs2.out.sts.lt s (List.mem_of_getElem? (Cir.vsts_get Hgj.out))
            have h2 : 2 ^ d.next.length ≤ 2 ^ 3 := Nat.pow_le_pow_right (show 0 < 2 by decide) l2
            omega
          have hN8 : Cir.nextOf d s j < 8 := by
            have h1 := Cir.nextOf_lt d s j
            have h2 : 2 ^ d.next.length ≤ 2 ^ 3 := Nat.pow_le_pow_right (show 0 < 2 by decide) l2
            omega
          have hp8 := Hvs2.out.len k s p Hgj.out
          clear hu0 hu1 hf0 hf1
          go_wp2_with fail
          refine (viClo_any g go d o s j _ (HP.out.below Hb2.out) ((Hb2.out.cell (p := ⟨go, 0, none⟩) hlt).trans Hgo.out) (Nat.lt_of_lt_of_le hlt hzb2) Hd.out (by omega) (by omega) Ho.out).mono ?_
          rintro e w5 ⟨rfl, hb5⟩
          have HV5 := Lib.hid (HV2.out.below hb5)
          have HS5 := Lib.hid (HS.out.below hb5)
          have Hb5 := Lib.hid (Hb2.out.trans (hb5.mono hzb2))
          have hz5 := hb5.size
          have c5 := (hb5.cell (p := ⟨gp, k, none⟩) hgp2).trans hd1
          obtain ⟨Ap, np, hvu, hcu, hcum⟩ := HS5.out.at.shape
          subst hvu
          rw [rowsOf_length] at hcu
          unfold maxLen at hcum
          obtain ⟨vs5, hvl5, hrow5, hel5⟩ := HS5.out
          rw [rowsOf_length] at hvl5
          have One5 := Lib.hid (SSIn.one (by rw [rowsOf_length]; exact hvl5) hel5)
          have Row5 : Hid (Row w5 1 (.slice Ap (rowsOf d.ins p).length np) p.length vs5) := Lib.hid (by have := hrow5.1; rwa [rowsOf_length] at this ⊢)
          have Hrow5 := Lib.hid hrow5
          have Hel5 := Lib.hid hel5
          clear hrow5 hel5
          obtain ⟨N, hNe⟩ : ∃ N, Cir.nextOf d s j = N := ⟨_, rfl⟩
          rw [hNe] at hN8 Hsu
          have HNe := Lib.hid hNe
          clear hb5 hd0 hd1 HV2 HS
          rw [hNe]
          clear hNe
          cases hbad : Cir.bad d o s j
          · have Hnb2 : Hid (∀ y, y < j + 1 → Cir.bad d o s y = false) := Lib.hid (fun y hy => by
              rcases Nat.lt_or_ge y j with h | h
              · exact Hnb.out y h
              · obtain rfl : y = j := by omega
                exact hbad)
            clear hbad Hnb
            cases hc : Cir.memB (Cir.vsts L) N
            · have HPu := Lib.hid (Cir.vpush_no (p := p ++ [j]) hc)
              have hlk := run_look_set HV5.out.s N (by omega)
              rw [hc] at hlk
              go_wp2_with fail
              refine (cloneSS_any _ p.length _ _ (by have := Row5.out; exact this) One5.out (by omega)).mono ?_
              rintro e w6 ⟨v6, rfl, ho6, hb6⟩
              have hz6 := hb6.size
              have Ho6 := Lib.hid ho6
              have Hb6 := Lib.hid hb6
              clear ho6 hb6
              go_wp2_with fail
              refine (bitsOf_any j d.ins _ (by omega) (by omega)).mono ?_
              rintro e w7 ⟨v7, rfl, ho7, hb7⟩
              have hz7 := hb7.size
              have Ho6b := Lib.hid (own_below Ho6.out hb7)
              have Hb7 := Lib.hid (Hb6.out.trans (hb7.mono hz6))
              have Ho7 := Lib.hid (own_mono ho7 hz6)
              have Hge7 := Lib.hid (own_ge0 ho7)
              obtain ⟨A7, c7, hv7⟩ := slice_of_own Ho7.out
              subst hv7
              have Hlit := Lib.hid (Row.of_own (World.ownsRow_lit (base := w7.heap.size) (e := 64) (size := 1) w7 #[.slice A7 (Cir.bits j d.ins).length c7] 1 (Nat.le_refl _) (by unfold maxLen; omega) rfl))
              clear ho7 hb7
              go_wp2_with (first | (at_builtin; refine append_rows rfl (.tmp 57) (.tmp 61) rfl w5.heap.size _ p.length _ rfl (Ho6b.out.alloc _) _ 1 [.slice A7 (Cir.bits j d.ins).length c7] rfl Hlit.out (by simp [Value.oneCell']) (by omega) (by simp; omega) ?_; intro v8 w8 hown8 hg8 hat8; obtain ⟨A8, c8, hv8⟩ := slice_of_own hown8; subst hv8; have Hp8 := Lib.hid hown8; have Hg8 := Lib.hid hg8; have hz8 := hg8.size; rw [World.size_alloc] at hz8; have Ho8 := Lib.hid (own_kept (Ho7.out.alloc (.cells #[.slice A7 (Cir.bits j d.ins).length c7] 64)) hg8 (fun g h1 h2 => by have h3 := Hge7.out g h1; have h4 := (Ho6.out.lt g h2).2; omega)); have Hb8 := Lib.hid ((Hb7.out.alloc (Nat.le_trans hz6 hz7) _).grown hg8 (by simp; omega) (own_ge0 Ho6b.out)); clear hown8 hg8 hat8) | (at_mapUpdate; refine Stop.out ?_))
              have HS8 : Hid (SSIn bools (fun g => F2 g ∨ (w5.heap.size ≤ g ∧ g < w8.heap.size)) w8 (.slice A8 (p.length + 1) c8) (rowsOf d.ins (p ++ [j]))) := Lib.hid (by
                rw [rowsOf_snoc]
                exact SSIn.snoc (by rw [rowsOf_length]; exact hvl5) (fun i x u hx hu => (Hel5.out i x u hx hu).below Hb8.out) Ho8.out (by rw [rowsOf_length]; exact Hp8.out))
              have HV8 := Lib.hid (HV5.out.below Hb8.out)
              have HF8 : Hid (∀ g, (F2 g ∨ (w5.heap.size ≤ g ∧ g < w8.heap.size)) → g < w8.heap.size ∧ (Value.slice (some ⟨gq, 0, none⟩) L.length cq).ownBlock ≠ some g ∧ (Value.slice (some ⟨gp, 0, none⟩) L.length cp).ownBlock ≠ some g ∧ g ≠ w.heap.size + 1 + 1) := Lib.hid (fun g hg => by
                rcases hg with hg | hg
                · exact HV8.out.f g hg
                · have h3 := HV5.out.s.lt
                  refine ⟨hg.2, fun h => ?_, fun h => ?_, by omega⟩
                  · have h2 := (HV5.out.q.lt g h).2; omega
                  · have h2 := (HV5.out.p.lt g h).2; omega)
              have Hb58 := Lib.hid (Hb5.out.trans (Hb8.out.mono (by omega)))
              refine ⟨?_⟩
              have hz58 := Hb8.out.size
              clear Ho6 Ho6b Ho7 Hge7 Hlit Hp8 Ho8 Hg8 HV5 HS5 Row5 Hrow5 Hel5 One5 Hb6 Hb7 hz6 hz7
              go_wp2_with (first
                | (at_mapUpdate; refine wpList_add_set _ rfl (.tmp 77) (.tmp 78) _ (.inl rfl) _ _ _ rfl HV8.out.s (by omega) N (by omega) rfl rfl ?_; intro w9 hset9 hg9; have Hset9 := Lib.hid hset9; have Hg9 := Lib.hid hg9; have hz9 := hg9.size; have Hq9 := Lib.hid (own_kept HV8.out.q hg9 (fun g h1 h2 => HV8.out.am.1 (h1.trans h2.symm))); have Hp9 := Lib.hid (own_kept HV8.out.p hg9 (fun g h1 h2 => HV8.out.am.2 (h1.trans h2.symm))); have Hl9 := Lib.hid (Row.of_own (World.ownsRow_lit (base := w9.heap.size) (e := 3) (size := 1) w9 #[.int .i64 N] 1 (Nat.le_refl _) (by unfold maxLen; omega) rfl)); clear hset9 hg9)
                | (at_builtin; refine append_ints rfl (.tmp 79) (.tmp 81) rfl w.heap.size _ L.length (nints (Cir.vsts L)) rfl (Hq9.out.alloc _) _ 1 [.int .i64 N] rfl Hl9.out (by simp [Value.oneCell']) (by omega) (by simp; omega) ?_; intro va wa howna hga hata; obtain ⟨Aa, ca, hva⟩ := slice_of_own howna; subst hva; have Hqa := Lib.hid howna; have Hga := Lib.hid hga; have Hata := Lib.hid hata; have hza := hga.size; rw [World.size_alloc] at hza; have Hpa := Lib.hid (own_kept (Hp9.out.alloc (.cells #[.int .i64 N] 3)) hga (fun g h1 h2 => HV8.out.a g h2 h1)); have Hla := Lib.hid (Row.of_own (World.ownsRow_lit (base := wa.heap.size) (e := 29) (size := 1) wa #[.slice A8 (p.length + 1) c8] 1 (Nat.le_refl _) (by unfold maxLen; omega) rfl)); clear howna hga hata)
                | (at_builtin; refine append_paths rfl (.tmp 83) (.tmp 85) rfl w.heap.size _ L.length pv2 rfl (Hpa.out.alloc _) _ 1 [.slice A8 (p.length + 1) c8] rfl Hla.out (by simp [Value.oneCell']) (by omega) (by simp; omega) ?_; intro vb wb hownb hgb hatb; obtain ⟨Ab, cb, hvb⟩ := slice_of_own hownb; subst hvb; have Hpb := Lib.hid hownb; have Hgb := Lib.hid hgb; have Hatb := Lib.hid hatb; clear hownb hgb hatb))
              go_roundw
              case rel => exact ⟨_, _, j + 1, m2 + 1, pv2 ++ [.slice A8 (p.length + 1) c8], _, rfl, rfl, by go_num, by omega, by omega, Hnb2, Lib.hid (by rw [HL2.out, Hsu.out, HPu.out]; exact HV8.out.push HS8.out (fun g h => .inl h) HF8.out Hset9.out Hg9.out Hqa.out Hga.out Hata.out Hpb.out Hgb.out Hatb.out), by
                have b1 := Hb58.out.grown Hg9.out Hb58.out.size (fun q hq => by have := Option.some.inj hq; omega)
                have b2 := (b1.alloc b1.size (.cells #[.int .i64 N] 3)).grown Hga.out (b1.alloc b1.size _).size (own_ge0 Hq9.out)
                exact (b2.alloc b2.size (.cells #[.slice A8 (p.length + 1) c8] 29)).grown Hgb.out (b2.alloc b2.size _).size (own_ge0 Hpa.out)⟩
              case measure => simp [intOf] <;> omega
            · have HPu := Lib.hid (Cir.vpush_yes (p := p ++ [j]) hc)
              have hlk := run_look_set HV5.out.s N (by omega)
              rw [hc] at hlk
              go_wp2_with fail
              go_roundw
              case rel => exact ⟨_, _, j + 1, m2, pv2, F2, rfl, rfl, by go_num, by omega, by omega, Hnb2, Lib.hid (by rw [HL2.out, Hsu.out, HPu.out]; exact HV5.out), Hb5.out⟩
              case measure => simp [intOf] <;> omega
          · have Hf := Lib.hid (Cir.vfind_some (M := 2 ^ d.ins) (by rw [← HM.out]; exact hlj) hbad Hnb.out)
            clear hbad Hnb
            have Hr : res = some (p ++ [j]) := by rw [hres.out]; exact Cir.vbfs_hit Hgs.out Hf.out
            clear hres
            subst Hr
            go_wp2_with fail
            refine (cloneSS_any _ p.length _ _ (by have := Row5.out; exact this) One5.out (by omega)).mono ?_
            rintro e w6 ⟨v6, rfl, ho6, hb6⟩
            have hz6 := hb6.size
            have Ho6 := Lib.hid ho6
            have Hb6 := Lib.hid hb6
            clear ho6 hb6
            go_wp2_with fail
            refine (bitsOf_any j d.ins _ (by omega) (by omega)).mono ?_
            rintro e w7 ⟨v7, rfl, ho7, hb7⟩
            have hz7 := hb7.size
            have Ho6b := Lib.hid (own_below Ho6.out hb7)
            have Hb7 := Lib.hid (Hb6.out.trans (hb7.mono hz6))
            have Ho7 := Lib.hid (own_mono ho7 hz6)
            have Hge7 := Lib.hid (own_ge0 ho7)
            obtain ⟨A7, c7, hv7⟩ := slice_of_own Ho7.out
            subst hv7
            have Hlit := Lib.hid (Row.of_own (World.ownsRow_lit (base := w7.heap.size) (e := 64) (size := 1) w7 #[.slice A7 (Cir.bits j d.ins).length c7] 1 (Nat.le_refl _) (by unfold maxLen; omega) rfl))
            clear ho7 hb7
            go_wp2_with (at_builtin; refine append_rows rfl (.tmp 57) (.tmp 61) rfl w5.heap.size _ p.length _ rfl (Ho6b.out.alloc _) _ 1 [.slice A7 (Cir.bits j d.ins).length c7] rfl Hlit.out (by simp [Value.oneCell']) (by omega) (by simp; omega) ?_; intro v8 w8 hown8 hg8 hat8; obtain ⟨A8, c8, hv8⟩ := slice_of_own hown8; subst hv8; have Hp8 := Lib.hid hown8; have Hg8 := Lib.hid hg8; have hz8 := hg8.size; rw [World.size_alloc] at hz8; have Ho8 := Lib.hid (own_kept (Ho7.out.alloc (.cells #[.slice A7 (Cir.bits j d.ins).length c7] 64)) hg8 (fun g h1 h2 => by have h3 := Hge7.out g h1; have h4 := (Ho6.out.lt g h2).2; omega)); have Hb8 := Lib.hid ((Hb7.out.alloc (Nat.le_trans hz6 hz7) _).grown hg8 (by simp; omega) (own_ge0 Ho6b.out)); clear hown8 hg8 hat8)
            have HS8 : Hid (SSIn bools (fun g => F2 g ∨ (w5.heap.size ≤ g ∧ g < w8.heap.size)) w8 (.slice A8 (p.length + 1) c8) (rowsOf d.ins (p ++ [j]))) := Lib.hid (by
              rw [rowsOf_snoc]
              exact SSIn.snoc (by rw [rowsOf_length]; exact hvl5) (fun i x u hx hu => (Hel5.out i x u hx hu).below Hb8.out) Ho8.out (by rw [rowsOf_length]; exact Hp8.out))
            have HV8 := Lib.hid (HV5.out.below Hb8.out)
            have HF8 : Hid (∀ g, (F2 g ∨ (w5.heap.size ≤ g ∧ g < w8.heap.size)) → g < w8.heap.size ∧ (Value.slice (some ⟨gq, 0, none⟩) L.length cq).ownBlock ≠ some g ∧ (Value.slice (some ⟨gp, 0, none⟩) L.length cp).ownBlock ≠ some g ∧ g ≠ w.heap.size + 1 + 1) := Lib.hid (fun g hg => by
              rcases hg with hg | hg
              · exact HV8.out.f g hg
              · have h3 := HV5.out.s.lt
                refine ⟨hg.2, fun h => ?_, fun h => ?_, by omega⟩
                · have h2 := (HV5.out.q.lt g h).2; omega
                · have h2 := (HV5.out.p.lt g h).2; omega)
            have Hb58 := Lib.hid (Hb5.out.trans (Hb8.out.mono (by omega)))
            have hz58 := Hb8.out.size
            have hlp : (rowsOf d.ins (p ++ [j])).length = p.length + 1 := by rw [rowsOf_length, List.length_append, List.length_singleton]
            have HSS : Hid (SSAt bools w8 (.slice A8 (p.length + 1) c8) (rowsOf d.ins (p ++ [j]))) := Lib.hid HS8.out.at
            have Hbits : Hid (∀ x ∈ rowsOf d.ins (p ++ [j]), x.length = d.ins) := Lib.hid (fun x hx => by
              unfold rowsOf at hx
              obtain ⟨y, _, rfl⟩ := List.mem_map.1 hx
              exact Cir.bits_length _ _)
            generalize hRe : rowsOf d.ins (p ++ [j]) = R at *
            have HRe := Lib.hid hRe
            clear hRe
            clear Ho6 Ho6b Ho7 Hge7 Hlit Hp8 Ho8 Hg8 HV5 HS5 Row5 Hrow5 Hel5 One5 Hb6 Hb7 hz6 hz7 HS8 HV8 HF8 Hf
            obtain ⟨Wz, hWz⟩ : ∃ Wz, Wz = w8 := ⟨_, rfl⟩
            subst hWz
            go_loopw [16, 66] (fun v i wr3 => ∃ (vv : Value) (q : Nat), vv = v ∧ i = .int .i64 q ∧ q ≤ p.length + 1 ∧ Hid (OwnSE bools 64 4 Wz.heap.size (fun g => g < wr3.heap.size) wr3 v (R.take q)) ∧ Below Wz.heap.size Wz wr3) (fun _ i _ => p.length + 1 - (intOf i).toNat)
            case atStart => exact ⟨_, 0, rfl, rfl, Nat.zero_le _, Lib.hid (OwnSE.nil _ _ _ _ _ _), Below.refl _ _⟩
            case round =>
              obtain ⟨vv, q, hvv, rfl, hq, HO, hb3⟩ := hrel
              subst hvv
              have Hb3 := Lib.hid hb3
              have hz3 := hb3.size
              by_cases hlq : q < p.length + 1
              · obtain ⟨x, hx⟩ := at_some (show q < R.length by omega)
                obtain ⟨b, o', Bx, mx, hAx, hbl, hc1, hm1, hm2, hrx⟩ := ss_open HSS.out hb3 hx
                cases hAx
                have hxl : x.length ≤ 1000 := by have := Hbits.out x (List.mem_of_getElem? hx); omega
                have HSn : Hid (R.take (q + 1) = R.take q ++ [x]) := Lib.hid (take_snoc hx)
                have Hrx := Lib.hid hrx
                have HtL : Hid ((R.take q).length = q) := Lib.hid (by rw [List.length_take]; omega)
                clear hb3 hrx hx
                generalize R.take q = Rq at *
                go_wp2_with fail
                refine (cloneB_any _ x.length _ _ Hrx.out (bools_one x) (by omega)).mono ?_
                rintro e wc ⟨vc, rfl, hoc, hbc⟩
                have hzc := hbc.size
                have HOc := Lib.hid (OwnSE.below HO.out hbc)
                have Hoc := Lib.hid (own_mono hoc hz3)
                have Hgec := Lib.hid (own_ge0 hoc)
                have Hbc := Lib.hid (Hb3.out.trans (hbc.mono hz3))
                obtain ⟨Ac, cc, hvc⟩ := slice_of_own hoc
                subst hvc
                have Hlc := Lib.hid (Row.of_own (World.ownsRow_lit (base := wc.heap.size) (e := 64) (size := 1) wc #[.slice Ac x.length cc] 1 (Nat.le_refl _) (by unfold maxLen; omega) rfl))
                have hHOl := HOc.out.below (bel_new wc (.cells #[.slice Ac x.length cc] 64))
                obtain ⟨us, q1, q2, q3, q4, q5, q6, q7⟩ := hHOl
                rw [HtL.out] at q2
                have Q2 := Lib.hid q2
                have Q := Lib.hid (And.intro q1 (And.intro q3 (And.intro q4 (And.intro q5 (And.intro q6 q7)))))
                have Hol := Lib.hid (Hoc.out.alloc (.cells #[.slice Ac x.length cc] 64))
                clear hoc hbc HO HOc q1 q2 q3 q4 q5 q6 q7
                go_wp2_with (at_builtin; refine append_rows rfl (.tmp 70) (.tmp 73) rfl Wz.heap.size _ q us rfl Q2.out _ 1 [.slice Ac x.length cc] rfl Hlc.out (by simp [Value.oneCell']) (by omega) (by simp; omega) ?_; intro v9 w9 hown9 hg9 hat9; have HSE := Lib.hid (se_append Q.out.1 Q.out.2.1 Q.out.2.2.1 Q.out.2.2.2.1 Q.out.2.2.2.2.1 Q.out.2.2.2.2.2 Hol.out (fun g h1 h2 => by have := Hgec.out g h1; omega) (by rw [HtL.out]; exact hown9) hg9 hat9); have Hg9 := Lib.hid hg9; have hz9 := hg9.size; rw [World.size_alloc] at hz9; have Hol9 := Lib.hid (fun g h => (Hol.out.lt g h).2); have Hown9 := Lib.hid hown9; clear hown9 hg9 hat9)
                go_roundw
                case rel => exact ⟨_, q + 1, rfl, by go_num, by omega, Lib.hid (by
                  rw [HSn.out]
                  refine HSE.out.mono (Nat.le_refl _) (fun g hg => ?_)
                  rcases hg with hg | hg | hg
                  · omega
                  · have h := Hol9.out g hg; rw [World.size_alloc] at h; omega
                  · exact (Hown9.out.lt g hg).2), (Hbc.out.alloc Hbc.out.size _).grown Hg9.out (Hbc.out.alloc Hbc.out.size _).size (own_ge0 Q2.out)⟩
                case measure => simp [intOf] <;> omega
              · obtain rfl : q = p.length + 1 := by omega
                have HOf : Hid (OwnSE bools 64 4 w.heap.size (fun g => g < wr.heap.size) wr vv R) := Lib.hid (by
                  have := HO.out
                  rw [List.take_of_length_le (by omega)] at this
                  exact this.mono (by omega) (fun g h => h))
                clear hb3
                go_wp2_with fail
                exact bodyPost_ret (v := .tuple #[vv, .bool true]) (by simp [results, Try.results35, go_sem]) rfl ⟨_, rfl, by rw [HRe.out]; exact HOf.out, Hb58.out.trans (Hb3.out.mono (by omega))⟩
        · obtain rfl : j = M := by omega
          have Hf := Lib.hid (Cir.vfind_none (M := 2 ^ d.ins) (by rw [← HM.out]; exact Hnb.out))
          have HMr : Hid (res = Cir.vbfs d o (9 - (k + 1)) (k + 1) (Cir.vpushes d s p j l)) := Lib.hid (by rw [hres.out, Cir.vbfs_step Hgs.out Hf.out, HM.out])
          clear Hnb
          generalize Cir.vpushes d s p j l = L at *
          go_wp2_with fail
          go_roundw
          case rel => exact ⟨_, _, k + 1, m2, L, pv2, F2, rfl, rfl, by go_num, by omega, by omega, hL8, by omega, Hvs2, HMr, HV2, Hb2.out⟩
          case measure => simp [intOf] <;> omega
    · obtain rfl : k = l.length := by omega
      have hr : res = none := by rw [hres.out, Cir.vbfs_end]
      obtain ⟨gq, cq, hvq, hgq, hgq2, hcq, hcqm⟩ := own_open HV.out.q (by have := hpos; omega)
      subst hvq
      unfold maxLen at hcqm
      subst hr
      go_wp2_with fail
      exact bodyPost_ret (v := .tuple #[.slice none 0 0, .bool false]) (by simp [results, Try.results35, go_sem]) rfl ⟨rfl, Hb.out⟩
end Go.Proofs.Ytdgminjbgjbamaa

namespace Go.Proofs.Ytdgminjbgjbamaa
open Go.RowKit
set_option maxRecDepth 100000
/-! FindViolation, by the program. -/
namespace Cir
def violI (c : Cz) (o : Int) : Option (List Nat) := if valid c = true ∧ 0 ≤ o ∧ o < c.outs.length then viol (nat c) o.toNat else none
end Cir
def vrows (ins : Nat) : Option (List Nat) → List (List Bool)
  | none => []
  | some p => rowsOf ins p
def OwnViol (ins : Nat) (r : Option (List Nat)) (w : World) (e : Ending) (w' : World) : Prop := ∃ v, e = .returned (.agg #[.bool r.isSome, v]) ∧ OwnBoolSS w.heap.size w'.heap.size w' v (vrows ins r) ∧ Below w.heap.size w w'
theorem OwnSS.set {α : Type} {enc : List α → List Value} {tO ti : TypeId} {B T : Nat} {w : World} {v : Value} {xss : List (List α)} {g i : Nat} {u : Value} (h : OwnSS enc tO ti B T w v xss) (hg : g < B) : OwnSS enc tO ti B T (w.setCell ⟨g, i, none⟩ u) v xss := by
  refine h.only (E := fun k => k = g) (Only.grown (set_grown w g i u) fun k hk => (Option.some.inj hk).symm) (fun k hk _ e => by omega)
theorem viol_cases {c : Cz} {o : Int} (h : ¬ (Cir.valid c = true ∧ 0 ≤ o ∧ o < c.outs.length)) : Cir.valid c = false ∨ (Cir.valid c = true ∧ o < 0) ∨ (Cir.valid c = true ∧ 0 ≤ o ∧ (c.outs.length : Int) ≤ o) := by
  cases hv : Cir.valid c
  · exact .inl rfl
  · rw [hv] at h
    rcases Int.lt_or_le o 0 with h1 | h1
    · exact .inr (.inl ⟨rfl, h1⟩)
    · rcases Int.lt_or_le o c.outs.length with h2 | h2
      · exact absurd ⟨rfl, h1, h2⟩ h
      · exact .inr (.inr ⟨rfl, h1, h2⟩)
set_option maxHeartbeats 4000000
theorem implViol_ok (v : Value) (d : Ci) (o : Nat) (w : World) (h : CircAt w v (Cir.toCz d)) (hd : Cir.Ok d) (hv : Cir.valid (Cir.toCz d) = true) (ho : o < d.outs.length) :
    Calls Try.prog 8 #[v, .int .i64 o] w (OwnViol d.ins (Cir.viol d o) w) := by
  have l1 := hd.ins
  have HC := Lib.hid h
  obtain ⟨vn, vg, vo, rfl, r1, r2, r3⟩ := h
  obtain ⟨Ao, co, rfl, hco, hcom⟩ := NatsAt.shape (xs := d.outs) r3
  have hins : (Cir.toCz d).ins = (d.ins : Int) := rfl
  have HP := Lib.hid (PCirc.boxed (c := Cir.toCz d) 26 r1 r2 r3)
  rw [hins] at HC HP ⊢
  have hb0 := bel_new w (.cells #[.int .i64 d.ins, vn, vg, .slice Ao d.outs.length co] 26)
  have hb1 := bel_new (w.alloc (.cells #[.int .i64 d.ins, vn, vg, .slice Ao d.outs.length co] 26)) (.cells #[.int .i64 o] 3)
  have hb2 := bel_new ((w.alloc (.cells #[.int .i64 d.ins, vn, vg, .slice Ao d.outs.length co] 26)).alloc (.cells #[.int .i64 o] 3)) (.cells #[.bool false, .slice none 0 0] 31)
  have hb12 := hb1.trans (hb2.mono hb1.size)
  have B0 := Lib.hid (hb0.trans (hb12.mono hb0.size))
  have HP := Lib.hid (HP.out.below hb12)
  have PC := Lib.hid ((PCells.boxed w d.ins vn vg (.slice Ao d.outs.length co) 26).below hb12)
  have hsz : (((w.alloc (.cells #[.int .i64 d.ins, vn, vg, .slice Ao d.outs.length co] 26)).alloc (.cells #[.int .i64 o] 3)).alloc (.cells #[.bool false, .slice none 0 0] 31)).heap.size = w.heap.size + 1 + 1 + 1 := by simp
  have hR : (((w.alloc (.cells #[.int .i64 d.ins, vn, vg, .slice Ao d.outs.length co] 26)).alloc (.cells #[.int .i64 o] 3)).alloc (.cells #[.bool false, .slice none 0 0] 31)).heap[w.heap.size + 1 + 1]? = some (.cells #[.bool false, .slice none 0 0] 31 (0, 0)) := by
    have := heap_alloc_new ((w.alloc (.cells #[.int .i64 d.ins, vn, vg, .slice Ao d.outs.length co] 26)).alloc (.cells #[.int .i64 o] 3)) (.cells #[.bool false, .slice none 0 0] 31)
    rwa [World.size_alloc, World.size_alloc] at this
  have HRes := Lib.hid hR
  have hGo : (((w.alloc (.cells #[.int .i64 d.ins, vn, vg, .slice Ao d.outs.length co] 26)).alloc (.cells #[.int .i64 o] 3)).alloc (.cells #[.bool false, .slice none 0 0] 31)).cell? ⟨w.heap.size + 1, 0, none⟩ = some (.int .i64 o) := by
    have h1 := heap_alloc_new (w.alloc (.cells #[.int .i64 d.ins, vn, vg, .slice Ao d.outs.length co] 26)) (.cells #[.int .i64 o] 3)
    rw [World.size_alloc] at h1
    have h2 := (hb2.block (w.heap.size + 1) (by simp)).trans h1
    exact blk_cell h2 0
  have HGo := Lib.hid hGo
  obtain ⟨z, p0, p1, p2, p3⟩ := PC.out
  have HC0 := Lib.hid (HC.out.below B0.out)
  have HV := Lib.hid (implValid_any _ _ _ HC0.out)
  rw [hv] at HV
  have Hd := Lib.hid hd
  have Ho := Lib.hid ho
  have t1 : decide ((o : Int) < 0) = false := decide_eq_false (by omega)
  have t2 : decide (d.outs.length ≤ o) = false := decide_eq_false (by omega)
  clear r1 r2 r3 hd hins hv HC hb0 hb1 hb2 hb12 hR ho hco hcom hGo
  go_enter Try.func8, Try.ntmps8
  go_wp2_with fail
  generalize ((w.alloc (.cells #[.int .i64 d.ins, vn, vg, .slice Ao d.outs.length co] 26)).alloc (.cells #[.int .i64 o] 3)).alloc (.cells #[.bool false, .slice none 0 0] 31) = W at *
  refine HV.out.mono ?_
  rintro e w1 ⟨rfl, hb1⟩
  have B1 := Lib.hid (B0.out.trans (hb1.mono B0.out.size))
  have HP1 := Lib.hid (HP.out.below hb1)
  have HRes1 := Lib.hid ((hb1.block _ (by omega)).trans HRes.out)
  have PC1 := Lib.hid (PC.out.below hb1)
  have c1 := (hb1.cell (p := ⟨w.heap.size + 1, 0, none⟩) (by simp only; omega)).trans HGo.out
  have HGo1 := Lib.hid c1
  have z1 := hb1.size
  clear hb1 p0 p1 p2 p3 z HV HP HC0 HRes PC HGo
  obtain ⟨z, p0, p1, p2, p3⟩ := PC1.out
  go_wp2_with fail
  refine (searchV_any w.heap.size (w.heap.size + 1) d o _ HP1.out HGo1.out (by omega) Hd.out Ho.out).mono ?_
  intro e w2 hS
  generalize Cir.viol d o = R at *
  cases R with
  | none =>
    obtain ⟨rfl, hb2⟩ := hS
    have hR2 := (hb2.block (w.heap.size + 1 + 1) (by omega)).trans HRes1.out
    have o0 := blk_cell hR2 0
    have o1 := blk_cell hR2 1
    have b0 := blk_free hR2 0
    have b1 := blk_free hR2 1
    simp at o0 o1
    have B2 := Lib.hid (B1.out.trans (hb2.mono B1.out.size))
    clear hb2 hR2 p0 p1 p2 p3
    go_wp2_with fail
    refine bodyPost_ret (v := .agg #[.bool false, .slice none 0 0]) (by simp [results, Try.results8, go_sem, o0, o1]) rfl ⟨_, rfl, OwnSS.nil _ _ _ _ _ _, ?_⟩
    exact ((B2.out.setCell (by simp only; omega) _).setCell (by simp only; omega) _)
  | some p =>
    obtain ⟨v2, rfl, hO, hb2⟩ := hS
    have hR2 := (hb2.block (w.heap.size + 1 + 1) (by omega)).trans HRes1.out
    have o0 := blk_cell hR2 0
    have o1 := blk_cell hR2 1
    have b0 := blk_free hR2 0
    have b1 := blk_free hR2 1
    simp at o0 o1
    have B2 := Lib.hid (B1.out.trans (hb2.mono B1.out.size))
    have HO := Lib.hid hO
    obtain ⟨A2, c2, hv2, -⟩ := hO.at.shape
    subst hv2
    clear hb2 hR2 p0 p1 p2 p3 hO
    go_wp2_with fail
    refine bodyPost_ret (v := .agg #[.bool true, .slice A2 (rowsOf d.ins p).length c2]) (by simp [results, Try.results8, go_sem, o0, o1]) rfl ⟨_, rfl, ?_, ?_⟩
    · exact (OwnSS.set (OwnSS.set (HO.out) (by omega)) (by omega)).mono (by omega) (by simp [World.setCell])
    · exact ((B2.out.setCell (by simp only; omega) _).setCell (by simp only; omega) _)
end Go.Proofs.Ytdgminjbgjbamaa

namespace Go.Proofs.Ytdgminjbgjbamaa
open Go.RowKit
/-! What a violation's rows of inputs do, plainly; a boxed violation. -/
def VCells (w : World) (g : Nat) (b : Bool) (v : Value) : Prop := g < w.heap.size ∧ w.cell? ⟨g, 0, none⟩ = some (.bool b) ∧ w.cell? ⟨g, 1, none⟩ = some v
theorem VCells.below {w w' : World} {g : Nat} {b : Bool} {v : Value} (h : VCells w g b v) (hb : Below w.heap.size w w') : VCells w' g b v := by
  obtain ⟨hg, c0, c1⟩ := h
  exact ⟨Nat.lt_of_lt_of_le hg hb.size, (hb.cell (p := ⟨g, 0, none⟩) hg).trans c0, (hb.cell (p := ⟨g, 1, none⟩) hg).trans c1⟩
theorem VCells.boxed (w : World) (b : Bool) (v : Value) (t : TypeId) : VCells (w.alloc (.cells #[.bool b, v] t)) w.heap.size b v :=
  ⟨by simp, World.cell?_alloc_new _ _ _ 0, World.cell?_alloc_new _ _ _ 1⟩
namespace Cir
theorem vbfs_small {c : Ci} (hc : Ok c) (o : Nat) : ∀ (f k : Nat) (l : List (Nat × List Nat)), Vs c l → ∀ p, vbfs c o f k l = some p → p.length ≤ 9
  | 0, _, _, _, p, h => by cases h
  | f + 1, k, l, hl, p, h => by
    rw [vbfs] at h
    cases hk : l[k]? with
    | none => rw [hk] at h; cases h
    | some sp =>
      obtain ⟨s, q⟩ := sp
      rw [hk] at h
      simp only at h
      cases hf : vfind c o s (2 ^ c.ins) with
      | none =>
        rw [hf] at h
        exact vbfs_small hc o f (k + 1) _ (hl.pushes hk _ (Nat.le_refl _)) p h
      | some x =>
        rw [hf] at h
        obtain rfl := Option.some.inj h
        have h1 := hl.len k s q hk
        have h2 := (List.getElem?_eq_some_iff.1 hk).1
        have h3 := hl.size hc
        rw [List.length_append, List.length_singleton]; omega
theorem viol_small {c : Ci} (hc : Ok c) {o : Nat} {p : List Nat} (h : viol c o = some p) : p.length ≤ 9 := vbfs_small hc o 9 0 _ (Vs.zero c) p h
theorem violI_some {c : Cz} {o : Int} (h : (violI c o).isSome = true) : ∃ m p, valid c = true ∧ o = (m : Nat) ∧ m < (nat c).outs.length ∧ viol (nat c) m = some p ∧ violI c o = some p := by
  obtain ⟨p, hp⟩ := Option.isSome_iff_exists.1 h
  unfold violI at hp ⊢
  by_cases hc : valid c = true ∧ 0 ≤ o ∧ o < c.outs.length
  · rw [if_pos hc] at hp ⊢
    obtain ⟨h1, h2, h3⟩ := hc
    obtain ⟨m, rfl⟩ := Int.eq_ofNat_of_zero_le h2
    exact ⟨m, p, h1, rfl, by unfold nat; simp only [List.length_map]; omega, hp, hp⟩
  · rw [if_neg hc] at hp; cases hp
theorem viol_sim {d : Ci} {o : Nat} {p : List Nat} (h : viol d o = some p) (ho : o < d.outs.length) {i : Nat} (hi : i < p.length) : ∃ row, (simL d (bits 0 d.next.length) (rowsOf d.ins p))[i]? = some row ∧ row[o]? = some (i + 1 == p.length) ∧ row.length = d.outs.length := by
  have hx := List.getElem?_eq_getElem hi
  refine ⟨outsOf d (runN d 0 (p.take i)) p[i], ?_, ?_, lits_len _ _⟩
  · show (simL d (bits 0 d.next.length) (rowsN d.ins p))[i]? = _
    rw [simL_rows, hx]
    rfl
  · rw [← viol_outs h hx]
    unfold bad
    rw [List.getD_eq_getElem?_getD, List.getElem?_eq_getElem (show o < (outsOf d (runN d 0 (p.take i)) p[i]).length from by unfold outsOf; rw [lits_len]; exact ho)]
    rfl
end Cir
end Go.Proofs.Ytdgminjbgjbamaa

namespace Go.Proofs.Ytdgminjbgjbamaa
set_option maxRecDepth 100000
open Go.RowKit Go.Joins Go.ChangeShapes Go.WideShapes Go.ChangeAt Go.Deep
/-! Arguments that are slices, whatever their elements. -/
theorem flat_at {α : Type} {size : Nat} : ∀ {els : List (List α)}, (∀ e ∈ els, e.length = size) → ∀ {j : Nat} {u : α}, els.flatten[j]? = some u → ∃ (i r : Nat) (e : List α), j = i * size + r ∧ r < size ∧ els[i]? = some e ∧ e[r]? = some u
  | [], _, j, u, h => by simp at h
  | e :: els, hl, j, u, h => by
    have he := hl e (by simp)
    rw [List.flatten_cons, List.getElem?_append] at h
    split at h
    · rename_i hlt
      exact ⟨0, j, e, by omega, by omega, rfl, h⟩
    · rename_i hge
      obtain ⟨i, r, e', hj, hr, hi, hu⟩ := flat_at (fun e' h' => hl e' (List.mem_cons_of_mem _ h')) h
      refine ⟨i + 1, r, e', ?_, hr, by simpa using hi, hu⟩
      rw [Nat.add_mul]
      omega
theorem flat_length {α : Type} {size : Nat} : ∀ {els : List (List α)}, (∀ e ∈ els, e.length = size) → els.flatten.length = els.length * size
  | [], _ => by simp
  | e :: els, h => by
    rw [List.flatten_cons, List.length_append, flat_length (fun e' h' => h e' (List.mem_cons_of_mem _ h')), h e (by simp), List.length_cons, Nat.add_mul]
    omega
section
variable {H : Type} {enc : TypeId × Value → H} {P : Program} {w : World} {base : Nat} {spare : Nat → Bool} {held : Bool}
theorem slice_rd {t e : TypeId} {size fuel : Nat} {cs : List Value} {x : DataW H × List MemPlace} (ht : P.underlying t = some (.slice e)) (hc : P.cellsOf e = size) (hs : 0 < size) (G : List Value → Prop)
    (hG : ∀ n cs' y, cs'.length = size → DataW.trod enc P w base spare held n e cs' = some y → G cs') (h : DataW.trod enc P w base spare held fuel t cs = some x) :
    ∃ (A : Option Addr) (n c : Nat) (els : List (List Value)), cs = [.slice A n c] ∧ Row w size (.slice A n c) n els.flatten ∧ els.length = n ∧ (∀ e ∈ els, e.length = size) ∧ ∀ e ∈ els, G e := by
  rcases open_slice ht h with ⟨rfl, _⟩ | ⟨a, len, cap, m, n, D, Pl, rfl, hb, hl, hm, hmm, _, hx⟩
  · exact ⟨none, 0, 0, [], rfl, Row.nil w size, rfl, by simp, by simp⟩
  · have hx' : ∀ i, i < len → ∃ cs', cs'.length = size ∧ (∀ j, j < size → w.cell? (a.add (i * size + j)) = cs'[j]?) ∧ G cs' := by
      intro i hi
      have him : i < m := by rw [hmm]; split <;> omega
      obtain ⟨cs', h1, h2⟩ := hx i him
      rw [hc] at h1
      obtain ⟨_, h3, h4⟩ := World.cells?_some h1
      refine ⟨cs', h3, fun j hj => ?_, hG _ _ _ h3 h2⟩
      rw [← Go.Deep.add_add]
      exact h4 j hj
    let f : Nat → List Value := fun i => if h : i < len then (hx' i h).choose else []
    have hf : ∀ i, i < len → (f i).length = size ∧ (∀ j, j < size → w.cell? (a.add (i * size + j)) = (f i)[j]?) ∧ G (f i) := by
      intro i hi
      have := (hx' i hi).choose_spec
      simp only [f, hi, dite_true]
      exact this
    have hel : ∀ e ∈ (List.range len).map f, e.length = size := by
      intro e he
      obtain ⟨i, hi, rfl⟩ := List.mem_map.1 he
      exact (hf i (List.mem_range.1 hi)).1
    refine ⟨some a, len, cap, (List.range len).map f, rfl, ⟨by rw [flat_length hel]; simp, some a, cap, rfl, hl, hm, fun hn => ?_⟩, by simp, hel, fun e he => ?_⟩
    · obtain ⟨b, off, spot⟩ := a
      obtain ⟨h5, h6, _⟩ := hf 0 hn
      have h0 := h6 0 hs
      rw [List.getElem?_eq_getElem (by omega)] at h0
      have hspot : spot = none := by simpa [Addr.add] using World.cell?_spot h0
      subst hspot
      refine ⟨b, off, rfl, ?_, fun j u hu => ?_⟩
      · rcases Nat.lt_or_ge b w.heap.size with hl | hl
        · exact hl
        · simp [World.cell?, Addr.add, Array.getElem?_eq_none hl] at h0
      · obtain ⟨i, r, e', rfl, hr, hi, hu'⟩ := flat_at hel hu
        have hil : i < len := by
          obtain ⟨hi', _⟩ := List.getElem?_eq_some_iff.1 hi
          simpa using hi'
        have : e' = f i := by simpa [hil] using hi.symm
        subst this
        rw [← Go.WideShapes.add_plain, (hf i hil).2.1 r hr]
        exact hu'
    · obtain ⟨i, hi, rfl⟩ := List.mem_map.1 he
      exact (hf i (List.mem_range.1 hi)).2.2
end
def WfI (x : Int) : Prop := -9223372036854775808 ≤ x ∧ x ≤ 9223372036854775807
theorem wf_i {x : Int} (h : (Lit.int .i64 x).wf = true) : WfI x := by
  have := Go.bounds_i64 h
  unfold WfI
  omega
/-- What the cells of the elements come to. -/
theorem els_of {α : Type} (f : α → List Value) (G : α → Prop) : ∀ {els : List (List Value)}, (∀ e ∈ els, ∃ x, e = f x ∧ G x) → ∃ xs : List α, els.flatten = xs.flatMap f ∧ xs.length = els.length ∧ ∀ x ∈ xs, G x
  | [], _ => ⟨[], rfl, rfl, by simp⟩
  | e :: els, h => by
    obtain ⟨xs, h1, h2, h3⟩ := els_of f G (fun e' h' => h e' (List.mem_cons_of_mem _ h'))
    obtain ⟨x, rfl, hx⟩ := h e (by simp)
    refine ⟨x :: xs, by simp [h1], by simp [h2], ?_⟩
    intro y hy
    rcases List.mem_cons.1 hy with e | hy
    · exact e ▸ hx
    · exact h3 y hy
theorem flatMap_one {α : Type} (f : α → Value) : ∀ xs : List α, (xs.flatMap fun x => [f x]) = xs.map f
  | [] => rfl
  | x :: xs => by rw [List.flatMap_cons, flatMap_one f xs]; rfl
/-- What is known of an argument's cells. -/
def GInts (w : World) (cs : List Value) : Prop := ∃ (A : Option Addr) (n c : Nat) (xs : List Int), cs = [.slice A n c] ∧ IntsAt w (.slice A n c) xs ∧ xs.length = n ∧ ∀ x ∈ xs, WfI x
def GBools (w : World) (cs : List Value) : Prop := ∃ (A : Option Addr) (n c : Nat) (xs : List Bool), cs = [.slice A n c] ∧ BoolsAt w (.slice A n c) xs ∧ xs.length = n
def GPairs (w : World) (cs : List Value) : Prop := ∃ (A : Option Addr) (n c : Nat) (xs : List (Int × Int)), cs = [.slice A n c] ∧ CubesAt w (.slice A n c) xs ∧ xs.length = n ∧ ∀ x ∈ xs, WfI x.1 ∧ WfI x.2
section
variable {H : Type} {enc : TypeId × Value → H} {w : World} {base : Nat} {spare : Nat → Bool} {held : Bool}
theorem rd_int {n : Nat} {cs : List Value} {y : DataW H × List MemPlace} (h : DataW.trod enc Try.prog w base spare held n 3 cs = some y) : ∃ x, cs = [.int .i64 x] ∧ WfI x := by
  obtain ⟨x, e, _, hw⟩ := DataW.trod_int Try.underlying3 h
  exact ⟨x, e, wf_i hw⟩
theorem rd_bool {n : Nat} {cs : List Value} {y : DataW H × List MemPlace} (h : DataW.trod enc Try.prog w base spare held n 4 cs = some y) : ∃ x, cs = [.bool x] := by
  obtain ⟨x, e, _⟩ := DataW.trod_bool Try.underlying4 h
  exact ⟨x, e⟩
theorem rd_ints {n : Nat} {cs : List Value} {y : DataW H × List MemPlace} (h : DataW.trod enc Try.prog w base spare held n 23 cs = some y) : GInts w cs := by
  obtain ⟨A, n, c, els, rfl, hr, rfl, _, hg⟩ := slice_rd (size := 1) Try.underlying23 (by kernel_rfl) (by decide) (fun cs => ∃ x, cs = [.int .i64 x] ∧ WfI x) (fun _ _ _ _ h => rd_int h) h
  obtain ⟨xs, h1, h2, h3⟩ := els_of (fun x : Int => [Value.int .i64 x]) WfI hg
  rw [flatMap_one] at h1
  exact ⟨A, _, c, xs, rfl, by rw [h1, ← h2] at hr; rw [← h2]; exact hr, h2, h3⟩
theorem rd_bools {n : Nat} {cs : List Value} {y : DataW H × List MemPlace} (h : DataW.trod enc Try.prog w base spare held n 64 cs = some y) : GBools w cs := by
  obtain ⟨A, n, c, els, rfl, hr, rfl, _, hg⟩ := slice_rd (size := 1) Try.underlying64 (by kernel_rfl) (by decide) (fun cs => ∃ x, cs = [.bool x]) (fun _ _ _ _ h => rd_bool h) h
  obtain ⟨xs, h1, h2, _⟩ := els_of (fun x : Bool => [Value.bool x]) (fun _ => True) (fun e he => by obtain ⟨x, hx⟩ := hg e he; exact ⟨x, hx, trivial⟩)
  rw [flatMap_one] at h1
  exact ⟨A, _, c, xs, rfl, by rw [h1, ← h2] at hr; rw [← h2]; exact hr, h2⟩
theorem rd_pair {t : TypeId} {f0 f1 : Field} (hs : Try.prog.underlying t = some (.struct #[f0, f1])) (h0 : f0.type = 3) (h1 : f1.type = 3) (hone : oneCellFields Try.prog #[f0, f1] = true) (hC : Try.prog.cellsOf t = 2) {n : Nat} {cs : List Value} {y : DataW H × List MemPlace} (hl : cs.length = 2) (h : DataW.trod enc Try.prog w base spare held n t cs = some y) : ∃ x : Int × Int, cs = [.int .i64 x.1, .int .i64 x.2] ∧ WfI x.1 ∧ WfI x.2 := by
  match cs, hl with
  | [c0, c1], _ =>
    obtain ⟨xs, n, _, hx, _, hlen, hg⟩ := DataW.trod_struct hs h
    obtain ⟨o0, k0⟩ := hone_of hone 0 f0 rfl
    obtain ⟨o1, k1⟩ := hone_of hone 1 f1 rfl
    match xs, hlen with
    | [y0, y1], _ =>
      have g0 : DataW.trod enc Try.prog w base spare held n f0.type [c0] = some y0 := by simpa [Value.cells, o0, k0] using hg 0 f0 rfl
      have g1 : DataW.trod enc Try.prog w base spare held n f1.type [c1] = some y1 := by simpa [Value.cells, o1, k1] using hg 1 f1 rfl
      rw [h0] at g0
      rw [h1] at g1
      obtain ⟨a, e0, w0⟩ := rd_int g0
      obtain ⟨b, e1, w1⟩ := rd_int g1
      injection e0 with e0
      injection e1 with e1
      subst e0 e1
      exact ⟨(a, b), rfl, w0, w1⟩
theorem rd_pairs {t e : TypeId} {f0 f1 : Field} (ht : Try.prog.underlying t = some (.slice e)) (hs : Try.prog.underlying e = some (.struct #[f0, f1])) (h0 : f0.type = 3) (h1 : f1.type = 3) (hone : oneCellFields Try.prog #[f0, f1] = true) (hC : Try.prog.cellsOf e = 2) {n : Nat} {cs : List Value} {y : DataW H × List MemPlace} (h : DataW.trod enc Try.prog w base spare held n t cs = some y) : GPairs w cs := by
  obtain ⟨A, n, c, els, rfl, hr, rfl, _, hg⟩ := slice_rd (size := 2) ht hC (by decide) (fun cs => ∃ x : Int × Int, cs = [.int .i64 x.1, .int .i64 x.2] ∧ WfI x.1 ∧ WfI x.2) (fun _ _ _ hl h => rd_pair hs h0 h1 hone hC hl h) h
  obtain ⟨xs, g1, g2, g3⟩ := els_of (fun x : Int × Int => [Value.int .i64 x.1, Value.int .i64 x.2]) (fun x => WfI x.1 ∧ WfI x.2) hg
  exact ⟨A, _, c, xs, rfl, by rw [g1, ← g2] at hr; rw [← g2]; exact hr, g2, g3⟩
end
theorem slice_val {P : Program} {w : World} {r : Reach} {b0 : Nat} {t e : TypeId} {v : Value} (ht : P.underlying t = some (.slice e)) (hv : Value.okWide P w r b0 t v) : ∃ A n c, v = .slice A n c := by
  simp only [Value.okWide, ht, Cell.okWide] at hv
  cases v <;> simp_all [Cell.ok]
section
variable {H : Type} {enc : TypeId × Value → H} {w : World} {r : Reach} {b0 base : Nat} {spare : Nat → Bool} {held : Bool} {v : Value} {d : DataW H} {p : List MemPlace}
/-- Arguments: an int, a slice of ints, of booleans, of pairs of ints. -/
def AInt (_ : World) (v : Value) : Prop := ∃ x : Int, v = .int .i64 x ∧ WfI x
theorem open_aint (hv : Value.okWide Try.prog w r b0 3 v) (h : DataW.Trod enc Try.prog w base spare held 3 v d p) : AInt w v := by
  obtain ⟨x, rfl, rfl, rfl, hw⟩ := open_int Try.underlying3 hv h
  exact ⟨x, rfl, wf_i hw⟩
def AInts (w : World) (v : Value) : Prop := ∃ xs : List Int, IntsAt w v xs ∧ ∀ x ∈ xs, WfI x
theorem open_aints (hv : Value.okWide Try.prog w r b0 23 v) (h : DataW.Trod enc Try.prog w base spare held 23 v d p) : AInts w v := by
  obtain ⟨A, n, c, rfl⟩ := slice_val Try.underlying23 hv
  obtain ⟨m, hm⟩ := h
  obtain ⟨A', n', c', xs, e, h1, h2, h3⟩ := rd_ints hm
  simp [Value.cells] at e
  obtain ⟨rfl, rfl, rfl⟩ := e
  exact ⟨xs, h1, h3⟩
def ABools (w : World) (v : Value) : Prop := ∃ xs : List Bool, BoolsAt w v xs
theorem open_abools (hv : Value.okWide Try.prog w r b0 64 v) (h : DataW.Trod enc Try.prog w base spare held 64 v d p) : ABools w v := by
  obtain ⟨A, n, c, rfl⟩ := slice_val Try.underlying64 hv
  obtain ⟨m, hm⟩ := h
  obtain ⟨A', n', c', xs, e, h1, h2⟩ := rd_bools hm
  simp [Value.cells] at e
  obtain ⟨rfl, rfl, rfl⟩ := e
  exact ⟨xs, h1⟩
def APairs (w : World) (v : Value) : Prop := ∃ xs : List (Int × Int), CubesAt w v xs ∧ ∀ x ∈ xs, WfI x.1 ∧ WfI x.2
end
end Go.Proofs.Ytdgminjbgjbamaa

namespace Go.Proofs.Ytdgminjbgjbamaa
set_option maxRecDepth 100000
open Go.RowKit Go.Joins Go.ChangeShapes Go.WideShapes Go.ChangeAt Go.Deep
section
variable {H : Type} {enc : TypeId × Value → H} {w : World} {r : Reach} {b0 base : Nat} {spare : Nat → Bool} {held : Bool} {v : Value} {d : DataW H} {p : List MemPlace}
/-- A circuit, as an argument. -/
def ACirc (w : World) (v : Value) : Prop := ∃ c : Cz, CircAt w v c ∧ WfI c.ins ∧ (∀ x ∈ c.next, WfI x) ∧ (∀ x ∈ c.gates, WfI x.1 ∧ WfI x.2) ∧ (∀ x ∈ c.outs, WfI x)
end
theorem CircAt.shape {w : World} {v : Value} {c : Cz} (h : CircAt w v c) : ∃ An cn Ag cg Ao co, v = .agg #[.int .i64 c.ins, .slice An c.next.length cn, .slice Ag c.gates.length cg, .slice Ao c.outs.length co] := by
  obtain ⟨vn, vg, vo, rfl, r1, r2, r3⟩ := h
  obtain ⟨An, cn, rfl, -⟩ := Row.shape r1
  obtain ⟨Ag, cg, rfl, -⟩ := Row.shape r2
  obtain ⟨Ao, co, rfl, -⟩ := Row.shape r3
  exact ⟨An, cn, Ag, cg, Ao, co, rfl⟩
def TCirc (c : Cz) : Ty := fun w v => CircAt w v c
theorem stb_circ (c : Cz) : Stb (fun _ => False) (TCirc c) := fun _ _ _ h ho => h.below (only_below ho)
/-- A circuit in a box of the law's. -/
structure BoxC (w : World) (g : Nat) (c : Cz) (vn vg vo : Value) : Prop where
  pc : PCells w g c.ins vn vg vo
  at_ : CircAt w (.agg #[.int .i64 c.ins, vn, vg, vo]) c
theorem BoxC.below {w w' : World} {g : Nat} {c : Cz} {vn vg vo : Value} (h : BoxC w g c vn vg vo) (hb : Below w.heap.size w w') : BoxC w' g c vn vg vo := ⟨h.pc.below hb, h.at_.below hb⟩
theorem BoxC.made {w : World} {c : Cz} {vn vg vo : Value} (t : TypeId) (h : CircAt w (.agg #[.int .i64 c.ins, vn, vg, vo]) c) : BoxC (w.alloc (.cells #[.int .i64 c.ins, vn, vg, vo] t)) w.heap.size c vn vg vo :=
  ⟨PCells.boxed _ _ _ _ _ _, h.below ((Below.refl _ _).alloc (Nat.le_refl _) _)⟩
end Go.Proofs.Ytdgminjbgjbamaa

namespace Go.Proofs.Ytdgminjbgjbamaa
open Go.RowKit
set_option maxRecDepth 100000
set_option maxHeartbeats 4000000
/-! FindViolation, by the program: no violation for arguments that are none; any arguments. -/
theorem implViol_no (v : Value) (c : Cz) (o : Int) (w : World) (h : CircAt w v c) (hno : Cir.valid c = false ∨ (Cir.valid c = true ∧ o < 0) ∨ (Cir.valid c = true ∧ 0 ≤ o ∧ (c.outs.length : Int) ≤ o)) :
    Calls Try.prog 8 #[v, .int .i64 o] w (OwnViol (Cir.nat c).ins none w) := by
  have HC := Lib.hid h
  obtain ⟨An, cn, Ag, cg, Ao, co, rfl⟩ := h.shape
  have hb0 := bel_new w (.cells #[.int .i64 c.ins, .slice An c.next.length cn, .slice Ag c.gates.length cg, .slice Ao c.outs.length co] 26)
  have hb1 := bel_new (w.alloc (.cells #[.int .i64 c.ins, .slice An c.next.length cn, .slice Ag c.gates.length cg, .slice Ao c.outs.length co] 26)) (.cells #[.int .i64 o] 3)
  have hb2 := bel_new ((w.alloc (.cells #[.int .i64 c.ins, .slice An c.next.length cn, .slice Ag c.gates.length cg, .slice Ao c.outs.length co] 26)).alloc (.cells #[.int .i64 o] 3)) (.cells #[.bool false, .slice none 0 0] 31)
  have hb12 := hb1.trans (hb2.mono hb1.size)
  have B0 := Lib.hid (hb0.trans (hb12.mono hb0.size))
  have PC := Lib.hid ((PCells.boxed w c.ins (.slice An c.next.length cn) (.slice Ag c.gates.length cg) (.slice Ao c.outs.length co) 26).below hb12)
  have hsz : (((w.alloc (.cells #[.int .i64 c.ins, .slice An c.next.length cn, .slice Ag c.gates.length cg, .slice Ao c.outs.length co] 26)).alloc (.cells #[.int .i64 o] 3)).alloc (.cells #[.bool false, .slice none 0 0] 31)).heap.size = w.heap.size + 1 + 1 + 1 := by simp
  have hR : (((w.alloc (.cells #[.int .i64 c.ins, .slice An c.next.length cn, .slice Ag c.gates.length cg, .slice Ao c.outs.length co] 26)).alloc (.cells #[.int .i64 o] 3)).alloc (.cells #[.bool false, .slice none 0 0] 31)).heap[w.heap.size + 1 + 1]? = some (.cells #[.bool false, .slice none 0 0] 31 (0, 0)) := by
    have := heap_alloc_new ((w.alloc (.cells #[.int .i64 c.ins, .slice An c.next.length cn, .slice Ag c.gates.length cg, .slice Ao c.outs.length co] 26)).alloc (.cells #[.int .i64 o] 3)) (.cells #[.bool false, .slice none 0 0] 31)
    rwa [World.size_alloc, World.size_alloc] at this
  have HRes := Lib.hid hR
  have hGo : (((w.alloc (.cells #[.int .i64 c.ins, .slice An c.next.length cn, .slice Ag c.gates.length cg, .slice Ao c.outs.length co] 26)).alloc (.cells #[.int .i64 o] 3)).alloc (.cells #[.bool false, .slice none 0 0] 31)).cell? ⟨w.heap.size + 1, 0, none⟩ = some (.int .i64 o) := by
    have h1 := heap_alloc_new (w.alloc (.cells #[.int .i64 c.ins, .slice An c.next.length cn, .slice Ag c.gates.length cg, .slice Ao c.outs.length co] 26)) (.cells #[.int .i64 o] 3)
    rw [World.size_alloc] at h1
    have h2 := (hb2.block (w.heap.size + 1) (by simp)).trans h1
    exact blk_cell h2 0
  have HGo := Lib.hid hGo
  obtain ⟨z, p0, p1, p2, p3⟩ := PC.out
  have HV := Lib.hid (implValid_any _ _ _ (HC.out.below B0.out))
  have Hno := Lib.hid hno
  clear HC hb0 hb1 hb2 hb12 hR hGo hno
  rcases Hno.out with hv | ⟨hv, h1⟩ | ⟨hv, h1, h2⟩
  ·
    skip
    rw [hv] at HV
    skip
    clear hv Hno
    go_enter Try.func8, Try.ntmps8
    go_wp2_with fail
    generalize ((w.alloc (.cells #[.int .i64 c.ins, .slice An c.next.length cn, .slice Ag c.gates.length cg, .slice Ao c.outs.length co] 26)).alloc (.cells #[.int .i64 o] 3)).alloc (.cells #[.bool false, .slice none 0 0] 31) = W at *
    refine HV.out.mono ?_
    rintro e w1 ⟨rfl, hb1⟩
    have B1 := Lib.hid (B0.out.trans (hb1.mono B0.out.size))
    have PC1 := Lib.hid (PC.out.below hb1)
    have c1 := (hb1.cell (p := ⟨w.heap.size + 1, 0, none⟩) (by simp only; omega)).trans HGo.out
    have hR1 := (hb1.block _ (by omega)).trans HRes.out
    have z1 := hb1.size
    have o0 := blk_cell hR1 0
    have o1 := blk_cell hR1 1
    have b0 := blk_free hR1 0
    have b1 := blk_free hR1 1
    simp at o0 o1
    clear hb1 hR1 p0 p1 p2 p3 z HV HRes PC HGo
    obtain ⟨z, p0, p1, p2, p3⟩ := PC1.out
    go_wp2_with fail
    refine bodyPost_ret (v := .agg #[.bool false, .slice none 0 0]) (by simp [results, Try.results8, go_sem, o0, o1]) rfl ⟨_, rfl, OwnSS.nil _ _ _ _ _ _, ?_⟩
    exact ((B1.out.setCell (by simp only; omega) _).setCell (by simp only; omega) _)
  ·
    have t1 : decide (o < 0) = true := decide_eq_true h1
    rw [hv] at HV
    clear h1
    clear hv Hno
    go_enter Try.func8, Try.ntmps8
    go_wp2_with fail
    generalize ((w.alloc (.cells #[.int .i64 c.ins, .slice An c.next.length cn, .slice Ag c.gates.length cg, .slice Ao c.outs.length co] 26)).alloc (.cells #[.int .i64 o] 3)).alloc (.cells #[.bool false, .slice none 0 0] 31) = W at *
    refine HV.out.mono ?_
    rintro e w1 ⟨rfl, hb1⟩
    have B1 := Lib.hid (B0.out.trans (hb1.mono B0.out.size))
    have PC1 := Lib.hid (PC.out.below hb1)
    have c1 := (hb1.cell (p := ⟨w.heap.size + 1, 0, none⟩) (by simp only; omega)).trans HGo.out
    have hR1 := (hb1.block _ (by omega)).trans HRes.out
    have z1 := hb1.size
    have o0 := blk_cell hR1 0
    have o1 := blk_cell hR1 1
    have b0 := blk_free hR1 0
    have b1 := blk_free hR1 1
    simp at o0 o1
    clear hb1 hR1 p0 p1 p2 p3 z HV HRes PC HGo
    obtain ⟨z, p0, p1, p2, p3⟩ := PC1.out
    go_wp2_with fail
    refine bodyPost_ret (v := .agg #[.bool false, .slice none 0 0]) (by simp [results, Try.results8, go_sem, o0, o1]) rfl ⟨_, rfl, OwnSS.nil _ _ _ _ _ _, ?_⟩
    exact ((B1.out.setCell (by simp only; omega) _).setCell (by simp only; omega) _)
  ·
    have t1 : decide (o < 0) = false := decide_eq_false (by omega)
    rw [hv] at HV
    have t2 : decide ((c.outs.length : Int) ≤ o) = true := decide_eq_true h2
    clear h1 h2
    clear hv Hno
    go_enter Try.func8, Try.ntmps8
    go_wp2_with fail
    generalize ((w.alloc (.cells #[.int .i64 c.ins, .slice An c.next.length cn, .slice Ag c.gates.length cg, .slice Ao c.outs.length co] 26)).alloc (.cells #[.int .i64 o] 3)).alloc (.cells #[.bool false, .slice none 0 0] 31) = W at *
    refine HV.out.mono ?_
    rintro e w1 ⟨rfl, hb1⟩
    have B1 := Lib.hid (B0.out.trans (hb1.mono B0.out.size))
    have PC1 := Lib.hid (PC.out.below hb1)
    have c1 := (hb1.cell (p := ⟨w.heap.size + 1, 0, none⟩) (by simp only; omega)).trans HGo.out
    have hR1 := (hb1.block _ (by omega)).trans HRes.out
    have z1 := hb1.size
    have o0 := blk_cell hR1 0
    have o1 := blk_cell hR1 1
    have b0 := blk_free hR1 0
    have b1 := blk_free hR1 1
    simp at o0 o1
    clear hb1 hR1 p0 p1 p2 p3 z HV HRes PC HGo
    obtain ⟨z, p0, p1, p2, p3⟩ := PC1.out
    go_wp2_with fail
    refine bodyPost_ret (v := .agg #[.bool false, .slice none 0 0]) (by simp [results, Try.results8, go_sem, o0, o1]) rfl ⟨_, rfl, OwnSS.nil _ _ _ _ _ _, ?_⟩
    exact ((B1.out.setCell (by simp only; omega) _).setCell (by simp only; omega) _)
theorem implViol_any (v : Value) (c : Cz) (o : Int) (w : World) (h : CircAt w v c) :
    Calls Try.prog 8 #[v, .int .i64 o] w (OwnViol (Cir.nat c).ins (Cir.violI c o) w) := by
  by_cases hc : Cir.valid c = true ∧ 0 ≤ o ∧ o < c.outs.length
  · obtain ⟨d1, d2⟩ := Cir.nat_ok hc.1
    obtain ⟨m, rfl⟩ := Int.eq_ofNat_of_zero_le hc.2.1
    have hr : Cir.violI c (m : Int) = Cir.viol (Cir.nat c) m := by unfold Cir.violI; rw [if_pos hc]; rfl
    rw [hr]
    exact implViol_ok v (Cir.nat c) m w (by rw [← d1]; exact h) d2 (by rw [← d1]; exact hc.1) (by have := hc.2.2; unfold Cir.nat; simp only [List.length_map]; omega)
  · have hr : Cir.violI c o = none := by unfold Cir.violI; rw [if_neg hc]
    rw [hr]
    exact implViol_no v c o w h (viol_cases hc)
/-! The rows of inputs that lead to a violation, by the reference. -/
def TBits (B : Nat) (xs : List Bool) : Ty := fun w v => RowIn (From B) w 1 v xs.length (bools xs)
theorem stb_bits (B : Nat) (xs : List Bool) : Stb (fun _ => False) (TBits B xs) := fun _ _ _ h ho => RowIn.below h (only_below ho)
def TFront (B : Nat) (xs : List Bool) : Ty := fun w v => ∃ g u, v = .slice (some ⟨g, 0, none⟩) 1 1 ∧ B ≤ g ∧ g < w.heap.size ∧ w.cell? ⟨g, 0, none⟩ = some u ∧ RowIn (From B) w 1 u xs.length (bools xs)
theorem stb_front (B : Nat) (xs : List Bool) : Stb (fun _ => False) (TFront B xs) := by
  rintro v w w' ⟨g, u, rfl, hB, hg, hc, hb⟩ ho
  have hbl := only_below ho
  exact ⟨g, u, rfl, hB, Nat.lt_of_lt_of_le hg ho.size, (hbl.cell (p := ⟨g, 0, none⟩) hg).trans hc, hb.below hbl⟩
def TSS (B : Nat) (xss : List (List Bool)) : Ty := fun w v => SSIn bools (From B) w v xss
theorem stb_ss (B : Nat) (xss : List (List Bool)) : Stb (fun _ => False) (TSS B xss) := fun _ _ _ h ho => h.below (only_below ho)
/-- append of a row of rows to a single one. -/
theorem run_front {w : World} {xs : List Bool} {xss : List (List Bool)} {v y : Value} {B : Nat} (ty : TypeId) (hx : TFront B xs w v) (hy : SSIn bools (From B) w y xss) (hBw : B ≤ w.heap.size) (hn : 0 < xss.length) (hm : xss.length ≤ 1000) :
    ∃ v' w', (Builtin.append_ #[29, 29] ty #[v, y]).run Try.prog w = .ok v' w' ∧ SSIn bools (From B) w' v' (xs :: xss) ∧ Below w.heap.size w w' := by
  obtain ⟨i, hi, hz0, hz1, hz2⟩ := info_parts info_bools2
  obtain ⟨g, u, rfl, hB, hg, hc, hb⟩ := hx
  obtain ⟨vs, hvl, hr, hel⟩ := hy
  obtain ⟨b, o, c, rfl, h1, h2, h3, h4⟩ := Row.open hr.1 hn
  have hcells : vs.length = xss.length * i.size := by rw [hz1]; have := hr.1.len; omega
  have hrun := run_append_grow (P := Try.prog) w 29 ty 64 i _ Try.underlying29 hi hz0 ⟨g, 0, none⟩ 1 1 [u] (by rw [hz1]; rfl) (fun j q hq => by
      cases j with
      | zero => obtain rfl := Option.some.inj hq; exact hc
      | succ j => simp at hq) ⟨b, o, none⟩ xss.length c vs hcells (fun j q hq => by have h5 := h4 j q hq; cases j <;> simpa [Addr.add] using h5) (by omega) (by omega) (by
      rw [hz2]
      exact growslice_fits (by omega) (by omega))
  refine ⟨_, _, hrun, ?_, ?_⟩
  · have hge := grownCap_ge w (1 + xss.length) 1 64
    have hle := grownCap_le_maxLen w (1 + xss.length) 1 64 (by unfold maxLen; omega)
    have hb2 : Below w.heap.size w (w.drew.alloc (.cells ([u].toArray ++ vs.toArray ++ Builtin.zeroCells (Value.cells (.slice none 0 0)) (grownCap w (1 + xss.length) 1 64 - (1 + xss.length))) 64)) := ⟨rfl, rfl, rfl, by simp, fun k hk => heap_alloc_old w.drew _ hk⟩
    refine ⟨u :: vs, by simp [hvl], ⟨⟨by simp [hvl], _, _, by rw [List.length_cons, Nat.add_comm xss.length 1], by rw [List.length_cons]; omega, hle, fun _ => ⟨w.heap.size, 0, rfl, by simp, fun j q hq => ?_⟩⟩, fun _ g hg => ?_⟩, fun i x z hx hz => ?_⟩
    · have h5 := heap_alloc_new w.drew (.cells ([u].toArray ++ vs.toArray ++ Builtin.zeroCells (Value.cells (.slice none 0 0)) (grownCap w (1 + xss.length) 1 64 - (1 + xss.length))) 64)
      have h6 := blk_cell h5 (0 + j)
      refine h6.trans ?_
      rw [Nat.zero_add, ← Array.getElem?_toList]
      simp only [Array.toList_append]
      rw [List.getElem?_append_left (by have := (List.getElem?_eq_some_iff.1 hq).1; simpa using this)]
      simpa using hq
    · obtain rfl := Option.some.inj hg
      exact hBw
    · cases i with
      | zero =>
        obtain rfl := Option.some.inj hx
        obtain rfl := Option.some.inj hz
        exact hb.below hb2
      | succ i => exact (hel i x z hx hz).below hb2
  · exact ⟨rfl, rfl, rfl, by simp, fun k hk => heap_alloc_old w.drew _ hk⟩
end Go.Proofs.Ytdgminjbgjbamaa

namespace Go.Proofs.Ytdgminjbgjbamaa
open Go.RowKit
set_option maxRecDepth 100000
section
variable {S : RS} {Fin : List Ty → Prop} {o : Oper} {l : List Oper} {i : Nat} {τs : List Ty}
/-- A slice of one row, in a region. -/
theorem rs_front0 (hO : S.Ok) (hid : i ≠ S.d ∨ ∀ ov w, S.J ov w) (hE : S.E = fun _ => False) (B : Nat) (hB : B ≤ S.w0.heap.size) (xs : List Bool)
    (h : ∀ ρ w, Only S.E S.w0 w → Known S.ops (tys τs) S.a0 ρ w i o.op.operands.toList → ∃ u, RowIn (From B) w 1 u xs.length (bools xs) ∧ (execOp ρ o).run S.P w = .ok (.value (.slice (some ⟨w.heap.size, 0, none⟩) 1 1)) (w.alloc (.cells #[u] 64)))
    (rest : RSeq S Fin l (i + 1) (TFront B xs :: τs)) : RSeq S Fin (o :: l) i τs := by
  refine rs_alloc hO hid (TFront B xs) (by rw [hE]; exact stb_front B xs) (fun ρ w ho hK => ?_) rest
  obtain ⟨u, h1, h2⟩ := h ρ w ho hK
  exact ⟨_, _, h2, w.heap.size, u, rfl, Nat.le_trans hB ho.size, by simp, blk_cell (heap_alloc_new w _) 0, h1.below (bel_new _ _)⟩
/-- A row in front of rows, in a region. -/
theorem rs_front (hO : S.Ok) (hid : i ≠ S.d ∨ ∀ ov w, S.J ov w) (hE : S.E = fun _ => False) (hF : S.F = fun _ => False) (hrd : S.rd = none) (hP : S.P = Try.prog) (x y : Nat) (B : Nat) (hB : B ≤ S.w0.heap.size) (xs : List Bool) (xss : List (List Bool)) (c : Value)
    (ho : o.op = .call { callee := .builtin .append, args := #[.tmp x, .tmp y], argTypes := #[29, 29] }) (jx jy : Nat) (hx : writer S.ops i x = some jx) (hy : writer S.ops i y = some jy) (hTx : tys τs jx = TFront B xs) (hTy : tys τs jy = TEq c)
    (hs : SSIn bools (From B) S.w0 c xss) (hn : 0 < xss.length) (hm : xss.length ≤ 1000)
    (rest : RSeq S Fin l (i + 1) (TSS B (xs :: xss) :: τs)) : RSeq S Fin (o :: l) i τs := by
  refine rs_plain hO hid (TSS B (xs :: xss)) (by rw [hE]; exact stb_ss B _) (fun k ρ w hk hr hon hK => ?_) rest
  rw [ho] at hK
  have h1 := hK.1
  have h2 := hK.2.1
  rw [hx] at h1
  rw [hy] at h2
  simp only [hTx] at h1
  simp only [hTy] at h2
  have h2' : ρ (.tmp y) = c := h2
  rw [hE] at hon
  obtain ⟨v', w', hrun, hss, hbl⟩ := run_front o.type h1 (hs.below (only_below hon)) (Nat.le_trans hB hon.size) hn hm
  have hre : (execOp ρ o).run S.P w = .ok (.value v') w' := by
    unfold execOp
    rw [hP]
    simp only [ho, resolve, invoke, builtin, Sem.run_bind, Sem.run_pure, Result.andThen_ok, List.map_toArray, List.map_cons, List.map_nil, h2', hrun]
  unfold Good
  rw [hre]
  refine ⟨hss, ?_, ?_⟩
  · rw [hrd]; trivial
  · rw [hF]; exact Only.of_below _ hbl
end
end Go.Proofs.Ytdgminjbgjbamaa
