import Derived.Test.YtlbfejdbfhgifaaS02
import Derived.Test.YtlbfejdbfhgifaaS01
import Derived.Test.YtlbfejdbfhgifaaProg
import Derived.BigRegion
import Derived.Laws.CopyOwn
set_option linter.unusedVariables false
set_option linter.unusedSimpArgs false
namespace Go.Proofs.Ytlbfejdbfhgifaa
open Go.RowKit
set_option maxRecDepth 100000
theorem bel_ck (w : World) (o : Obj) : Below w.heap.size w (w.alloc o) := (Below.refl _ _).alloc (Nat.le_refl _) o
/-- A circuit of the call's own, in blocks between B and T. -/
def OwnCT (B T : Nat) (v : Value) (c : Cz) (w : World) : Prop :=
  ∃ vn vg vo b2 b3, v = .agg #[.int .i64 c.ins, vn, vg, vo] ∧ B ≤ b2 ∧ b2 ≤ b3 ∧ b3 ≤ T ∧ (∀ g, vn.ownBlock = some g → g < b2) ∧ (∀ g, vg.ownBlock = some g → g < b3) ∧ (∀ g, vo.ownBlock = some g → g < T) ∧
    w.ownsRow B 3 1 vn c.next.length (ints c.next) ∧ w.ownsRow b2 55 2 vg c.gates.length (cubes c.gates) ∧ w.ownsRow b3 3 1 vo c.outs.length (ints c.outs)
theorem OwnCirc.ct {b T : Nat} {v : Value} {c : Cz} {w : World} (h : OwnCirc b v c w) (hT : w.heap.size ≤ T) (hb : b ≤ w.heap.size) : OwnCT b T v c w := by
  obtain ⟨vn, vg, vo, b2, b3, hv, e1, e2, e3, e4, h1, h2, h3⟩ := h
  refine ⟨vn, vg, vo, min b2 w.heap.size, min b3 w.heap.size, hv, by omega, by omega, by omega, fun g hg => ?_, fun g hg => ?_, fun g hg => ?_, h1, own_mono h2 (by omega), own_mono h3 (by omega)⟩
  · have := (h1.lt g hg).2; have := e3 g hg; omega
  · have := (h2.lt g hg).2; have := e4 g hg; omega
  · have := (h3.lt g hg).2; omega
theorem OwnCT.below {B T : Nat} {v : Value} {c : Cz} {w w' : World} (h : OwnCT B T v c w) (hb : Below w.heap.size w w') : OwnCT B T v c w' := by
  obtain ⟨vn, vg, vo, b2, b3, hv, e1, e2, e3, f1, f2, f3, h1, h2, h3⟩ := h
  exact ⟨vn, vg, vo, b2, b3, hv, e1, e2, e3, f1, f2, f3, own_below h1 hb, own_below h2 hb, own_below h3 hb⟩
theorem OwnCT.only {E : Nat → Prop} {B T : Nat} {v : Value} {c : Cz} {w w' : World} (h : OwnCT B T v c w) (ho : Only E w w') (hE : ∀ g, B ≤ g → g < T → ¬ E g) : OwnCT B T v c w' := by
  obtain ⟨vn, vg, vo, b2, b3, hv, e1, e2, e3, f1, f2, f3, h1, h2, h3⟩ := h
  exact ⟨vn, vg, vo, b2, b3, hv, e1, e2, e3, f1, f2, f3, own_only h1 ho (fun g hg => hE g (h1.lt g hg).1 (by have := f1 g hg; omega)), own_only h2 ho (fun g hg => hE g (by have := (h2.lt g hg).1; omega) (by have := f2 g hg; omega)), own_only h3 ho (fun g hg => hE g (by have := (h3.lt g hg).1; omega) (f3 g hg))⟩
theorem OwnCT.at {B T : Nat} {v : Value} {c : Cz} {w : World} (h : OwnCT B T v c w) : CircAt w v c := by
  obtain ⟨vn, vg, vo, b2, b3, hv, _, _, _, _, _, _, h1, h2, h3⟩ := h
  exact ⟨vn, vg, vo, hv, Row.of_own h1, Row.of_own h2, Row.of_own h3⟩
set_option maxHeartbeats 4000000 in
theorem markCircuit_any (B T : Nat) (v : Value) (c : Cz) (k : Nat) (w : World) (h : OwnCT B T v c w) (hT : T ≤ w.heap.size) (l1 : c.next.length ≤ 1048576) (l2 : c.gates.length ≤ 1048576) (l3 : c.outs.length ≤ 1048576) (hk : k ≤ 1000000) :
    Calls Try.prog 16 #[v, .int .i64 k] w fun e w' => (∃ k' : Nat, e = .returned (.int .i64 (k' : Nat)) ∧ k' ≤ k + 5000000) ∧ Only (fun g => B ≤ g ∧ g < T) w w' := by
  obtain ⟨vn, vg, vo, b2, b3, rfl, e1, e2, e3, f1, f2, f3, h1, h2, h3⟩ := h
  have hb0 := bel_ck w (.cells #[.int .i64 c.ins, vn, vg, vo] 31)
  have H1 := Lib.hid (own_below h1 hb0)
  have H2 := Lib.hid (own_below h2 hb0)
  have H3 := Lib.hid (own_below h3 hb0)
  have F1 := Lib.hid f1
  have F2 := Lib.hid f2
  have F3 := Lib.hid f3
  have B0 := Lib.hid hb0
  have hz : (w.alloc (.cells #[.int .i64 c.ins, vn, vg, vo] 31)).heap.size = w.heap.size + 1 := by simp
  obtain ⟨z, p0, p1, p2, p3⟩ := PCells.boxed w c.ins vn vg vo 31
  clear h1 h2 h3 f1 f2 f3 hb0
  go_enter Try.func16, Try.ntmps16
  go_wp2_with fail
  generalize w.alloc (.cells #[.int .i64 c.ins, vn, vg, vo] 31) = W at *
  refine (markIntS_any B vn _ k _ _ H1.out l1 (by omega)).mono ?_
  rintro e w1 ⟨rfl, ho1, hg1⟩
  have hon1 : Only (fun g => B ≤ g ∧ g < b2) W w1 := Only.grown hg1 (fun g hg => ⟨(H1.out.lt g hg).1, F1.out g hg⟩)
  have Hon1 := Lib.hid hon1
  have H2 := Lib.hid (own_only H2.out hon1 (fun g hg h => by have := (H2.out.lt g hg).1; omega))
  have H3 := Lib.hid (own_only H3.out hon1 (fun g hg h => by have := (H3.out.lt g hg).1; omega))
  have q2 := cell_on hon1 (by omega) z p2
  have q3 := cell_on hon1 (by omega) z p3
  have z1 := Nat.lt_of_lt_of_le z hon1.size
  clear ho1 hg1 hon1 p0 p1 p2 p3
  go_wp2_with fail
  refine (markGateS_any b2 vg _ (k + c.next.length) _ _ H2.out l2 (by omega)).mono ?_
  rintro e w2 ⟨rfl, ho2, hg2⟩
  have hon2 : Only (fun g => b2 ≤ g ∧ g < b3) w1 w2 := Only.grown hg2 (fun g hg => ⟨(H2.out.lt g hg).1, F2.out g hg⟩)
  have Hon2 := Lib.hid hon2
  have H3 := Lib.hid (own_only H3.out hon2 (fun g hg h => by have := (H3.out.lt g hg).1; omega))
  have r3 := cell_on hon2 (by omega) z1 q3
  clear ho2 hg2 hon2 q2 q3
  go_wp2_with fail
  refine (markIntS_any b3 vo _ (k + c.next.length + c.gates.length * 2) _ _ H3.out l3 (by omega)).mono ?_
  rintro e w3 ⟨rfl, ho3, hg3⟩
  have hon3 : Only (fun g => b3 ≤ g ∧ g < T) w2 w3 := Only.grown hg3 (fun g hg => ⟨(H3.out.lt g hg).1, F3.out g hg⟩)
  have Hon3 := Lib.hid hon3
  clear ho3 hg3 hon3
  go_wp2_with fail
  go_ret
  refine ⟨⟨k + c.next.length + c.gates.length * 2 + c.outs.length, rfl, by omega⟩, ?_⟩
  exact (Only.of_below _ B0.out).trans ((Hon1.out.mono fun g h => ⟨h.1, by omega⟩).trans ((Hon2.out.mono fun g h => ⟨by omega, by omega⟩).trans (Hon3.out.mono fun g h => ⟨by omega, h.2⟩)))
end Go.Proofs.Ytlbfejdbfhgifaa

namespace Go.Proofs.Ytlbfejdbfhgifaa
open Go.RowKit
/-! What laws do with slices of booleans. -/
theorem info_bool : (Try.prog.info? 4).map (fun i => (i.zero, i.size, i.bytes)) = some (some (.bool false), 1, 1) := by kernel_rfl

end Go.Proofs.Ytlbfejdbfhgifaa

namespace Go.Proofs.Ytlbfejdbfhgifaa
open Go.RowKit
/-! The values of a circuit, by the reference. -/
theorem bools_open {w wr : World} {A : Option Addr} {n c : Nat} {xs : List Bool} (h : Row w 1 (.slice A n c) n (bools xs)) (hb : Below w.heap.size w wr) {i : Nat} (hn : n = xs.length) (hi : i < xs.length) :
    ∃ b o x, A = some ⟨b, o, none⟩ ∧ b < w.heap.size ∧ Hid (xs[i]? = some x) ∧ wr.cell? ⟨b, o + i, none⟩ = some (.bool x) := by
  subst hn
  obtain ⟨b, o, c', hv, _, _, hbl, hcell⟩ := h.open (by omega)
  obtain ⟨rfl, _⟩ : A = some ⟨b, o, none⟩ ∧ True := by injection hv with e1; exact ⟨e1, trivial⟩
  obtain ⟨x, hx, hs⟩ := bools_at hi
  exact ⟨b, o, x, rfl, hbl, Lib.hid hx, (hb.cell (p := ⟨b, _, none⟩) hbl).trans (hcell _ _ hs)⟩
theorem tmod_two (y : Nat) : (y : Int).tmod 2 = ((y % 2 : Nat) : Int) := by
  rw [Int.tmod_eq_emod_of_nonneg (by omega)]
  omega
theorem lit_of {v : List Bool} {l : Nat} {x : Bool} (h : v[l / 2]? = some x) : Cir.lit v l = (x != (l % 2 == 1)) := by
  unfold Cir.lit
  rw [List.getD_eq_getElem?_getD, h]
  rfl
theorem l2Lit_any (v : Value) (xs : List Bool) (l : Nat) (w : World) (h : BoolsAt w v xs) (hl : l < 2 * xs.length) (hb : l ≤ 1000000) :
    Calls Try.prog 126 #[v, .int .i64 l] w fun e w' => e = .returned (.bool (Cir.lit xs l)) ∧ w = w' := by
  obtain ⟨A, c, hv, hc, hcm⟩ := Row.shape h
  subst hv
  have hi : l / 2 < xs.length := by omega
  obtain ⟨b, o, x, rfl, hbl, hx, hs⟩ := bools_open h (Below.refl _ _) rfl hi
  have HL := Lib.hid (lit_of hx.out)
  have hq : (l : Int).tdiv 2 = ((l / 2 : Nat) : Int) := by rw [Int.tdiv_eq_ediv_of_nonneg (by omega)]; omega
  have hm : (l : Int).tmod 2 = ((l % 2 : Nat) : Int) := by rw [Int.tmod_eq_emod_of_nonneg (by omega)]; omega
  have he : (((l % 2 : Nat) : Int) == 1) = (l % 2 == 1) := by
    rw [Bool.eq_iff_iff, beq_iff_eq, beq_iff_eq]
    omega
  have hqb : l / 2 ≤ 1000000 := by omega
  generalize l / 2 = q at *
  generalize l % 2 = r at *
  have hwr : IntKind.i64.wrap (q : Int) = q := IntWalk.i64_in _ (by omega)
  go_enter Try.func126, Try.ntmps126
  go_wp2
  go_ret
  refine ⟨ret_bool ?_, rfl⟩
  rw [HL.out]
  simp
  generalize (r == 1) = p
  cases x <;> cases p <;> rfl
theorem append_bools {w : World} {ops : Array Oper} {rest : List Oper} {o : Oper} {a : Act} {Q : Exit → Act → World → Prop} (hgd : o.guard = none) (s x : Operand)
    (ho : o.op = .call { callee := .builtin .append, args := #[s, x], argTypes := #[62, 62] })
    (base : Nat) (v : Value) (n : Nat) (xs : List Value) (hs : a.eval s = v) (hown : w.ownsRow base 4 1 v n xs) (sv : Value) (m : Nat) (news : List Value) (hx : a.eval x = sv) (hr : Row w 1 sv m news) (h1 : ∀ u ∈ news, u.oneCell' = true)
    (h63 : n + m ≤ 10000000) (hbase : base ≤ w.heap.size)
    (h : ∀ v' w', w'.ownsRow base 4 1 v' (n + m) (xs ++ news) → w.grownBy w' v.ownBlock → (v'.ownBlock = v.ownBlock ∨ v'.ownBlock = some w.heap.size) → wpList Try.prog ops Q rest (a.put o.dst v') w') : wpList Try.prog ops Q (o :: rest) a w := by
  obtain ⟨i, hi, hz0, hz1, hz2⟩ := info_parts info_bool
  exact wpList_append_at hgd s x 62 ho base 4 i _ 1 1 Try.underlying62 hi hz0 hz1 hz2 rfl (by decide) v n xs hs hown sv m news hx hr h1 (by unfold maxLen; omega) (by omega) hbase h
theorem bools_one (xs : List Bool) : ∀ u ∈ bools xs, u.oneCell' = true := by
  intro u hu
  obtain ⟨x, _, rfl⟩ := List.mem_map.1 hu
  rfl
theorem bools_append (a b : List Bool) : bools (a ++ b) = bools a ++ bools b := List.map_append
def OwnBools (xs : List Bool) (w : World) (e : Ending) (w' : World) : Prop := ∃ v, e = .returned v ∧ w'.ownsRow w.heap.size 4 1 v xs.length (bools xs) ∧ Below w.heap.size w w'
theorem l4Bits_any (x n : Nat) (w : World) (hx : x ≤ 1000000) (hn : n ≤ 16) :
    Calls Try.prog 41 #[.int .i64 x, .int .i64 n] w (OwnBools (Cir.bits x n) w) := by
  go_enter Try.func41, Try.ntmps41
  go_wp2_with fail
  go_loopw [5, 6] (fun v i wr => ∃ (vv : Value) (k : Nat), vv = v ∧ k ≤ n ∧ i = .int .i64 k ∧ Hid (wr.ownsRow w.heap.size 4 1 v k (bools (Cir.bits x k))) ∧ Below w.heap.size w wr) (fun _ i _ => n - (intOf i).toNat)
  case atStart => exact ⟨_, 0, rfl, Nat.zero_le _, rfl, Lib.hid (World.ownsRow_lit (base := w.heap.size) (e := 4) (size := 1) w #[] 0 (Nat.le_refl _) (by unfold maxLen; omega) rfl), (Below.refl _ _).alloc (Nat.le_refl _) _⟩
  case round =>
    obtain ⟨vv, k, hvv, hk, rfl, Ho, hb⟩ := hrel
    subst hvv
    by_cases hlt : k < n
    · have hz := hb.size
      have Hb := Lib.hid hb
      have HS : Hid (bools (Cir.bits x (k + 1)) = bools (Cir.bits x k) ++ [.bool (x.testBit k)]) := Lib.hid (by unfold Cir.bits; rw [List.range_succ, List.map_append, bools_append]; rfl)
      have hq : (x : Int) / 2 ^ k = ((x / 2 ^ k : Nat) : Int) := by
        rw [Int.natCast_ediv, two_pow]
      have hm := tmod_two (x / 2 ^ k)
      have he : (((x / 2 ^ k % 2 : Nat) : Int) == 1) = x.testBit k := by
        rw [Nat.testBit_eq_decide_div_mod_eq, Bool.eq_iff_iff, beq_iff_eq, decide_eq_true_iff]
        omega
      generalize x / 2 ^ k = y at hq hm he
      generalize y % 2 = r at hm he
      generalize x.testBit k = b at *
      have Hlit := Lib.hid (Row.of_own (World.ownsRow_lit (base := wr.heap.size) (e := 4) (size := 1) wr #[.bool b] 1 (Nat.le_refl _) (by unfold maxLen; omega) rfl))
      clear hb
      go_wp2_with (at_builtin; refine append_bools rfl (.tmp 13) (.tmp 19) rfl w.heap.size _ k _ rfl (Ho.out.alloc _) _ 1 [.bool b] rfl Hlit.out (by simp [Value.oneCell']) (by omega) (by simp; omega) ?_; intro v7 w7 hown7 hg7 hat7; have Ho7 := Lib.hid hown7; have Hg7 := Lib.hid hg7; clear hown7 hg7 hat7)
      go_roundw
      case rel => exact ⟨_, k + 1, rfl, by omega, by go_num, Lib.hid (by rw [HS.out]; exact Ho7.out), (Hb.out.alloc hz _).grown Hg7.out (Hb.out.alloc hz _).size (own_ge0 Ho.out)⟩
      case measure => simp [intOf] <;> omega
    · obtain rfl : k = n := by omega
      go_wp2
      go_ret
      exact ⟨_, rfl, by simpa [Cir.bits] using Ho.out, hb⟩
theorem ownBools_at {w : World} {b : Nat} {v : Value} {xs : List Bool} (h : w.ownsRow b 4 1 v xs.length (bools xs)) : BoolsAt w v xs := Row.of_own h
theorem PCells.grown {w w' : World} {g : Nat} {i : Int} {vn vg vo : Value} {row : Option Nat} (h : PCells w g i vn vg vo) (hb : w.grownBy w' row) (hr : row ≠ some g) : PCells w' g i vn vg vo := by
  obtain ⟨hg, c0, c1, c2, c3⟩ := h
  have hk := hb.block g hg fun e => hr e.symm
  exact ⟨Nat.lt_of_lt_of_le hg hb.size, (World.cell?_of_block (a := ⟨g, 0, none⟩) hk).trans c0, (World.cell?_of_block (a := ⟨g, 1, none⟩) hk).trans c1, (World.cell?_of_block (a := ⟨g, 2, none⟩) hk).trans c2, (World.cell?_of_block (a := ⟨g, 3, none⟩) hk).trans c3⟩
theorem own_ne {w : World} {base n size : Nat} {e : TypeId} {v : Value} {xs : List Value} {g : Nat} (h : w.ownsRow base e size v n xs) (hg : g < base) : v.ownBlock ≠ some g := fun e => by
  have := (h.lt g e).1
  omega
set_option maxHeartbeats 4000000 in
set_option maxRecDepth 100000 in
theorem l2Values_any (v vs vi : Value) (c : Ci) (st inp : List Bool) (w : World) (h : CircAt w v (Cir.toCz c)) (hc : Cir.Ok c) (hs : BoolsAt w vs st) (hi : BoolsAt w vi inp) (h1 : inp.length = c.ins) (h2 : st.length = c.next.length) :
    Calls Try.prog 97 #[v, vs, vi] w (OwnBools (Cir.vals c st inp) w) := by
  obtain ⟨vn, vg, vo, rfl, r1, r2, r3⟩ := h
  have l1 := hc.ins
  have l2 := hc.nexts
  have l3 := hc.gatess
  have HG := Lib.hid hc.gate
  have hglen : (Cir.toCz c).gates.length = c.gates.length := List.length_map _
  obtain ⟨Ag, cg, hvg, hcg, hcmg⟩ := Row.shape r2
  subst hvg
  rw [hglen] at hcg
  have R2 : Hid (Row w 2 (.slice Ag c.gates.length cg) c.gates.length (cubes (Cir.toCz c).gates)) := Lib.hid (by have := r2; unfold CubesAt at this; rwa [hglen] at this)
  have Hs := Lib.hid hs
  have Hi := Lib.hid hi
  clear r1 r2 r3 hs hi
  have hE : Hid (∀ k, k ≤ c.gates.length → (Cir.evalG (c.gates.take k) (false :: (inp ++ st))).length = Cir.nfirst c + k) := Lib.hid fun k hk => by
    rw [Cir.evalG_length]
    simp [Cir.nfirst]
    omega
  have hnf : Cir.nfirst c ≤ 8 := by unfold Cir.nfirst; omega
  have HV : Hid (Cir.evalG (c.gates.take c.gates.length) (false :: (inp ++ st)) = Cir.vals c st inp) := Lib.hid (by rw [List.take_length]; rfl)
  generalize Cir.vals c st inp = res at *
  generalize Cir.nfirst c = nf at *
  rw [hglen]
  generalize (Cir.toCz c).ins = ci at *
  have Hlit : Hid (((w.alloc (.cells #[.int .i64 ci, vn, .slice Ag c.gates.length cg, vo] 31)).alloc (.cells #[.bool false] 4)).ownsRow (w.heap.size + 1) 4 1 (.slice (some ⟨w.heap.size + 1, 0, none⟩) 1 1) 1 [.bool false]) := Lib.hid (by
    have := World.ownsRow_lit (base := w.heap.size + 1) (e := 4) (size := 1) (w.alloc (.cells #[.int .i64 ci, vn, .slice Ag c.gates.length cg, vo] 31)) #[.bool false] 1 (by simp) (by unfold maxLen; omega) rfl
    rwa [World.size_alloc] at this)
  have P0 := Lib.hid (cells_alloc (PCells.boxed w ci vn (.slice Ag c.gates.length cg) vo 31) (.cells #[.bool false] 4))
  have B0 := Lib.hid ((((Below.refl w.heap.size w).alloc (Nat.le_refl _) (.cells #[.int .i64 ci, vn, .slice Ag c.gates.length cg, vo] 31))).alloc (by simp) (.cells #[.bool false] 4))
  go_enter Try.func97, Try.ntmps97
  go_wp2_with (first
    | (at_builtin; refine append_bools rfl (.tmp 9) (.tmp 10) rfl (w.heap.size + 1) _ 1 [.bool false] rfl Hlit.out _ inp.length (bools inp) rfl (Row.below Hi.out B0.out) (bools_one _) (by omega) (by simp) ?_; intro v5 w5 hown5 hg5 hat5; have Ho5 := Lib.hid hown5; have P5 := Lib.hid (P0.out.grown hg5 (own_ne Hlit.out (by omega))); have B5 := Lib.hid (B0.out.grown hg5 B0.out.size (fun q hq => by have := (Hlit.out.lt q hq).1; omega)); have z5 := hg5.size; clear hown5 hg5 hat5)
    | (at_builtin; refine append_bools rfl (.tmp 12) (.tmp 13) rfl (w.heap.size + 1) _ (1 + inp.length) ([Value.bool false] ++ bools inp) rfl Ho5.out _ st.length (bools st) rfl (Row.below Hs.out B5.out) (bools_one _) (by omega) (by simp at z5; omega) ?_; intro v6 w6 hown6 hg6 hat6; have Ho6 := Lib.hid hown6; have P6 := Lib.hid (P5.out.grown hg6 (own_ne Ho5.out (by omega))); have B6 := Lib.hid (B5.out.grown hg6 B5.out.size (fun q hq => by have := (Ho5.out.lt q hq).1; omega)); have z6 : w.heap.size + 1 ≤ w6.heap.size := (by have := hg6.size; simp at z5; omega); clear hown6 hg6 hat6))
  go_loopw [7, 8] (fun v i wr => ∃ (vv : Value) (k : Nat), vv = v ∧ k ≤ c.gates.length ∧ i = .int .i64 k ∧ Hid (wr.ownsRow (w.heap.size + 1) 4 1 v (Cir.evalG (c.gates.take k) (false :: (inp ++ st))).length (bools (Cir.evalG (c.gates.take k) (false :: (inp ++ st))))) ∧ Hid (PCells wr w.heap.size ci vn (.slice Ag c.gates.length cg) vo) ∧ Below w.heap.size w wr) (fun _ i _ => c.gates.length - (intOf i).toNat)
  case atStart =>
    refine ⟨_, 0, rfl, Nat.zero_le _, rfl, Lib.hid ?_, P6, B6.out⟩
    have := Ho6.out
    have e : (Cir.evalG (c.gates.take 0) (false :: (inp ++ st))) = false :: (inp ++ st) := rfl
    rw [e]
    have e2 : bools (false :: (inp ++ st)) = [.bool false] ++ bools inp ++ bools st := by simp [bools]
    rw [e2, show (false :: (inp ++ st)).length = 1 + inp.length + st.length by simp; omega]
    exact this
  case round =>
    obtain ⟨vv, k, hvv, hk, rfl, Ho, P, hb⟩ := hrel
    subst hvv
    by_cases hlt : k < c.gates.length
    · obtain ⟨b, o, x, rfl, hbl, hx, hs1, hs2⟩ := cubes_open R2.out hb hglen.symm (i := k) (by omega)
      obtain ⟨g, hg⟩ := at_some hlt
      have hxe : x = ((g.1 : Int), (g.2 : Int)) := by
        have h1 := hx.out
        unfold Cir.toCz at h1
        simp only [List.getElem?_map, hg] at h1
        exact (Option.some.inj h1).symm
      subst hxe
      obtain ⟨g1, g2⟩ := HG.out k g hg
      have hEk := hE.out k hk
      have HS : Hid (bools (Cir.evalG (c.gates.take (k + 1)) (false :: (inp ++ st))) = bools (Cir.evalG (c.gates.take k) (false :: (inp ++ st))) ++ [.bool (Cir.gval (Cir.evalG (c.gates.take k) (false :: (inp ++ st))) g)] ∧ (Cir.evalG (c.gates.take (k + 1)) (false :: (inp ++ st))).length = (Cir.evalG (c.gates.take k) (false :: (inp ++ st))).length + 1) := Lib.hid (by rw [Cir.evalG_take_snoc hg, bools_append, List.length_append]; exact ⟨rfl, rfl⟩)
      have hgv : Cir.gval (Cir.evalG (c.gates.take k) (false :: (inp ++ st))) g = (Cir.lit (Cir.evalG (c.gates.take k) (false :: (inp ++ st))) g.1 && Cir.lit (Cir.evalG (c.gates.take k) (false :: (inp ++ st))) g.2) := rfl
      rw [hgv] at HS
      clear hgv hx hg
      obtain ⟨E2, hE2⟩ : ∃ E2, Cir.evalG (c.gates.take (k + 1)) (false :: (inp ++ st)) = E2 := ⟨_, rfl⟩
      rw [hE2] at HS
      have HE2 := Lib.hid hE2
      clear hE2
      generalize Cir.evalG (c.gates.take k) (false :: (inp ++ st)) = E at *
      obtain ⟨hzp, p0, p1, p2, p3⟩ := P.out
      have Hb := Lib.hid hb
      have hz := hb.size
      clear hb p0 p1 p3
      obtain ⟨G1, hG1⟩ : ∃ G1, G1 = g.1 := ⟨_, rfl⟩
      obtain ⟨G2, hG2⟩ : ∃ G2, G2 = g.2 := ⟨_, rfl⟩
      rw [← hG1] at g1 HS hs1
      rw [← hG2] at g2 HS hs2
      clear hG1 hG2
      go_wp2_with fail
      refine (l2Lit_any _ E G1 _ (ownBools_at Ho.out) (by omega) (by omega)).mono ?_
      rintro e w' ⟨rfl, rfl⟩
      cases hv1 : Cir.lit E G1
      · rw [hv1] at HS
        have Hlit := Lib.hid (Row.of_own (World.ownsRow_lit (base := wr.heap.size) (e := 4) (size := 1) wr #[.bool false] 1 (Nat.le_refl _) (by unfold maxLen; omega) rfl))
        clear hv1
        go_wp2_with (at_builtin; refine append_bools rfl (.tmp 22) (.tmp 41) rfl (w.heap.size + 1) _ E.length _ rfl (Ho.out.alloc _) _ 1 [.bool false] rfl Hlit.out (by simp [Value.oneCell']) (by omega) (by simp; omega) ?_; intro v7 w7 hown7 hg7 hat7; have Ho7 := Lib.hid hown7; have Hg7 := Lib.hid hg7; clear hown7 hg7 hat7)
        go_roundw
        case rel => exact ⟨_, k + 1, rfl, by omega, by go_num, Lib.hid (by rw [HE2.out, HS.out.1, HS.out.2]; exact Ho7.out), Lib.hid ((cells_alloc P.out _).grown Hg7.out (own_ne Ho.out (by omega))), (Hb.out.alloc hz _).grown Hg7.out (Hb.out.alloc hz _).size (fun q hq => by have := (Ho.out.lt q hq).1; omega)⟩
        case measure => simp [intOf] <;> omega
      · rw [hv1] at HS
        clear hv1
        go_wp2_with fail
        refine (l2Lit_any _ E G2 _ (ownBools_at Ho.out) (by omega) (by omega)).mono ?_
        rintro e w' ⟨rfl, rfl⟩
        rw [Bool.true_and] at HS
        generalize Cir.lit E G2 = u at *
        have Hlit := Lib.hid (Row.of_own (World.ownsRow_lit (base := wr.heap.size) (e := 4) (size := 1) wr #[.bool u] 1 (Nat.le_refl _) (by unfold maxLen; omega) rfl))
        go_wp2_with (at_builtin; refine append_bools rfl (.tmp 22) (.tmp 41) rfl (w.heap.size + 1) _ E.length _ rfl (Ho.out.alloc _) _ 1 [.bool u] rfl Hlit.out (by simp [Value.oneCell']) (by omega) (by simp; omega) ?_; intro v7 w7 hown7 hg7 hat7; have Ho7 := Lib.hid hown7; have Hg7 := Lib.hid hg7; clear hown7 hg7 hat7)
        go_roundw
        case rel => exact ⟨_, k + 1, rfl, by omega, by go_num, Lib.hid (by rw [HE2.out, HS.out.1, HS.out.2]; exact Ho7.out), Lib.hid ((cells_alloc P.out _).grown Hg7.out (own_ne Ho.out (by omega))), (Hb.out.alloc hz _).grown Hg7.out (Hb.out.alloc hz _).size (fun q hq => by have := (Ho.out.lt q hq).1; omega)⟩
        case measure => simp [intOf] <;> omega
    · obtain rfl : k = c.gates.length := by omega
      obtain ⟨hzp, p0, p1, p2, p3⟩ := P.out
      clear p0 p1 p3
      go_wp2
      go_ret
      exact ⟨_, rfl, by rw [← HV.out]; exact own_mono Ho.out (by omega), hb⟩
end Go.Proofs.Ytlbfejdbfhgifaa

namespace Go.Proofs.Ytlbfejdbfhgifaa
open Go.RowKit
set_option maxRecDepth 100000
theorem Kept.atC {v : Value} {c : Cz} {T : Nat} {w : World} (h : Kept (fun w' => CircAt w' v c) T w) : CircAt w v c := by
  obtain ⟨w0, h, _, hb⟩ := h
  exact CircAt.below h hb
theorem Kept.boxC {g : Nat} {vn vg vo : Value} {c : Cz} {T : Nat} {w : World} (h : Kept (fun w' => BoxC w' g c vn vg vo) T w) : BoxC w g c vn vg vo := by
  obtain ⟨w0, h, _, hb⟩ := h
  exact BoxC.below h hb
theorem hasCT {B : Nat} {v : Value} {c : Cz} {w : World} (h : OwnCT B w.heap.size v c w) : Has B w.heap.size (OwnCT B w.heap.size v c) w := ⟨h, Nat.le_refl _, fun _ _ _ h _ ho hE => h.only ho hE⟩
end Go.Proofs.Ytlbfejdbfhgifaa

namespace Go.Proofs.Ytlbfejdbfhgifaa
/-! Circuits, plainly: the natural circuit of a valid one; ternary values; what the functions answer, as Lean functions. -/
namespace Cir
def nat (c : Cz) : Ci := { ins := c.ins.toNat, next := c.next.map Int.toNat, gates := c.gates.map fun g => (g.1.toNat, g.2.toNat), outs := c.outs.map Int.toNat }
theorem nat_toCz (d : Ci) : nat (toCz d) = d := by
  have e1 : ∀ l : List Nat, (l.map Int.ofNat).map Int.toNat = l := fun l => by
    rw [List.map_map]
    exact (List.map_congr_left fun x _ => (by simp : (Int.toNat ∘ Int.ofNat) x = id x)).trans (List.map_id l)
  have e2 : ∀ l : List (Nat × Nat), (l.map fun g => ((g.1 : Int), (g.2 : Int))).map (fun g => (g.1.toNat, g.2.toNat)) = l := fun l => by
    rw [List.map_map]
    exact (List.map_congr_left fun x _ => (by simp : ((fun g : Int × Int => (g.1.toNat, g.2.toNat)) ∘ fun g : Nat × Nat => ((g.1 : Int), (g.2 : Int))) x = id x)).trans (List.map_id l)
  unfold nat toCz
  simp only [e1, e2, Int.toNat_natCast]
theorem nat_ok {c : Cz} (h : valid c = true) : c = toCz (nat c) ∧ Ok (nat c) := by
  obtain ⟨d, rfl, hd⟩ := valid_nat h
  rw [nat_toCz]
  exact ⟨rfl, hd⟩
theorem vars_toCz (d : Ci) : vars (toCz d) = (nvars d : Nat) := by
  simp [vars, first, toCz, nvars, nfirst]
theorem first_toCz (d : Ci) : first (toCz d) = (nfirst d : Nat) := by
  simp [first, toCz, nfirst]
theorem bits_length (x n : Nat) : (bits x n).length = n := by simp [bits]
/-! ### Ternary values: 0, 1, and 2 for unknown -/
def tlit (v : List Nat) (l : Nat) : Nat := if v.getD (l / 2) 0 = 2 ∨ l % 2 = 0 then v.getD (l / 2) 0 else 1 - v.getD (l / 2) 0
def tand (a b : Nat) : Nat := if a = 0 ∨ b = 0 then 0 else if a = 1 ∧ b = 1 then 1 else 2
def tgval (v : List Nat) (g : Nat × Nat) : Nat := tand (tlit v g.1) (tlit v g.2)
def tevalG (gs : List (Nat × Nat)) (v : List Nat) : List Nat := gs.foldl (fun v g => v ++ [tgval v g]) v
def tvals (c : Ci) (st inp : List Nat) : List Nat := tevalG c.gates (0 :: (inp ++ st))
theorem tevalG_length : ∀ (gs : List (Nat × Nat)) (v : List Nat), (tevalG gs v).length = v.length + gs.length
  | [], v => rfl
  | g :: gs, v => by
    rw [tevalG, List.foldl_cons]
    have := tevalG_length gs (v ++ [tgval v g])
    rw [tevalG] at this
    rw [this]
    simp
    omega
theorem tevalG_take_snoc {gs : List (Nat × Nat)} {k : Nat} {g : Nat × Nat} (h : gs[k]? = some g) (v : List Nat) : tevalG (gs.take (k + 1)) v = tevalG (gs.take k) v ++ [tgval (tevalG (gs.take k) v) g] := by
  unfold tevalG
  rw [List.take_add_one, h, List.foldl_append]
  rfl
theorem tvals_length (c : Ci) {st inp : List Nat} (h1 : inp.length = c.ins) (h2 : st.length = c.next.length) : (tvals c st inp).length = nvars c := by
  rw [tvals, tevalG_length]
  simp [nvars, nfirst, h1, h2]
  omega
theorem tand_le (a b : Nat) : tand a b ≤ 2 := by unfold tand; split <;> (try split) <;> omega
theorem tlit_le {v : List Nat} (h : ∀ x ∈ v, x ≤ 2) (l : Nat) : tlit v l ≤ 2 := by
  have hx : v.getD (l / 2) 0 ≤ 2 := by
    rw [List.getD_eq_getElem?_getD]
    cases hi : v[l / 2]? with
    | none => simp
    | some x => exact h x (List.mem_of_getElem? hi)
  unfold tlit
  split <;> omega
theorem tevalG_le : ∀ (gs : List (Nat × Nat)) {v : List Nat}, (∀ x ∈ v, x ≤ 2) → ∀ x ∈ tevalG gs v, x ≤ 2
  | [], v, h => h
  | g :: gs, v, h => by
    have : tevalG (g :: gs) v = tevalG gs (v ++ [tgval v g]) := rfl
    rw [this]
    refine tevalG_le gs fun x hx => ?_
    rcases List.mem_append.1 hx with h1 | h1
    · exact h x h1
    · rw [List.mem_singleton.1 h1]; exact tand_le _ _
theorem tvals_le (c : Ci) {st inp : List Nat} (h1 : ∀ x ∈ st, x ≤ 2) (h2 : ∀ x ∈ inp, x ≤ 2) : ∀ x ∈ tvals c st inp, x ≤ 2 := by
  refine tevalG_le _ fun x hx => ?_
  rcases List.mem_cons.1 hx with rfl | hx
  · omega
  · rcases List.mem_append.1 hx with h | h
    · exact h2 x h
    · exact h1 x h
def tnext (c : Ci) (v : List Nat) : List Nat := c.next.map (tlit v)
/-- A ternary value that is right for a bit. -/
def Rt (t : Nat) (b : Bool) : Prop := t = 2 ∨ t = b.toNat
theorem rt_lit {v : List Nat} {u : List Bool} (hl : v.length = u.length) (h : ∀ (i t : Nat) (b : Bool), v[i]? = some t → u[i]? = some b → Rt t b) (l : Nat) (hlt : l / 2 < v.length) : Rt (tlit v l) (lit u l) := by
  have hv : v[l / 2]? = some (v[l / 2]'hlt) := List.getElem?_eq_getElem hlt
  have hu : u[l / 2]? = some (u[l / 2]'(by omega)) := List.getElem?_eq_getElem (by omega)
  have := h _ _ _ hv hu
  unfold tlit lit
  rw [List.getD_eq_getElem?_getD, List.getD_eq_getElem?_getD, hv, hu]
  generalize v[l / 2]'hlt = t at this
  generalize u[l / 2]'(by omega) = b at this
  simp only [Option.getD_some]
  unfold Rt at this ⊢
  rcases this with rfl | rfl
  · simp
  · right
    rcases Nat.mod_two_eq_zero_or_one l with h0 | h0
    · rw [h0]; cases b <;> simp
    · rw [h0]; cases b <;> simp
theorem rt_and {a b : Nat} {x y : Bool} (h1 : Rt a x) (h2 : Rt b y) : Rt (tand a b) (x && y) := by
  unfold Rt at *
  rcases h1 with rfl | rfl <;> rcases h2 with rfl | rfl <;> (try cases x) <;> (try cases y) <;> simp [tand]
def RtAll (v : List Nat) (u : List Bool) : Prop := v.length = u.length ∧ ∀ (i t : Nat) (b : Bool), v[i]? = some t → u[i]? = some b → Rt t b
theorem RtAll.snoc {v : List Nat} {u : List Bool} (h : RtAll v u) {t : Nat} {b : Bool} (ht : Rt t b) : RtAll (v ++ [t]) (u ++ [b]) := by
  refine ⟨by simp [h.1], fun i t' b' h1 h2 => ?_⟩
  rcases Nat.lt_or_ge i v.length with hi | hi
  · rw [List.getElem?_append_left hi] at h1
    rw [List.getElem?_append_left (by have := h.1; omega)] at h2
    exact h.2 i _ _ h1 h2
  · rw [List.getElem?_append_right hi] at h1
    rw [List.getElem?_append_right (by have := h.1; omega)] at h2
    have e : u.length = v.length := h.1.symm
    rw [e] at h2
    rcases hj : i - v.length with _ | j
    · rw [hj] at h1 h2
      simp at h1 h2
      subst h1 h2
      exact ht
    · rw [hj] at h1
      simp at h1
theorem rt_eval : ∀ (gs : List (Nat × Nat)) (f : Nat) {v : List Nat} {u : List Bool}, RtAll v u → v.length = f → (∀ (k : Nat) (g : Nat × Nat), gs[k]? = some g → g.1 < 2 * (f + k) ∧ g.2 < 2 * (f + k)) → RtAll (tevalG gs v) (evalG gs u)
  | [], f, v, u, h, _, _ => h
  | g :: gs, f, v, u, h, hf, hg => by
    have e1 : tevalG (g :: gs) v = tevalG gs (v ++ [tgval v g]) := rfl
    have e2 : evalG (g :: gs) u = evalG gs (u ++ [gval u g]) := rfl
    rw [e1, e2]
    have h0 := hg 0 g rfl
    refine rt_eval gs (f + 1) (h.snoc (rt_and (rt_lit h.1 h.2 _ (by omega)) (rt_lit h.1 h.2 _ (by omega)))) (by simp [hf]) fun k g' hk => ?_
    have := hg (k + 1) g' (by simpa using hk)
    omega
theorem rtAll_cons {v : List Nat} {u : List Bool} (h : RtAll v u) {t : Nat} {b : Bool} (ht : Rt t b) : RtAll (t :: v) (b :: u) := by
  refine ⟨by simp [h.1], fun i t' b' h1 h2 => ?_⟩
  cases i with
  | zero => simp at h1 h2; subst h1 h2; exact ht
  | succ i => simp at h1 h2; exact h.2 i _ _ h1 h2
theorem rtAll_append {v v' : List Nat} {u u' : List Bool} (h : RtAll v u) (h' : RtAll v' u') : RtAll (v ++ v') (u ++ u') := by
  refine ⟨by simp [h.1, h'.1], fun i t b h1 h2 => ?_⟩
  rcases Nat.lt_or_ge i v.length with hi | hi
  · rw [List.getElem?_append_left hi] at h1
    rw [List.getElem?_append_left (by have := h.1; omega)] at h2
    exact h.2 i _ _ h1 h2
  · rw [List.getElem?_append_right hi] at h1
    rw [List.getElem?_append_right (by have := h.1; omega)] at h2
    rw [← h.1] at h2
    exact h'.2 _ _ _ h1 h2
/-- A known ternary value is right for all completions. -/
theorem rt_vals (c : Ci) (hc : Ok c) {st inp : List Nat} {st' inp' : List Bool} (h1 : RtAll inp inp') (h2 : RtAll st st') (l1 : inp.length = c.ins) (l2 : st.length = c.next.length) : RtAll (tvals c st inp) (vals c st' inp') := by
  refine rt_eval c.gates (nfirst c) (rtAll_cons (rtAll_append h1 h2) (.inr rfl)) (by simp [nfirst, l1, l2]; omega) fun k g hk => ?_
  exact hc.gate k g hk
end Cir
end Go.Proofs.Ytlbfejdbfhgifaa

namespace Go.Proofs.Ytlbfejdbfhgifaa
namespace Cir
/-! Static hazards, plainly. -/
def tbits (x n : Nat) : List Nat := (bits x n).map Bool.toNat
/-- The ternary values of all variables for assignment x with input k unknown. -/
def hzV (c : Ci) (x k : Nat) : List Nat := tvals c (tbits (x / 2 ^ c.ins) c.next.length) ((tbits x c.ins).set k 2)
/-- The outputs for an assignment. -/
def outsA (c : Ci) (x : Nat) : List Bool := lits (vals c (bits (x / 2 ^ c.ins) c.next.length) (bits x c.ins)) c.outs
def hz (c : Ci) (x k o : Nat) : Bool := (outsA c x).getD o false == (outsA c (x + 2 ^ k)).getD o false && tlit (hzV c x k) (c.outs.getD o 0) == 2
def hzO (c : Ci) (x k : Nat) : Nat → List (Nat × Nat × Nat)
  | 0 => []
  | o + 1 => hzO c x k o ++ if hz c x k o then [(x, x + 2 ^ k, o)] else []
def hzK (c : Ci) (x : Nat) : Nat → List (Nat × Nat × Nat)
  | 0 => []
  | k + 1 => hzK c x k ++ if x.testBit k then [] else hzO c x k c.outs.length
def hzX (c : Ci) : Nat → List (Nat × Nat × Nat)
  | 0 => []
  | x + 1 => hzX c x ++ hzK c x c.ins
def hazards (c : Ci) : List (Nat × Nat × Nat) := hzX c (2 ^ (c.ins + c.next.length))
theorem hzO_len (c : Ci) (x k : Nat) : ∀ o, (hzO c x k o).length ≤ o
  | 0 => by simp [hzO]
  | o + 1 => by
    have := hzO_len c x k o
    rw [hzO, List.length_append]
    split <;> simp <;> omega
theorem hzK_len (c : Ci) (hc : Ok c) (x : Nat) : ∀ k, (hzK c x k).length ≤ 3 * k
  | 0 => by simp [hzK]
  | k + 1 => by
    have := hzK_len c hc x k
    have h2 := hzO_len c x k c.outs.length
    have h3 := hc.outss
    rw [hzK, List.length_append]
    split <;> simp <;> omega
theorem hzX_len (c : Ci) (hc : Ok c) : ∀ x, (hzX c x).length ≤ 12 * x
  | 0 => by simp [hzX]
  | x + 1 => by
    have := hzX_len c hc x
    have h2 := hzK_len c hc x c.ins
    have h3 := hc.ins
    rw [hzX, List.length_append]
    omega
theorem or_bit_small : ∀ x, x < 128 → ∀ k, k < 4 → x.testBit k = false → x ||| 2 ^ k = x + 2 ^ k := by decide +kernel
theorem or_bit {x k : Nat} (hx : x < 128) (hk : k < 4) (h : x.testBit k = false) : x ||| 2 ^ k = x + 2 ^ k := or_bit_small x hx k hk h
end Cir
theorem hz_no1 {p q r : Bool} (h : r = (p && q)) (hp : p = false) : r = false := by rw [h, hp]; rfl
theorem hz_no2 {p q r : Bool} (h : r = (p && q)) (hq : q = false) : r = false := by rw [h, hq]; cases p <;> rfl
theorem hz_yes {p q r : Bool} (h : r = (p && q)) (hp : p = true) (hq : q = true) : r = true := by rw [h, hp, hq]; rfl
end Go.Proofs.Ytlbfejdbfhgifaa

namespace Go.Proofs.Ytlbfejdbfhgifaa
open Go.RowKit
set_option maxRecDepth 100000
/-! Slices of hazards (three ints). -/
def trips (ks : List (Nat × Nat × Nat)) : List Value := ks.flatMap fun k => [.int .i64 k.1, .int .i64 k.2.1, .int .i64 k.2.2]
theorem trips_length (ks : List (Nat × Nat × Nat)) : (trips ks).length = ks.length * 3 := by
  induction ks with
  | nil => rfl
  | cons k ks ih => simp [trips] at ih ⊢; omega
theorem trips_append (a b : List (Nat × Nat × Nat)) : trips (a ++ b) = trips a ++ trips b := by simp [trips]
theorem trips_snoc' (Y Z : List (Nat × Nat × Nat)) (q : Nat × Nat × Nat) : trips (Y ++ (Z ++ [q])) = trips (Y ++ Z) ++ [.int .i64 q.1, .int .i64 q.2.1, .int .i64 q.2.2] := by simp [trips]
theorem len_snoc' (Y Z : List (Nat × Nat × Nat)) (q : Nat × Nat × Nat) : (Y ++ (Z ++ [q])).length = (Y ++ Z).length + 1 := by simp; omega
theorem trips_get {ks : List (Nat × Nat × Nat)} {i : Nat} {k : Nat × Nat × Nat} (h : ks[i]? = some k) : (trips ks)[i * 3]? = some (.int .i64 k.1) ∧ (trips ks)[i * 3 + 1]? = some (.int .i64 k.2.1) ∧ (trips ks)[i * 3 + 2]? = some (.int .i64 k.2.2) := by
  induction ks generalizing i with
  | nil => simp at h
  | cons a ks ih =>
    cases i with
    | zero =>
      have : a = k := by simpa using h
      subst this
      simp [trips]
    | succ i =>
      have := ih (i := i) (by simpa using h)
      have e : (i + 1) * 3 = i * 3 + 1 + 1 + 1 := by omega
      rw [e]
      simpa [trips] using this
def TripsAt (w : World) (v : Value) (ks : List (Nat × Nat × Nat)) : Prop := Row w 3 v ks.length (trips ks)
theorem trips_open {w wr : World} {A : Option Addr} {n c : Nat} {ks : List (Nat × Nat × Nat)} (h : Row w 3 (.slice A n c) n (trips ks)) (hb : Below w.heap.size w wr) {i : Nat} (hn : n = ks.length) (hi : i < ks.length) :
    ∃ b o k, A = some ⟨b, o, none⟩ ∧ b < w.heap.size ∧ Hid (ks[i]? = some k) ∧ wr.cell? ⟨b, o + i * 3, none⟩ = some (.int .i64 k.1) ∧ wr.cell? ⟨b, o + i * 3 + 1, none⟩ = some (.int .i64 k.2.1) ∧ wr.cell? ⟨b, o + i * 3 + 2, none⟩ = some (.int .i64 k.2.2) := by
  subst hn
  obtain ⟨b, o, c', hv, _, _, hbl, hcell⟩ := h.open (by omega)
  obtain ⟨rfl, _⟩ : A = some ⟨b, o, none⟩ ∧ True := by injection hv with e1; exact ⟨e1, trivial⟩
  obtain ⟨k, hk⟩ := at_some hi
  obtain ⟨h1, h2, h3⟩ := trips_get hk
  refine ⟨b, o, k, rfl, hbl, Lib.hid hk, (hb.cell (p := ⟨b, _, none⟩) hbl).trans (hcell _ _ h1), ?_, ?_⟩
  · rw [Nat.add_assoc]
    exact (hb.cell (p := ⟨b, _, none⟩) hbl).trans (hcell _ _ h2)
  · rw [Nat.add_assoc]
    exact (hb.cell (p := ⟨b, _, none⟩) hbl).trans (hcell _ _ h3)
theorem info_haz : (Try.prog.info? 57).map (fun i => (i.zero, i.size, i.bytes)) = some (some (.agg #[.int .i64 0, .int .i64 0, .int .i64 0]), 3, 24) := by kernel_rfl
theorem eqHazard_same (a b c : Nat) (w : World) :
    Calls Try.prog 55 #[.agg #[.int .i64 a, .int .i64 b, .int .i64 c], .agg #[.int .i64 a, .int .i64 b, .int .i64 c]] w
      fun e w' => e = .returned (.bool true) ∧ Below w.heap.size w w' := by
  have d1 : ((a : Int) != (a : Int)) = false := by simp
  have d2 : ((b : Int) != (b : Int)) = false := by simp
  have d3 : ((c : Int) != (c : Int)) = false := by simp
  go_enter Try.func55, Try.ntmps55
  go_wp2
  go_ret
  exact ⟨rfl, ((Below.refl _ _).alloc (Nat.le_refl _) _).alloc (by simp) _⟩
theorem eqHazardS_same (v v2 : Value) (xs : List (Nat × Nat × Nat)) (w : World) (h : TripsAt w v xs) (h2 : TripsAt w v2 xs) :
    Calls Try.prog 14 #[v, v2] w
      fun e w' => e = .returned (.bool true) ∧ Below w.heap.size w w' := by
  obtain ⟨A, c, hv, hc, hcm⟩ := h.shape
  obtain ⟨A2, c2, hv2, hc2, hcm2⟩ := h2.shape
  subst hv hv2
  unfold maxLen at hcm hcm2
  have he1 : ((xs.length : Int) != (xs.length : Int)) = false := by simp
  go_enter Try.func14, Try.ntmps14
  go_wp2
  go_loopw [5] (fun i wr => ∃ (k : Nat), k ≤ xs.length ∧ i = .int .i64 k ∧ Below w.heap.size w wr)
    (fun i _ => xs.length - (intOf i).toNat)
  case atStart => exact ⟨0, Nat.zero_le _, rfl, Below.refl _ _⟩
  case round =>
    obtain ⟨k, hk, rfl, hd⟩ := hrel
    by_cases hlt : k < xs.length
    · obtain ⟨b, o, x, rfl, hbl, hx, hs1, hs2, hs3⟩ := trips_open h hd rfl hlt
      obtain ⟨b2, o2, y, rfl, hbl2, hy, ht1, ht2, ht3⟩ := trips_open h2 hd rfl hlt
      obtain rfl : x = y := Option.some.inj (hx.out.symm.trans hy.out)
      have Hd := Lib.hid hd
      clear h h2 hd hx hy
      go_wp2
      go_still_tail 8, (by kernel_rfl)
      change wpList _ _ _ _ _ wr.drew
      have Hd' := Lib.hid Hd.out.drew
      generalize wr.drew = w1 at *
      go_wp2_with (go_at_call 55; refine (eqHazard_same _ _ _ _).mono ?_; rintro e w2 ⟨rfl, hb2⟩)
      go_roundw
      case rel => exact ⟨k + 1, by omega, by go_num, Hd'.out.trans (hb2.mono Hd'.out.size)⟩
      case measure => simp [intOf]; omega
    · go_wp2
      go_ret
      exact ⟨rfl, hd⟩
/-- What marking a slice comes to. -/
def MarkedHaz (B : Nat) (v : Value) (n k : Nat) (w : World) (e : Ending) (w' : World) : Prop :=
  e = .returned (.int .i64 ((k + n * 3 : Nat) : Int)) ∧ w'.ownsRow B 57 3 v n (runI k (n * 3)) ∧ w.grownBy w' v.ownBlock
theorem markHazardS_any (B : Nat) (v : Value) (n k : Nat) (cs : List Value) (w : World) (h : w.ownsRow B 57 3 v n cs) (hn : n ≤ 1048576) (hk : k ≤ 100000000) :
    Calls Try.prog 17 #[v, .int .i64 k] w (MarkedHaz B v n k w) := by
  have hlc := h.1
  obtain ⟨A, c, hv, hc, hcm⟩ := (Row.of_own h).shape
  subst hv
  have H := Lib.hid h
  clear h
  go_enter Try.func17, Try.ntmps17
  go_wp2_with fail
  go_loopw [1, 5] (fun q i wr => ∃ (j : Nat) (ds : List Value), j ≤ n ∧ i = .int .i64 j ∧ q = .int .i64 ((k + j * 3 : Nat) : Int) ∧ wr.ownsRow B 57 3 (.slice A n c) n ds ∧ ds.take (j * 3) = runI k (j * 3) ∧ w.grownBy wr (Value.slice A n c).ownBlock) (fun _ i _ => n - (intOf i).toNat)
  case atStart => exact ⟨0, cs, Nat.zero_le _, rfl, rfl, H.out, rfl, World.grownBy.refl w _⟩
  case round =>
    obtain ⟨j, ds, hj, rfl, rfl, hown, htk, hg⟩ := hrel
    by_cases hlt : j < n
    · obtain ⟨g, c', hv, _, hgl, _⟩ := own_open hown (by omega)
      injection hv with hA _ hcc
      subst hA hcc
      have hl := hown.1
      obtain ⟨u0, _, hd0, hf0⟩ := own_slot hown (j := j * 3) (by omega)
      obtain ⟨u1, _, hd1, hf1⟩ := own_slot hown (j := j * 3 + 1) (by omega)
      obtain ⟨u2, _, hd2, hf2⟩ := own_slot hown (j := j * 3 + 2) (by omega)
      have s1 := hown.stored (j * 3) (.int .i64 ((k : Int) + (j : Int) * 3))
      have s2 := s1.1.stored (j * 3 + 1) (.int .i64 ((k : Int) + (j : Int) * 3 + 1))
      have s3 := Lib.hid (s2.1.stored (j * 3 + 2) (.int .i64 ((k : Int) + (j : Int) * 3 + 2)))
      have t1 := set_run_at (m := n * 3) (x := (k : Int) + (j : Int) * 3) (by omega) hl (by omega) htk
      have t2 := set_run_at (m := n * 3) (j := j * 3 + 1) (x := (k : Int) + (j : Int) * 3 + 1) (by omega) (by simp [hl]) (by omega) t1
      have t3 := Lib.hid (set_run_at (m := n * 3) (j := j * 3 + 2) (x := (k : Int) + (j : Int) * 3 + 2) (by omega) (by simp [hl]) (by omega) t2)
      have G := Lib.hid (grownBy_comp (grownBy_comp hg s1.2) s2.2)
      clear hown htk hl hg s1 s2 t1 t2 H
      go_wp2_with fail
      go_roundw
      case rel => exact ⟨j + 1, _, by omega, by go_num, by rw [show k + (j + 1) * 3 = k + j * 3 + 3 from by omega]; go_num, s3.out.1, by rw [show (j + 1) * 3 = j * 3 + 2 + 1 from by omega]; exact t3.out, grownBy_comp G.out s3.out.2⟩
      case measure => simp [intOf]; omega
    · obtain rfl : j = n := by omega
      go_wp2
      go_ret
      exact ⟨rfl, own_of_take hown htk, hg⟩
theorem heldHazardS_any (v : Value) (n k : Nat) (w : World) (h : Row w 3 v n (runI k (n * 3))) (hn : n ≤ 1048576) (hk : k ≤ 100000000) :
    Calls Try.prog 18 #[v, .int .i64 k] w fun e w' => e = .returned (.int .i64 ((k + n * 3 : Nat) : Int)) ∧ w = w' := by
  obtain ⟨A, c, hv, hc, hcm⟩ := h.shape
  subst hv
  go_enter Try.func18, Try.ntmps18
  go_wp2_with fail
  go_loop [1, 5] (fun q i => ∃ (j : Nat), j ≤ n ∧ i = .int .i64 j ∧ q = .int .i64 ((k + j * 3 : Nat) : Int)) (fun _ i => n - (intOf i).toNat)
  case atStart => exact ⟨0, Nat.zero_le _, rfl, rfl⟩
  case round =>
    obtain ⟨j, hj, rfl, rfl⟩ := hrel
    by_cases hlt : j < n
    · obtain ⟨b, o, c', hv, _, _, hbl, hcell⟩ := h.open (by omega)
      injection hv with hA _ hcc
      subst hA hcc
      have c0 := hcell (j * 3) _ (runI_get (by omega))
      have c1 := hcell (j * 3 + 1) _ (runI_get (by omega))
      have c2 := hcell (j * 3 + 2) _ (runI_get (by omega))
      rw [← Nat.add_assoc] at c1 c2
      clear hcell h
      have d0 : (((k + (j * 3 + 1) : Nat) : Int) != ((k + j * 3 : Nat) : Int) + 1) = false := by simp; omega
      have d1 : (((k + (j * 3 + 2) : Nat) : Int) != ((k + j * 3 : Nat) : Int) + 1 + 1) = false := by simp; omega
      have d2 : (((k + (j * 3 + 2) : Nat) : Int) != ((k + j * 3 : Nat) : Int) + 2) = false := by simp; omega
      go_wp2_with fail
      go_round
      case rel => exact ⟨j + 1, by omega, by go_num, by rw [show k + (j + 1) * 3 = k + j * 3 + 3 from by omega]; go_num⟩
      case measure => simp [intOf]; omega
    · obtain rfl : j = n := by omega
      go_wp2
      go_ret
      exact ⟨rfl, rfl⟩
end Go.Proofs.Ytlbfejdbfhgifaa

namespace Go.Proofs.Ytlbfejdbfhgifaa
open Go.RowKit
namespace Cir
/-- The table of a literal of a circuit without latches, from its lowest bits. -/
def tab (c : Ci) (l : Nat) : Nat → Nat
  | 0 => 0
  | k + 1 => tab c l k + (if lit (vals c [] (bits k c.ins)) l then 2 ^ k else 0)
theorem tab_lt (c : Ci) (l : Nat) : ∀ k, tab c l k < 2 ^ k
  | 0 => by simp [tab]
  | k + 1 => by
    have := tab_lt c l k
    rw [tab, Nat.pow_succ]
    split <;> omega
theorem tab_or (c : Ci) (l k : Nat) : tab c l k ||| 2 ^ k = tab c l k + 2 ^ k := by
  have h := Nat.two_pow_add_eq_or_of_lt (tab_lt c l k) 1
  rw [Nat.mul_one] at h
  rw [Nat.or_comm, ← h, Nat.add_comm]
end Cir
set_option maxRecDepth 100000
set_option maxHeartbeats 4000000
end Go.Proofs.Ytlbfejdbfhgifaa

namespace Go.Proofs.Ytlbfejdbfhgifaa
open Go.RowKit
set_option maxRecDepth 100000
/-! The values of a circuit, by the program. -/
theorem litValue_any (v : Value) (xs : List Bool) (l : Nat) (w : World) (h : BoolsAt w v xs) (hl : l < 2 * xs.length) (hb : l ≤ 1000000) :
    Calls Try.prog 114 #[v, .int .i64 l] w fun e w' => e = .returned (.bool (Cir.lit xs l)) ∧ w = w' := by
  obtain ⟨A, c, hv, hc, hcm⟩ := Row.shape h
  subst hv
  have hi : l / 2 < xs.length := by omega
  obtain ⟨b, o, x, rfl, hbl, hx, hs⟩ := bools_open h (Below.refl _ _) rfl hi
  have HL := Lib.hid (lit_of hx.out)
  have hq : (l : Int).tdiv 2 = ((l / 2 : Nat) : Int) := by rw [Int.tdiv_eq_ediv_of_nonneg (by omega)]; omega
  have hm : bits .and .i64 (l : Int) 1 = ((l % 2 : Nat) : Int) := by
    have := i64_and_nat l 1 (by omega) (by omega)
    rw [Nat.and_one_is_mod] at this
    exact this
  have he : (((l % 2 : Nat) : Int) == 1) = (l % 2 == 1) := by
    rw [Bool.eq_iff_iff, beq_iff_eq, beq_iff_eq]
    omega
  have hqb : l / 2 ≤ 1000000 := by omega
  generalize l / 2 = q at *
  generalize l % 2 = r at *
  have hwr : IntKind.i64.wrap (q : Int) = q := IntWalk.i64_in _ (by omega)
  go_enter Try.func114, Try.ntmps114
  go_wp2
  go_ret
  refine ⟨ret_bool ?_, rfl⟩
  rw [HL.out]
  simp
  generalize (r == 1) = p
  cases x <;> cases p <;> rfl
theorem assignments_any (g : Nat) (c : Cz) (m : Nat) (w : World) (h : PCirc w g c) (hm : c.ins + c.next.length = m) (h1 : m ≤ 7) :
    Calls Try.prog 48 #[.pointer (some ⟨g, 0, none⟩)] w fun e w' => e = .returned (.int .i64 ((2 ^ m : Nat) : Int)) ∧ Below w.heap.size w w' := by
  obtain ⟨vn, vg, vo, hg, c0, c1, c2, c3, r1, r2, r3⟩ := h
  obtain ⟨A, cp, hv, hc, hcm⟩ := r1.shape
  subst hv
  have g0 := gw_cell c0 hg
  have g1 := gw_cell c1 hg
  have hw0 := IntWalk.i64_in (m : Int) (by omega)
  have h2 : 2 ^ m ≤ 128 := Nat.pow_le_pow_right (show 0 < 2 by decide) h1
  obtain ⟨M, hM⟩ : ∃ M, M = 2 ^ m := ⟨_, rfl⟩
  have e2 : (2 : Int) ^ m = (M : Int) := by rw [hM]; exact two_pow m
  rw [← hM] at h2 ⊢
  have hwM := IntWalk.i64_in (M : Int) (by omega)
  have hwu : IntKind.u64.wrap (m : Int) = m := by rw [IntKind.wrap_u64]; omega
  clear r1 r2 r3 c0 c1 c2 c3 hM
  go_enter Try.func48, Try.ntmps48
  go_wp2
  refine wp_region_grow (by kernel_rfl) (by kernel_rfl) ?_
  repeat (go_big_quiet_step ((fail)))
  refine wpQuiet_nil ?_
  intro _ hw'
  obtain ⟨nq, hw''⟩ := hw'
  subst hw''
  have hgq := gw_below nq
  generalize gw nq = wq at *
  clear nq
  go_wp2
  go_ret
  exact ⟨rfl, hgq⟩
theorem bits_snoc (x k : Nat) : Cir.bits x (k + 1) = Cir.bits x k ++ [x.testBit k] := by
  unfold Cir.bits
  rw [List.range_succ, List.map_append]
  rfl
theorem bits_get {x n k : Nat} (h : k < n) : (bools (Cir.bits x n))[k]? = some (.bool (x.testBit k)) := by
  simp [bools, Cir.bits, h]
theorem bitsOf_any (x n : Nat) (w : World) (hx : x ≤ 1000000) (hn : n ≤ 16) :
    Calls Try.prog 103 #[.int .i64 x, .int .i64 n] w (OwnBools (Cir.bits x n) w) := by
  have hmk := run_make_row' (P := Try.prog) 62 4 (.bool false) 1 Try.underlying62 info_bool rfl .i64 .i64 n (by omega) (by omega)
  go_enter Try.func103, Try.ntmps103
  go_wp2
  have hown0 := World.ownsRow_lit (base := w.heap.size) (e := 4) (size := 1) w (madeCells #[Value.bool false] n) n (Nat.le_refl _) (by unfold maxLen; omega) (by simp [madeCells])
  have hb0 : Below w.heap.size w (w.alloc (.cells (madeCells #[Value.bool false] n) 4)) := (Below.refl _ _).alloc (Nat.le_refl _) _
  go_loopw [11] (fun i wr => ∃ (k : Nat) (cs : List Value), k ≤ n ∧ i = .int .i64 k ∧ wr.ownsRow w.heap.size 4 1 (.slice (some ⟨w.heap.size, 0, none⟩) n n) n cs ∧ cs.take k = (bools (Cir.bits x n)).take k ∧ Below w.heap.size w wr)
    (fun i _ => n - (intOf i).toNat)
  case atStart => exact ⟨0, _, Nat.zero_le _, rfl, hown0, rfl, hb0⟩
  case round =>
    obtain ⟨k, cs, hk, rfl, hown, htk, hb⟩ := hrel
    clear hmk hown0 hb0
    by_cases hlt : k < n
    · have hq : (x : Int) / 2 ^ k = ((x / 2 ^ k : Nat) : Int) := by
        rw [Int.natCast_ediv, two_pow]
      have hy : x / 2 ^ k ≤ 1000000 := Nat.le_trans (Nat.div_le_self _ _) hx
      have hm : bits .and .i64 ((x / 2 ^ k : Nat) : Int) 1 = ((x / 2 ^ k % 2 : Nat) : Int) := by
        have := i64_and_nat (x / 2 ^ k) 1 (by omega) (by omega)
        rw [Nat.and_one_is_mod] at this
        exact this
      have he : (((x / 2 ^ k % 2 : Nat) : Int) == 1) = x.testBit k := by
        rw [Nat.testBit_eq_decide_div_mod_eq, Bool.eq_iff_iff, beq_iff_eq, decide_eq_true_iff]
        omega
      have hs := bits_get (x := x) hlt
      generalize x / 2 ^ k = y at hq hm he hy
      generalize y % 2 = r at hm he
      generalize x.testBit k = b at he hs
      have hl := hown.1
      obtain ⟨u0, _, hd, hf⟩ := own_slot hown (j := k) (by omega)
      have Hown := Lib.hid (hown.stored k (.bool b)).1
      have Hstep := Lib.hid (take_set_succ (by omega) htk hs)
      clear hs hl htk hown hy
      go_wp2
      go_roundw
      case rel => exact ⟨k + 1, _, by omega, by go_num, Hown.out, Hstep.out, hb.setCell (Nat.le_refl _) _⟩
      case measure => simp [intOf]; omega
    · go_wp2
      go_ret
      have hl2 : (Cir.bits x n).length = n := by simp [Cir.bits]
      have e : cs = bools (Cir.bits x n) := by
        have hl := hown.1
        rw [List.take_of_length_le (by omega), List.take_of_length_le (by rw [bools_length]; omega)] at htk
        exact htk
      exact ⟨_, rfl, by rw [hl2]; exact e ▸ hown, hb⟩
theorem inputBits_any (g : Nat) (c : Cz) (n x : Nat) (w : World) (h : PCirc w g c) (hn : c.ins = (n : Int)) (h1 : n ≤ 16) (hx : x ≤ 1000000) :
    Calls Try.prog 50 #[.pointer (some ⟨g, 0, none⟩), .int .i64 x] w (OwnBools (Cir.bits x n) w) := by
  obtain ⟨vn, vg, vo, hg, c0, c1, c2, c3, r1, r2, r3⟩ := h
  rw [hn] at c0
  clear r1 r2 r3 c1 c2 c3
  go_enter Try.func50, Try.ntmps50
  go_wp2_with fail
  refine (bitsOf_any x n _ hx h1).mono ?_
  rintro e w1 ⟨v1, rfl, hown, hb⟩
  go_wp2_with fail
  go_ret
  exact ⟨_, rfl, hown, hb⟩
theorem latchBits_any (g : Nat) (c : Cz) (n m x : Nat) (w : World) (h : PCirc w g c) (hn : c.ins = (n : Int)) (hm : c.next.length = m) (h1 : n ≤ 16) (h2 : m ≤ 16) (hx : x ≤ 1000000) :
    Calls Try.prog 52 #[.pointer (some ⟨g, 0, none⟩), .int .i64 x] w (OwnBools (Cir.bits (x / 2 ^ n) m) w) := by
  obtain ⟨vn, vg, vo, hg, c0, c1, c2, c3, r1, r2, r3⟩ := h
  rw [hn] at c0
  obtain ⟨A, cp, hv, hc, hcm⟩ := r1.shape
  subst hv
  rw [hm] at c1
  have hq : (x : Int) / 2 ^ n = ((x / 2 ^ n : Nat) : Int) := by
    rw [Int.natCast_ediv, two_pow]
  have hy : x / 2 ^ n ≤ 1000000 := Nat.le_trans (Nat.div_le_self _ _) hx
  generalize x / 2 ^ n = y at *
  have HC : Hid (∀ w, Calls Try.prog 103 #[.int .i64 y, .int .i64 m] w (OwnBools (Cir.bits y m) w)) := Lib.hid fun w => bitsOf_any y m w hy h2
  clear r1 r2 r3 c2 c3 hn hm
  go_enter Try.func52, Try.ntmps52
  go_wp2_with fail
  go_region_with ((go_at_call 103; refine (HC.out _).mono ?_; rintro e w1 ⟨v1, rfl, hown, hb⟩))
  all_goals
    go_wp2_with fail
    go_ret
    exact ⟨_, rfl, hown, ⟨hb.os, hb.tape, hb.output, hb.size, hb.block⟩⟩
end Go.Proofs.Ytlbfejdbfhgifaa

namespace Go.Proofs.Ytlbfejdbfhgifaa
open Go.RowKit
set_option maxRecDepth 100000
/-! The tables of literals. -/
theorem bools_lit0 (w : World) (t : TypeId) : BoolsAt (w.alloc (.cells #[] t)) (.slice (some ⟨w.heap.size, 0, none⟩) 0 0) [] :=
  ⟨rfl, _, 0, rfl, Nat.le_refl _, Nat.zero_le _, fun h => absurd h (by simp)⟩
end Go.Proofs.Ytlbfejdbfhgifaa

namespace Go.Proofs.Ytlbfejdbfhgifaa
open Go.RowKit
set_option maxRecDepth 100000
/-! The values of all variables, by the program. -/
theorem own_of_block {w : World} {base g n : Nat} {e : TypeId} {cs : List Value} (hb : base ≤ g) (hh : w.heap[g]? = some (.cells cs.toArray e (0, 0))) (hl : cs.length = n) (hm : n ≤ maxLen) : w.ownsRow base e 1 (.slice (some ⟨g, 0, none⟩) n n) n cs :=
  ⟨by omega, .inr ⟨g, n, cs.toArray, rfl, hb, hh, Nat.le_refl _, hm, by simp; omega, by rw [List.take_of_length_le]; simp; omega⟩⟩
theorem splice_two {α : Type} (a b : List α) (z : α) (n k : Nat) (hk : k = 1 + a.length) (hn : 1 + a.length + b.length ≤ n) : splice (splice (List.replicate n z) 1 a) k b = z :: (a ++ b) ++ List.replicate (n - (1 + a.length + b.length)) z := by
  subst hk
  obtain ⟨m, rfl⟩ : ∃ m, n = 1 + a.length + b.length + m := ⟨n - (1 + a.length + b.length), by omega⟩
  have e1 : splice (List.replicate (1 + a.length + b.length + m) z) 1 a = (z :: a) ++ List.replicate (b.length + m) z := by
    unfold splice
    rw [List.take_replicate, List.drop_replicate, show min 1 (1 + a.length + b.length + m) = 1 from by omega, show 1 + a.length + b.length + m - (1 + a.length) = b.length + m from by omega]
    rfl
  rw [e1]
  unfold splice
  rw [List.take_append_of_le_length (by simp; omega), List.take_of_length_le (by simp; omega), List.drop_append, List.drop_eq_nil_of_le (by simp; omega), List.nil_append, List.drop_replicate, show b.length + m - (1 + a.length + b.length - (z :: a).length) = m from by simp; omega, show 1 + a.length + b.length + m - (1 + a.length + b.length) = m from by omega]
  simp
theorem lit_append {A B : List Bool} {l : Nat} (h : l / 2 < A.length) : Cir.lit (A ++ B) l = Cir.lit A l := by
  unfold Cir.lit
  rw [List.getD_eq_getElem?_getD, List.getD_eq_getElem?_getD, List.getElem?_append_left h]
/-- A stop for the walk, at a copy. -/
structure Stop (p : Prop) : Prop where
  out : p
theorem stop_copy {P : Program} {w : World} {ops : Array Oper} {rest : List Oper} {o : Oper} {a : Act} {Q : Exit → Act → World → Prop} (d s : Operand) (dT sT : TypeId)
    (ho : o.op = .call { callee := .builtin .copy, args := #[d, s], argTypes := #[dT, sT] }) (h : Stop (wpList P ops Q (o :: rest) a w)) : wpList P ops Q (o :: rest) a w := h.out
theorem stop_slice {P : Program} {w : World} {ops : Array Oper} {rest : List Oper} {o : Oper} {a : Act} {Q : Exit → Act → World → Prop} (t : TypeId) (x : Operand) (lo hi mx : Option Operand)
    (ho : o.op = .slice t x lo hi mx) (h : Stop (wpList P ops Q (o :: rest) a w)) : wpList P ops Q (o :: rest) a w := h.out
set_option maxHeartbeats 8000000 in
theorem evaluate_any (g : Nat) (d : Ci) (vs vi : Value) (st inp : List Bool) (w : World) (h : PCirc w g (Cir.toCz d)) (hd : Cir.Ok d) (hs : BoolsAt w vs st) (hi : BoolsAt w vi inp) (h1 : inp.length = d.ins) (h2 : st.length = d.next.length) :
    Calls Try.prog 115 #[.pointer (some ⟨g, 0, none⟩), vs, vi, .int .i64 (-1), .bool false] w (OwnBools (Cir.vals d st inp) w) := by
  have s1 := hd.ins
  have s2 := hd.nexts
  have s3 := hd.gatess
  have HGt := Lib.hid hd.gate
  have hnl : (Cir.toCz d).next.length = d.next.length := List.length_map _
  have hgl : (Cir.toCz d).gates.length = d.gates.length := List.length_map _
  obtain ⟨n, hn⟩ : ∃ n, n = Cir.nvars d := ⟨_, rfl⟩
  have hnd : n = 1 + d.ins + d.next.length + d.gates.length := hn
  have HV := vars_any g _ w h (by show (0 : Int) ≤ (d.ins : Int); omega) (by show (d.ins : Int) ≤ 100; omega) (by omega) (by omega)
  rw [Cir.vars_toCz, ← hn] at HV
  have Hv := Lib.hid HV
  have Hs := Lib.hid hs
  have Hi := Lib.hid hi
  have Hp := Lib.hid h
  obtain ⟨As, cs, hvs, hcs, hcms⟩ := Row.shape hs
  obtain ⟨Ai, ci, hvi, hci, hcmi⟩ := Row.shape hi
  subst hvs hvi
  have hmk := run_make_row' (P := Try.prog) 62 4 (.bool false) 1 Try.underlying62 info_bool rfl .i64 .i64 n (by omega) (by omega)
  obtain ⟨m, hm⟩ : ∃ m, m = n := ⟨_, rfl⟩
  have Hnd : Hid (m = 1 + d.ins + d.next.length + d.gates.length) := Lib.hid (hm.trans hnd)
  have b1 : 1 ≤ n := by omega
  have b2 : n ≤ 22 := by omega
  have b3 : 1 + d.ins ≤ n := by omega
  have b4 : 1 + d.ins + d.next.length ≤ n := by omega
  have Hm := Lib.hid hm
  have HB3 : Hid (1 + d.ins + d.next.length ≤ m) := Lib.hid (by omega)
  rw [h1] at hci Hi ⊢
  rw [h2] at hcs Hs ⊢
  have H1 := Lib.hid h1
  have H2 := Lib.hid h2
  have hww : IntKind.i64.wrap (1 + (d.ins : Int)) = 1 + d.ins := IntWalk.i64_in _ (by omega)
  obtain ⟨vn, vg, vo, hg, c0, c1, c2, c3, r1, r2, r3⟩ := Hp.out
  have C0 : Hid (w.cell? ⟨g, 0, none⟩ = some (.int .i64 d.ins)) := Lib.hid c0
  obtain ⟨Ag, cg, hvg, hcg, hcmg⟩ := Row.shape r2
  rw [hgl] at hvg
  subst hvg
  rw [hgl] at hcg
  have C2 := Lib.hid c2
  have R2 : Hid (Row w 2 (.slice Ag d.gates.length cg) d.gates.length (cubes (Cir.toCz d).gates)) := Lib.hid (by have := r2; unfold CubesAt at this; rwa [hgl] at this)
  have Hgl := Lib.hid hgl
  have SZ : (Try.prog.info? 4).map (·.size) = some 1 := by
    have := info_bool
    cases hi : Try.prog.info? 4 with
    | none => rw [hi] at this; cases this
    | some i => rw [hi] at this; simp at this; simp [this]
  clear r1 r2 r3 c0 c1 c2 c3
  clear HV h hs hi hnl hgl hn hnd h1 h2 hm hd
  go_enter Try.func115, Try.ntmps115
  go_wp2_with fail
  refine Hv.out.mono ?_
  rintro e w1 ⟨rfl, hb1⟩
  have hZ : Hid ((w1.alloc (.cells (madeCells #[Value.bool false] n) 4)).heap[w1.heap.size]? = some (.cells (bools (List.replicate m false)).toArray 4 (0, 0))) := Lib.hid (by
    rw [heap_alloc_new, made_one, Hm.out]
    simp [bools])
  have B1 : Hid (Below w.heap.size w (w1.alloc (.cells (madeCells #[Value.bool false] n) 4))) := Lib.hid (hb1.alloc hb1.size _)
  have hz1 := hb1.size
  have c0 : (w1.alloc (.cells (madeCells #[Value.bool false] n) 4)).cell? ⟨g, 0, none⟩ = some (.int .i64 d.ins) := (B1.out.cell (p := ⟨g, 0, none⟩) hg).trans C0.out
  generalize hW2 : w1.alloc (.cells (madeCells #[Value.bool false] n) 4) = W2 at *
  clear hb1 Hv
  go_wp2_with (refine stop_slice _ _ _ _ _ rfl ?_)
  refine ⟨?_⟩
  clear hmk
  have hcase : (n = 1 ∧ n = 1 + d.ins) ∨ (n ≠ 1 ∧ n = 1 + d.ins) ∨ (n ≠ 1 ∧ n ≠ 1 + d.ins) := by omega
  have hcase2 : ∃ p q : Prop, Hid ((p → n = 1) ∧ (¬ p → n ≠ 1) ∧ (q → n = 1 + d.ins) ∧ (¬ q → n ≠ 1 + d.ins)) ∧ (((n = 1) = True ∧ (n = 1 + d.ins) = True ∧ p ∧ q) ∨ ((n = 1) = False ∧ (n = 1 + d.ins) = True ∧ ¬ p ∧ q) ∨ ((n = 1) = False ∧ (n = 1 + d.ins) = False ∧ ¬ p ∧ ¬ q)) := by
    refine ⟨n = 1, n = 1 + d.ins, Lib.hid ⟨id, id, id, id⟩, ?_⟩
    rcases hcase with ⟨h, h'⟩ | ⟨h, h'⟩ | ⟨h, h'⟩
    · exact .inl ⟨eq_true h, eq_true h', h, h'⟩
    · exact .inr (.inl ⟨eq_false h, eq_true h', h, h'⟩)
    · exact .inr (.inr ⟨eq_false h, eq_false h', h, h'⟩)
  clear hcase
  obtain ⟨pp, qq, HQ, ⟨hq, hq', hp1, hp2⟩ | ⟨hq, hq', hp1, hp2⟩ | ⟨hq, hq', hp1, hp2⟩⟩ := hcase2
  all_goals have HP := Lib.hid (And.intro hp1 hp2)
  all_goals clear hp1 hp2
  all_goals go_wp2_with (first
    | (refine wpList_copy_splice rfl (.tmp 19) (.tmp 20) 62 62 rfl 4 Try.underlying62 SZ _ _ _ _ _ _ rfl rfl w1.heap.size 1 (bools (List.replicate m false)) 4 hZ.out (bools inp) ?_ ?_ ?_ (bools_one _) w.heap.size w B1.out hz1 ?_
       · have hb3 := HB3.out; have hmn := Hm.out; obtain ⟨q1, q2, q3, q4⟩ := HQ.out; obtain ⟨r1, r2⟩ := HP.out; simp only [r1, r2, not_true_eq_false, not_false_eq_true, true_implies, false_implies] at q1 q2 q3 q4; rw [bools_length, H1.out]; show d.ins = min _ _; omega
       · intro hp
         have hb3 := HB3.out
         have hmn := Hm.out
         obtain ⟨q1, q2, q3, q4⟩ := HQ.out
         obtain ⟨r1, r2⟩ := HP.out
         simp only [r1, r2, not_true_eq_false, not_false_eq_true, true_implies, false_implies] at q1 q2 q3 q4
         rw [bools_length, H1.out] at hp
         first
           | (exfalso; omega)
           | (refine ⟨by first | rfl | exact if_neg q2, ?_⟩
              obtain ⟨b, o, c', hv, _, _, _, hcell⟩ := Row.open (Row.below Hi.out B1.out) (by rw [H1.out]; exact hp)
              injection hv with hv1 hv2 hv3
              refine ⟨⟨b, o, none⟩, hv1, fun j u hu => ?_⟩
              rw [Go.WideShapes.add_plain]
              exact hcell j u hu)
       · rw [bools_length, bools_length, H1.out, List.length_replicate, Hnd.out]; omega
       intro w5 HG5 hB5; have HB5 := Lib.hid hB5; have c5 := (hB5.cell (p := ⟨g, 0, none⟩) hg).trans C0.out; clear hB5 c0)
    | (refine wpList_copy_splice rfl (.tmp 28) (.tmp 29) 62 62 rfl 4 Try.underlying62 SZ _ _ _ _ _ _ rfl rfl w1.heap.size (1 + d.ins) (splice (bools (List.replicate m false)) 1 (bools inp)) 4 HG5.out (bools st) ?_ ?_ ?_ (bools_one _) w.heap.size w HB5.out hz1 ?_
       · have hb3 := HB3.out; have hmn := Hm.out; obtain ⟨q1, q2, q3, q4⟩ := HQ.out; obtain ⟨r1, r2⟩ := HP.out; simp only [r1, r2, not_true_eq_false, not_false_eq_true, true_implies, false_implies] at q1 q2 q3 q4; rw [bools_length, H2.out]; show d.next.length = min _ _; omega
       · intro hp
         have hb3 := HB3.out
         have hmn := Hm.out
         obtain ⟨q1, q2, q3, q4⟩ := HQ.out
         obtain ⟨r1, r2⟩ := HP.out
         simp only [r1, r2, not_true_eq_false, not_false_eq_true, true_implies, false_implies] at q1 q2 q3 q4
         rw [bools_length, H2.out] at hp
         first
           | (exfalso; omega)
           | (refine ⟨by first | rfl | exact if_neg q4, ?_⟩
              obtain ⟨b, o, c', hv, _, _, _, hcell⟩ := Row.open (Row.below Hs.out HB5.out) (by rw [H2.out]; exact hp)
              injection hv with hv1 hv2 hv3
              refine ⟨⟨b, o, none⟩, hv1, fun j u hu => ?_⟩
              rw [Go.WideShapes.add_plain]
              exact hcell j u hu)
       · rw [length_splice _ _ _ (by rw [bools_length, bools_length, H1.out, List.length_replicate, Hnd.out]; omega), bools_length, bools_length, H2.out, List.length_replicate, Hnd.out]; omega
       intro w6 HG6 hB6; have HB6 := Lib.hid hB6; have c6 := (hB6.cell (p := ⟨g, 2, none⟩) hg).trans C2.out; clear hB6 c5 HB5 HG5))
  all_goals
    have hmm := Hm.out
    subst hmm
    have hm22 := b2
    have hnf : Cir.nfirst d ≤ 8 := by unfold Cir.nfirst; omega
    have Hnf : Hid (m = Cir.nfirst d + d.gates.length) := Lib.hid (by rw [Hnd.out]; unfold Cir.nfirst; omega)
    have HE : Hid (∀ k, k ≤ d.gates.length → (Cir.evalG (d.gates.take k) (false :: (inp ++ st))).length = Cir.nfirst d + k) := Lib.hid fun k hk => by
      rw [Cir.evalG_length]
      simp [Cir.nfirst, H1.out, H2.out]
      omega
    have Ho0 : Hid (w6.ownsRow w.heap.size 4 1 (.slice (some ⟨w1.heap.size, 0, none⟩) m m) m (bools (Cir.evalG (d.gates.take 0) (false :: (inp ++ st)) ++ List.replicate (d.gates.length - 0) false))) := Lib.hid (by
      have e0 : Cir.evalG (d.gates.take 0) (false :: (inp ++ st)) = false :: (inp ++ st) := rfl
      have hb3 := HB3.out
      have hnd := Hnd.out
      have h1 := H1.out
      have h2 := H2.out
      have e1 : bools (List.replicate m false) = List.replicate m (Value.bool false) := by simp [bools]
      have e2 : splice (splice (bools (List.replicate m false)) 1 (bools inp)) (1 + d.ins) (bools st) = bools (false :: (inp ++ st) ++ List.replicate (d.gates.length - 0) false) := by
        rw [e1, splice_two (bools inp) (bools st) (.bool false) m (1 + d.ins) (by rw [bools_length, h1]) (by rw [bools_length, bools_length, h1, h2]; omega), bools_length, bools_length, h1, h2, show m - (1 + d.ins + d.next.length) = d.gates.length - 0 by omega]
        simp [bools]
      rw [e0, ← e2]
      refine own_of_block hz1 HG6.out ?_ (by unfold maxLen; omega)
      rw [e2, bools_length]
      simp [h1, h2]
      omega)
    have HV : Hid (Cir.evalG (d.gates.take d.gates.length) (false :: (inp ++ st)) = Cir.vals d st inp) := Lib.hid (by rw [List.take_length]; rfl)
    have HPf : Hid (∀ w', Below w.heap.size w w' → Calls Try.prog 104 #[.pointer (some ⟨g, 0, none⟩)] w' fun e w'' => e = .returned (.int .i64 (Cir.nfirst d : Nat)) ∧ Below w'.heap.size w' w'') := Lib.hid fun w' hb => by
      have := firstGate_any g _ w' (Hp.out.below hb) (by show (0 : Int) ≤ (d.ins : Int); omega) (by show (d.ins : Int) ≤ 100; omega) (by show (List.map _ _).length ≤ 100; rw [List.length_map]; omega)
      rwa [Cir.first_toCz] at this
    generalize Cir.vals d st inp = res at *
    generalize Cir.nfirst d = nf at *
    generalize hI0 : (false :: (inp ++ st)) = I0 at *
    clear hq hq' HQ HP c6 C0 C2 hww HB3 Hnd Hm hZ HG6 H1 H2 B1 Hs Hi Hp
    go_loopw [42] (fun i wr => ∃ k : Nat, k ≤ d.gates.length ∧ i = .int .i64 k ∧ Hid (wr.ownsRow w.heap.size 4 1 (.slice (some ⟨w1.heap.size, 0, none⟩) m m) m (bools (Cir.evalG (d.gates.take k) I0 ++ List.replicate (d.gates.length - k) false))) ∧ Below w.heap.size w wr) (fun i _ => d.gates.length - (intOf i).toNat)
    case atStart => exact ⟨0, Nat.zero_le _, rfl, Ho0, HB6.out⟩
    case round =>
      obtain ⟨k, hk, rfl, Ho, hb⟩ := hrel
      clear Ho0 HB6
      by_cases hlt : k < d.gates.length
      · obtain ⟨b, o, x, rfl, hbl, hx, hs1, hs2⟩ := cubes_open R2.out hb Hgl.out.symm (i := k) (by rw [Hgl.out]; exact hlt)
        obtain ⟨gt, hgt⟩ := at_some hlt
        have hxe : x = ((gt.1 : Int), (gt.2 : Int)) := by
          have h1 := hx.out
          unfold Cir.toCz at h1
          simp only [List.getElem?_map, hgt] at h1
          exact (Option.some.inj h1).symm
        subst hxe
        obtain ⟨g1, g2⟩ := HGt.out k gt hgt
        have hEk := HE.out k (by omega)
        have HS := Lib.hid (Cir.evalG_take_snoc hgt I0)
        have hgv : Cir.gval (Cir.evalG (d.gates.take k) I0) gt = (Cir.lit (Cir.evalG (d.gates.take k) I0) gt.1 && Cir.lit (Cir.evalG (d.gates.take k) I0) gt.2) := rfl
        rw [hgv] at HS
        clear hgv hx hgt
        obtain ⟨E2, hE2⟩ : ∃ E2, Cir.evalG (d.gates.take (k + 1)) I0 = E2 := ⟨_, rfl⟩
        rw [hE2] at HS
        have HE2 := Lib.hid hE2
        clear hE2
        generalize Cir.evalG (d.gates.take k) I0 = E at *
        have Hb := Lib.hid hb
        have hz := hb.size
        have hlen : (E ++ List.replicate (d.gates.length - k) false).length = m := by
          have := Hnf.out
          simp [hEk]
          omega
        have HL := Lib.hid hlen
        have hmnf := Hnf.out
        have hkm : nf + k < m := by omega
        have HSet : ∀ u : Bool, Hid ((bools (E ++ List.replicate (d.gates.length - k) false)).set (nf + k) (.bool u) = bools (E ++ [u] ++ List.replicate (d.gates.length - (k + 1)) false)) := fun u => Lib.hid (by
          unfold bools
          rw [← List.map_set, set_mid_at _ _ _ _ _ hEk.symm (by omega), show d.gates.length - k - 1 = d.gates.length - (k + 1) from by omega])
        have HA1 := Lib.hid (lit_append (B := List.replicate (d.gates.length - k) false) (show gt.1 / 2 < E.length by omega))
        have HA2 := Lib.hid (lit_append (B := List.replicate (d.gates.length - k) false) (show gt.2 / 2 < E.length by omega))
        obtain ⟨G1, hG1⟩ : ∃ G1, G1 = gt.1 := ⟨_, rfl⟩
        obtain ⟨G2, hG2⟩ : ∃ G2, G2 = gt.2 := ⟨_, rfl⟩
        rw [← hG1] at g1 HS hs1 HA1
        rw [← hG2] at g2 HS hs2 HA2
        have hwk : IntKind.i64.wrap ((nf : Int) + (k : Int)) = (nf : Int) + (k : Int) := IntWalk.i64_in _ (by omega)
        have hn1 : ((nf : Int) + (k : Int) != -1) = true := by simp; omega
        have hix : ((nf : Int) + (k : Int)).toNat = nf + k := by omega
        clear hb hG1 hG2 hEk hlen hmnf
        go_wp2_with fail
        refine (HPf.out _ (Hb.out.alloc hz _)).mono ?_
        rintro e w9 ⟨rfl, hb9⟩
        have Hb9 := Lib.hid ((Hb.out.alloc hz _).trans (hb9.mono (by simp; omega)))
        have Ho9 := Lib.hid (own_below (Ho.out.alloc _) hb9)
        have q0 := (hb9.cell (p := ⟨wr.heap.size, 0, none⟩) (by simp)).trans (World.cell?_alloc_new _ _ _ 0)
        have q1 := (hb9.cell (p := ⟨wr.heap.size, 1, none⟩) (by simp)).trans (World.cell?_alloc_new _ _ _ 1)
        simp at q0 q1
        obtain ⟨u0, _, hd0, hf0⟩ := own_slot Ho9.out (j := nf + k) (by omega)
        have Hst := fun u => Lib.hid (Ho9.out.stored (nf + k) (.bool u))
        have HBA : Hid (BoolsAt w9 (.slice (some ⟨w1.heap.size, 0, none⟩) m m) (E ++ List.replicate (d.gates.length - k) false)) := Lib.hid (ownBools_at (b := w.heap.size) (by rw [HL.out]; exact Ho9.out))
        clear hb9
        go_wp2_with fail
        refine (litValue_any _ _ G1 _ HBA.out (by rw [HL.out]; omega) (by omega)).mono ?_
        rintro e w' ⟨rfl, rfl⟩
        rw [HA1.out]
        cases hv1 : Cir.lit E G1
        · have HEe : Hid (bools (E2 ++ List.replicate (d.gates.length - (k + 1)) false) = bools (E ++ [false] ++ List.replicate (d.gates.length - (k + 1)) false)) := Lib.hid (by rw [HS.out, hv1]; rfl)
          clear hv1 HS
          go_wp2_with fail
          go_roundw
          case rel => exact ⟨k + 1, by omega, by go_num, Lib.hid (by rw [HE2.out, HEe.out, ← (HSet false).out]; exact (Hst false).out.1), Hb9.out.grown (Hst false).out.2 Hb9.out.size (fun q hq => by have := Option.some.inj hq; omega)⟩
          case measure => simp [intOf] <;> omega
        · have HEe : Hid (bools (E2 ++ List.replicate (d.gates.length - (k + 1)) false) = bools (E ++ [Cir.lit E G2] ++ List.replicate (d.gates.length - (k + 1)) false)) := Lib.hid (by rw [HS.out, hv1, Bool.true_and])
          clear hv1 HS
          go_wp2_with fail
          refine (litValue_any _ _ G2 _ HBA.out (by rw [HL.out]; omega) (by omega)).mono ?_
          rintro e w' ⟨rfl, rfl⟩
          rw [HA2.out]
          generalize Cir.lit E G2 = u at *
          go_wp2_with fail
          go_roundw
          case rel => exact ⟨k + 1, by omega, by go_num, Lib.hid (by rw [HE2.out, HEe.out, ← (HSet u).out]; exact (Hst u).out.1), Hb9.out.grown (Hst u).out.2 Hb9.out.size (fun q hq => by have := Option.some.inj hq; omega)⟩
          case measure => simp [intOf] <;> omega
      · obtain rfl : k = d.gates.length := by omega
        have HR : Hid (res.length = m ∧ bools (Cir.evalG (d.gates.take d.gates.length) I0 ++ List.replicate (d.gates.length - d.gates.length) false) = bools res) := Lib.hid ⟨by rw [← HV.out, HE.out _ (Nat.le_refl _), Hnf.out], by rw [HV.out, Nat.sub_self]; simp⟩
        go_wp2_with fail
        go_ret
        exact ⟨_, rfl, by rw [HR.out.1, ← HR.out.2]; exact Ho.out, hb⟩
end Go.Proofs.Ytlbfejdbfhgifaa

namespace Go.Proofs.Ytlbfejdbfhgifaa
open Go.RowKit
set_option maxRecDepth 100000
namespace Cir
/-- The values of a literal, an assignment each. -/
def litAt (d : Ci) (l x : Nat) : Bool := lit (vals d (bits (x / 2 ^ d.ins) d.next.length) (bits x d.ins)) l
def litTab (d : Ci) (l n : Nat) : List Bool := (List.range n).map (litAt d l)
theorem litTab_snoc (d : Ci) (l n : Nat) : litTab d l (n + 1) = litTab d l n ++ [litAt d l n] := by
  unfold litTab
  rw [List.range_succ, List.map_append]
  rfl
theorem litTab_length (d : Ci) (l n : Nat) : (litTab d l n).length = n := by simp [litTab]
theorem litTab_get (d : Ci) (l : Nat) {n k : Nat} (h : k < n) : (litTab d l n)[k]? = some (litAt d l k) := by simp [litTab, h]
theorem litAt_flat {d : Ci} (h : d.next = []) (l x : Nat) : litAt d l x = lit (vals d [] (bits x d.ins)) l := by
  unfold litAt
  rw [h]
  rfl
/-- What TableOf answers. -/
def tabI (c : Cz) (l : Int) : Int := if valid c = true ∧ c.next = [] ∧ isLit l (vars c) = true then (tab (nat c) l.toNat (2 ^ (nat c).ins) : Nat) else -1
end Cir
set_option maxHeartbeats 4000000 in
theorem litTable_any (g : Nat) (d : Ci) (l : Nat) (w : World) (h : PCirc w g (Cir.toCz d)) (hd : Cir.Ok d) (hl : l < 2 * Cir.nvars d) :
    Calls Try.prog 77 #[.pointer (some ⟨g, 0, none⟩), .int .i64 l] w (OwnBools (Cir.litTab d l (2 ^ (d.ins + d.next.length))) w) := by
  have s1 := hd.ins
  have s2 := hd.nexts
  have s3 := hd.gatess
  have hnl : (Cir.toCz d).next.length = d.next.length := List.length_map _
  have hnv : Cir.nvars d ≤ 22 := by unfold Cir.nvars Cir.nfirst; omega
  obtain ⟨M, hM⟩ : ∃ M : Nat, M = 2 ^ (d.ins + d.next.length) := ⟨_, rfl⟩
  have hM128 : M ≤ 128 := by rw [hM]; exact Nat.pow_le_pow_right (show 0 < 2 by decide) (show _ ≤ 7 by omega)
  have HA : Hid (∀ w', Below w.heap.size w w' → Calls Try.prog 48 #[.pointer (some ⟨g, 0, none⟩)] w' fun e w'' => e = .returned (.int .i64 (M : Nat)) ∧ Below w'.heap.size w' w'') := Lib.hid fun w' hb => by
    rw [hM]
    exact assignments_any g _ (d.ins + d.next.length) w' (h.below hb) (by rw [hnl]; show (d.ins : Int) + _ = _; omega) (by omega)
  have HI : Hid (∀ (x : Nat) w', x ≤ 1000000 → Below w.heap.size w w' → Calls Try.prog 50 #[.pointer (some ⟨g, 0, none⟩), .int .i64 x] w' (OwnBools (Cir.bits x d.ins) w')) := Lib.hid fun x w' hx hb => inputBits_any g _ d.ins x w' (h.below hb) rfl (by omega) hx
  have HL : Hid (∀ (x : Nat) w', x ≤ 1000000 → Below w.heap.size w w' → Calls Try.prog 52 #[.pointer (some ⟨g, 0, none⟩), .int .i64 x] w' (OwnBools (Cir.bits (x / 2 ^ d.ins) d.next.length) w')) := Lib.hid fun x w' hx hb => latchBits_any g _ d.ins d.next.length x w' (h.below hb) rfl hnl (by omega) (by omega) hx
  have HP := Lib.hid h
  have HD := Lib.hid hd
  rw [← hM]
  clear hM h hd hnl
  go_enter Try.func77, Try.ntmps77
  go_wp2_with fail
  refine (HA.out _ (Below.refl _ _)).mono ?_
  rintro e w1 ⟨rfl, hb1⟩
  have B1 := Lib.hid hb1
  clear hb1 HA
  go_wp2_with fail
  go_loopw [5, 9] (fun v i wr => ∃ (vv : Value) (k : Nat), vv = v ∧ k ≤ M ∧ i = .int .i64 k ∧ Hid (wr.ownsRow w.heap.size 4 1 v k (bools (Cir.litTab d l k))) ∧ Below w.heap.size w wr) (fun _ i _ => M - (intOf i).toNat)
  case atStart => exact ⟨_, 0, rfl, Nat.zero_le _, rfl, Lib.hid (World.ownsRow_nil _ _ _ _), B1.out⟩
  case round =>
    obtain ⟨vv, k, hvv, hk, rfl, Ho, hb⟩ := hrel
    subst hvv
    by_cases hlt : k < M
    · have hz := hb.size
      have Hb := Lib.hid hb
      have HS : Hid (bools (Cir.litTab d l (k + 1)) = bools (Cir.litTab d l k) ++ [.bool (Cir.litAt d l k)]) := Lib.hid (by rw [Cir.litTab_snoc, bools_append]; rfl)
      have HX : Hid (Cir.lit (Cir.vals d (Cir.bits (k / 2 ^ d.ins) d.next.length) (Cir.bits k d.ins)) l = Cir.litAt d l k) := Lib.hid rfl
      have hk1 : k ≤ 1000000 := by omega
      clear hb
      go_wp2_with fail
      refine (HL.out k _ hk1 Hb.out).mono ?_
      rintro e w2 ⟨v2, rfl, hown2, hb2⟩
      have Ho2 := Lib.hid hown2
      have Hb2 := Lib.hid (Hb.out.trans (hb2.mono hz))
      have HoA := Lib.hid (own_below Ho.out hb2)
      have hz2 := Nat.le_trans hz hb2.size
      clear hown2 hb2
      go_wp2_with fail
      refine (HI.out k _ hk1 Hb2.out).mono ?_
      rintro e w3 ⟨v3, rfl, hown3, hb3⟩
      have Ho3 := Lib.hid hown3
      have Ho23 := Lib.hid (own_below Ho2.out hb3)
      have Hb3 := Lib.hid (Hb2.out.trans (hb3.mono hz2))
      have HoB := Lib.hid (own_below HoA.out hb3)
      have hz3 := Nat.le_trans hz2 hb3.size
      clear hown3 hb3
      go_wp2_with fail
      refine (evaluate_any g d v2 v3 _ _ _ (HP.out.below Hb3.out) HD.out (ownBools_at Ho23.out) (ownBools_at Ho3.out) (Cir.bits_length _ _) (Cir.bits_length _ _)).mono ?_
      rintro e w4 ⟨v4, rfl, hown4, hb4⟩
      have Ho4 := Lib.hid hown4
      have Hb4 := Lib.hid (Hb3.out.trans (hb4.mono hz3))
      have HoC := Lib.hid (own_below HoB.out hb4)
      have hz4 := Nat.le_trans hz3 hb4.size
      clear hown4 hb4
      go_wp2_with fail
      refine (litValue_any v4 _ l _ (ownBools_at Ho4.out) (by rw [Cir.vals_length d (Cir.bits_length _ _) (Cir.bits_length _ _)]; exact hl) (by omega)).mono ?_
      rintro e w' ⟨rfl, rfl⟩
      rw [HX.out]
      generalize Cir.litAt d l k = u at *
      have Hlit := Lib.hid (Row.of_own (World.ownsRow_lit (base := w4.heap.size) (e := 4) (size := 1) w4 #[.bool u] 1 (Nat.le_refl _) (by unfold maxLen; omega) rfl))
      go_wp2_with (at_builtin; refine append_bools rfl (.tmp 12) (.tmp 23) rfl w.heap.size _ k _ rfl (HoC.out.alloc _) _ 1 [.bool u] rfl Hlit.out (by simp [Value.oneCell']) (by omega) (by simp; omega) ?_; intro v7 w7 hown7 hg7 hat7; have Ho7 := Lib.hid hown7; have Hg7 := Lib.hid hg7; clear hown7 hg7 hat7)
      go_roundw
      case rel => exact ⟨_, k + 1, rfl, by omega, by go_num, Lib.hid (by rw [HS.out]; exact Ho7.out), (Hb4.out.alloc hz4 _).grown Hg7.out (Hb4.out.alloc hz4 _).size (own_ge0 HoC.out)⟩
      case measure => simp [intOf] <;> omega
    · obtain rfl : k = M := by omega
      go_wp2_with fail
      go_ret
      exact ⟨_, rfl, by rw [Cir.litTab_length]; exact Ho.out, hb⟩
theorem valid_sizes {c : Cz} (h : Cir.valid c = true) : 0 ≤ c.ins ∧ c.ins ≤ 4 ∧ c.next.length ≤ 3 ∧ c.gates.length ≤ 14 ∧ c.outs.length ≤ 3 := by
  unfold Cir.valid at h
  rw [Bool.and_eq_true, Bool.and_eq_true] at h
  have := h.1.1
  unfold Cir.sizes at this
  simpa using this
set_option maxHeartbeats 4000000 in
theorem implTable_no (v : Value) (c : Cz) (l : Int) (w : World) (h : CircAt w v c) (hno : Cir.valid c = false ∨ (Cir.valid c = true ∧ 0 < c.next.length) ∨ (Cir.valid c = true ∧ c.next.length = 0 ∧ Cir.isLit l (Cir.vars c) = false)) :
    Calls Try.prog 29 #[v, .int .i64 l] w fun e w' => e = .returned (.int .i64 (-1)) ∧ Below w.heap.size w w' := by
  obtain ⟨vn, vg, vo, rfl, r1, r2, r3⟩ := h
  obtain ⟨An, cn, hvn, hcn, hcmn⟩ := r1.shape
  subst hvn
  have hb0 : Below w.heap.size w (w.alloc (.cells #[.int .i64 c.ins, .slice An c.next.length cn, vg, vo] 31)) := (Below.refl _ _).alloc (Nat.le_refl _) _
  obtain ⟨z, p0, p1, p2, p3⟩ := PCells.boxed w c.ins (.slice An c.next.length cn) vg vo 31
  have hPC := PCirc.boxed (w := w) (c := c) 31 r1 r2 r3
  have HC : ∀ n : GW (w.alloc (.cells #[.int .i64 c.ins, .slice An c.next.length cn, vg, vo] 31)), CircAt (gw n) (.agg #[.int .i64 c.ins, .slice An c.next.length cn, vg, vo]) c := fun n =>
    ⟨_, _, _, rfl, Row.below r1 (hb0.trans ((gw_below n).mono hb0.size)), Row.below r2 (hb0.trans ((gw_below n).mono hb0.size)), Row.below r3 (hb0.trans ((gw_below n).mono hb0.size))⟩
  generalize hW : w.alloc (.cells #[.int .i64 c.ins, .slice An c.next.length cn, vg, vo] 31) = W at *
  have g0 := gw_cell p0 z
  have g1 := gw_cell p1 z
  have g2 := gw_cell p2 z
  have g3 := gw_cell p3 z
  have HV : Hid (∀ n : GW W, Calls Try.prog 47 #[.agg #[.int .i64 c.ins, .slice An c.next.length cn, vg, vo]] (gw n) fun e w' => e = .returned (.bool (Cir.valid c)) ∧ Below (gw n).heap.size (gw n) w') := Lib.hid fun n => implValid_any _ c _ (HC n)
  have B0 := Lib.hid hb0
  clear r1 r2 r3 hb0
  rcases hno with hv | ⟨hv, hl⟩ | ⟨hv, hl, hi⟩
  · rw [hv] at HV
    clear hv HC hPC
    go_enter Try.func29, Try.ntmps29
    go_wp2_with fail
    refine (HV.out ⟨W, Below.refl _ _⟩).mono ?_
    rintro e w1 ⟨rfl, hb1⟩
    have g1' := (hb1.cell (p := ⟨w.heap.size, 1, none⟩) z).trans p1
    have Hb1 : Hid (Below W.heap.size W w1) := Lib.hid hb1
    clear g0 g1 g2 g3 hb1 p0 p1 p2 p3
    go_wp2_with fail
    go_ret
    exact ⟨rfl, B0.out.trans (Hb1.out.mono B0.out.size)⟩
  · rw [hv] at HV
    have hd : decide (0 < c.next.length) = true := decide_eq_true hl
    clear hv HC hl hPC
    go_enter Try.func29, Try.ntmps29
    go_wp2_with fail
    refine (HV.out ⟨W, Below.refl _ _⟩).mono ?_
    rintro e w1 ⟨rfl, hb1⟩
    have g1' := (hb1.cell (p := ⟨w.heap.size, 1, none⟩) z).trans p1
    have Hb1 : Hid (Below W.heap.size W w1) := Lib.hid hb1
    clear g0 g1 g2 g3 hb1 p0 p1 p2 p3
    go_wp2_with fail
    go_ret
    exact ⟨rfl, B0.out.trans (Hb1.out.mono B0.out.size)⟩
  · rw [hv] at HV
    obtain ⟨s1, s2, s3, s4, s5⟩ := valid_sizes hv
    have HF : Hid (∀ n : GW W, Calls Try.prog 76 #[.pointer (some ⟨w.heap.size, 0, none⟩)] (gw n) fun e w' => e = .returned (.int .i64 (Cir.vars c)) ∧ Below (gw n).heap.size (gw n) w') := Lib.hid fun n => vars_any _ c _ (hPC.below (gw_below n)) s1 (by omega) (by omega) (by omega)
    have hvb : -1000000 ≤ Cir.vars c ∧ Cir.vars c ≤ 1000000 := by unfold Cir.vars Cir.first; omega
    have HI : Hid (∀ n : GW W, Calls Try.prog 75 #[.int .i64 l, .int .i64 (Cir.vars c)] (gw n) fun e w' => e = .returned (.bool false) ∧ gw n = w') := Lib.hid fun n => by
      have h1 := isLit_any l (Cir.vars c) (gw n) hvb.1 hvb.2
      rwa [hi] at h1
    have hd : decide (0 < c.next.length) = false := decide_eq_false (by omega)
    have hd4 : decide (4 < c.ins) = false := decide_eq_false (by omega)
    clear hv HC hi hl hPC
    generalize Cir.vars c = V at *
    go_enter Try.func29, Try.ntmps29
    go_wp2_with fail
    refine (HV.out ⟨W, Below.refl _ _⟩).mono ?_
    rintro e w1 ⟨rfl, hb1⟩
    have g1' := (hb1.cell (p := ⟨w.heap.size, 1, none⟩) z).trans p1
    have g0' := (hb1.cell (p := ⟨w.heap.size, 0, none⟩) z).trans p0
    have Hb1 : Hid (Below W.heap.size W w1) := Lib.hid hb1
    clear g0 g1 g2 g3 hb1 p0 p1 p2 p3
    go_wp2_with fail
    refine (HF.out ⟨w1, Hb1.out⟩).mono ?_
    rintro e w2 ⟨rfl, hb2⟩
    have Hb2 := Lib.hid (Hb1.out.trans (hb2.mono Hb1.out.size))
    clear hb2 g0' g1'
    go_wp2_with fail
    refine (HI.out ⟨w2, Hb2.out⟩).mono ?_
    rintro e w' ⟨rfl, rfl⟩
    simp only [gw]
    go_wp2_with fail
    go_ret
    exact ⟨rfl, B0.out.trans (Hb2.out.mono B0.out.size)⟩
set_option maxHeartbeats 4000000 in
theorem implTable_ok (v : Value) (d : Ci) (l : Nat) (w : World) (h : CircAt w v (Cir.toCz d)) (hd : Cir.Ok d) (hv : Cir.valid (Cir.toCz d) = true) (hn : d.next = []) (hl : l < 2 * Cir.nvars d) :
    Calls Try.prog 29 #[v, .int .i64 l] w fun e w' => e = .returned (.int .i64 (Cir.tab d l (2 ^ d.ins) : Nat)) ∧ Below w.heap.size w w' := by
  have s1 := hd.ins
  have s3 := hd.gatess
  have hnl : (Cir.toCz d).next.length = 0 := by simp [Cir.toCz, hn]
  have hgl : (Cir.toCz d).gates.length = d.gates.length := List.length_map _
  have hnv : Cir.nvars d ≤ 19 := by unfold Cir.nvars Cir.nfirst; rw [hn]; simp; omega
  have HCa := Lib.hid h
  have hins : (Cir.toCz d).ins = (d.ins : Int) := rfl
  obtain ⟨vn, vg, vo, rfl, r1, r2, r3⟩ := h
  obtain ⟨An, cn, hvn, hcn, hcmn⟩ := r1.shape
  rw [hnl] at hvn
  subst hvn
  have hPC : PCirc (w.alloc (.cells #[.int .i64 d.ins, .slice An 0 cn, vg, vo] 31)) w.heap.size (Cir.toCz d) := PCirc.boxed (w := w) (c := Cir.toCz d) 31 r1 r2 r3
  rw [hins] at HCa ⊢
  have hb0 : Below w.heap.size w (w.alloc (.cells #[.int .i64 d.ins, .slice An 0 cn, vg, vo] 31)) := (Below.refl _ _).alloc (Nat.le_refl _) _
  obtain ⟨z, p0, p1, p2, p3⟩ := PCells.boxed w d.ins (.slice An 0 cn) vg vo 31
  have HCW : Hid (CircAt (w.alloc (.cells #[.int .i64 d.ins, .slice An 0 cn, vg, vo] 31)) (.agg #[.int .i64 d.ins, .slice An 0 cn, vg, vo]) (Cir.toCz d)) := Lib.hid (HCa.out.below hb0)
  generalize hW : w.alloc (.cells #[.int .i64 d.ins, .slice An 0 cn, vg, vo] 31) = W at *
  have g0 := gw_cell p0 z
  have g1 := gw_cell p1 z
  have g2 := gw_cell p2 z
  have g3 := gw_cell p3 z
  have HV : Hid (∀ n : GW W, Calls Try.prog 47 #[.agg #[.int .i64 d.ins, .slice An 0 cn, vg, vo]] (gw n) fun e w' => e = .returned (.bool true) ∧ Below (gw n).heap.size (gw n) w') := Lib.hid fun n => by
    have := implValid_any _ _ _ (HCW.out.below (gw_below n))
    rwa [hv] at this
  have HF : Hid (∀ n : GW W, Calls Try.prog 76 #[.pointer (some ⟨w.heap.size, 0, none⟩)] (gw n) fun e w' => e = .returned (.int .i64 (Cir.nvars d : Nat)) ∧ Below (gw n).heap.size (gw n) w') := Lib.hid fun n => by
    have := vars_any _ _ _ (hPC.below (gw_below n)) (by show (0 : Int) ≤ (d.ins : Int); omega) (by show (d.ins : Int) ≤ 100; omega) (by omega) (by omega)
    rwa [Cir.vars_toCz] at this
  have HI : Hid (∀ n : GW W, Calls Try.prog 75 #[.int .i64 l, .int .i64 (Cir.nvars d : Nat)] (gw n) fun e w' => e = .returned (.bool true) ∧ gw n = w') := Lib.hid fun n => by
    have h1 := isLit_any l (Cir.nvars d : Nat) (gw n) (by omega) (by omega)
    rwa [show Cir.isLit (l : Int) ((Cir.nvars d : Nat) : Int) = true from decide_eq_true (by omega)] at h1
  have hd0 : decide (0 < 0) = false := rfl
  have hd4 : decide (4 < (d.ins : Int)) = false := decide_eq_false (by omega)
  have B0 := Lib.hid hb0
  have HD := Lib.hid hd
  have HP := Lib.hid hPC
  have HN := Lib.hid hn
  have Hl := Lib.hid hl
  obtain ⟨M, hM⟩ : ∃ M : Nat, M = 2 ^ d.ins := ⟨_, rfl⟩
  have hM16 : M ≤ 16 := by rw [hM]; exact Nat.pow_le_pow_right (show 0 < 2 by decide) s1
  have HM : Hid (2 ^ (d.ins + d.next.length) = M) := Lib.hid (by rw [hM, hn]; rfl)
  rw [← hM]
  clear r1 r2 r3 hb0 hd hv hn hnl hgl hM HCa hPC hl HCW
  obtain ⟨V, hV⟩ : ∃ V, Cir.nvars d = V := ⟨_, rfl⟩
  rw [hV] at HF HI hnv
  clear hV
  go_enter Try.func29, Try.ntmps29
  go_wp2_with fail
  refine (HV.out ⟨W, Below.refl _ _⟩).mono ?_
  rintro e w1 ⟨rfl, hb1⟩
  have g1' := (hb1.cell (p := ⟨w.heap.size, 1, none⟩) z).trans p1
  have g0' := (hb1.cell (p := ⟨w.heap.size, 0, none⟩) z).trans p0
  have Hb1 : Hid (Below W.heap.size W w1) := Lib.hid hb1
  clear g0 g1 g2 g3 hb1 p0 p1 p2 p3
  go_wp2_with fail
  refine (HF.out ⟨w1, Hb1.out⟩).mono ?_
  rintro e w2 ⟨rfl, hb2⟩
  have Hb2 := Lib.hid (Hb1.out.trans (hb2.mono Hb1.out.size))
  clear hb2 g0' g1'
  go_wp2_with fail
  refine (HI.out ⟨w2, Hb2.out⟩).mono ?_
  rintro e w' ⟨rfl, rfl⟩
  have e2 : gw (⟨w2, Hb2.out⟩ : GW W) = w2 := rfl
  rw [e2]
  clear e2
  have HPq := Lib.hid (HP.out.below Hb2.out)
  have Bq := Lib.hid (B0.out.trans (Hb2.out.mono B0.out.size))
  clear HV HF HI B0 HP
  go_wp2_with fail
  refine (litTable_any _ d l _ HPq.out HD.out Hl.out).mono ?_
  rintro e w3 ⟨v3, rfl, hown3, hb3⟩
  rw [Cir.litTab_length, HM.out] at hown3
  have hr3 := Row.of_own hown3
  obtain ⟨A3, c3, hv3, hc3, hcm3⟩ := hr3.shape
  subst hv3
  have Hr3 : Hid (Row w3 1 (.slice A3 M c3) M (bools (Cir.litTab d l M))) := Lib.hid hr3
  have B3 := Lib.hid (Bq.out.trans (hb3.mono Bq.out.size))
  clear hown3 hr3 hb3 hd0 hd4 hW Hb1 Hb2
  go_wp2_with fail
  go_loop [5, 31] (fun t x => ∃ k : Nat, k ≤ M ∧ x = .int .i64 k ∧ t = .int .i64 (Cir.tab d l k : Nat)) (fun _ x => M - (intOf x).toNat)
  case atStart => exact ⟨0, Nat.zero_le _, rfl, rfl⟩
  case round =>
    obtain ⟨k, hk, rfl, rfl⟩ := hrel
    by_cases hlt : k < M
    · have ht : Cir.tab d l k < 65536 := Nat.lt_of_lt_of_le (Cir.tab_lt d l k) (by
        have : (65536 : Nat) = 2 ^ 16 := by decide
        rw [this]; exact Nat.pow_le_pow_right (show 0 < 2 by decide) (by omega))
      have Hs : Hid (Cir.tab d l (k + 1) = Cir.tab d l k + (if Cir.litAt d l k then 2 ^ k else 0)) := Lib.hid (by rw [Cir.litAt_flat HN.out]; rfl)
      have hor := i64_or_nat (Cir.tab d l k) (2 ^ k) (by omega) (by
        have : 2 ^ k ≤ 2 ^ 15 := Nat.pow_le_pow_right (show 0 < 2 by decide) (by omega)
        have : (2 : Nat) ^ 15 = 32768 := by decide
        omega)
      rw [Cir.tab_or] at hor
      have hY : 2 ^ k ≤ 32768 := by
        have : (32768 : Nat) = 2 ^ 15 := by decide
        rw [this]; exact Nat.pow_le_pow_right (show 0 < 2 by decide) (by omega)
      have hYe : (2 : Int) ^ k = ((2 ^ k : Nat) : Int) := two_pow k
      generalize hYY : 2 ^ k = Y at *
      obtain ⟨b, o, c', hv, _, _, hbl, hcell⟩ := Hr3.out.open (by omega)
      injection hv with hv1 _ hv3
      subst hv1 hv3
      have hc0 := hcell k _ (show (bools (Cir.litTab d l M))[k]? = some (.bool (Cir.litAt d l k)) by unfold bools; rw [List.getElem?_map, Cir.litTab_get d l hlt]; rfl)
      have hwY : IntKind.i64.wrap (Y : Int) = (Y : Int) := IntWalk.i64_in _ (by omega)
      obtain ⟨T2, hT2⟩ : ∃ T2, Cir.tab d l (k + 1) = T2 := ⟨_, rfl⟩
      rw [hT2] at Hs
      have HT2 := Lib.hid hT2
      clear hcell hYY hT2
      cases hb : Cir.litAt d l k
      · rw [hb] at Hs hc0
        clear hor hb
        go_wp2_with fail
        go_round
        case rel => exact ⟨k + 1, by omega, by go_num, by rw [HT2.out, Hs.out]; rfl⟩
        case measure => simp [intOf] <;> omega
      · rw [hb] at Hs hc0
        clear hb
        go_wp2_with fail
        go_round
        case rel => exact ⟨k + 1, by omega, by go_num, by rw [HT2.out, Hs.out]; go_num⟩
        case measure => simp [intOf] <;> omega
    · obtain rfl : k = M := by omega
      go_wp2_with fail
      go_ret
      exact ⟨rfl, B3.out⟩
theorem next_nil {c : Cz} (h : c.next = []) : (Cir.nat c).next = [] := by unfold Cir.nat; rw [h]; rfl
theorem table_ok {c : Cz} {l : Int} (h : Cir.valid c = true ∧ c.next = [] ∧ Cir.isLit l (Cir.vars c) = true) : ∃ (d : Ci) (m : Nat), c = Cir.toCz d ∧ l = (m : Int) ∧ Cir.Ok d ∧ d.next = [] ∧ m < 2 * Cir.nvars d ∧ Cir.tabI c l = (Cir.tab d m (2 ^ d.ins) : Nat) := by
  obtain ⟨h1, h2⟩ := Cir.nat_ok h.1
  have h3 := h.2.2
  unfold Cir.isLit at h3
  rw [decide_eq_true_eq] at h3
  have h4 : Cir.vars c = (Cir.nvars (Cir.nat c) : Nat) := by
    rw [← Cir.vars_toCz, ← h1]
  exact ⟨Cir.nat c, l.toNat, h1, by omega, h2, next_nil h.2.1, by omega, by unfold Cir.tabI; rw [if_pos h]⟩
theorem table_no {c : Cz} {l : Int} (h : ¬ (Cir.valid c = true ∧ c.next = [] ∧ Cir.isLit l (Cir.vars c) = true)) : (Cir.valid c = false ∨ (Cir.valid c = true ∧ 0 < c.next.length) ∨ (Cir.valid c = true ∧ c.next.length = 0 ∧ Cir.isLit l (Cir.vars c) = false)) ∧ Cir.tabI c l = -1 := by
  refine ⟨?_, by unfold Cir.tabI; rw [if_neg h]⟩
  cases hv : Cir.valid c
  · exact .inl rfl
  · by_cases hn : c.next = []
    · refine .inr (.inr ⟨rfl, by rw [hn]; rfl, ?_⟩)
      cases hl : Cir.isLit l (Cir.vars c)
      · rfl
      · exact absurd ⟨hv, hn, hl⟩ h
    · exact .inr (.inl ⟨rfl, List.length_pos_iff.2 hn⟩)
theorem implTable_any (v : Value) (c : Cz) (l : Int) (w : World) (h : CircAt w v c) :
    Calls Try.prog 29 #[v, .int .i64 l] w fun e w' => e = .returned (.int .i64 (Cir.tabI c l)) ∧ Below w.heap.size w w' := by
  by_cases hc : Cir.valid c = true ∧ c.next = [] ∧ Cir.isLit l (Cir.vars c) = true
  · obtain ⟨d, m, rfl, rfl, hd, hn, hm, he⟩ := table_ok hc
    rw [he]
    exact implTable_ok v d m w h hd hc.1 hn hm
  · obtain ⟨h1, he⟩ := table_no hc
    rw [he]
    exact implTable_no v c l w h h1
end Go.Proofs.Ytlbfejdbfhgifaa

namespace Go.Proofs.Ytlbfejdbfhgifaa
open Go.RowKit
set_option maxRecDepth 100000
/-! Ternary simulation: the small functions. -/
theorem tlit_of {v : List Nat} {l x : Nat} (h : v[l / 2]? = some x) : Cir.tlit v l = if x = 2 ∨ l % 2 = 0 then x else 1 - x := by
  unfold Cir.tlit
  rw [List.getD_eq_getElem?_getD, h]
  rfl
theorem l27And_any (a b : Nat) (w : World) (ha : a ≤ 2) (hb : b ≤ 2) :
    Calls Try.prog 100 #[.int .i64 a, .int .i64 b] w fun e w' => e = .returned (.int .i64 (Cir.tand a b : Nat)) ∧ w = w' := by
  obtain rfl | rfl | rfl : a = 0 ∨ a = 1 ∨ a = 2 := by omega
  all_goals
    obtain rfl | rfl | rfl : b = 0 ∨ b = 1 ∨ b = 2 := by omega
    all_goals
      go_enter Try.func100, Try.ntmps100
      go_wp2
      go_ret
      exact ⟨rfl, rfl⟩
theorem l27Lit_any (v : Value) (xs : List Nat) (l : Nat) (w : World) (h : NatsAt w v xs) (hl : l < 2 * xs.length) (hb : l ≤ 1000000) (h2 : ∀ x ∈ xs, x ≤ 2) :
    Calls Try.prog 44 #[v, .int .i64 l] w fun e w' => e = .returned (.int .i64 (Cir.tlit xs l : Nat)) ∧ w = w' := by
  obtain ⟨A, c, hv, hc, hcm⟩ := Row.shape h
  rw [nats_length] at hv hc
  subst hv
  have hi : l / 2 < xs.length := by omega
  have h' : Row w 1 (.slice A xs.length c) xs.length (ints (nats xs)) := by have := h; unfold NatsAt IntsAt at this; rwa [nats_length] at this
  obtain ⟨b, o, x, rfl, hbl, hx, hs⟩ := nats_cell h' rfl hi
  have hx2 := h2 x (List.mem_of_getElem? hx.out)
  have HL := Lib.hid (tlit_of hx.out)
  have hq : (l : Int).tdiv 2 = ((l / 2 : Nat) : Int) := by rw [Int.tdiv_eq_ediv_of_nonneg (by omega)]; omega
  have hm : (l : Int).tmod 2 = ((l % 2 : Nat) : Int) := by rw [Int.tmod_eq_emod_of_nonneg (by omega)]; omega
  have hqb : l / 2 ≤ 1000000 := by omega
  have hr2 : l % 2 = 0 ∨ l % 2 = 1 := by omega
  rw [HL.out]
  generalize l / 2 = q at *
  generalize l % 2 = r at *
  have hwr : IntKind.i64.wrap (q : Int) = q := IntWalk.i64_in _ (by omega)
  clear h h' h2 hx HL hl
  obtain rfl | rfl | rfl : x = 0 ∨ x = 1 ∨ x = 2 := by omega
  all_goals
    rcases hr2 with rfl | rfl
    all_goals
      go_enter Try.func44, Try.ntmps44
      go_wp2
      go_ret
      exact ⟨rfl, rfl⟩
theorem ternaryLit_any (v : Value) (xs : List Nat) (l : Nat) (w : World) (h : NatsAt w v xs) (hl : l < 2 * xs.length) (hb : l ≤ 1000000) (h2 : ∀ x ∈ xs, x ≤ 2) :
    Calls Try.prog 54 #[v, .int .i64 l] w fun e w' => e = .returned (.int .i64 (Cir.tlit xs l : Nat)) ∧ w = w' := by
  obtain ⟨A, c, hv, hc, hcm⟩ := Row.shape h
  rw [nats_length] at hv hc
  subst hv
  have hi : l / 2 < xs.length := by omega
  have h' : Row w 1 (.slice A xs.length c) xs.length (ints (nats xs)) := by have := h; unfold NatsAt IntsAt at this; rwa [nats_length] at this
  obtain ⟨b, o, x, rfl, hbl, hx, hs⟩ := nats_cell h' rfl hi
  have hx2 := h2 x (List.mem_of_getElem? hx.out)
  have HL := Lib.hid (tlit_of hx.out)
  have hq : (l : Int).tdiv 2 = ((l / 2 : Nat) : Int) := by rw [Int.tdiv_eq_ediv_of_nonneg (by omega)]; omega
  have hm : bits .and .i64 (l : Int) 1 = ((l % 2 : Nat) : Int) := by
    have := i64_and_nat l 1 (by omega) (by omega)
    rw [Nat.and_one_is_mod] at this
    exact this
  have hqb : l / 2 ≤ 1000000 := by omega
  have hr2 : l % 2 = 0 ∨ l % 2 = 1 := by omega
  rw [HL.out]
  generalize l / 2 = q at *
  generalize l % 2 = r at *
  have hwr : IntKind.i64.wrap (q : Int) = q := IntWalk.i64_in _ (by omega)
  clear h h' h2 hx HL hl
  obtain rfl | rfl | rfl : x = 0 ∨ x = 1 ∨ x = 2 := by omega
  all_goals
    rcases hr2 with rfl | rfl
    all_goals
      go_enter Try.func54, Try.ntmps54
      go_wp2
      go_ret
      exact ⟨rfl, rfl⟩
def Cir.tern (x : Int) : Bool := decide (0 ≤ x ∧ x ≤ 2)
theorem all_dropT {p : Int → Bool} {l : List Int} {k : Nat} {x : Int} (h : l[k]? = some x) : (l.drop k).all p = (p x && (l.drop (k + 1)).all p) := all_drop h
theorem l27Ok_any (v : Value) (xs : List Int) (n : Int) (w : World) (h : IntsAt w v xs) :
    Calls Try.prog 99 #[v, .int .i64 n] w fun e w' => e = .returned (.bool (xs.all Cir.tern && decide ((xs.length : Int) = n))) ∧ w = w' := by
  obtain ⟨A, c, hv, hc, hcm⟩ := h.shape
  subst hv
  unfold maxLen at hcm
  have h0 : Hid ((xs.all Cir.tern && decide ((xs.length : Int) = n)) = ((xs.drop 0).all Cir.tern && decide ((xs.length : Int) = n))) := Lib.hid rfl
  have HI : Hid (∀ x : Int, decide (0 ≤ x ∧ x ≤ 2) = Cir.tern x) := Lib.hid fun _ => rfl
  generalize (xs.all Cir.tern && decide ((xs.length : Int) = n)) = res at h0 ⊢
  go_enter Try.func99, Try.ntmps99
  go_wp2_with fail
  go_loop [5] (fun i => ∃ k : Nat, k ≤ xs.length ∧ i = .int .i64 k ∧ Hid (res = ((xs.drop k).all Cir.tern && decide ((xs.length : Int) = n)))) (fun i => xs.length - (intOf i).toNat)
  case atStart => exact ⟨0, Nat.zero_le _, rfl, h0⟩
  case round =>
    obtain ⟨k, hk, rfl, hres⟩ := hrel
    by_cases hlt : k < xs.length
    · obtain ⟨b, o, x, rfl, hbl, hx, hs1⟩ := ints_open h (Below.refl _ _) rfl hlt
      have Hstep := Lib.hid (all_dropT (p := Cir.tern) hx.out)
      clear h h0
      cases h1 : Cir.tern x
      · have H1 := Lib.hid h1
        obtain rfl : res = false := by rw [hres.out, Hstep.out, h1]; rfl
        clear h1
        go_wp2_with fail
        refine (l1In_any _ _ _ _).mono ?_
        rintro e w' ⟨rfl, rfl⟩
        rw [HI.out, H1.out]
        go_wp2_with fail
        go_ret
        exact ⟨rfl, rfl⟩
      · have H1 := Lib.hid h1
        have Hn : Hid (res = ((xs.drop (k + 1)).all Cir.tern && decide ((xs.length : Int) = n))) := Lib.hid (by rw [hres.out, Hstep.out, h1]; rfl)
        clear h1
        go_wp2_with fail
        refine (l1In_any _ _ _ _).mono ?_
        rintro e w' ⟨rfl, rfl⟩
        rw [HI.out, H1.out]
        go_wp2_with fail
        go_round
        case rel => exact ⟨k + 1, by omega, by go_num, Hn⟩
        case measure => simp [intOf] <;> omega
    · have hr : res = decide ((xs.length : Int) = n) := by rw [hres.out, List.drop_eq_nil_of_le (by omega : xs.length ≤ k)]; rfl
      go_wp2_with fail
      go_ret
      refine ⟨ret_bool ?_, rfl⟩
      first
        | (rw [hr, Bool.eq_iff_iff]; simp)
        | (rw [Bool.eq_iff_iff]; simp)
end Go.Proofs.Ytlbfejdbfhgifaa

namespace Go.Proofs.Ytlbfejdbfhgifaa
open Go.RowKit
set_option maxRecDepth 100000
/-! Ternary simulation: the values of all variables, by the program. -/
theorem tlit_append {A B : List Nat} {l : Nat} (h : l / 2 < A.length) : Cir.tlit (A ++ B) l = Cir.tlit A l := by
  unfold Cir.tlit
  rw [List.getD_eq_getElem?_getD, List.getD_eq_getElem?_getD, List.getElem?_append_left h]
set_option maxHeartbeats 8000000 in
theorem evalTernary_any (g : Nat) (d : Ci) (vs vi : Value) (st inp : List Nat) (w : World) (h : PCirc w g (Cir.toCz d)) (hd : Cir.Ok d) (hs : NatsAt w vs st) (hi : NatsAt w vi inp) (h1 : inp.length = d.ins) (h2 : st.length = d.next.length) (t1 : ∀ x ∈ st, x ≤ 2) (t2 : ∀ x ∈ inp, x ≤ 2) :
    Calls Try.prog 51 #[.pointer (some ⟨g, 0, none⟩), vs, vi] w (OwnInts (nats (Cir.tvals d st inp)) w) := by
  have s1 := hd.ins
  have s2 := hd.nexts
  have s3 := hd.gatess
  have HGt := Lib.hid hd.gate
  have hnl : (Cir.toCz d).next.length = d.next.length := List.length_map _
  have hgl : (Cir.toCz d).gates.length = d.gates.length := List.length_map _
  obtain ⟨n, hn⟩ : ∃ n, n = Cir.nvars d := ⟨_, rfl⟩
  have hnd : n = 1 + d.ins + d.next.length + d.gates.length := hn
  have HV := vars_any g _ w h (by show (0 : Int) ≤ (d.ins : Int); omega) (by show (d.ins : Int) ≤ 100; omega) (by omega) (by omega)
  rw [Cir.vars_toCz, ← hn] at HV
  have Hv := Lib.hid HV
  have Hs := Lib.hid hs
  have Hi := Lib.hid hi
  have Hp := Lib.hid h
  have T1 := Lib.hid t1
  have T2 := Lib.hid t2
  clear t1 t2
  obtain ⟨As, cs, hvs, hcs, hcms⟩ := Row.shape hs
  obtain ⟨Ai, ci, hvi, hci, hcmi⟩ := Row.shape hi
  subst hvs hvi
  have hmk := run_make_row' (P := Try.prog) 22 3 (.int .i64 0) 8 Try.underlying22 info_int rfl .i64 .i64 n (by omega) (by omega)
  obtain ⟨m, hm⟩ : ∃ m, m = n := ⟨_, rfl⟩
  have Hnd : Hid (m = 1 + d.ins + d.next.length + d.gates.length) := Lib.hid (hm.trans hnd)
  have b1 : 1 ≤ n := by omega
  have b2 : n ≤ 22 := by omega
  have b3 : 1 + d.ins ≤ n := by omega
  have b4 : 1 + d.ins + d.next.length ≤ n := by omega
  have Hm := Lib.hid hm
  have HB3 : Hid (1 + d.ins + d.next.length ≤ m) := Lib.hid (by omega)
  rw [nats_length inp, h1] at hci Hi ⊢
  rw [nats_length st, h2] at hcs Hs ⊢
  have H1 := Lib.hid h1
  have H2 := Lib.hid h2
  have hww : IntKind.i64.wrap (1 + (d.ins : Int)) = 1 + d.ins := IntWalk.i64_in _ (by omega)
  obtain ⟨vn, vg, vo, hg, c0, c1, c2, c3, r1, r2, r3⟩ := Hp.out
  have C0 : Hid (w.cell? ⟨g, 0, none⟩ = some (.int .i64 d.ins)) := Lib.hid c0
  obtain ⟨Ag, cg, hvg, hcg, hcmg⟩ := Row.shape r2
  rw [hgl] at hvg
  subst hvg
  rw [hgl] at hcg
  have C2 := Lib.hid c2
  have R2 : Hid (Row w 2 (.slice Ag d.gates.length cg) d.gates.length (cubes (Cir.toCz d).gates)) := Lib.hid (by have := r2; unfold CubesAt at this; rwa [hgl] at this)
  have Hgl := Lib.hid hgl
  have SZ : (Try.prog.info? 3).map (·.size) = some 1 := by
    have := info_int
    cases hi : Try.prog.info? 3 with
    | none => rw [hi] at this; cases this
    | some i => rw [hi] at this; simp at this; simp [this]
  clear r1 r2 r3 c0 c1 c2 c3
  clear HV h hs hi hnl hgl hn hnd h1 h2 hm hd
  go_enter Try.func51, Try.ntmps51
  go_wp2_with fail
  refine Hv.out.mono ?_
  rintro e w1 ⟨rfl, hb1⟩
  have hZ : Hid ((w1.alloc (.cells (madeCells #[Value.int .i64 0] n) 3)).heap[w1.heap.size]? = some (.cells (nints (List.replicate m 0)).toArray 3 (0, 0))) := Lib.hid (by
    rw [heap_alloc_new, made_one, Hm.out]
    rw [nints_rep])
  have B1 : Hid (Below w.heap.size w (w1.alloc (.cells (madeCells #[Value.int .i64 0] n) 3))) := Lib.hid (hb1.alloc hb1.size _)
  have hz1 := hb1.size
  have c0 : (w1.alloc (.cells (madeCells #[Value.int .i64 0] n) 3)).cell? ⟨g, 0, none⟩ = some (.int .i64 d.ins) := (B1.out.cell (p := ⟨g, 0, none⟩) hg).trans C0.out
  generalize hW2 : w1.alloc (.cells (madeCells #[Value.int .i64 0] n) 3) = W2 at *
  clear hb1 Hv
  go_wp2_with (refine stop_slice _ _ _ _ _ rfl ?_)
  refine ⟨?_⟩
  clear hmk
  have hcase : (n = 1 ∧ n = 1 + d.ins) ∨ (n ≠ 1 ∧ n = 1 + d.ins) ∨ (n ≠ 1 ∧ n ≠ 1 + d.ins) := by omega
  have hcase2 : ∃ p q : Prop, Hid ((p → n = 1) ∧ (¬ p → n ≠ 1) ∧ (q → n = 1 + d.ins) ∧ (¬ q → n ≠ 1 + d.ins)) ∧ (((n = 1) = True ∧ (n = 1 + d.ins) = True ∧ p ∧ q) ∨ ((n = 1) = False ∧ (n = 1 + d.ins) = True ∧ ¬ p ∧ q) ∨ ((n = 1) = False ∧ (n = 1 + d.ins) = False ∧ ¬ p ∧ ¬ q)) := by
    refine ⟨n = 1, n = 1 + d.ins, Lib.hid ⟨id, id, id, id⟩, ?_⟩
    rcases hcase with ⟨h, h'⟩ | ⟨h, h'⟩ | ⟨h, h'⟩
    · exact .inl ⟨eq_true h, eq_true h', h, h'⟩
    · exact .inr (.inl ⟨eq_false h, eq_true h', h, h'⟩)
    · exact .inr (.inr ⟨eq_false h, eq_false h', h, h'⟩)
  clear hcase
  obtain ⟨pp, qq, HQ, ⟨hq, hq', hp1, hp2⟩ | ⟨hq, hq', hp1, hp2⟩ | ⟨hq, hq', hp1, hp2⟩⟩ := hcase2
  all_goals have HP := Lib.hid (And.intro hp1 hp2)
  all_goals clear hp1 hp2
  all_goals go_wp2_with (first
    | (refine wpList_copy_splice rfl (.tmp 17) (.tmp 18) 22 22 rfl 3 Try.underlying22 SZ _ _ _ _ _ _ rfl rfl w1.heap.size 1 (nints (List.replicate m 0)) 3 hZ.out (nints inp) ?_ ?_ ?_ (nints_one _) w.heap.size w B1.out hz1 ?_
       · have hb3 := HB3.out; have hmn := Hm.out; obtain ⟨q1, q2, q3, q4⟩ := HQ.out; obtain ⟨r1, r2⟩ := HP.out; simp only [r1, r2, not_true_eq_false, not_false_eq_true, true_implies, false_implies] at q1 q2 q3 q4; rw [nints_length, H1.out]; show d.ins = min _ _; omega
       · intro hp
         have hb3 := HB3.out
         have hmn := Hm.out
         obtain ⟨q1, q2, q3, q4⟩ := HQ.out
         obtain ⟨r1, r2⟩ := HP.out
         simp only [r1, r2, not_true_eq_false, not_false_eq_true, true_implies, false_implies] at q1 q2 q3 q4
         rw [nints_length, H1.out] at hp
         first
           | (exfalso; omega)
           | (refine ⟨by first | rfl | exact if_neg q2, ?_⟩
              obtain ⟨b, o, c', hv, _, _, _, hcell⟩ := Row.open (Row.below Hi.out B1.out) (by rw [nats_length, H1.out]; exact hp)
              injection hv with hv1 hv2 hv3
              refine ⟨⟨b, o, none⟩, hv1, fun j u hu => ?_⟩
              rw [Go.WideShapes.add_plain]
              exact hcell j u hu)
       · rw [nints_length, nints_length, H1.out, List.length_replicate, Hnd.out]; omega
       intro w5 HG5 hB5; have HB5 := Lib.hid hB5; have c5 := (hB5.cell (p := ⟨g, 0, none⟩) hg).trans C0.out; clear hB5 c0)
    | (refine wpList_copy_splice rfl (.tmp 26) (.tmp 27) 22 22 rfl 3 Try.underlying22 SZ _ _ _ _ _ _ rfl rfl w1.heap.size (1 + d.ins) (splice (nints (List.replicate m 0)) 1 (nints inp)) 3 HG5.out (nints st) ?_ ?_ ?_ (nints_one _) w.heap.size w HB5.out hz1 ?_
       · have hb3 := HB3.out; have hmn := Hm.out; obtain ⟨q1, q2, q3, q4⟩ := HQ.out; obtain ⟨r1, r2⟩ := HP.out; simp only [r1, r2, not_true_eq_false, not_false_eq_true, true_implies, false_implies] at q1 q2 q3 q4; rw [nints_length, H2.out]; show d.next.length = min _ _; omega
       · intro hp
         have hb3 := HB3.out
         have hmn := Hm.out
         obtain ⟨q1, q2, q3, q4⟩ := HQ.out
         obtain ⟨r1, r2⟩ := HP.out
         simp only [r1, r2, not_true_eq_false, not_false_eq_true, true_implies, false_implies] at q1 q2 q3 q4
         rw [nints_length, H2.out] at hp
         first
           | (exfalso; omega)
           | (refine ⟨by first | rfl | exact if_neg q4, ?_⟩
              obtain ⟨b, o, c', hv, _, _, _, hcell⟩ := Row.open (Row.below Hs.out HB5.out) (by rw [nats_length, H2.out]; exact hp)
              injection hv with hv1 hv2 hv3
              refine ⟨⟨b, o, none⟩, hv1, fun j u hu => ?_⟩
              rw [Go.WideShapes.add_plain]
              exact hcell j u hu)
       · rw [length_splice _ _ _ (by rw [nints_length, nints_length, H1.out, List.length_replicate, Hnd.out]; omega), nints_length, nints_length, H2.out, List.length_replicate, Hnd.out]; omega
       intro w6 HG6 hB6; have HB6 := Lib.hid hB6; have c6 := (hB6.cell (p := ⟨g, 2, none⟩) hg).trans C2.out; clear hB6 c5 HB5 HG5))
  all_goals
    have hmm := Hm.out
    subst hmm
    have hm22 := b2
    have hnf : Cir.nfirst d ≤ 8 := by unfold Cir.nfirst; omega
    have Hnf : Hid (m = Cir.nfirst d + d.gates.length) := Lib.hid (by rw [Hnd.out]; unfold Cir.nfirst; omega)
    have HE : Hid (∀ k, k ≤ d.gates.length → (Cir.tevalG (d.gates.take k) (0 :: (inp ++ st))).length = Cir.nfirst d + k) := Lib.hid fun k hk => by
      rw [Cir.tevalG_length]
      simp [Cir.nfirst, H1.out, H2.out]
      omega
    have Ho0 : Hid (w6.ownsRow w.heap.size 3 1 (.slice (some ⟨w1.heap.size, 0, none⟩) m m) m (nints (Cir.tevalG (d.gates.take 0) (0 :: (inp ++ st)) ++ List.replicate (d.gates.length - 0) 0))) := Lib.hid (by
      have e0 : Cir.tevalG (d.gates.take 0) (0 :: (inp ++ st)) = 0 :: (inp ++ st) := rfl
      have hb3 := HB3.out
      have hnd := Hnd.out
      have h1 := H1.out
      have h2 := H2.out
      have e1 : nints (List.replicate m 0) = List.replicate m (Value.int .i64 0) := nints_rep m
      have e2 : splice (splice (nints (List.replicate m 0)) 1 (nints inp)) (1 + d.ins) (nints st) = nints (0 :: (inp ++ st) ++ List.replicate (d.gates.length - 0) 0) := by
        rw [e1, splice_two (nints inp) (nints st) (.int .i64 0) m (1 + d.ins) (by rw [nints_length, h1]) (by rw [nints_length, nints_length, h1, h2]; omega), nints_length, nints_length, h1, h2, show m - (1 + d.ins + d.next.length) = d.gates.length - 0 by omega]
        simp [nints, ints, nats]
      rw [e0, ← e2]
      refine own_of_block hz1 HG6.out ?_ (by unfold maxLen; omega)
      rw [e2, nints_length]
      simp [h1, h2]
      omega)
    have HT : Hid (∀ k, ∀ x ∈ Cir.tevalG (d.gates.take k) (0 :: (inp ++ st)), x ≤ 2) := Lib.hid fun k => Cir.tevalG_le _ fun x hx => by
      rcases List.mem_cons.1 hx with rfl | hx
      · omega
      · rcases List.mem_append.1 hx with h | h
        · exact T2.out x h
        · exact T1.out x h
    have HV : Hid (Cir.tevalG (d.gates.take d.gates.length) (0 :: (inp ++ st)) = Cir.tvals d st inp) := Lib.hid (by rw [List.take_length]; rfl)
    have HPf : Hid (∀ w', Below w.heap.size w w' → Calls Try.prog 104 #[.pointer (some ⟨g, 0, none⟩)] w' fun e w'' => e = .returned (.int .i64 (Cir.nfirst d : Nat)) ∧ Below w'.heap.size w' w'') := Lib.hid fun w' hb => by
      have := firstGate_any g _ w' (Hp.out.below hb) (by show (0 : Int) ≤ (d.ins : Int); omega) (by show (d.ins : Int) ≤ 100; omega) (by show (List.map _ _).length ≤ 100; rw [List.length_map]; omega)
      rwa [Cir.first_toCz] at this
    generalize Cir.tvals d st inp = res at *
    generalize Cir.nfirst d = nf at *
    generalize hI0 : (0 :: (inp ++ st)) = I0 at *
    clear hq hq' HQ HP c6 C0 C2 hww HB3 Hnd Hm hZ HG6 H1 H2 B1 Hs Hi Hp
    go_loopw [34] (fun i wr => ∃ k : Nat, k ≤ d.gates.length ∧ i = .int .i64 k ∧ Hid (wr.ownsRow w.heap.size 3 1 (.slice (some ⟨w1.heap.size, 0, none⟩) m m) m (nints (Cir.tevalG (d.gates.take k) I0 ++ List.replicate (d.gates.length - k) 0))) ∧ Below w.heap.size w wr) (fun i _ => d.gates.length - (intOf i).toNat)
    case atStart => exact ⟨0, Nat.zero_le _, rfl, Ho0, HB6.out⟩
    case round =>
      obtain ⟨k, hk, rfl, Ho, hb⟩ := hrel
      clear Ho0 HB6
      by_cases hlt : k < d.gates.length
      · obtain ⟨b, o, x, rfl, hbl, hx, hs1, hs2⟩ := cubes_open R2.out hb Hgl.out.symm (i := k) (by rw [Hgl.out]; exact hlt)
        obtain ⟨gt, hgt⟩ := at_some hlt
        have hxe : x = ((gt.1 : Int), (gt.2 : Int)) := by
          have h1 := hx.out
          unfold Cir.toCz at h1
          simp only [List.getElem?_map, hgt] at h1
          exact (Option.some.inj h1).symm
        subst hxe
        obtain ⟨g1, g2⟩ := HGt.out k gt hgt
        have hEk := HE.out k (by omega)
        have hTk := HT.out k
        have HS := Lib.hid (Cir.tevalG_take_snoc hgt I0)
        have hgv : Cir.tgval (Cir.tevalG (d.gates.take k) I0) gt = Cir.tand (Cir.tlit (Cir.tevalG (d.gates.take k) I0) gt.1) (Cir.tlit (Cir.tevalG (d.gates.take k) I0) gt.2) := rfl
        rw [hgv] at HS
        clear hgv hx hgt
        obtain ⟨E2, hE2⟩ : ∃ E2, Cir.tevalG (d.gates.take (k + 1)) I0 = E2 := ⟨_, rfl⟩
        rw [hE2] at HS
        have HE2 := Lib.hid hE2
        clear hE2
        generalize Cir.tevalG (d.gates.take k) I0 = E at *
        have Hb := Lib.hid hb
        have hz := hb.size
        have hlen : (E ++ List.replicate (d.gates.length - k) 0).length = m := by
          have := Hnf.out
          simp [hEk]
          omega
        have HL := Lib.hid hlen
        have HT0 : Hid (∀ x ∈ E ++ List.replicate (d.gates.length - k) 0, x ≤ 2) := Lib.hid fun x hx => by
          rcases List.mem_append.1 hx with h | h
          · exact hTk x h
          · rw [(List.mem_replicate.1 h).2]; omega
        have hmnf := Hnf.out
        have hkm : nf + k < m := by omega
        have HSet : ∀ u : Nat, Hid ((nints (E ++ List.replicate (d.gates.length - k) 0)).set (nf + k) (.int .i64 (u : Nat)) = nints (E ++ [u] ++ List.replicate (d.gates.length - (k + 1)) 0)) := fun u => Lib.hid (by
          have e : ∀ xs : List Nat, nints xs = xs.map fun x => Value.int .i64 (x : Nat) := fun xs => by unfold nints ints nats; rw [List.map_map]; rfl
          rw [e, e, show d.gates.length - (k + 1) = d.gates.length - k - 1 from by omega, ← set_mid_at E 0 u (d.gates.length - k) (nf + k) hEk.symm (by omega), List.map_set])
        have HA : Hid (∀ G, G < 2 * (nf + k) → Cir.tlit (E ++ List.replicate (d.gates.length - k) 0) G = Cir.tlit E G) := Lib.hid fun G hG => tlit_append (by omega)
        have hl1 := Cir.tlit_le hTk gt.1
        have hl2 := Cir.tlit_le hTk gt.2
        obtain ⟨G1, hG1⟩ : ∃ G1, G1 = gt.1 := ⟨_, rfl⟩
        obtain ⟨G2, hG2⟩ : ∃ G2, G2 = gt.2 := ⟨_, rfl⟩
        rw [← hG1] at g1 HS hs1 hl1
        rw [← hG2] at g2 HS hs2 hl2
        have hwk : IntKind.i64.wrap ((nf : Int) + (k : Int)) = (nf : Int) + (k : Int) := IntWalk.i64_in _ (by omega)
        have hix : ((nf : Int) + (k : Int)).toNat = nf + k := by omega
        obtain ⟨W8, hW8⟩ : ∃ W8, W8 = wr.alloc (.cells #[.int .i64 (G1 : Nat), .int .i64 (G2 : Nat)] 55) := ⟨_, rfl⟩
        have z8 : wr.heap.size < W8.heap.size := by rw [hW8]; simp
        have q0 : W8.cell? ⟨wr.heap.size, 0, none⟩ = some (.int .i64 (G1 : Nat)) := by rw [hW8]; exact World.cell?_alloc_new _ _ _ 0
        have q1 : W8.cell? ⟨wr.heap.size, 1, none⟩ = some (.int .i64 (G2 : Nat)) := by rw [hW8]; exact World.cell?_alloc_new _ _ _ 1
        have HB8 : Hid (Below w.heap.size w W8) := Lib.hid (by rw [hW8]; exact Hb.out.alloc hz _)
        have Ho8 := Lib.hid (own_below Ho.out (show Below wr.heap.size wr W8 by rw [hW8]; exact (Below.refl _ _).alloc (Nat.le_refl _) _))
        have k0 := gw_cell q0 z8
        have k1 := gw_cell q1 z8
        have HC : Hid (∀ (G : Nat) (n : GW W8), G < 2 * (nf + k) → Calls Try.prog 54 #[.slice (some ⟨w1.heap.size, 0, none⟩) m m, .int .i64 (G : Nat)] (gw n) fun e w' => e = .returned (.int .i64 (Cir.tlit E G : Nat)) ∧ gw n = w') := Lib.hid fun G n hG => by
          have := ternaryLit_any (.slice (some ⟨w1.heap.size, 0, none⟩) m m) _ G (gw n) (nats_own (own_below Ho8.out (gw_below n)) HL.out) (by rw [HL.out]; omega) (by omega) HT0.out
          rwa [HA.out G hG] at this
        have hW8' := hW8.symm
        clear hb hG1 hG2 hEk hlen hmnf hTk hW8 q0 q1
        go_wp2_with fail
        refine wp_region_grow (by kernel_rfl) (by kernel_rfl) ?_
        repeat (go_big_quiet_step ((go_at_call 54; exact grow_same (HC.out _ _ (by assumption)))))
        refine wpQuiet_nil ?_
        intro _ hw'
        obtain ⟨nq, hw''⟩ := hw'
        subst hw''
        have hgq := gw_below nq
        generalize gw nq = wq at *
        clear nq
        generalize Cir.tlit E G1 = A1 at *
        generalize Cir.tlit E G2 = A2 at *
        have HB9 := Lib.hid (HB8.out.trans (hgq.mono HB8.out.size))
        have Ho9 := Lib.hid (own_below Ho8.out hgq)
        clear hgq k0 k1 HC hW8' z8
        obtain ⟨u, hu⟩ : ∃ u, u = Cir.tand A1 A2 := ⟨_, rfl⟩
        rw [← hu] at HS
        have HU := Lib.hid hu
        clear hu
        have HPw := Lib.hid (HPf.out _ HB9.out)
        have h9z := HB9.out.size
        clear HPf
        obtain rfl | rfl | rfl : A1 = 0 ∨ A1 = 1 ∨ A1 = 2 := by omega
        all_goals
          obtain rfl | rfl | rfl : A2 = 0 ∨ A2 = 1 ∨ A2 = 2 := by omega
          all_goals
            go_wp2_with fail
            refine HPw.out.mono ?_
            rintro e w9 ⟨rfl, hb9⟩
            have HbA := Lib.hid (HB9.out.trans (hb9.mono h9z))
            have HoA := Lib.hid (own_below Ho9.out hb9)
            obtain ⟨u0, _, hd0, hf0⟩ := own_slot HoA.out (j := nf + k) (by omega)
            have Hst := fun u : Nat => Lib.hid (HoA.out.stored (nf + k) (.int .i64 (u : Nat)))
            have HEe : Hid (nints (E2 ++ List.replicate (d.gates.length - (k + 1)) 0) = nints (E ++ [u] ++ List.replicate (d.gates.length - (k + 1)) 0)) := Lib.hid (by rw [HS.out])
            have huu := HU.out
            unfold Cir.tand at huu
            simp at huu
            subst huu
            clear hb9
            go_wp2_with fail
            go_roundw
            case rel => exact ⟨k + 1, by omega, by go_num, Lib.hid (by rw [HE2.out, HEe.out, ← (HSet _).out]; exact (Hst _).out.1), HbA.out.grown (Hst _).out.2 HbA.out.size (fun q hq => by have := Option.some.inj hq; omega)⟩
            case measure => simp [intOf] <;> omega
      · obtain rfl : k = d.gates.length := by omega
        have HR : Hid (res.length = m ∧ nints (Cir.tevalG (d.gates.take d.gates.length) I0 ++ List.replicate (d.gates.length - d.gates.length) 0) = nints res) := Lib.hid ⟨by rw [← HV.out, HE.out _ (Nat.le_refl _), Hnf.out], by rw [HV.out, Nat.sub_self]; simp⟩
        go_wp2_with fail
        go_ret
        refine ⟨_, rfl, ?_, hb⟩
        rw [nats_length, HR.out.1]
        have := Ho.out
        rw [HR.out.2] at this
        exact this
end Go.Proofs.Ytlbfejdbfhgifaa
