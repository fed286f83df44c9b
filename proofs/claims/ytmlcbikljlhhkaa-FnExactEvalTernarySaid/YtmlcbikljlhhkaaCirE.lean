import Derived.Test.YtmlcbikljlhhkaaCirC
import Derived.Test.YtmlcbikljlhhkaaGateS
import Derived.Test.YtmlcbikljlhhkaaIntS
namespace Go.Proofs.Ytmlcbikljlhhkaa
open Go.RowKit
/-! What laws do with circuits. -/
theorem cells_alloc {w : World} {g : Nat} {i : Int} {vn vg vo : Value} (h : PCells w g i vn vg vo) (o : Obj) : PCells (w.alloc o) g i vn vg vo := h.below ((Below.refl _ _).alloc (Nat.le_refl _) _)
theorem set_grown (w : World) (g i : Nat) (v : Value) : w.grownBy (w.setCell ⟨g, i, none⟩ v) (some g) :=
  ⟨rfl, rfl, rfl, by simp [World.setCell], fun k _ hk => heap_setCell_other w ⟨g, i, none⟩ k _ (fun e => hk (by simp [e]))⟩
theorem own_set {w : World} {base n size : Nat} {e : TypeId} {v : Value} {xs : List Value} {g i : Nat} {u : Value} (h : w.ownsRow base e size v n xs) (hg : g < base) : (w.setCell ⟨g, i, none⟩ u).ownsRow base e size v n xs :=
  own_kept h (set_grown w g i u) fun q hq e => by
    have h1 := (h.lt q hq).1
    have h2 := Option.some.inj e
    omega
/-- szCircuit, at 1 << 20. -/
def SzCir (c : Cz) (w : World) (e : Ending) (w' : World) : Prop :=
  ∃ r : Int, e = .returned (.int .i64 r) ∧ (r = -1 ∨ (0 ≤ r ∧ r ≤ 1048576 ∧ c.next.length ≤ 1048576 ∧ c.gates.length ≤ 1048576 ∧ c.outs.length ≤ 1048576)) ∧ Below w.heap.size w w'
theorem szCircuit_any (v : Value) (c : Cz) (w : World) (h : CircAt w v c) :
    Calls Try.prog 15 #[v, .int .i64 1048576] w (SzCir c w) := by
  obtain ⟨vn, vg, vo, rfl, r1, r2, r3⟩ := h
  have R1 := Lib.hid r1
  have R2 : Hid (Row w 2 vg c.gates.length (cubes c.gates)) := Lib.hid r2
  have R3 := Lib.hid r3
  have B : Hid (∀ t, Below w.heap.size w (w.alloc (.cells #[.int .i64 c.ins, vn, vg, vo] t))) := Lib.hid fun t => (Below.refl _ _).alloc (Nat.le_refl _) _
  clear r1 r2 r3
  generalize c.ins = i at *
  by_cases h1 : (c.next.length : Int) ≤ 1048576
  · have l1 : ¬ ((1048576 : Int) - c.next.length < 0) := by omega
    by_cases h2 : (c.gates.length : Int) ≤ 1048576 - c.next.length
    · have l2 : ¬ ((1048576 : Int) - c.next.length - c.gates.length < 0) := by omega
      by_cases h3 : (c.outs.length : Int) ≤ 1048576 - c.next.length - c.gates.length
      · have l3 : ¬ ((1048576 : Int) - c.next.length - c.gates.length - c.outs.length < 0) := by omega
        go_enter Try.func15, Try.ntmps15
        go_wp2_with fail
        refine (szIntS_ok vn _ _ _ _ (Row.alloc R1.out _) (by omega) h1).mono ?_
        rintro e w' ⟨rfl, rfl⟩
        go_wp2_with fail
        refine (szGateS_ok vg _ _ _ _ (Row.alloc R2.out _) (by omega) h2).mono ?_
        rintro e w' ⟨rfl, rfl⟩
        go_wp2_with fail
        refine (szIntS_ok vo _ _ _ _ (Row.alloc R3.out _) (by omega) h3).mono ?_
        rintro e w' ⟨rfl, rfl⟩
        go_wp2_with fail
        go_ret
        exact ⟨_, rfl, .inr ⟨by omega, by omega, by omega, by omega, by omega⟩, B.out _⟩
      · go_enter Try.func15, Try.ntmps15
        go_wp2_with fail
        refine (szIntS_ok vn _ _ _ _ (Row.alloc R1.out _) (by omega) h1).mono ?_
        rintro e w' ⟨rfl, rfl⟩
        go_wp2_with fail
        refine (szGateS_ok vg _ _ _ _ (Row.alloc R2.out _) (by omega) h2).mono ?_
        rintro e w' ⟨rfl, rfl⟩
        go_wp2_with fail
        refine (szIntS_no vo _ _ _ _ (Row.alloc R3.out _) (by omega) (by omega) (by omega)).mono ?_
        rintro e w' ⟨rfl, rfl⟩
        go_wp2_with fail
        go_ret
        exact ⟨_, rfl, .inl rfl, B.out _⟩
    · go_enter Try.func15, Try.ntmps15
      go_wp2_with fail
      refine (szIntS_ok vn _ _ _ _ (Row.alloc R1.out _) (by omega) h1).mono ?_
      rintro e w' ⟨rfl, rfl⟩
      go_wp2_with fail
      refine (szGateS_no vg _ _ _ _ (Row.alloc R2.out _) (by omega) (by omega)).mono ?_
      rintro e w' ⟨rfl, rfl⟩
      go_wp2_with fail
      go_ret
      exact ⟨_, rfl, .inl rfl, B.out _⟩
  · go_enter Try.func15, Try.ntmps15
    go_wp2_with fail
    refine (szIntS_no vn _ _ _ _ (Row.alloc R1.out _) (by omega) (by omega) (by omega)).mono ?_
    rintro e w' ⟨rfl, rfl⟩
    go_wp2_with fail
    go_ret
    exact ⟨_, rfl, .inl rfl, B.out _⟩
/-- What toCircuit makes: slices of its own, in blocks apart. -/
def OwnCirc (b : Nat) (v : Value) (c : Cz) (w : World) : Prop :=
  ∃ vn vg vo b2 b3, v = .agg #[.int .i64 c.ins, vn, vg, vo] ∧ b ≤ b2 ∧ b2 ≤ b3 ∧ (∀ g, vn.ownBlock = some g → g < b2) ∧ (∀ g, vg.ownBlock = some g → g < b3) ∧
    w.ownsRow b 3 1 vn c.next.length (ints c.next) ∧ w.ownsRow b2 71 2 vg c.gates.length (cubes c.gates) ∧ w.ownsRow b3 3 1 vo c.outs.length (ints c.outs)
theorem OwnCirc.at {b : Nat} {v : Value} {c : Cz} {w : World} (h : OwnCirc b v c w) : CircAt w v c := by
  obtain ⟨vn, vg, vo, b2, b3, hv, _, _, _, _, h1, h2, h3⟩ := h
  exact ⟨vn, vg, vo, hv, Row.of_own h1, Row.of_own h2, Row.of_own h3⟩
theorem OwnCirc.below {b : Nat} {v : Value} {c : Cz} {w w' : World} (h : OwnCirc b v c w) (hb : Below w.heap.size w w') : OwnCirc b v c w' := by
  obtain ⟨vn, vg, vo, b2, b3, hv, e1, e2, e3, e4, h1, h2, h3⟩ := h
  exact ⟨vn, vg, vo, b2, b3, hv, e1, e2, e3, e4, own_below h1 hb, own_below h2 hb, own_below h3 hb⟩
def ToCir (c : Cz) (w : World) (e : Ending) (w' : World) : Prop := ∃ v, e = .returned v ∧ OwnCirc w.heap.size v c w' ∧ Below w.heap.size w w'
theorem toCircuit_any (v : Value) (c : Cz) (w : World) (h : CircAt w v c) (l1 : c.next.length ≤ 1048576) (l2 : c.gates.length ≤ 1048576) (l3 : c.outs.length ≤ 1048576) :
    Calls Try.prog 17 #[v] w (ToCir c w) := by
  obtain ⟨vn, vg, vo, rfl, r1, r2, r3⟩ := h
  have R1 := Lib.hid r1
  have R2 := Lib.hid r2
  have R3 := Lib.hid r3
  clear r1 r2 r3
  go_enter Try.func17, Try.ntmps17
  go_wp2_with fail
  generalize hW : (((w.alloc (.cells #[.int .i64 c.ins, vn, vg, vo] 25)).alloc (.cells #[.int .i64 0, .slice none 0 0, .slice none 0 0, .slice none 0 0] 30)).alloc (.cells #[.int .i64 c.ins, .slice none 0 0, .slice none 0 0, .slice none 0 0] 30)) = W
  have hB0 : Below w.heap.size w W := by rw [← hW]; exact (((Below.refl _ _).alloc (Nat.le_refl _) _).alloc (by simp) _).alloc (by simp; omega) _
  have hsz : W.heap.size = w.heap.size + 3 := by rw [← hW]; simp
  have h0 : W.heap[w.heap.size]? = some (.cells #[.int .i64 c.ins, vn, vg, vo] 25 (0, 0)) := by
    rw [← hW, heap_alloc_old _ _ (by simp; omega), heap_alloc_old _ _ (by simp), heap_alloc_new]
  have h1 : W.heap[w.heap.size + 1]? = some (.cells #[.int .i64 0, .slice none 0 0, .slice none 0 0, .slice none 0 0] 30 (0, 0)) := by
    rw [← hW, heap_alloc_old _ _ (by simp)]
    have := heap_alloc_new (w.alloc (.cells #[.int .i64 c.ins, vn, vg, vo] 25)) (.cells #[.int .i64 0, .slice none 0 0, .slice none 0 0, .slice none 0 0] 30)
    rwa [World.size_alloc] at this
  have h2 : W.heap[w.heap.size + 1 + 1]? = some (.cells #[.int .i64 c.ins, .slice none 0 0, .slice none 0 0, .slice none 0 0] 30 (0, 0)) := by
    rw [← hW]
    have := heap_alloc_new ((w.alloc (.cells #[.int .i64 c.ins, vn, vg, vo] 25)).alloc (.cells #[.int .i64 0, .slice none 0 0, .slice none 0 0, .slice none 0 0] 30)) (.cells #[.int .i64 c.ins, .slice none 0 0, .slice none 0 0, .slice none 0 0] 30)
    rwa [World.size_alloc, World.size_alloc] at this
  clear hW
  refine (toIntS_any vn _ _ (Row.below R1.out hB0) l1).mono ?_
  rintro e w1 ⟨v1, rfl, hown1, hb1⟩
  obtain ⟨A1, q1, hv1, _, _⟩ := (Row.of_own hown1).shape
  subst hv1
  have k0 := (hb1.block w.heap.size (by omega)).trans h0
  have k1 := (hb1.block (w.heap.size + 1) (by omega)).trans h1
  have k2 := (hb1.block (w.heap.size + 1 + 1) (by omega)).trans h2
  have p2 : w1.cell? ⟨w.heap.size, 2, none⟩ = some vg := blk_cell k0 2
  have c1 : w1.cell? ⟨w.heap.size + 1 + 1, 1, none⟩ = some (.slice none 0 0) := blk_cell k2 1
  have f1 := blk_free k2 1
  have Ho1 := Lib.hid hown1
  have HB1 := Lib.hid (hB0.trans (hb1.mono hB0.size))
  have z1 := hb1.size
  have K0 := Lib.hid k0
  have K1 := Lib.hid k1
  have K2 := Lib.hid k2
  clear hown1 hb1 h0 h1 h2 hB0 k0 k1 k2
  go_wp2_with fail
  have K0 := Lib.hid ((heap_setCell_other w1 ⟨w.heap.size + 1 + 1, 1, none⟩ w.heap.size (.slice A1 c.next.length q1) (by simp only; omega)).trans K0.out)
  have K1 := Lib.hid ((heap_setCell_other w1 ⟨w.heap.size + 1 + 1, 1, none⟩ (w.heap.size + 1) (.slice A1 c.next.length q1) (by simp only; omega)).trans K1.out)
  have K2 := Lib.hid (heap_setCell_same w1 (w.heap.size + 1 + 1) 1 _ _ (.slice A1 c.next.length q1) K2.out)
  have HB1 := Lib.hid (HB1.out.setCell (p := ⟨w.heap.size + 1 + 1, 1, none⟩) (by simp only; omega) (.slice A1 c.next.length q1))
  have Ho1 := Lib.hid (own_kept Ho1.out (set_grown w1 (w.heap.size + 1 + 1) 1 (.slice A1 c.next.length q1)) (fun q hq e => by have h1 := (Ho1.out.lt q hq).1; have h2 := Option.some.inj e; omega))
  have z1 : W.heap.size ≤ (w1.setCell ⟨w.heap.size + 1 + 1, 1, none⟩ (.slice A1 c.next.length q1)).heap.size := Nat.le_trans z1 (set_grown w1 (w.heap.size + 1 + 1) 1 _).size
  generalize w1.setCell ⟨w.heap.size + 1 + 1, 1, none⟩ (.slice A1 c.next.length q1) = w1' at *
  have L1 : Hid (∀ q, (Value.slice A1 c.next.length q1).ownBlock = some q → q < w1'.heap.size) := Lib.hid fun q hq => (Ho1.out.lt q hq).2
  refine (toGateS_any vg _ _ (Row.below R2.out HB1.out) l2).mono ?_
  rintro e w2 ⟨v2, rfl, hown2, hb2⟩
  obtain ⟨A2, q2, hv2, _, _⟩ := (Row.of_own hown2).shape
  subst hv2
  have k0 := (hb2.block w.heap.size (by omega)).trans K0.out
  have k1 := (hb2.block (w.heap.size + 1) (by omega)).trans K1.out
  have k2 := (hb2.block (w.heap.size + 1 + 1) (by omega)).trans K2.out
  have p3 : w2.cell? ⟨w.heap.size, 3, none⟩ = some vo := blk_cell k0 3
  have c2 : w2.cell? ⟨w.heap.size + 1 + 1, 2, none⟩ = some (.slice none 0 0) := blk_cell k2 2
  have f2 := blk_free k2 2
  have Ho12 := Lib.hid (own_below Ho1.out hb2)
  have Ho2 := Lib.hid hown2
  have HB2 := Lib.hid (HB1.out.trans (hb2.mono HB1.out.size))
  have z2 := hb2.size
  have K0 := Lib.hid k0
  have K1 := Lib.hid k1
  have K2 := Lib.hid k2
  clear hown2 hb2 k0 k1 k2 p2 c1 f1 Ho1 HB1
  go_wp2_with fail
  have K1 := Lib.hid ((heap_setCell_other w2 ⟨w.heap.size + 1 + 1, 2, none⟩ (w.heap.size + 1) (.slice A2 c.gates.length q2) (by simp only; omega)).trans K1.out)
  have K2 := Lib.hid (heap_setCell_same w2 (w.heap.size + 1 + 1) 2 _ _ (.slice A2 c.gates.length q2) K2.out)
  have HB2 := Lib.hid (HB2.out.setCell (p := ⟨w.heap.size + 1 + 1, 2, none⟩) (by simp only; omega) (.slice A2 c.gates.length q2))
  have Ho12 := Lib.hid (own_kept Ho12.out (set_grown w2 (w.heap.size + 1 + 1) 2 (.slice A2 c.gates.length q2)) (fun q hq e => by have h1 := (Ho12.out.lt q hq).1; have h2 := Option.some.inj e; omega))
  have Ho2 := Lib.hid (own_kept Ho2.out (set_grown w2 (w.heap.size + 1 + 1) 2 (.slice A2 c.gates.length q2)) (fun q hq e => by have h1 := (Ho2.out.lt q hq).1; have h2 := Option.some.inj e; omega))
  have z2 : w1'.heap.size ≤ (w2.setCell ⟨w.heap.size + 1 + 1, 2, none⟩ (.slice A2 c.gates.length q2)).heap.size := Nat.le_trans z2 (set_grown w2 (w.heap.size + 1 + 1) 2 _).size
  generalize w2.setCell ⟨w.heap.size + 1 + 1, 2, none⟩ (.slice A2 c.gates.length q2) = w2' at *
  have L2 : Hid (∀ q, (Value.slice A2 c.gates.length q2).ownBlock = some q → q < w2'.heap.size) := Lib.hid fun q hq => (Ho2.out.lt q hq).2
  refine (toIntS_any vo _ _ (Row.below R3.out HB2.out) l3).mono ?_
  rintro e w3 ⟨v3, rfl, hown3, hb3⟩
  obtain ⟨A3, q3, hv3, _, _⟩ := (Row.of_own hown3).shape
  subst hv3
  have k1 := (hb3.block (w.heap.size + 1) (by omega)).trans K1.out
  have k2 := (hb3.block (w.heap.size + 1 + 1) (by omega)).trans K2.out
  have c0 : w3.cell? ⟨w.heap.size + 1 + 1, 0, none⟩ = some (.int .i64 c.ins) := blk_cell k2 0
  have c1 : w3.cell? ⟨w.heap.size + 1 + 1, 1, none⟩ = some (.slice A1 c.next.length q1) := blk_cell k2 1
  have c2 : w3.cell? ⟨w.heap.size + 1 + 1, 2, none⟩ = some (.slice A2 c.gates.length q2) := blk_cell k2 2
  have c3 : w3.cell? ⟨w.heap.size + 1 + 1, 3, none⟩ = some (.slice none 0 0) := blk_cell k2 3
  have f3 := blk_free k2 3
  have o0 : w3.cell? ⟨w.heap.size + 1, 0, none⟩ = some (.int .i64 0) := blk_cell k1 0
  have o1 : w3.cell? ⟨w.heap.size + 1, 1, none⟩ = some (.slice none 0 0) := blk_cell k1 1
  have o2 : w3.cell? ⟨w.heap.size + 1, 2, none⟩ = some (.slice none 0 0) := blk_cell k1 2
  have o3 : w3.cell? ⟨w.heap.size + 1, 3, none⟩ = some (.slice none 0 0) := blk_cell k1 3
  have b0 := blk_free k1 0
  have b1 := blk_free k1 1
  have b2 := blk_free k1 2
  have b3 := blk_free k1 3
  have Ho13 := Lib.hid (own_below Ho12.out hb3)
  have Ho23 := Lib.hid (own_below Ho2.out hb3)
  have Ho3 := Lib.hid hown3
  have HB3 := Lib.hid (HB2.out.trans (hb3.mono HB2.out.size))
  have z3 := hb3.size
  clear hown3 hb3 k1 k2 K0 K1 K2 Ho12 Ho2 HB2 p3 f2
  go_wp2_with fail
  refine bodyPost_ret (v := .agg #[.int .i64 c.ins, .slice A1 c.next.length q1, .slice A2 c.gates.length q2, .slice A3 c.outs.length q3]) (by simp [results, Try.results17, go_sem, o0, o1, o2, o3]) rfl ⟨_, rfl, ⟨_, _, _, w1'.heap.size, w2'.heap.size, rfl, by omega, by omega, L1.out, L2.out, ?_, ?_, ?_⟩, ?_⟩
  · exact own_mono (own_set (own_set (own_set (own_set (own_set Ho13.out (by omega)) (by omega)) (by omega)) (by omega)) (by omega)) (by omega)
  · exact own_set (own_set (own_set (own_set (own_set Ho23.out (by omega)) (by omega)) (by omega)) (by omega)) (by omega)
  · exact own_set (own_set (own_set (own_set (own_set Ho3.out (by omega)) (by omega)) (by omega)) (by omega)) (by omega)
  · exact ((((HB3.out.setCell (by simp only; omega) _).setCell (by simp only; omega) _).setCell (by simp only; omega) _).setCell (by simp only; omega) _).setCell (by simp only; omega) _
/-- eqCircuit of one and the same. -/
theorem eqCircuit_same (v v2 : Value) (c : Cz) (w : World) (h : CircAt w v c) (h2 : CircAt w v2 c) (l1 : c.next.length ≤ 1048576) (l3 : c.outs.length ≤ 1048576) :
    Calls Try.prog 19 #[v, v2] w fun e w' => e = .returned (.bool true) ∧ Below w.heap.size w w' := by
  obtain ⟨vn, vg, vo, rfl, r1, r2, r3⟩ := h
  obtain ⟨un, ug, uo, rfl, s1, s2, s3⟩ := h2
  have P1 := Lib.hid (cells_alloc (PCells.boxed w c.ins vn vg vo 30) (.cells #[.int .i64 c.ins, un, ug, uo] 30))
  have P2 : Hid (PCells ((w.alloc (.cells #[.int .i64 c.ins, vn, vg, vo] 30)).alloc (.cells #[.int .i64 c.ins, un, ug, uo] 30)) (w.heap.size + 1) c.ins un ug uo) := Lib.hid (by have := PCells.boxed (w.alloc (.cells #[.int .i64 c.ins, vn, vg, vo] 30)) c.ins un ug uo 30; simpa using this)
  have B0 : Hid (Below w.heap.size w ((w.alloc (.cells #[.int .i64 c.ins, vn, vg, vo] 30)).alloc (.cells #[.int .i64 c.ins, un, ug, uo] 30))) := Lib.hid (((Below.refl _ _).alloc (Nat.le_refl _) _).alloc (by simp) _)
  have R1 := Lib.hid r1
  have R2 := Lib.hid r2
  have R3 := Lib.hid r3
  have S1 := Lib.hid s1
  have S2 := Lib.hid s2
  have S3 := Lib.hid s3
  clear r1 r2 r3 s1 s2 s3
  have hn : ((c.ins : Int) != c.ins) = false := by simp
  go_enter Try.func19, Try.ntmps19
  go_wp2_with fail
  generalize hW : ((w.alloc (.cells #[.int .i64 c.ins, vn, vg, vo] 30)).alloc (.cells #[.int .i64 c.ins, un, ug, uo] 30)) = W at *
  refine (eqIntS_any vn un _ _ _ (Row.below R1.out (by rw [← hW]; exact ((Below.refl _ _).alloc (Nat.le_refl _) _).alloc (by simp) _)) (Row.below S1.out (by rw [← hW]; exact ((Below.refl _ _).alloc (Nat.le_refl _) _).alloc (by simp) _)) l1).mono ?_
  rintro e w1 ⟨rfl, hd1⟩
  rw [show decide (c.next = c.next) = true from decide_eq_true rfl]
  have hb1 : Below W.heap.size W w1 := hd1.below _
  have B1 := Lib.hid (B0.out.trans (hb1.mono B0.out.size))
  obtain ⟨z1, p10, p11, p12, p13⟩ := P1.out.below hb1
  obtain ⟨z2, p20, p21, p22, p23⟩ := P2.out.below hb1
  clear hb1 hd1
  go_wp2_with fail
  refine (eqGateS_any vg ug _ _ _ (Row.below R2.out B1.out) (Row.below S2.out B1.out)).mono ?_
  rintro e w2 ⟨rfl, hb2⟩
  rw [show decide (c.gates = c.gates) = true from decide_eq_true rfl]
  have q13 := (hb2.cell (p := ⟨w.heap.size, 3, none⟩) z1).trans p13
  have q23 := (hb2.cell (p := ⟨w.heap.size + 1, 3, none⟩) z2).trans p23
  have B2 := Lib.hid (B1.out.trans (hb2.mono B1.out.size))
  clear hb2 p10 p11 p12 p13 p20 p21 p22 p23
  go_wp2_with fail
  refine (eqIntS_any vo uo _ _ _ (Row.below R3.out B2.out) (Row.below S3.out B2.out) l3).mono ?_
  rintro e w3 ⟨rfl, hd3⟩
  rw [show decide (c.outs = c.outs) = true from decide_eq_true rfl]
  have B3 := Lib.hid (B2.out.trans ((hd3.below w2.heap.size).mono B2.out.size))
  clear hd3
  go_wp2_with fail
  go_ret
  exact ⟨rfl, B3.out⟩
end Go.Proofs.Ytmlcbikljlhhkaa
