import Derived.Test.YthnfbjjnabohoaaIntSS
import Derived.Test.YthnfbjjnabohoaaMacB
namespace Go.Proofs.Ythnfbjjnabohoaa
open Go.RowKit
set_option maxRecDepth 100000
def SzMach (m : Mz) (w : World) (e : Ending) (w' : World) : Prop :=
  ∃ r : Int, e = .returned (.int .i64 r) ∧ (r = -1 ∨ (0 ≤ r ∧ r ≤ 1048576 ∧ m.next.length + total m.next + m.out.length + total m.out ≤ 1048576)) ∧ Below w.heap.size w w'
theorem szMachine_any (v : Value) (m : Mz) (w : World) (h : MachAt w v m) :
    Calls Try.prog 11 #[v, .int .i64 1048576] w (SzMach m w) := by
  obtain ⟨vn, vo, rfl, h1, h2⟩ := h
  have H1 := Lib.hid (h1.below (bel_alloc w (.cells #[.int .i64 m.ins, vn, vo] 24)))
  have H2 := Lib.hid (h2.below (bel_alloc w (.cells #[.int .i64 m.ins, vn, vo] 24)))
  have B := Lib.hid (bel_alloc w (.cells #[.int .i64 m.ins, vn, vo] 24))
  clear h1 h2
  go_enter Try.func11, Try.ntmps11
  go_wp2_with fail
  refine (szIntSS_any vn _ 1048576 _ H1.out (Nat.le_refl _)).mono ?_
  rintro e w' ⟨⟨r, rfl, hr⟩, rfl⟩
  rcases hr with rfl | ⟨r0, hr⟩
  · go_wp2_with fail
    go_ret
    exact ⟨_, rfl, .inl rfl, B.out⟩
  · obtain ⟨q, rfl⟩ := Int.eq_ofNat_of_zero_le r0
    have hq : ¬ ((q : Int) < 0) := by omega
    have hqq : q + m.next.length + total m.next = 1048576 := by omega
    have Hq := Lib.hid hqq
    have hq2 : q ≤ 1048576 := by omega
    clear hr hqq
    go_wp2_with fail
    refine (szIntSS_any vo _ q _ H2.out hq2).mono ?_
    rintro e w' ⟨⟨r, rfl, hr⟩, rfl⟩
    rcases hr with rfl | ⟨r0', hr⟩
    · go_wp2_with fail
      go_ret
      exact ⟨_, rfl, .inl rfl, B.out⟩
    · obtain ⟨q', rfl⟩ := Int.eq_ofNat_of_zero_le r0'
      have hq' : ¬ ((q' : Int) < 0) := by omega
      have Hr := Lib.hid hr
      clear hr
      go_wp2_with fail
      go_ret
      exact ⟨_, rfl, .inr ⟨by omega, by have := Hr.out; omega, by have := Hr.out; have := Hq.out; omega⟩, B.out⟩
/-- What toMachine makes. -/
def OwnMach (B T : Nat) (v : Value) (m : Mz) (w : World) : Prop :=
  ∃ vn vo M, v = .agg #[.int .i64 m.ins, vn, vo] ∧ B ≤ M ∧ M ≤ T ∧ OwnIntSS B M w vn m.next ∧ OwnIntSS M T w vo m.out
theorem OwnMach.at {B T : Nat} {v : Value} {m : Mz} {w : World} (h : OwnMach B T v m w) : MachAt w v m := by
  obtain ⟨vn, vo, M, hv, _, _, h1, h2⟩ := h
  exact ⟨vn, vo, hv, OwnSS.at h1, OwnSS.at h2⟩
theorem OwnMach.below {B T : Nat} {v : Value} {m : Mz} {w w' : World} (h : OwnMach B T v m w) (hb : Below w.heap.size w w') : OwnMach B T v m w' := by
  obtain ⟨vn, vo, M, hv, e1, e2, h1, h2⟩ := h
  exact ⟨vn, vo, M, hv, e1, e2, OwnSS.below h1 hb, OwnSS.below h2 hb⟩
def ToMach (m : Mz) (w : World) (e : Ending) (w' : World) : Prop := ∃ v, e = .returned v ∧ OwnMach w.heap.size w'.heap.size v m w' ∧ Below w.heap.size w w'
set_option maxHeartbeats 4000000 in
theorem toMachine_any (v : Value) (m : Mz) (w : World) (h : MachAt w v m) (hl : m.next.length + total m.next + m.out.length + total m.out ≤ 1048576) :
    Calls Try.prog 13 #[v] w (ToMach m w) := by
  obtain ⟨vn, vo, rfl, h1, h2⟩ := h
  have H1 := Lib.hid h1
  have H2 := Lib.hid h2
  clear h1 h2
  go_enter Try.func13, Try.ntmps13
  go_wp2_with fail
  generalize hW : (((w.alloc (.cells #[.int .i64 m.ins, vn, vo] 24)).alloc (.cells #[.int .i64 0, .slice none 0 0, .slice none 0 0] 27)).alloc (.cells #[.int .i64 m.ins, .slice none 0 0, .slice none 0 0] 27)) = W
  have hB0 : Below w.heap.size w W := by rw [← hW]; exact (((Below.refl _ _).alloc (Nat.le_refl _) _).alloc (by simp) _).alloc (by simp; omega) _
  have hsz : W.heap.size = w.heap.size + 3 := by rw [← hW]; simp
  have h0 : W.heap[w.heap.size]? = some (.cells #[.int .i64 m.ins, vn, vo] 24 (0, 0)) := by
    rw [← hW, heap_alloc_old _ _ (by simp; omega), heap_alloc_old _ _ (by simp), heap_alloc_new]
  have h1 : W.heap[w.heap.size + 1]? = some (.cells #[.int .i64 0, .slice none 0 0, .slice none 0 0] 27 (0, 0)) := by
    rw [← hW, heap_alloc_old _ _ (by simp)]
    have := heap_alloc_new (w.alloc (.cells #[.int .i64 m.ins, vn, vo] 24)) (.cells #[.int .i64 0, .slice none 0 0, .slice none 0 0] 27)
    rwa [World.size_alloc] at this
  have h2 : W.heap[w.heap.size + 1 + 1]? = some (.cells #[.int .i64 m.ins, .slice none 0 0, .slice none 0 0] 27 (0, 0)) := by
    rw [← hW]
    have := heap_alloc_new ((w.alloc (.cells #[.int .i64 m.ins, vn, vo] 24)).alloc (.cells #[.int .i64 0, .slice none 0 0, .slice none 0 0] 27)) (.cells #[.int .i64 m.ins, .slice none 0 0, .slice none 0 0] 27)
    rwa [World.size_alloc, World.size_alloc] at this
  clear hW
  refine (toIntSS_any vn _ _ (H1.out.below hB0) (by omega) (by omega)).mono ?_
  rintro e w1 ⟨⟨v1, rfl, hO1⟩, hb1⟩
  obtain ⟨A1, q1, hv1, _, _⟩ := (OwnSS.at hO1).shape
  subst hv1
  have k0 := (hb1.block w.heap.size (by omega)).trans h0
  have k1 := (hb1.block (w.heap.size + 1) (by omega)).trans h1
  have k2 := (hb1.block (w.heap.size + 1 + 1) (by omega)).trans h2
  have p2 : w1.cell? ⟨w.heap.size, 2, none⟩ = some vo := blk_cell k0 2
  have c1 : w1.cell? ⟨w.heap.size + 1 + 1, 1, none⟩ = some (.slice none 0 0) := blk_cell k2 1
  have f1 := blk_free k2 1
  have Ho1 := Lib.hid (OwnSS.mono hO1 (show w.heap.size + 3 ≤ W.heap.size by omega) (Nat.le_refl _))
  have HB1 := Lib.hid (hB0.trans (hb1.mono hB0.size))
  have z1 := hb1.size
  have K0 := Lib.hid k0
  have K1 := Lib.hid k1
  have K2 := Lib.hid k2
  clear hO1 hb1 h0 h1 h2 hB0 k0 k1 k2
  go_wp2_with fail
  have K1 := Lib.hid ((heap_setCell_other w1 ⟨w.heap.size + 1 + 1, 1, none⟩ (w.heap.size + 1) (.slice A1 m.next.length q1) (by simp only; omega)).trans K1.out)
  have K2 := Lib.hid (heap_setCell_same w1 (w.heap.size + 1 + 1) 1 _ _ (.slice A1 m.next.length q1) K2.out)
  have HB1 := Lib.hid (HB1.out.setCell (p := ⟨w.heap.size + 1 + 1, 1, none⟩) (by simp only; omega) (.slice A1 m.next.length q1))
  have Ho1 := Lib.hid (OwnSS.only Ho1.out (Only.grown (E := fun g => g = w.heap.size + 1 + 1) (set_grownM w1 (w.heap.size + 1 + 1) 1 (.slice A1 m.next.length q1)) (fun k hk => (Option.some.inj hk).symm)) (fun g hg _ e => by omega))
  have z1' : w1.heap.size = (w1.setCell ⟨w.heap.size + 1 + 1, 1, none⟩ (.slice A1 m.next.length q1)).heap.size := by simp [World.setCell]
  generalize w1.setCell ⟨w.heap.size + 1 + 1, 1, none⟩ (.slice A1 m.next.length q1) = w1' at *
  refine (toIntSS_any vo _ _ (H2.out.below HB1.out) (by omega) (by omega)).mono ?_
  rintro e w2 ⟨⟨v2, rfl, hO2⟩, hb2⟩
  obtain ⟨A2, q2, hv2, _, _⟩ := (OwnSS.at hO2).shape
  subst hv2
  have k1 := (hb2.block (w.heap.size + 1) (by omega)).trans K1.out
  have k2 := (hb2.block (w.heap.size + 1 + 1) (by omega)).trans K2.out
  have c0 : w2.cell? ⟨w.heap.size + 1 + 1, 0, none⟩ = some (.int .i64 m.ins) := blk_cell k2 0
  have c1 : w2.cell? ⟨w.heap.size + 1 + 1, 1, none⟩ = some (.slice A1 m.next.length q1) := blk_cell k2 1
  have c2 : w2.cell? ⟨w.heap.size + 1 + 1, 2, none⟩ = some (.slice none 0 0) := blk_cell k2 2
  have f2 := blk_free k2 2
  have o0 : w2.cell? ⟨w.heap.size + 1, 0, none⟩ = some (.int .i64 0) := blk_cell k1 0
  have o1 : w2.cell? ⟨w.heap.size + 1, 1, none⟩ = some (.slice none 0 0) := blk_cell k1 1
  have o2 : w2.cell? ⟨w.heap.size + 1, 2, none⟩ = some (.slice none 0 0) := blk_cell k1 2
  have b0 := blk_free k1 0
  have b1 := blk_free k1 1
  have b2 := blk_free k1 2
  have Ho12 := Lib.hid (OwnSS.below Ho1.out hb2)
  have Ho2 := Lib.hid hO2
  have HB2 := Lib.hid (HB1.out.trans (hb2.mono HB1.out.size))
  have z2 := hb2.size
  clear hO2 hb2 k1 k2 p2 f1 K0 K1 K2
  go_wp2_with fail
  refine bodyPost_ret (v := .agg #[.int .i64 m.ins, .slice A1 m.next.length q1, .slice A2 m.out.length q2]) (by simp [results, Try.results13, go_sem, o0, o1, o2]) rfl ⟨_, rfl, ⟨_, _, w1'.heap.size, rfl, by omega, by simp [World.setCell]; omega, ?_, ?_⟩, ?_⟩
  · exact own_setSS (own_setSS (own_setSS (own_setSS (OwnSS.mono (B' := w.heap.size + 3) Ho12.out (Nat.le_refl _) (by omega)) (by omega)) (by omega)) (by omega)) (by omega) |>.mono (by omega) (Nat.le_refl _)
  · exact own_setSS (own_setSS (own_setSS (own_setSS Ho2.out (by omega)) (by omega)) (by omega)) (by omega) |>.mono (Nat.le_refl _) (by simp [World.setCell])
  · exact (((HB2.out.setCell (by simp only; omega) _).setCell (by simp only; omega) _).setCell (by simp only; omega) _).setCell (by simp only; omega) _
theorem OwnMach.e {B T : Nat} {v : Value} {m : Mz} {w : World} (h : OwnMach B T v m w) : OwnMachE B T v m w := by
  obtain ⟨vn, vo, M, hv, e1, e2, h1, h2⟩ := h
  exact ⟨vn, vo, _, _, hv, fun g h => by have := h.2; omega, fun g h => by have := h.2; omega, fun g h h' => by have := h.2; have := h'.1; omega, OwnSS.se h1, OwnSE.mono (OwnSS.se h2) e1 (fun g h => h)⟩
end Go.Proofs.Ythnfbjjnabohoaa
