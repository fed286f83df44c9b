import Derived.Test.YtmlcbikljlhhkaaVioD
import Derived.Test.YtmlcbikljlhhkaaCirO
namespace Go.Proofs.Ytmlcbikljlhhkaa
open Go.RowKit
set_option maxRecDepth 100000
set_option maxHeartbeats 4000000
/-! FindViolation, by the program: no violation for arguments that are none; any arguments. -/
theorem implViol_no (v : Value) (c : Cz) (o : Int) (w : World) (h : CircAt w v c) (hno : Cir.valid c = false ∨ (Cir.valid c = true ∧ o < 0) ∨ (Cir.valid c = true ∧ 0 ≤ o ∧ (c.outs.length : Int) ≤ o)) :
    Calls Try.prog 44 #[v, .int .i64 o] w (OwnViol (Cir.nat c).ins none w) := by
  have HC := Lib.hid h
  obtain ⟨An, cn, Ag, cg, Ao, co, rfl⟩ := h.shape
  have hb0 := bel_new w (.cells #[.int .i64 c.ins, .slice An c.next.length cn, .slice Ag c.gates.length cg, .slice Ao c.outs.length co] 30)
  have hb1 := bel_new (w.alloc (.cells #[.int .i64 c.ins, .slice An c.next.length cn, .slice Ag c.gates.length cg, .slice Ao c.outs.length co] 30)) (.cells #[.int .i64 o] 3)
  have hb2 := bel_new ((w.alloc (.cells #[.int .i64 c.ins, .slice An c.next.length cn, .slice Ag c.gates.length cg, .slice Ao c.outs.length co] 30)).alloc (.cells #[.int .i64 o] 3)) (.cells #[.bool false, .slice none 0 0] 55)
  have hb12 := hb1.trans (hb2.mono hb1.size)
  have B0 := Lib.hid (hb0.trans (hb12.mono hb0.size))
  have PC := Lib.hid ((PCells.boxed w c.ins (.slice An c.next.length cn) (.slice Ag c.gates.length cg) (.slice Ao c.outs.length co) 30).below hb12)
  have hsz : (((w.alloc (.cells #[.int .i64 c.ins, .slice An c.next.length cn, .slice Ag c.gates.length cg, .slice Ao c.outs.length co] 30)).alloc (.cells #[.int .i64 o] 3)).alloc (.cells #[.bool false, .slice none 0 0] 55)).heap.size = w.heap.size + 1 + 1 + 1 := by simp
  have hR : (((w.alloc (.cells #[.int .i64 c.ins, .slice An c.next.length cn, .slice Ag c.gates.length cg, .slice Ao c.outs.length co] 30)).alloc (.cells #[.int .i64 o] 3)).alloc (.cells #[.bool false, .slice none 0 0] 55)).heap[w.heap.size + 1 + 1]? = some (.cells #[.bool false, .slice none 0 0] 55 (0, 0)) := by
    have := heap_alloc_new ((w.alloc (.cells #[.int .i64 c.ins, .slice An c.next.length cn, .slice Ag c.gates.length cg, .slice Ao c.outs.length co] 30)).alloc (.cells #[.int .i64 o] 3)) (.cells #[.bool false, .slice none 0 0] 55)
    rwa [World.size_alloc, World.size_alloc] at this
  have HRes := Lib.hid hR
  have hGo : (((w.alloc (.cells #[.int .i64 c.ins, .slice An c.next.length cn, .slice Ag c.gates.length cg, .slice Ao c.outs.length co] 30)).alloc (.cells #[.int .i64 o] 3)).alloc (.cells #[.bool false, .slice none 0 0] 55)).cell? ⟨w.heap.size + 1, 0, none⟩ = some (.int .i64 o) := by
    have h1 := heap_alloc_new (w.alloc (.cells #[.int .i64 c.ins, .slice An c.next.length cn, .slice Ag c.gates.length cg, .slice Ao c.outs.length co] 30)) (.cells #[.int .i64 o] 3)
    rw [World.size_alloc] at h1
    have h2 := (hb2.block (w.heap.size + 1) (by simp)).trans h1
    exact blk_cell h2 0
  have HGo := Lib.hid hGo
  obtain ⟨z, p0, p1, p2, p3⟩ := PC.out
  have HV := Lib.hid (implValid_any _ _ _ (HC.out.below B0.out))
  have Hno := Lib.hid hno
  clear HC hb0 hb1 hb2 hb12 hR hGo hno
  rcases Hno.out with hv | ⟨hv, h1⟩ | ⟨hv, h1, h2⟩
  ·
    skip
    rw [hv] at HV
    skip
    clear hv Hno
    go_enter Try.func44, Try.ntmps44
    go_wp2_with fail
    generalize ((w.alloc (.cells #[.int .i64 c.ins, .slice An c.next.length cn, .slice Ag c.gates.length cg, .slice Ao c.outs.length co] 30)).alloc (.cells #[.int .i64 o] 3)).alloc (.cells #[.bool false, .slice none 0 0] 55) = W at *
    refine HV.out.mono ?_
    rintro e w1 ⟨rfl, hb1⟩
    have B1 := Lib.hid (B0.out.trans (hb1.mono B0.out.size))
    have PC1 := Lib.hid (PC.out.below hb1)
    have c1 := (hb1.cell (p := ⟨w.heap.size + 1, 0, none⟩) (by simp only; omega)).trans HGo.out
    have hR1 := (hb1.block _ (by omega)).trans HRes.out
    have z1 := hb1.size
    have o0 := blk_cell hR1 0
    have o1 := blk_cell hR1 1
    have b0 := blk_free hR1 0
    have b1 := blk_free hR1 1
    simp at o0 o1
    clear hb1 hR1 p0 p1 p2 p3 z HV HRes PC HGo
    obtain ⟨z, p0, p1, p2, p3⟩ := PC1.out
    go_wp2_with fail
    refine bodyPost_ret (v := .agg #[.bool false, .slice none 0 0]) (by simp [results, Try.results44, go_sem, o0, o1]) rfl ⟨_, rfl, OwnSS.nil _ _ _ _ _ _, ?_⟩
    exact ((B1.out.setCell (by simp only; omega) _).setCell (by simp only; omega) _)
  ·
    have t1 : decide (o < 0) = true := decide_eq_true h1
    rw [hv] at HV
    clear h1
    clear hv Hno
    go_enter Try.func44, Try.ntmps44
    go_wp2_with fail
    generalize ((w.alloc (.cells #[.int .i64 c.ins, .slice An c.next.length cn, .slice Ag c.gates.length cg, .slice Ao c.outs.length co] 30)).alloc (.cells #[.int .i64 o] 3)).alloc (.cells #[.bool false, .slice none 0 0] 55) = W at *
    refine HV.out.mono ?_
    rintro e w1 ⟨rfl, hb1⟩
    have B1 := Lib.hid (B0.out.trans (hb1.mono B0.out.size))
    have PC1 := Lib.hid (PC.out.below hb1)
    have c1 := (hb1.cell (p := ⟨w.heap.size + 1, 0, none⟩) (by simp only; omega)).trans HGo.out
    have hR1 := (hb1.block _ (by omega)).trans HRes.out
    have z1 := hb1.size
    have o0 := blk_cell hR1 0
    have o1 := blk_cell hR1 1
    have b0 := blk_free hR1 0
    have b1 := blk_free hR1 1
    simp at o0 o1
    clear hb1 hR1 p0 p1 p2 p3 z HV HRes PC HGo
    obtain ⟨z, p0, p1, p2, p3⟩ := PC1.out
    go_wp2_with fail
    refine bodyPost_ret (v := .agg #[.bool false, .slice none 0 0]) (by simp [results, Try.results44, go_sem, o0, o1]) rfl ⟨_, rfl, OwnSS.nil _ _ _ _ _ _, ?_⟩
    exact ((B1.out.setCell (by simp only; omega) _).setCell (by simp only; omega) _)
  ·
    have t1 : decide (o < 0) = false := decide_eq_false (by omega)
    rw [hv] at HV
    have t2 : decide ((c.outs.length : Int) ≤ o) = true := decide_eq_true h2
    clear h1 h2
    clear hv Hno
    go_enter Try.func44, Try.ntmps44
    go_wp2_with fail
    generalize ((w.alloc (.cells #[.int .i64 c.ins, .slice An c.next.length cn, .slice Ag c.gates.length cg, .slice Ao c.outs.length co] 30)).alloc (.cells #[.int .i64 o] 3)).alloc (.cells #[.bool false, .slice none 0 0] 55) = W at *
    refine HV.out.mono ?_
    rintro e w1 ⟨rfl, hb1⟩
    have B1 := Lib.hid (B0.out.trans (hb1.mono B0.out.size))
    have PC1 := Lib.hid (PC.out.below hb1)
    have c1 := (hb1.cell (p := ⟨w.heap.size + 1, 0, none⟩) (by simp only; omega)).trans HGo.out
    have hR1 := (hb1.block _ (by omega)).trans HRes.out
    have z1 := hb1.size
    have o0 := blk_cell hR1 0
    have o1 := blk_cell hR1 1
    have b0 := blk_free hR1 0
    have b1 := blk_free hR1 1
    simp at o0 o1
    clear hb1 hR1 p0 p1 p2 p3 z HV HRes PC HGo
    obtain ⟨z, p0, p1, p2, p3⟩ := PC1.out
    go_wp2_with fail
    refine bodyPost_ret (v := .agg #[.bool false, .slice none 0 0]) (by simp [results, Try.results44, go_sem, o0, o1]) rfl ⟨_, rfl, OwnSS.nil _ _ _ _ _ _, ?_⟩
    exact ((B1.out.setCell (by simp only; omega) _).setCell (by simp only; omega) _)
theorem implViol_any (v : Value) (c : Cz) (o : Int) (w : World) (h : CircAt w v c) :
    Calls Try.prog 44 #[v, .int .i64 o] w (OwnViol (Cir.nat c).ins (Cir.violI c o) w) := by
  by_cases hc : Cir.valid c = true ∧ 0 ≤ o ∧ o < c.outs.length
  · obtain ⟨d1, d2⟩ := Cir.nat_ok hc.1
    obtain ⟨m, rfl⟩ := Int.eq_ofNat_of_zero_le hc.2.1
    have hr : Cir.violI c (m : Int) = Cir.viol (Cir.nat c) m := by unfold Cir.violI; rw [if_pos hc]; rfl
    rw [hr]
    exact implViol_ok v (Cir.nat c) m w (by rw [← d1]; exact h) d2 (by rw [← d1]; exact hc.1) (by have := hc.2.2; unfold Cir.nat; simp only [List.length_map]; omega)
  · have hr : Cir.violI c o = none := by unfold Cir.violI; rw [if_neg hc]
    rw [hr]
    exact implViol_no v c o w h (viol_cases hc)
/-! The rows of inputs that lead to a violation, by the reference. -/
def TBits (B : Nat) (xs : List Bool) : Ty := fun w v => RowIn (From B) w 1 v xs.length (bools xs)
theorem stb_bits (B : Nat) (xs : List Bool) : Stb (fun _ => False) (TBits B xs) := fun _ _ _ h ho => RowIn.below h (only_below ho)
def TFront (B : Nat) (xs : List Bool) : Ty := fun w v => ∃ g u, v = .slice (some ⟨g, 0, none⟩) 1 1 ∧ B ≤ g ∧ g < w.heap.size ∧ w.cell? ⟨g, 0, none⟩ = some u ∧ RowIn (From B) w 1 u xs.length (bools xs)
theorem stb_front (B : Nat) (xs : List Bool) : Stb (fun _ => False) (TFront B xs) := by
  rintro v w w' ⟨g, u, rfl, hB, hg, hc, hb⟩ ho
  have hbl := only_below ho
  exact ⟨g, u, rfl, hB, Nat.lt_of_lt_of_le hg ho.size, (hbl.cell (p := ⟨g, 0, none⟩) hg).trans hc, hb.below hbl⟩
def TSS (B : Nat) (xss : List (List Bool)) : Ty := fun w v => SSIn bools (From B) w v xss
theorem stb_ss (B : Nat) (xss : List (List Bool)) : Stb (fun _ => False) (TSS B xss) := fun _ _ _ h ho => h.below (only_below ho)
/-- append of a row of rows to a single one. -/
theorem run_front {w : World} {xs : List Bool} {xss : List (List Bool)} {v y : Value} {B : Nat} (ty : TypeId) (hx : TFront B xs w v) (hy : SSIn bools (From B) w y xss) (hBw : B ≤ w.heap.size) (hn : 0 < xss.length) (hm : xss.length ≤ 1000) :
    ∃ v' w', (Builtin.append_ #[39, 39] ty #[v, y]).run Try.prog w = .ok v' w' ∧ SSIn bools (From B) w' v' (xs :: xss) ∧ Below w.heap.size w w' := by
  obtain ⟨i, hi, hz0, hz1, hz2⟩ := info_parts info_bools2
  obtain ⟨g, u, rfl, hB, hg, hc, hb⟩ := hx
  obtain ⟨vs, hvl, hr, hel⟩ := hy
  obtain ⟨b, o, c, rfl, h1, h2, h3, h4⟩ := Row.open hr.1 hn
  have hcells : vs.length = xss.length * i.size := by rw [hz1]; have := hr.1.len; omega
  have hrun := run_append_grow (P := Try.prog) w 39 ty 78 i _ Try.underlying39 hi hz0 ⟨g, 0, none⟩ 1 1 [u] (by rw [hz1]; rfl) (fun j q hq => by
      cases j with
      | zero => obtain rfl := Option.some.inj hq; exact hc
      | succ j => simp at hq) ⟨b, o, none⟩ xss.length c vs hcells (fun j q hq => by have h5 := h4 j q hq; cases j <;> simpa [Addr.add] using h5) (by omega) (by omega) (by
      rw [hz2]
      exact growslice_fits (by omega) (by omega))
  refine ⟨_, _, hrun, ?_, ?_⟩
  · have hge := grownCap_ge w (1 + xss.length) 1 78
    have hle := grownCap_le_maxLen w (1 + xss.length) 1 78 (by unfold maxLen; omega)
    have hb2 : Below w.heap.size w (w.drew.alloc (.cells ([u].toArray ++ vs.toArray ++ Builtin.zeroCells (Value.cells (.slice none 0 0)) (grownCap w (1 + xss.length) 1 78 - (1 + xss.length))) 78)) := ⟨rfl, rfl, rfl, by simp, fun k hk => heap_alloc_old w.drew _ hk⟩
    refine ⟨u :: vs, by simp [hvl], ⟨⟨by simp [hvl], _, _, by rw [List.length_cons, Nat.add_comm xss.length 1], by rw [List.length_cons]; omega, hle, fun _ => ⟨w.heap.size, 0, rfl, by simp, fun j q hq => ?_⟩⟩, fun _ g hg => ?_⟩, fun i x z hx hz => ?_⟩
    · have h5 := heap_alloc_new w.drew (.cells ([u].toArray ++ vs.toArray ++ Builtin.zeroCells (Value.cells (.slice none 0 0)) (grownCap w (1 + xss.length) 1 78 - (1 + xss.length))) 78)
      have h6 := blk_cell h5 (0 + j)
      refine h6.trans ?_
      rw [Nat.zero_add, ← Array.getElem?_toList]
      simp only [Array.toList_append]
      rw [List.getElem?_append_left (by have := (List.getElem?_eq_some_iff.1 hq).1; simpa using this)]
      simpa using hq
    · obtain rfl := Option.some.inj hg
      exact hBw
    · cases i with
      | zero =>
        obtain rfl := Option.some.inj hx
        obtain rfl := Option.some.inj hz
        exact hb.below hb2
      | succ i => exact (hel i x z hx hz).below hb2
  · exact ⟨rfl, rfl, rfl, by simp, fun k hk => heap_alloc_old w.drew _ hk⟩
end Go.Proofs.Ytmlcbikljlhhkaa
