import Derived.Test.YtmlcbikljlhhkaaVioH
namespace Go.Proofs.Ytmlcbikljlhhkaa
open Go.RowKit
set_option maxRecDepth 100000
set_option maxHeartbeats 4000000
theorem valid_outs {c : Cz} (h : Cir.valid c = true) : c.outs.length ≤ 3 := (valid_sizes h).2.2.2.2
theorem specViol_no (v : Value) (c : Cz) (o : Int) (w : World) (h : CircAt w v c) (hno : Cir.valid c = false ∨ (Cir.valid c = true ∧ ¬ (0 ≤ o ∧ o < c.outs.length))) :
    Calls Try.prog 43 #[v, .int .i64 o] w (SpecViol (Cir.nat c).ins none w) := by
  have HC := Lib.hid h
  obtain ⟨An, cn, Ag, cg, Ao, co, rfl⟩ := h.shape
  have hb0 := bel_new w (.cells #[.int .i64 c.ins, .slice An c.next.length cn, .slice Ag c.gates.length cg, .slice Ao c.outs.length co] 30)
  have hb1 := bel_new (w.alloc (.cells #[.int .i64 c.ins, .slice An c.next.length cn, .slice Ag c.gates.length cg, .slice Ao c.outs.length co] 30)) (.cells #[.bool false, .slice none 0 0] 55)
  have B0 := Lib.hid (hb0.trans (hb1.mono hb0.size))
  have PC := Lib.hid ((PCells.boxed w c.ins (.slice An c.next.length cn) (.slice Ag c.gates.length cg) (.slice Ao c.outs.length co) 30).below hb1)
  have hsz : ((w.alloc (.cells #[.int .i64 c.ins, .slice An c.next.length cn, .slice Ag c.gates.length cg, .slice Ao c.outs.length co] 30)).alloc (.cells #[.bool false, .slice none 0 0] 55)).heap.size = w.heap.size + 1 + 1 := by simp
  have hR : ((w.alloc (.cells #[.int .i64 c.ins, .slice An c.next.length cn, .slice Ag c.gates.length cg, .slice Ao c.outs.length co] 30)).alloc (.cells #[.bool false, .slice none 0 0] 55)).heap[w.heap.size + 1]? = some (.cells #[.bool false, .slice none 0 0] 55 (0, 0)) := by
    have := heap_alloc_new (w.alloc (.cells #[.int .i64 c.ins, .slice An c.next.length cn, .slice Ag c.gates.length cg, .slice Ao c.outs.length co] 30)) (.cells #[.bool false, .slice none 0 0] 55)
    rwa [World.size_alloc] at this
  have HRes := Lib.hid hR
  obtain ⟨z, p0, p1, p2, p3⟩ := PC.out
  have HV := Lib.hid (specValid_any _ _ _ (HC.out.below B0.out))
  have Hno := Lib.hid hno
  clear HC hb0 hb1 hR hno
  rcases Hno.out with hv | ⟨hv, h1⟩
  ·
    rw [hv] at HV
    skip
    clear hv Hno
    go_enter Try.func43, Try.ntmps43
    go_wp2_with fail
    generalize (w.alloc (.cells #[.int .i64 c.ins, .slice An c.next.length cn, .slice Ag c.gates.length cg, .slice Ao c.outs.length co] 30)).alloc (.cells #[.bool false, .slice none 0 0] 55) = W at *
    refine HV.out.mono ?_
    rintro e w1 ⟨rfl, hb1⟩
    have B1 := Lib.hid (B0.out.trans (hb1.mono B0.out.size))
    have PC1 := Lib.hid (PC.out.below hb1)
    have hR1 := (hb1.block _ (by omega)).trans HRes.out
    have z1 := hb1.size
    have o0 := blk_cell hR1 0
    have o1 := blk_cell hR1 1
    have b0 := blk_free hR1 0
    have b1 := blk_free hR1 1
    simp at o0 o1
    clear hb1 hR1 p0 p1 p2 p3 z HV HRes PC
    obtain ⟨z, p0, p1, p2, p3⟩ := PC1.out
    go_wp2_with fail
    refine bodyPost_ret (v := .agg #[.bool false, .slice none 0 0]) (by simp [results, Try.results43, go_sem, o0, o1]) rfl ⟨⟨_, rfl, SSAt.nil _ _⟩, ?_⟩
    exact ((B1.out.setCell (by simp only; omega) _).setCell (by simp only; omega) _)
  ·
    rw [hv] at HV
    have hl := valid_outs hv
    have hwl := IntWalk.i64_in ((c.outs.length : Int) - 1) (by omega)
    have Hin := Lib.hid (fun w' => l1In_any o 0 ((c.outs.length : Int) - 1) w')
    rw [show decide (0 ≤ o ∧ o ≤ (c.outs.length : Int) - 1) = false from decide_eq_false (by omega)] at Hin
    clear h1 hl
    clear hv Hno
    go_enter Try.func43, Try.ntmps43
    go_wp2_with fail
    generalize (w.alloc (.cells #[.int .i64 c.ins, .slice An c.next.length cn, .slice Ag c.gates.length cg, .slice Ao c.outs.length co] 30)).alloc (.cells #[.bool false, .slice none 0 0] 55) = W at *
    refine HV.out.mono ?_
    rintro e w1 ⟨rfl, hb1⟩
    have B1 := Lib.hid (B0.out.trans (hb1.mono B0.out.size))
    have PC1 := Lib.hid (PC.out.below hb1)
    have hR1 := (hb1.block _ (by omega)).trans HRes.out
    have z1 := hb1.size
    have o0 := blk_cell hR1 0
    have o1 := blk_cell hR1 1
    have b0 := blk_free hR1 0
    have b1 := blk_free hR1 1
    simp at o0 o1
    clear hb1 hR1 p0 p1 p2 p3 z HV HRes PC
    obtain ⟨z, p0, p1, p2, p3⟩ := PC1.out
    go_wp2_with fail
    refine (Hin.out w1).mono ?_
    rintro e w' ⟨rfl, rfl⟩
    clear Hin hwl
    go_wp2_with fail
    refine bodyPost_ret (v := .agg #[.bool false, .slice none 0 0]) (by simp [results, Try.results43, go_sem, o0, o1]) rfl ⟨⟨_, rfl, SSAt.nil _ _⟩, ?_⟩
    exact ((B1.out.setCell (by simp only; omega) _).setCell (by simp only; omega) _)
theorem specViol_any (v : Value) (c : Cz) (o : Int) (w : World) (h : CircAt w v c) :
    Calls Try.prog 43 #[v, .int .i64 o] w (SpecViol (Cir.nat c).ins (Cir.violI c o) w) := by
  by_cases hc : Cir.valid c = true ∧ 0 ≤ o ∧ o < c.outs.length
  · obtain ⟨d1, d2⟩ := Cir.nat_ok hc.1
    obtain ⟨m, rfl⟩ := Int.eq_ofNat_of_zero_le hc.2.1
    have hr : Cir.violI c (m : Int) = Cir.viol (Cir.nat c) m := by unfold Cir.violI; rw [if_pos hc]; rfl
    rw [hr]
    exact specViol_ok v (Cir.nat c) m w (by rw [← d1]; exact h) d2 (by rw [← d1]; exact hc.1) (by have := hc.2.2; unfold Cir.nat; simp only [List.length_map]; omega)
  · have hr : Cir.violI c o = none := by unfold Cir.violI; rw [if_neg hc]
    rw [hr]
    refine specViol_no v c o w h ?_
    cases hv : Cir.valid c
    · exact .inl rfl
    · exact .inr ⟨rfl, fun hh => hc ⟨hv, hh⟩⟩
/-! Invariants. -/
theorem inv_out {o : Int} {n : Nat} {b : Bool} (h : ¬ (0 ≤ o ∧ o < (n : Int))) : (true && (decide (0 ≤ o) && (decide (o < (n : Int)) && b))) = false := by
  by_cases h2 : 0 ≤ o
  · rw [decide_eq_true h2, decide_eq_false (show ¬ o < (n : Int) from fun hh => h ⟨h2, hh⟩)]; rfl
  · rw [decide_eq_false h2]; rfl
theorem viol_field0 (b : Bool) (A : Option Addr) (n c : Nat) (w : World) : (Instr.field 55 (.agg #[.bool b, .slice A n c]) 0).run Try.prog w = .ok (.bool b) w := by kernel_rfl
def Cir.invI (c : Cz) (o : Int) : Bool := Cir.valid c && (decide (0 ≤ o) && (decide (o < c.outs.length) && !(Cir.violI c o).isSome))
theorem implInv_any (v : Value) (c : Cz) (o : Int) (w : World) (h : CircAt w v c) :
    Calls Try.prog 42 #[v, .int .i64 o] w fun e w' => e = .returned (.bool (Cir.invI c o)) ∧ Below w.heap.size w w' := by
  have HC := Lib.hid h
  obtain ⟨An, cn, Ag, cg, Ao, co, rfl⟩ := h.shape
  have B0 := Lib.hid (bel_new w (.cells #[.int .i64 c.ins, .slice An c.next.length cn, .slice Ag c.gates.length cg, .slice Ao c.outs.length co] 30))
  have PC := Lib.hid (PCells.boxed w c.ins (.slice An c.next.length cn) (.slice Ag c.gates.length cg) (.slice Ao c.outs.length co) 30)
  have hsz : (w.alloc (.cells #[.int .i64 c.ins, .slice An c.next.length cn, .slice Ag c.gates.length cg, .slice Ao c.outs.length co] 30)).heap.size = w.heap.size + 1 := by simp
  obtain ⟨z, p0, p1, p2, p3⟩ := PC.out
  have HC0 := Lib.hid (HC.out.below B0.out)
  have HV := Lib.hid (implValid_any _ _ _ HC0.out)
  clear HC h
  cases hv : Cir.valid c
  · rw [hv] at HV
    have HR : Hid (Cir.invI c o = false) := Lib.hid (by unfold Cir.invI; rw [hv]; rfl)
    rw [HR.out]
    clear HR hv
    go_enter Try.func42, Try.ntmps42
    go_wp2_with fail
    refine HV.out.mono ?_
    rintro e w1 ⟨rfl, hb1⟩
    have B1 := Lib.hid (B0.out.trans (hb1.mono B0.out.size))
    clear hb1
    go_wp2_with fail
    go_ret
    exact ⟨rfl, B1.out⟩
  · rw [hv] at HV
    have hl := valid_outs hv
    by_cases h0 : o < 0
    · have t0 : decide (0 ≤ o) = false := decide_eq_false (by omega)
      have HR : Hid (Cir.invI c o = false) := Lib.hid (by unfold Cir.invI; rw [hv, t0]; rfl)
      rw [HR.out]
      clear HR hv hl h0
      go_enter Try.func42, Try.ntmps42
      go_wp2_with fail
      generalize w.alloc (.cells #[.int .i64 c.ins, .slice An c.next.length cn, .slice Ag c.gates.length cg, .slice Ao c.outs.length co] 30) = W at *
      refine HV.out.mono ?_
      rintro e w1 ⟨rfl, hb1⟩
      have B1 := Lib.hid (B0.out.trans (hb1.mono B0.out.size))
      have HC1 := Lib.hid (HC0.out.below hb1)
      have PC1 := Lib.hid (PC.out.below hb1)
      have z1 := hb1.size
      clear hb1 p0 p1 p2 p3 z HV PC HC0
      obtain ⟨z, p0, p1, p2, p3⟩ := PC1.out
      go_wp2_with fail
      go_ret
      exact ⟨rfl, B1.out⟩
    · by_cases h1 : (c.outs.length : Int) ≤ o
      · have t0 : decide (0 ≤ o) = true := decide_eq_true (by omega)
        have t1 : decide (o < (c.outs.length : Int)) = false := decide_eq_false (by omega)
        have HR : Hid (Cir.invI c o = false) := Lib.hid (by unfold Cir.invI; rw [hv, t0, t1]; rfl)
        rw [HR.out]
        clear HR hv hl h0 h1
        go_enter Try.func42, Try.ntmps42
        go_wp2_with fail
        generalize w.alloc (.cells #[.int .i64 c.ins, .slice An c.next.length cn, .slice Ag c.gates.length cg, .slice Ao c.outs.length co] 30) = W at *
        refine HV.out.mono ?_
        rintro e w1 ⟨rfl, hb1⟩
        have B1 := Lib.hid (B0.out.trans (hb1.mono B0.out.size))
        have HC1 := Lib.hid (HC0.out.below hb1)
        have PC1 := Lib.hid (PC.out.below hb1)
        have z1 := hb1.size
        clear hb1 p0 p1 p2 p3 z HV PC HC0
        obtain ⟨z, p0, p1, p2, p3⟩ := PC1.out
        go_wp2_with fail
        go_ret
        exact ⟨rfl, B1.out⟩
      · have t0 : decide (0 ≤ o) = true := decide_eq_true (by omega)
        have t1 : decide (o < (c.outs.length : Int)) = true := decide_eq_true (by omega)
        have HR : Hid (Cir.invI c o = !(Cir.violI c o).isSome) := Lib.hid (by unfold Cir.invI; rw [hv, t0, t1]; rfl)
        rw [HR.out]
        clear HR hv hl h0 h1
        go_enter Try.func42, Try.ntmps42
        go_wp2_with fail
        generalize w.alloc (.cells #[.int .i64 c.ins, .slice An c.next.length cn, .slice Ag c.gates.length cg, .slice Ao c.outs.length co] 30) = W at *
        refine HV.out.mono ?_
        rintro e w1 ⟨rfl, hb1⟩
        have B1 := Lib.hid (B0.out.trans (hb1.mono B0.out.size))
        have HC1 := Lib.hid (HC0.out.below hb1)
        have PC1 := Lib.hid (PC.out.below hb1)
        have z1 := hb1.size
        clear hb1 p0 p1 p2 p3 z HV PC HC0
        obtain ⟨z, p0, p1, p2, p3⟩ := PC1.out
        go_wp2_with fail
        refine (implViol_any _ c o _ HC1.out).mono ?_
        rintro e w2 ⟨v2, rfl, hO, hb2⟩
        obtain ⟨A2, c2, hv2, -⟩ := hO.at.shape
        subst hv2
        have B2 := Lib.hid (B1.out.trans (hb2.mono B1.out.size))
        clear hb2 hO
        generalize hbb : (Cir.violI c o).isSome = bb at *
        have Hbb := Lib.hid hbb
        clear hbb
        have hff := viol_field0 bb A2 (vrows (Cir.nat c).ins (Cir.violI c o)).length c2
        go_wp2_with fail
        go_ret
        exact ⟨ret_bool (by rw [Hbb.out]), B2.out⟩
theorem specInv_any (v : Value) (c : Cz) (o : Int) (w : World) (h : CircAt w v c) :
    Calls Try.prog 41 #[v, .int .i64 o] w fun e w' => e = .returned (.bool (Cir.invI c o)) ∧ Below w.heap.size w w' := by
  have HC := Lib.hid h
  obtain ⟨An, cn, Ag, cg, Ao, co, rfl⟩ := h.shape
  have B0 := Lib.hid (bel_new w (.cells #[.int .i64 c.ins, .slice An c.next.length cn, .slice Ag c.gates.length cg, .slice Ao c.outs.length co] 30))
  have PC := Lib.hid (PCells.boxed w c.ins (.slice An c.next.length cn) (.slice Ag c.gates.length cg) (.slice Ao c.outs.length co) 30)
  have hsz : (w.alloc (.cells #[.int .i64 c.ins, .slice An c.next.length cn, .slice Ag c.gates.length cg, .slice Ao c.outs.length co] 30)).heap.size = w.heap.size + 1 := by simp
  obtain ⟨z, p0, p1, p2, p3⟩ := PC.out
  have HC0 := Lib.hid (HC.out.below B0.out)
  have HV := Lib.hid (specValid_any _ _ _ HC0.out)
  clear HC h
  cases hv : Cir.valid c
  · rw [hv] at HV
    have HR : Hid (Cir.invI c o = false) := Lib.hid (by unfold Cir.invI; rw [hv]; rfl)
    rw [HR.out]
    clear HR hv
    go_enter Try.func41, Try.ntmps41
    go_wp2_with fail
    refine HV.out.mono ?_
    rintro e w1 ⟨rfl, hb1⟩
    have B1 := Lib.hid (B0.out.trans (hb1.mono B0.out.size))
    clear hb1
    go_wp2_with fail
    go_ret
    exact ⟨rfl, B1.out⟩
  · rw [hv] at HV
    have hl := valid_outs hv
    have hwl := IntWalk.i64_in ((c.outs.length : Int) - 1) (by omega)
    have Hin := Lib.hid (fun w' => l1In_any o 0 ((c.outs.length : Int) - 1) w')
    by_cases h0 : 0 ≤ o ∧ o < (c.outs.length : Int)
    · rw [show decide (0 ≤ o ∧ o ≤ (c.outs.length : Int) - 1) = true from decide_eq_true (by omega)] at Hin
      have t0 : decide (0 ≤ o) = true := decide_eq_true (by omega)
      have t1 : decide (o < (c.outs.length : Int)) = true := decide_eq_true (by omega)
      have HR : Hid (Cir.invI c o = !(Cir.violI c o).isSome) := Lib.hid (by unfold Cir.invI; rw [hv, t0, t1]; rfl)
      clear t0 t1
      rw [HR.out]
      clear HR hv hl h0
      go_enter Try.func41, Try.ntmps41
      go_wp2_with fail
      generalize w.alloc (.cells #[.int .i64 c.ins, .slice An c.next.length cn, .slice Ag c.gates.length cg, .slice Ao c.outs.length co] 30) = W at *
      refine HV.out.mono ?_
      rintro e w1 ⟨rfl, hb1⟩
      have B1 := Lib.hid (B0.out.trans (hb1.mono B0.out.size))
      have HC1 := Lib.hid (HC0.out.below hb1)
      have PC1 := Lib.hid (PC.out.below hb1)
      have z1 := hb1.size
      clear hb1 p0 p1 p2 p3 z HV PC HC0
      obtain ⟨z, p0, p1, p2, p3⟩ := PC1.out
      go_wp2_with fail
      refine (Hin.out w1).mono ?_
      rintro e w' ⟨rfl, rfl⟩
      clear Hin hwl
      go_wp2_with fail
      refine (specViol_any _ c o _ HC1.out).mono ?_
      rintro e w2 ⟨⟨v2, rfl, hO⟩, hb2⟩
      obtain ⟨A2, c2, hv2, -⟩ := hO.shape
      subst hv2
      have B2 := Lib.hid (B1.out.trans (hb2.mono B1.out.size))
      clear hb2 hO
      generalize hbb : (Cir.violI c o).isSome = bb at *
      have Hbb := Lib.hid hbb
      clear hbb
      have hff := viol_field0 bb A2 (vrows (Cir.nat c).ins (Cir.violI c o)).length c2
      go_wp2_with fail
      go_ret
      exact ⟨ret_bool (by rw [Hbb.out]), B2.out⟩
    · rw [show decide (0 ≤ o ∧ o ≤ (c.outs.length : Int) - 1) = false from decide_eq_false (by omega)] at Hin
      have HR : Hid (Cir.invI c o = false) := Lib.hid (by unfold Cir.invI; rw [hv]; exact inv_out h0)
      rw [HR.out]
      clear HR hv hl h0
      go_enter Try.func41, Try.ntmps41
      go_wp2_with fail
      generalize w.alloc (.cells #[.int .i64 c.ins, .slice An c.next.length cn, .slice Ag c.gates.length cg, .slice Ao c.outs.length co] 30) = W at *
      refine HV.out.mono ?_
      rintro e w1 ⟨rfl, hb1⟩
      have B1 := Lib.hid (B0.out.trans (hb1.mono B0.out.size))
      have HC1 := Lib.hid (HC0.out.below hb1)
      have PC1 := Lib.hid (PC.out.below hb1)
      have z1 := hb1.size
      clear hb1 p0 p1 p2 p3 z HV PC HC0
      obtain ⟨z, p0, p1, p2, p3⟩ := PC1.out
      go_wp2_with fail
      refine (Hin.out w1).mono ?_
      rintro e w' ⟨rfl, rfl⟩
      clear Hin hwl
      go_wp2_with fail
      go_ret
      exact ⟨rfl, B1.out⟩
end Go.Proofs.Ytmlcbikljlhhkaa
