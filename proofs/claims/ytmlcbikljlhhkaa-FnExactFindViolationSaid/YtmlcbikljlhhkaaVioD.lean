import Derived.Test.YtmlcbikljlhhkaaVioC
namespace Go.Proofs.Ytmlcbikljlhhkaa
open Go.RowKit
set_option maxRecDepth 100000
/-! FindViolation, by the program. -/
namespace Cir
def violI (c : Cz) (o : Int) : Option (List Nat) := if valid c = true ∧ 0 ≤ o ∧ o < c.outs.length then viol (nat c) o.toNat else none
end Cir
def vrows (ins : Nat) : Option (List Nat) → List (List Bool)
  | none => []
  | some p => rowsOf ins p
def OwnViol (ins : Nat) (r : Option (List Nat)) (w : World) (e : Ending) (w' : World) : Prop := ∃ v, e = .returned (.agg #[.bool r.isSome, v]) ∧ OwnBoolSS w.heap.size w'.heap.size w' v (vrows ins r) ∧ Below w.heap.size w w'
theorem OwnSS.set {α : Type} {enc : List α → List Value} {to ti : TypeId} {B T : Nat} {w : World} {v : Value} {xss : List (List α)} {g i : Nat} {u : Value} (h : OwnSS enc to ti B T w v xss) (hg : g < B) : OwnSS enc to ti B T (w.setCell ⟨g, i, none⟩ u) v xss := by
  refine h.only (E := fun k => k = g) (Only.grown (set_grown w g i u) fun k hk => (Option.some.inj hk).symm) (fun k hk _ e => by omega)
theorem viol_cases {c : Cz} {o : Int} (h : ¬ (Cir.valid c = true ∧ 0 ≤ o ∧ o < c.outs.length)) : Cir.valid c = false ∨ (Cir.valid c = true ∧ o < 0) ∨ (Cir.valid c = true ∧ 0 ≤ o ∧ (c.outs.length : Int) ≤ o) := by
  cases hv : Cir.valid c
  · exact .inl rfl
  · rw [hv] at h
    rcases Int.lt_or_le o 0 with h1 | h1
    · exact .inr (.inl ⟨rfl, h1⟩)
    · rcases Int.lt_or_le o c.outs.length with h2 | h2
      · exact absurd ⟨rfl, h1, h2⟩ h
      · exact .inr (.inr ⟨rfl, h1, h2⟩)
set_option maxHeartbeats 4000000
theorem implViol_ok (v : Value) (d : Ci) (o : Nat) (w : World) (h : CircAt w v (Cir.toCz d)) (hd : Cir.Ok d) (hv : Cir.valid (Cir.toCz d) = true) (ho : o < d.outs.length) :
    Calls Try.prog 44 #[v, .int .i64 o] w (OwnViol d.ins (Cir.viol d o) w) := by
  have l1 := hd.ins
  have HC := Lib.hid h
  obtain ⟨vn, vg, vo, rfl, r1, r2, r3⟩ := h
  obtain ⟨Ao, co, rfl, hco, hcom⟩ := NatsAt.shape (xs := d.outs) r3
  have hins : (Cir.toCz d).ins = (d.ins : Int) := rfl
  have HP := Lib.hid (PCirc.boxed (c := Cir.toCz d) 30 r1 r2 r3)
  rw [hins] at HC HP ⊢
  have hb0 := bel_new w (.cells #[.int .i64 d.ins, vn, vg, .slice Ao d.outs.length co] 30)
  have hb1 := bel_new (w.alloc (.cells #[.int .i64 d.ins, vn, vg, .slice Ao d.outs.length co] 30)) (.cells #[.int .i64 o] 3)
  have hb2 := bel_new ((w.alloc (.cells #[.int .i64 d.ins, vn, vg, .slice Ao d.outs.length co] 30)).alloc (.cells #[.int .i64 o] 3)) (.cells #[.bool false, .slice none 0 0] 55)
  have hb12 := hb1.trans (hb2.mono hb1.size)
  have B0 := Lib.hid (hb0.trans (hb12.mono hb0.size))
  have HP := Lib.hid (HP.out.below hb12)
  have PC := Lib.hid ((PCells.boxed w d.ins vn vg (.slice Ao d.outs.length co) 30).below hb12)
  have hsz : (((w.alloc (.cells #[.int .i64 d.ins, vn, vg, .slice Ao d.outs.length co] 30)).alloc (.cells #[.int .i64 o] 3)).alloc (.cells #[.bool false, .slice none 0 0] 55)).heap.size = w.heap.size + 1 + 1 + 1 := by simp
  have hR : (((w.alloc (.cells #[.int .i64 d.ins, vn, vg, .slice Ao d.outs.length co] 30)).alloc (.cells #[.int .i64 o] 3)).alloc (.cells #[.bool false, .slice none 0 0] 55)).heap[w.heap.size + 1 + 1]? = some (.cells #[.bool false, .slice none 0 0] 55 (0, 0)) := by
    have := heap_alloc_new ((w.alloc (.cells #[.int .i64 d.ins, vn, vg, .slice Ao d.outs.length co] 30)).alloc (.cells #[.int .i64 o] 3)) (.cells #[.bool false, .slice none 0 0] 55)
    rwa [World.size_alloc, World.size_alloc] at this
  have HRes := Lib.hid hR
  have hGo : (((w.alloc (.cells #[.int .i64 d.ins, vn, vg, .slice Ao d.outs.length co] 30)).alloc (.cells #[.int .i64 o] 3)).alloc (.cells #[.bool false, .slice none 0 0] 55)).cell? ⟨w.heap.size + 1, 0, none⟩ = some (.int .i64 o) := by
    have h1 := heap_alloc_new (w.alloc (.cells #[.int .i64 d.ins, vn, vg, .slice Ao d.outs.length co] 30)) (.cells #[.int .i64 o] 3)
    rw [World.size_alloc] at h1
    have h2 := (hb2.block (w.heap.size + 1) (by simp)).trans h1
    exact blk_cell h2 0
  have HGo := Lib.hid hGo
  obtain ⟨z, p0, p1, p2, p3⟩ := PC.out
  have HC0 := Lib.hid (HC.out.below B0.out)
  have HV := Lib.hid (implValid_any _ _ _ HC0.out)
  rw [hv] at HV
  have Hd := Lib.hid hd
  have Ho := Lib.hid ho
  have t1 : decide ((o : Int) < 0) = false := decide_eq_false (by omega)
  have t2 : decide (d.outs.length ≤ o) = false := decide_eq_false (by omega)
  clear r1 r2 r3 hd hins hv HC hb0 hb1 hb2 hb12 hR ho hco hcom hGo
  go_enter Try.func44, Try.ntmps44
  go_wp2_with fail
  generalize ((w.alloc (.cells #[.int .i64 d.ins, vn, vg, .slice Ao d.outs.length co] 30)).alloc (.cells #[.int .i64 o] 3)).alloc (.cells #[.bool false, .slice none 0 0] 55) = W at *
  refine HV.out.mono ?_
  rintro e w1 ⟨rfl, hb1⟩
  have B1 := Lib.hid (B0.out.trans (hb1.mono B0.out.size))
  have HP1 := Lib.hid (HP.out.below hb1)
  have HRes1 := Lib.hid ((hb1.block _ (by omega)).trans HRes.out)
  have PC1 := Lib.hid (PC.out.below hb1)
  have c1 := (hb1.cell (p := ⟨w.heap.size + 1, 0, none⟩) (by simp only; omega)).trans HGo.out
  have HGo1 := Lib.hid c1
  have z1 := hb1.size
  clear hb1 p0 p1 p2 p3 z HV HP HC0 HRes PC HGo
  obtain ⟨z, p0, p1, p2, p3⟩ := PC1.out
  go_wp2_with fail
  refine (searchV_any w.heap.size (w.heap.size + 1) d o _ HP1.out HGo1.out (by omega) Hd.out Ho.out).mono ?_
  intro e w2 hS
  generalize Cir.viol d o = R at *
  cases R with
  | none =>
    obtain ⟨rfl, hb2⟩ := hS
    have hR2 := (hb2.block (w.heap.size + 1 + 1) (by omega)).trans HRes1.out
    have o0 := blk_cell hR2 0
    have o1 := blk_cell hR2 1
    have b0 := blk_free hR2 0
    have b1 := blk_free hR2 1
    simp at o0 o1
    have B2 := Lib.hid (B1.out.trans (hb2.mono B1.out.size))
    clear hb2 hR2 p0 p1 p2 p3
    go_wp2_with fail
    refine bodyPost_ret (v := .agg #[.bool false, .slice none 0 0]) (by simp [results, Try.results44, go_sem, o0, o1]) rfl ⟨_, rfl, OwnSS.nil _ _ _ _ _ _, ?_⟩
    exact ((B2.out.setCell (by simp only; omega) _).setCell (by simp only; omega) _)
  | some p =>
    obtain ⟨v2, rfl, hO, hb2⟩ := hS
    have hR2 := (hb2.block (w.heap.size + 1 + 1) (by omega)).trans HRes1.out
    have o0 := blk_cell hR2 0
    have o1 := blk_cell hR2 1
    have b0 := blk_free hR2 0
    have b1 := blk_free hR2 1
    simp at o0 o1
    have B2 := Lib.hid (B1.out.trans (hb2.mono B1.out.size))
    have HO := Lib.hid hO
    obtain ⟨A2, c2, hv2, -⟩ := hO.at.shape
    subst hv2
    clear hb2 hR2 p0 p1 p2 p3 hO
    go_wp2_with fail
    refine bodyPost_ret (v := .agg #[.bool true, .slice A2 (rowsOf d.ins p).length c2]) (by simp [results, Try.results44, go_sem, o0, o1]) rfl ⟨_, rfl, ?_, ?_⟩
    · exact (OwnSS.set (OwnSS.set (HO.out) (by omega)) (by omega)).mono (by omega) (by simp [World.setCell])
    · exact ((B2.out.setCell (by simp only; omega) _).setCell (by simp only; omega) _)
end Go.Proofs.Ytmlcbikljlhhkaa
