import Derived.Test.YtmlmnelbphjfbaaS05
import Derived.Test.YtmlmnelbphjfbaaS04
import Derived.Test.YtmlmnelbphjfbaaS02
set_option linter.unusedVariables false
set_option linter.unusedSimpArgs false
namespace Go.Proofs.Ytmlmnelbphjfbaa
open Go.RowKit
set_option maxRecDepth 100000
/-! Drawn machines. -/
def DrawnMach (w : World) (e : Ending) (w' : World) : Prop := ∃ v m, e = .returned v ∧ MachAt w' v m ∧ Below w.heap.size w w'
set_option maxHeartbeats 8000000 in
theorem drawMachV_any (v : Value) (bs : List Int) (w : World) (h : Row w 1 v bs.length (bs.map (Value.int .u8))) (hb : ∀ x ∈ bs, (Lit.int .u8 x).wf = true) (hl : bs.length ≤ 1048576) :
    Calls Try.prog 7 #[v] w (DrawnMach w) := by
  have H := Lib.hid h
  clear h
  have hX := heap_alloc_new w (.cells #[.int .i64 0, .slice none 0 0, .slice none 0 0] 25)
  have HB0 := Lib.hid (bel_new w (.cells #[.int .i64 0, .slice none 0 0, .slice none 0 0] 25))
  have hs : (w.alloc (.cells #[.int .i64 0, .slice none 0 0, .slice none 0 0] 25)).heap.size = w.heap.size + 1 := by simp
  have HX := Lib.hid hX
  clear hX
  go_enter Try.func7, Try.ntmps7
  go_wp2_with fail
  have H0 := Lib.hid (H.out.alloc (.cells #[.int .i64 0, .slice none 0 0, .slice none 0 0] 25))
  generalize w.alloc (.cells #[.int .i64 0, .slice none 0 0, .slice none 0 0] 25) = W at *
  refine (open_any _ bs _ H0.out hb hl).mono ?_
  rintro e w1 ⟨rfl, hr1, hb1⟩
  rw [hs] at hr1
  have HZ1 := Lib.hid hr1.lt
  have Hr1 := Lib.hid hr1
  have Hb1 := Lib.hid (HB0.out.trans (hb1.mono HB0.out.size))
  have HX1 := Lib.hid ((hb1.block _ (by omega)).trans HX.out)
  clear hr1 hb1 HX HB0 H H0 hb hl
  go_wp2_with fail
  refine (l20Machine_any _ 0 2 _ Hr1.out (by omega) (by omega) (by omega)).mono ?_
  rintro e w2 ⟨v2, m, rfl, hm, hr2, hg2⟩
  have HX2 := Lib.hid (res_grown HX1.out hg2 (fun e => by have := Option.some.inj e; omega))
  have Hb2 := Lib.hid (Hb1.out.grown hg2 Hb1.out.size (fun k hk => by have := Option.some.inj hk; omega))
  obtain ⟨An, cn, Ao, co, rfl, -⟩ := MachAt.shape hm.at
  have HM := Lib.hid hm
  have hzw : w.heap.size < w1.heap.size := by have := HZ1.out; omega
  clear hr2 hg2 hm HX1 Hb1 Hr1
  have o0 := blk_cell HX2.out 0
  have o1 := blk_cell HX2.out 1
  have o2 := blk_cell HX2.out 2
  have f0 := blk_free HX2.out 0
  have f1 := blk_free HX2.out 1
  have f2 := blk_free HX2.out 2
  simp at o0 o1 o2
  go_wp2_with fail
  refine bodyPost_ret (v := .agg #[.int .i64 m.ins, .slice An m.next.length cn, .slice Ao m.out.length co]) (by simp [results, Try.results7, go_sem, o0, o1, o2]) rfl ⟨_, m, rfl, (MachIn.only HM.out (E := fun g => g = w.heap.size) ?_ (fun g hg e => by omega)).at, ?_⟩
  · exact ((Only.refl _ _).aft (Only.grown (set_grown _ _ _ _) fun k hk => (Option.some.inj hk).symm) fun g hg => .inr hg).aft (Only.grown (set_grown _ _ _ _) fun k hk => (Option.some.inj hk).symm) (fun g hg => .inr hg) |>.aft (Only.grown (set_grown _ _ _ _) fun k hk => (Option.some.inj hk).symm) (fun g hg => .inr hg)
  · exact ((Hb2.out.setCell (Nat.le_refl _) _).setCell (Nat.le_refl _) _).setCell (Nat.le_refl _) _
set_option maxHeartbeats 8000000 in
theorem drawMini_any (v : Value) (bs : List Int) (w : World) (h : Row w 1 v bs.length (bs.map (Value.int .u8))) (hb : ∀ x ∈ bs, (Lit.int .u8 x).wf = true) (hl : bs.length ≤ 1048576) :
    Calls Try.prog 15 #[v] w (DrawnMach w) := by
  have H := Lib.hid h
  clear h
  have hX := heap_alloc_new w (.cells #[.int .i64 0, .slice none 0 0, .slice none 0 0] 25)
  have HB0 := Lib.hid (bel_new w (.cells #[.int .i64 0, .slice none 0 0, .slice none 0 0] 25))
  have hs : (w.alloc (.cells #[.int .i64 0, .slice none 0 0, .slice none 0 0] 25)).heap.size = w.heap.size + 1 := by simp
  have HX := Lib.hid hX
  clear hX
  go_enter Try.func15, Try.ntmps15
  go_wp2_with fail
  have H0 := Lib.hid (H.out.alloc (.cells #[.int .i64 0, .slice none 0 0, .slice none 0 0] 25))
  generalize w.alloc (.cells #[.int .i64 0, .slice none 0 0, .slice none 0 0] 25) = W at *
  refine (open_any _ bs _ H0.out hb hl).mono ?_
  rintro e w1 ⟨rfl, hr1, hb1⟩
  rw [hs] at hr1
  have HZ1 := Lib.hid hr1.lt
  have Hr1 := Lib.hid hr1
  have Hb1 := Lib.hid (HB0.out.trans (hb1.mono HB0.out.size))
  have HX1 := Lib.hid ((hb1.block _ (by omega)).trans HX.out)
  clear hr1 hb1 HX HB0 H H0 hb hl
  go_wp2_with fail
  refine (l20Machine_any _ 0 9 _ Hr1.out (by omega) (by omega) (by omega)).mono ?_
  rintro e w2 ⟨v2, m, rfl, hm, hr2, hg2⟩
  have HX2 := Lib.hid (res_grown HX1.out hg2 (fun e => by have := Option.some.inj e; omega))
  have Hb2 := Lib.hid (Hb1.out.grown hg2 Hb1.out.size (fun k hk => by have := Option.some.inj hk; omega))
  obtain ⟨An, cn, Ao, co, rfl, -⟩ := MachAt.shape hm.at
  have HM := Lib.hid hm
  have hzw : w.heap.size < w1.heap.size := by have := HZ1.out; omega
  clear hr2 hg2 hm HX1 Hb1 Hr1
  have o0 := blk_cell HX2.out 0
  have o1 := blk_cell HX2.out 1
  have o2 := blk_cell HX2.out 2
  have f0 := blk_free HX2.out 0
  have f1 := blk_free HX2.out 1
  have f2 := blk_free HX2.out 2
  simp at o0 o1 o2
  go_wp2_with fail
  refine bodyPost_ret (v := .agg #[.int .i64 m.ins, .slice An m.next.length cn, .slice Ao m.out.length co]) (by simp [results, Try.results15, go_sem, o0, o1, o2]) rfl ⟨_, m, rfl, (MachIn.only HM.out (E := fun g => g = w.heap.size) ?_ (fun g hg e => by omega)).at, ?_⟩
  · exact ((Only.refl _ _).aft (Only.grown (set_grown _ _ _ _) fun k hk => (Option.some.inj hk).symm) fun g hg => .inr hg).aft (Only.grown (set_grown _ _ _ _) fun k hk => (Option.some.inj hk).symm) (fun g hg => .inr hg) |>.aft (Only.grown (set_grown _ _ _ _) fun k hk => (Option.some.inj hk).symm) (fun g hg => .inr hg)
  · exact ((Hb2.out.setCell (Nat.le_refl _) _).setCell (Nat.le_refl _) _).setCell (Nat.le_refl _) _
end Go.Proofs.Ytmlmnelbphjfbaa

namespace Go.Proofs.Ytmlmnelbphjfbaa
open Go.RowKit
set_option maxRecDepth 100000
/-! What laws do with slices of slices of ints. -/
end Go.Proofs.Ytmlmnelbphjfbaa

namespace Go.Proofs.Ytmlmnelbphjfbaa
open Go.RowKit
set_option maxRecDepth 100000
def SzMach (m : Mz) (w : World) (e : Ending) (w' : World) : Prop :=
  ∃ r : Int, e = .returned (.int .i64 r) ∧ (r = -1 ∨ (0 ≤ r ∧ r ≤ 1048576 ∧ m.next.length + total m.next + m.out.length + total m.out ≤ 1048576)) ∧ Below w.heap.size w w'
/-- What toMachine makes. -/
def OwnMach (B T : Nat) (v : Value) (m : Mz) (w : World) : Prop :=
  ∃ vn vo M, v = .agg #[.int .i64 m.ins, vn, vo] ∧ B ≤ M ∧ M ≤ T ∧ OwnIntSS B M w vn m.next ∧ OwnIntSS M T w vo m.out
theorem OwnMach.at {B T : Nat} {v : Value} {m : Mz} {w : World} (h : OwnMach B T v m w) : MachAt w v m := by
  obtain ⟨vn, vo, M, hv, _, _, h1, h2⟩ := h
  exact ⟨vn, vo, hv, OwnSS.at h1, OwnSS.at h2⟩
theorem OwnMach.below {B T : Nat} {v : Value} {m : Mz} {w w' : World} (h : OwnMach B T v m w) (hb : Below w.heap.size w w') : OwnMach B T v m w' := by
  obtain ⟨vn, vo, M, hv, e1, e2, h1, h2⟩ := h
  exact ⟨vn, vo, M, hv, e1, e2, OwnSS.below h1 hb, OwnSS.below h2 hb⟩
def ToMach (m : Mz) (w : World) (e : Ending) (w' : World) : Prop := ∃ v, e = .returned v ∧ OwnMach w.heap.size w'.heap.size v m w' ∧ Below w.heap.size w w'
theorem OwnMach.e {B T : Nat} {v : Value} {m : Mz} {w : World} (h : OwnMach B T v m w) : OwnMachE B T v m w := by
  obtain ⟨vn, vo, M, hv, e1, e2, h1, h2⟩ := h
  exact ⟨vn, vo, _, _, hv, fun g h => by have := h.2; omega, fun g h => by have := h.2; omega, fun g h h' => by have := h.2; have := h'.1; omega, OwnSS.se h1, OwnSE.mono (OwnSS.se h2) e1 (fun g h => h)⟩
end Go.Proofs.Ytmlmnelbphjfbaa

namespace Go.Proofs.Ytmlmnelbphjfbaa
open Go.RowKit
set_option maxRecDepth 100000
/-! MachineValid, both. -/
theorem ints_row {w : World} {B : Option Addr} {n m : Nat} {x : List Int} (h : Row w 1 (.slice B n m) n (ints x)) (hn : n = x.length) {i : Nat} {y : Int} (hy : x[i]? = some y) : ∃ b o, B = some ⟨b, o, none⟩ ∧ b < w.heap.size ∧ w.cell? ⟨b, o + i, none⟩ = some (.int .i64 y) := by
  subst hn
  obtain ⟨hi, _⟩ := List.getElem?_eq_some_iff.1 hy
  obtain ⟨b, o, c', hv, _, _, hbl, hcell⟩ := h.open (by omega)
  injection hv with hv1
  exact ⟨b, o, hv1, hbl, hcell i _ (by unfold ints; rw [List.getElem?_map, hy]; rfl)⟩
set_option maxHeartbeats 4000000 in
theorem rowsWithin_any (v : Value) (xss : List (List Int)) (N L : Nat) (w : World) (h : SSAt ints w v xss) (hN : N ≤ 4) (hL : L ≤ 8) :
    Calls Try.prog 21 #[v, .int .i64 N, .int .i64 L] w fun e w' => e = .returned (.bool (xss.all (Mac.rowOk N L))) ∧ w = w' := by
  obtain ⟨A, c, hv, hc, hcm⟩ := h.shape
  subst hv
  unfold maxLen at hcm
  have H := Lib.hid h
  obtain ⟨M, e, hM⟩ : ∃ M : Nat, (2 : Int) ^ N = (M : Int) ∧ M = 2 ^ N := ⟨2 ^ N, two_pow N, rfl⟩
  have hM16 : M ≤ 16 := by rw [hM]; exact Nat.pow_le_pow_right (show 0 < 2 by decide) hN
  have hwM := IntWalk.i64_in (M : Int) (by omega)
  have HLen : Hid (∀ r : List Int, Mac.rowOk N L r = (decide ((r.length : Int) = (M : Int)) && r.all (Mac.inOk L))) := Lib.hid fun r => by
    unfold Mac.rowOk Mac.lenOk
    rw [Int.toNat_natCast, ← hM]
  have h0 : Hid (xss.all (Mac.rowOk N L) = (xss.drop 0).all (Mac.rowOk N L)) := Lib.hid rfl
  generalize xss.all (Mac.rowOk N L) = res at h0 ⊢
  clear h hM
  go_enter Try.func21, Try.ntmps21
  go_wp2_with fail
  go_loop [13] (fun i => ∃ k : Nat, k ≤ xss.length ∧ i = .int .i64 k ∧ Hid (res = (xss.drop k).all (Mac.rowOk N L))) (fun i => xss.length - (intOf i).toNat)
  case atStart => exact ⟨0, Nat.zero_le _, rfl, h0⟩
  case round =>
    obtain ⟨k, hk, rfl, hres⟩ := hrel
    clear h0
    by_cases hlt : k < xss.length
    · obtain ⟨x, hx⟩ := at_some hlt
      obtain ⟨b, o, Bx, m, rfl, hbl, hc1, hm1, hm2, hr⟩ := ss_open H.out (Below.refl _ _) hx
      have Hr := Lib.hid hr
      have Hstep := Lib.hid (Mac.all_dropG (p := Mac.rowOk N L) hx)
      unfold maxLen at hm2
      clear hr hx
      by_cases hle : (x.length : Int) = (M : Int)
      · have hle2 : ((x.length : Int) != (M : Int)) = false := by rw [hle]; simp
        have Hn : Hid (res = ((x.drop 0).all (Mac.inOk L) && (xss.drop (k + 1)).all (Mac.rowOk N L))) := Lib.hid (by rw [hres.out, Hstep.out, HLen.out x, decide_eq_true hle]; rfl)
        clear hle
        go_wp2_with fail
        go_loop [24] (fun i => ∃ j : Nat, j ≤ x.length ∧ i = .int .i64 j ∧ Hid (res = ((x.drop j).all (Mac.inOk L) && (xss.drop (k + 1)).all (Mac.rowOk N L)))) (fun i => x.length - (intOf i).toNat)
        case atStart => exact ⟨0, Nat.zero_le _, rfl, Hn⟩
        case round =>
          obtain ⟨j, hj, rfl, hres2⟩ := hrel
          clear Hn
          by_cases hlj : j < x.length
          · obtain ⟨y, hy⟩ := at_some hlj
            obtain ⟨b2, o2, rfl, hbl2, hc2⟩ := ints_row Hr.out rfl hy
            have Hs2 := Lib.hid (Mac.all_dropG (p := Mac.inOk L) hy)
            clear hy
            by_cases hy0 : y < 0
            · obtain rfl : res = false := by rw [hres2.out, Hs2.out, show Mac.inOk L y = false from decide_eq_false (by omega)]; rfl
              go_wp2_with fail
              go_ret
              exact ⟨rfl, rfl⟩
            · by_cases hyL : (L : Int) ≤ y
              · obtain rfl : res = false := by rw [hres2.out, Hs2.out, show Mac.inOk L y = false from decide_eq_false (by omega)]; rfl
                go_wp2_with fail
                go_ret
                exact ⟨rfl, rfl⟩
              · have Hn3 : Hid (res = ((x.drop (j + 1)).all (Mac.inOk L) && (xss.drop (k + 1)).all (Mac.rowOk N L))) := Lib.hid (by rw [hres2.out, Hs2.out, show Mac.inOk L y = true from decide_eq_true (by omega)]; rfl)
                go_wp2_with fail
                go_round
                case rel => exact ⟨j + 1, by omega, by go_num, Hn3⟩
                case measure => simp [intOf] <;> omega
          · have Hn3 : Hid (res = (xss.drop (k + 1)).all (Mac.rowOk N L)) := Lib.hid (by rw [hres2.out, List.drop_eq_nil_of_le (by omega : x.length ≤ j)]; rfl)
            go_wp2_with fail
            go_round
            case rel => exact ⟨k + 1, by omega, by go_num, Hn3⟩
            case measure => simp [intOf] <;> omega
      · have hle2 : ((x.length : Int) != (M : Int)) = true := by simp; omega
        obtain rfl : res = false := by rw [hres.out, Hstep.out, HLen.out x, decide_eq_false hle]; rfl
        go_wp2_with fail
        go_ret
        exact ⟨rfl, rfl⟩
    · obtain rfl : res = true := by rw [hres.out, List.drop_eq_nil_of_le (by omega : xss.length ≤ k)]; rfl
      go_wp2_with fail
      go_ret
      exact ⟨rfl, rfl⟩
theorem mach_sizes {m : Mz} (h : Mac.sizes m = true) : 0 ≤ m.ins ∧ m.ins ≤ 4 ∧ 1 ≤ m.next.length ∧ m.next.length ≤ 8 ∧ m.out.length = m.next.length := by
  unfold Mac.sizes at h
  simpa using h
set_option maxHeartbeats 4000000 in
theorem implMValid_any (v : Value) (m : Mz) (w : World) (h : MachAt w v m) :
    Calls Try.prog 8 #[v] w fun e w' => e = .returned (.bool (Mac.valid m)) ∧ Below w.heap.size w w' := by
  obtain ⟨An, cn, Ao, co, rfl, lcn, lco, lcn2, lco2⟩ := h.shape
  obtain ⟨vn, vo, hv, r1, r2⟩ := h
  simp only [Value.agg.injEq, Array.mk.injEq, List.cons.injEq, and_true, true_and] at hv
  obtain ⟨rfl, rfl⟩ := hv
  unfold maxLen at lcn lco
  have B0 := Lib.hid (bel_alloc w (.cells #[.int .i64 m.ins, .slice An m.next.length cn, .slice Ao m.out.length co] 25))
  obtain ⟨z, p0, p1, p2⟩ := MCells.boxed w m.ins (.slice An m.next.length cn) (.slice Ao m.out.length co) 25
  have R1 := Lib.hid (r1.below B0.out)
  have R2 := Lib.hid (r2.below B0.out)
  generalize hW : w.alloc (.cells #[.int .i64 m.ins, .slice An m.next.length cn, .slice Ao m.out.length co] 25) = W at *
  clear r1 r2
  cases hs : Mac.sizes m
  · have hv : Mac.valid m = false := by unfold Mac.valid; rw [hs]; rfl
    rw [hv]
    rcases Mac.sizes_cases hs with g | ⟨g0, g1⟩ | ⟨g0, g1, g2⟩ | ⟨g0, g1, g2, g3⟩ | ⟨g0, g1, g2, g3, g4⟩
    case inr.inr.inr.inr =>
      have g5 : ((m.out.length : Int) != m.next.length) = true := by simpa using g4
      clear hs hv g4
      go_enter Try.func8, Try.ntmps8
      go_wp2_with fail
      go_ret
      exact ⟨rfl, B0.out⟩
    all_goals
      clear hs hv
      go_enter Try.func8, Try.ntmps8
      go_wp2_with fail
      go_ret
      exact ⟨rfl, B0.out⟩
  · obtain ⟨s1, s2, s3, s4, s5⟩ := mach_sizes hs
    have hv : Mac.valid m = (m.next.all (Mac.rowOk m.ins m.next.length) && m.out.all (Mac.rowOk m.ins 8)) := by unfold Mac.valid; rw [hs]; rfl
    rw [hv]
    obtain ⟨N, hN⟩ := Int.eq_ofNat_of_zero_le s1
    have hN4 : N ≤ 4 := by omega
    have C1 : Hid (∀ w, SSAt ints w (.slice An m.next.length cn) m.next → Calls Try.prog 21 #[.slice An m.next.length cn, .int .i64 m.ins, .int .i64 m.next.length] w fun e w' => e = .returned (.bool (m.next.all (Mac.rowOk m.ins m.next.length))) ∧ w = w') := Lib.hid fun w h => by rw [hN]; exact rowsWithin_any _ _ N _ w h hN4 s4
    have C2 : Hid (∀ w, SSAt ints w (.slice Ao m.out.length co) m.out → Calls Try.prog 21 #[.slice Ao m.out.length co, .int .i64 m.ins, .int .i64 8] w fun e w' => e = .returned (.bool (m.out.all (Mac.rowOk m.ins 8))) ∧ w = w') := Lib.hid fun w h => by rw [hN]; exact rowsWithin_any _ _ N 8 w h hN4 (Nat.le_refl _)
    have g5 : ((m.out.length : Int) != m.next.length) = false := by simp; omega
    have t1 : ¬ (m.ins < 0) := by omega
    have t2 : ¬ (4 < m.ins) := by omega
    have t3 : ¬ ((m.next.length : Int) < 1) := by omega
    have t4 : ¬ (8 < (m.next.length : Int)) := by omega
    have S5 := Lib.hid s5
    generalize m.next.all (Mac.rowOk m.ins m.next.length) = a1 at *
    generalize m.out.all (Mac.rowOk m.ins 8) = a2 at *
    clear hs hv hN s5 s1 s2 s3 s4
    cases a1
    · go_enter Try.func8, Try.ntmps8
      go_wp2_with fail
      refine (C1.out _ R1.out).mono ?_
      rintro e w' ⟨rfl, rfl⟩
      go_wp2_with fail
      go_ret
      exact ⟨rfl, B0.out⟩
    · go_enter Try.func8, Try.ntmps8
      go_wp2_with fail
      refine (C1.out _ R1.out).mono ?_
      rintro e w' ⟨rfl, rfl⟩
      go_wp2_with fail
      refine (C2.out _ R2.out).mono ?_
      rintro e w' ⟨rfl, rfl⟩
      go_wp2_with fail
      go_ret
      exact ⟨rfl, B0.out⟩
end Go.Proofs.Ytmlmnelbphjfbaa

namespace Go.Proofs.Ytmlmnelbphjfbaa
open Go.RowKit
set_option maxRecDepth 100000
theorem in_le (n x : Int) : decide (0 ≤ x ∧ x ≤ n - 1) = Mac.inOk n x := by
  unfold Mac.inOk
  exact decide_eq_decide.2 ⟨fun h => by omega, fun h => by omega⟩
theorem in_le8 (x : Int) : decide (0 ≤ x ∧ x ≤ 7) = Mac.inOk 8 x := in_le 8 x
set_option maxHeartbeats 8000000 in
theorem specMValid_any (v : Value) (m : Mz) (w : World) (h : MachAt w v m) :
    Calls Try.prog 9 #[v] w fun e w' => e = .returned (.bool (Mac.valid m)) ∧ Below w.heap.size w w' := by
  obtain ⟨An, cn, Ao, co, rfl, lcn, lco, lcn2, lco2⟩ := h.shape
  obtain ⟨vn, vo, hv, r1, r2⟩ := h
  simp only [Value.agg.injEq, Array.mk.injEq, List.cons.injEq, and_true, true_and] at hv
  obtain ⟨rfl, rfl⟩ := hv
  unfold maxLen at lcn lco
  have B0 := Lib.hid (bel_alloc w (.cells #[.int .i64 m.ins, .slice An m.next.length cn, .slice Ao m.out.length co] 25))
  have PC := Lib.hid (MCells.boxed w m.ins (.slice An m.next.length cn) (.slice Ao m.out.length co) 25)
  obtain ⟨z, p0, p1, p2⟩ := PC.out
  have R1 := Lib.hid (r1.below B0.out)
  have R2 := Lib.hid (r2.below B0.out)
  generalize hW : w.alloc (.cells #[.int .i64 m.ins, .slice An m.next.length cn, .slice Ao m.out.length co] 25) = W at *
  clear r1 r2
  cases hs : Mac.sizes m
  · have hv : Mac.valid m = false := by unfold Mac.valid; rw [hs]; rfl
    rw [hv]
    have hsc : (decide (0 ≤ m.ins ∧ m.ins ≤ 4) = false) ∨ (decide (0 ≤ m.ins ∧ m.ins ≤ 4) = true ∧ decide ((1 : Int) ≤ m.next.length ∧ (m.next.length : Int) ≤ 8) = false) ∨ (decide (0 ≤ m.ins ∧ m.ins ≤ 4) = true ∧ decide ((1 : Int) ≤ m.next.length ∧ (m.next.length : Int) ≤ 8) = true ∧ ((m.out.length : Int) != m.next.length) = true) := by
      rcases Mac.sizes_cases hs with g | ⟨g0, g1⟩ | ⟨g0, g1, g2⟩ | ⟨g0, g1, g2, g3⟩ | ⟨g0, g1, g2, g3, g4⟩
      · exact .inl (decide_eq_false (by omega))
      · exact .inl (decide_eq_false (by omega))
      · exact .inr (.inl ⟨decide_eq_true ⟨g0, g1⟩, decide_eq_false (by omega)⟩)
      · exact .inr (.inl ⟨decide_eq_true ⟨g0, g1⟩, decide_eq_false (by omega)⟩)
      · exact .inr (.inr ⟨decide_eq_true ⟨g0, g1⟩, decide_eq_true ⟨g2, g3⟩, by simpa using g4⟩)
    clear hs hv
    rcases hsc with h1 | ⟨h1, h2⟩ | ⟨h1, h2, h3⟩
    · have H1 := Lib.hid h1
      clear h1
      go_enter Try.func9, Try.ntmps9
      go_wp2_with fail
      refine (l1In_any _ _ _ _).mono ?_
      rintro e w' ⟨rfl, rfl⟩
      rw [H1.out]
      go_wp2_with fail
      go_ret
      exact ⟨rfl, B0.out⟩
    · have H1 := Lib.hid h1
      have H2 := Lib.hid h2
      clear h1 h2
      go_enter Try.func9, Try.ntmps9
      go_wp2_with fail
      refine (l1In_any _ _ _ _).mono ?_
      rintro e w' ⟨rfl, rfl⟩
      rw [H1.out]
      go_wp2_with fail
      refine (l1In_any _ _ _ _).mono ?_
      rintro e w' ⟨rfl, rfl⟩
      rw [H2.out]
      go_wp2_with fail
      go_ret
      exact ⟨rfl, B0.out⟩
    · have H1 := Lib.hid h1
      have H2 := Lib.hid h2
      clear h1 h2
      go_enter Try.func9, Try.ntmps9
      go_wp2_with fail
      refine (l1In_any _ _ _ _).mono ?_
      rintro e w' ⟨rfl, rfl⟩
      rw [H1.out]
      go_wp2_with fail
      refine (l1In_any _ _ _ _).mono ?_
      rintro e w' ⟨rfl, rfl⟩
      rw [H2.out]
      go_wp2_with fail
      go_ret
      exact ⟨rfl, B0.out⟩
  · obtain ⟨s1, s2, s3, s4, s5⟩ := mach_sizes hs
    have hv : Mac.valid m = ((m.next.zip m.out).drop 0).all (Mac.pairOk m.ins m.next.length) := by rw [Mac.valid_zip, hs]; rfl
    have H0 := Lib.hid hv
    have H1 : Hid (decide (0 ≤ m.ins ∧ m.ins ≤ 4) = true) := Lib.hid (decide_eq_true ⟨s1, s2⟩)
    have H2 : Hid (decide ((1 : Int) ≤ m.next.length ∧ (m.next.length : Int) ≤ 8) = true) := Lib.hid (decide_eq_true ⟨by omega, by omega⟩)
    have g5 : ((m.out.length : Int) != m.next.length) = false := by simp; omega
    have S5 := Lib.hid s5
    generalize Mac.valid m = res at *
    obtain ⟨N, hN⟩ := Int.eq_ofNat_of_zero_le s1
    have hN4 : N ≤ 4 := by omega
    obtain ⟨M, e, hM⟩ : ∃ M : Nat, (2 : Int) ^ N = (M : Int) ∧ M = 2 ^ N := ⟨2 ^ N, two_pow N, rfl⟩
    have hM16 : M ≤ 16 := by rw [hM]; exact Nat.pow_le_pow_right (show 0 < 2 by decide) hN4
    have hwM := IntWalk.i64_in (M : Int) (by omega)
    have HLen : Hid (∀ p : List Int × List Int, Mac.pairOk m.ins m.next.length p = (decide ((p.1.length : Int) = (M : Int)) && decide ((p.2.length : Int) = (M : Int)) && (p.1.zip p.2).all (Mac.entOk m.next.length))) := Lib.hid fun p => by
      unfold Mac.pairOk Mac.lenOk
      rw [hN, Int.toNat_natCast, ← hM]
    have HI1 := Lib.hid fun x : Int => in_le (m.next.length : Int) x
    have HI2 := Lib.hid in_le8
    rw [hN] at p0 PC H1 hW
    rw [hN]
    clear hs hv hM s5 s1 s2 hN
    go_enter Try.func9, Try.ntmps9
    go_wp2_with fail
    refine (l1In_any _ _ _ _).mono ?_
    rintro e w' ⟨rfl, rfl⟩
    rw [H1.out]
    go_wp2_with fail
    refine (l1In_any _ _ _ _).mono ?_
    rintro e w' ⟨rfl, rfl⟩
    rw [H2.out]
    go_wp2_with fail
    clear hW
    go_loopw [4] (fun i wr => ∃ k : Nat, k ≤ m.next.length ∧ i = .int .i64 k ∧ Hid (res = ((m.next.zip m.out).drop k).all (Mac.pairOk m.ins m.next.length)) ∧ Below W.heap.size W wr) (fun i _ => m.next.length - (intOf i).toNat)
    case atStart => exact ⟨0, Nat.zero_le _, rfl, H0, Below.refl _ _⟩
    case round =>
      obtain ⟨k, hk, rfl, hres, hb⟩ := hrel
      clear H0 p0 p1 p2
      by_cases hlt : k < m.next.length
      · obtain ⟨x, hx⟩ := at_some hlt
        obtain ⟨y, hy⟩ := at_some (show k < m.out.length by rw [S5.out]; exact hlt)
        have hko : k < m.out.length := by rw [S5.out]; exact hlt
        obtain ⟨b, o, Bx, mx, rfl, hbl, hc1, hm1, hm2, hr⟩ := ss_open R1.out hb hx
        obtain ⟨b', o', By, my, rfl, hbl', hc1', hm1', hm2', hr'⟩ := ss_open R2.out hb hy
        have Hr := Lib.hid hr
        have Hr' := Lib.hid hr'
        have Hstep := Lib.hid (Mac.all_dropG (p := Mac.pairOk m.ins m.next.length) (Mac.zip_get hx hy))
        obtain ⟨zr, p0, p1, p2⟩ := PC.out.below hb
        have g0 := gw_cell p0 zr
        have g1 := gw_cell p1 zr
        have g2 := gw_cell p2 zr
        have g3 := gw_cell hc1 (show b < wr.heap.size by have := hb.size; omega)
        have g4 := gw_cell hc1' (show b' < wr.heap.size by have := hb.size; omega)
        have Hb := Lib.hid hb
        have hz := hb.size
        unfold maxLen at hm2 hm2'
        have hko2 : k < co := by omega
        have hkn2 : k < cn := by omega
        clear hr hr' hx hy hb p0 p1 p2 hc1 hc1'
        by_cases hle : (x.length : Int) = (M : Int)
        · by_cases hle' : (y.length : Int) = (M : Int)
          · have hx2 : ((x.length : Int) != (M : Int)) = false := by rw [hle]; simp
            have hy2 : ((y.length : Int) != (M : Int)) = false := by rw [hle']; simp
            have Hn : Hid (res = (((x.zip y).drop 0).all (Mac.entOk m.next.length) && ((m.next.zip m.out).drop (k + 1)).all (Mac.pairOk m.ins m.next.length))) := Lib.hid (by rw [hres.out, Hstep.out, HLen.out (x, y), decide_eq_true hle, decide_eq_true hle']; rfl)
            have HMx : Hid (x.length = M) := Lib.hid (by omega)
            have HMy : Hid (y.length = M) := Lib.hid (by omega)
            clear hle hle'
            go_wp2_with fail
            refine wp_region_grow (by kernel_rfl) (by kernel_rfl) ?_
            repeat (go_big_quiet_step ((fail)))
            refine wpQuiet_nil ?_
            intro _ hw'
            obtain ⟨nq, hw''⟩ := hw'
            subst hw''
            have hgq := gw_below nq
            generalize gw nq = wq at *
            clear nq
            obtain ⟨W1, hW1⟩ : ∃ W1, W1 = wq := ⟨_, rfl⟩
            subst hW1
            have Hb1 := Lib.hid (Hb.out.trans (hgq.mono hz))
            have Hrq := Lib.hid (Hr.out.below hgq)
            have Hrq' := Lib.hid (Hr'.out.below hgq)
            obtain ⟨-, p0, p1, p2⟩ := PC.out.below Hb1.out
            have q3 := (hgq.cell (p := ⟨b, o + k, none⟩) (show b < wr.heap.size by omega)).trans (g3 ⟨wr, Below.refl _ _⟩)
            have q4 := (hgq.cell (p := ⟨b', o' + k, none⟩) (show b' < wr.heap.size by omega)).trans (g4 ⟨wr, Below.refl _ _⟩)
            clear hgq g0 g1 g2 g3 g4
            go_wp2_with fail
            go_loop [5] (fun i => ∃ j : Nat, j ≤ M ∧ i = .int .i64 j ∧ Hid (res = (((x.zip y).drop j).all (Mac.entOk m.next.length) && ((m.next.zip m.out).drop (k + 1)).all (Mac.pairOk m.ins m.next.length)))) (fun i => M - (intOf i).toNat)
            case atStart => exact ⟨0, Nat.zero_le _, rfl, Hn⟩
            case round =>
              obtain ⟨j, hj, rfl, hres2⟩ := hrel
              clear Hn
              by_cases hlj : j < M
              · obtain ⟨xe, hxe⟩ := at_some (show j < x.length by rw [HMx.out]; exact hlj)
                obtain ⟨ye, hye⟩ := at_some (show j < y.length by rw [HMy.out]; exact hlj)
                have hjx : j < x.length := by rw [HMx.out]; exact hlj
                have hjy : j < y.length := by rw [HMy.out]; exact hlj
                have hjx2 : j < mx := by omega
                have hjy2 : j < my := by omega
                obtain ⟨b2, o2, rfl, hbl2, hc2⟩ := ints_row Hrq.out rfl hxe
                obtain ⟨b3, o3, rfl, hbl3, hc3⟩ := ints_row Hrq'.out rfl hye
                have Hs2 := Lib.hid (Mac.all_dropG (p := Mac.entOk m.next.length) (Mac.zip_get hxe hye))
                have HE : Hid (Mac.entOk m.next.length (xe, ye) = (Mac.inOk m.next.length xe && Mac.inOk 8 ye)) := Lib.hid rfl
                clear hxe hye
                cases h1 : Mac.inOk m.next.length xe
                · have HH1 := Lib.hid h1
                  obtain rfl : res = false := by rw [hres2.out, Hs2.out, HE.out, h1]; rfl
                  clear h1
                  go_wp2_with fail
                  refine (l1In_any _ _ _ _).mono ?_
                  rintro e w' ⟨rfl, rfl⟩
                  rw [HI1.out, HH1.out]
                  go_wp2_with fail
                  go_ret
                  exact ⟨rfl, B0.out.trans (Hb1.out.mono B0.out.size)⟩
                · have HH1 := Lib.hid h1
                  cases h2 : Mac.inOk 8 ye
                  · have HH2 := Lib.hid h2
                    obtain rfl : res = false := by rw [hres2.out, Hs2.out, HE.out, h1, h2]; rfl
                    clear h1 h2
                    go_wp2_with fail
                    refine (l1In_any _ _ _ _).mono ?_
                    rintro e w' ⟨rfl, rfl⟩
                    rw [HI1.out, HH1.out]
                    go_wp2_with fail
                    refine (l1In_any _ _ _ _).mono ?_
                    rintro e w' ⟨rfl, rfl⟩
                    rw [HI2.out, HH2.out]
                    go_wp2_with fail
                    go_ret
                    exact ⟨rfl, B0.out.trans (Hb1.out.mono B0.out.size)⟩
                  · have HH2 := Lib.hid h2
                    have Hn3 : Hid (res = (((x.zip y).drop (j + 1)).all (Mac.entOk m.next.length) && ((m.next.zip m.out).drop (k + 1)).all (Mac.pairOk m.ins m.next.length))) := Lib.hid (by rw [hres2.out, Hs2.out, HE.out, h1, h2]; rfl)
                    clear h1 h2
                    go_wp2_with fail
                    refine (l1In_any _ _ _ _).mono ?_
                    rintro e w' ⟨rfl, rfl⟩
                    rw [HI1.out, HH1.out]
                    go_wp2_with fail
                    refine (l1In_any _ _ _ _).mono ?_
                    rintro e w' ⟨rfl, rfl⟩
                    rw [HI2.out, HH2.out]
                    go_wp2_with fail
                    go_round
                    case rel => exact ⟨j + 1, by omega, by go_num, Hn3⟩
                    case measure => simp [intOf] <;> omega
              · have Hn3 : Hid (res = ((m.next.zip m.out).drop (k + 1)).all (Mac.pairOk m.ins m.next.length)) := Lib.hid (by rw [hres2.out, List.drop_eq_nil_of_le (by rw [List.length_zip, HMx.out]; omega)]; rfl)
                go_wp2_with fail
                go_roundw
                case rel => exact ⟨k + 1, by omega, by go_num, Hn3, Hb1.out⟩
                case measure => simp [intOf] <;> omega
          · have hx2 : ((x.length : Int) != (M : Int)) = false := by rw [hle]; simp
            have hy2 : ((y.length : Int) != (M : Int)) = true := by simp; omega
            obtain rfl : res = false := by rw [hres.out, Hstep.out, HLen.out (x, y), decide_eq_true hle, decide_eq_false hle']; rfl
            clear hle hle'
            go_wp2_with fail
            refine wp_region_grow (by kernel_rfl) (by kernel_rfl) ?_
            repeat (go_big_quiet_step ((fail)))
            refine wpQuiet_nil ?_
            intro _ hw'
            obtain ⟨nq, hw''⟩ := hw'
            subst hw''
            have hgq := gw_below nq
            generalize gw nq = wq at *
            clear nq
            have Hb1 := Lib.hid (Hb.out.trans (hgq.mono hz))
            clear hgq g0 g1 g2 g3 g4
            go_wp2_with fail
            go_ret
            exact ⟨rfl, B0.out.trans (Hb1.out.mono B0.out.size)⟩
        · have hx2 : ((x.length : Int) != (M : Int)) = true := by simp; omega
          obtain rfl : res = false := by rw [hres.out, Hstep.out, HLen.out (x, y), decide_eq_false hle]; rfl
          clear hle
          go_wp2_with fail
          refine wp_region_grow (by kernel_rfl) (by kernel_rfl) ?_
          repeat (go_big_quiet_step ((fail)))
          refine wpQuiet_nil ?_
          intro _ hw'
          obtain ⟨nq, hw''⟩ := hw'
          subst hw''
          have hgq := gw_below nq
          generalize gw nq = wq at *
          clear nq
          have Hb1 := Lib.hid (Hb.out.trans (hgq.mono hz))
          clear hgq g0 g1 g2 g3 g4
          go_wp2_with fail
          go_ret
          exact ⟨rfl, B0.out.trans (Hb1.out.mono B0.out.size)⟩
      · obtain rfl : res = true := by rw [hres.out, List.drop_eq_nil_of_le (by rw [List.length_zip]; omega)]; rfl
        go_wp2_with fail
        go_ret
        exact ⟨rfl, B0.out.trans (hb.mono B0.out.size)⟩
end Go.Proofs.Ytmlmnelbphjfbaa
