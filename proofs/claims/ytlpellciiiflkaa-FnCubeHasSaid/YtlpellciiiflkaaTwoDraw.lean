import Derived.Test.YtlpellciiiflkaaTwoD
import Derived.Test.YtlpellciiiflkaaGrow
import Derived.Test.YtlpellciiiflkaaDraw
namespace Go.Proofs.Ytlpellciiiflkaa
open Go.RowKit

/-- The cube and the number that DrawCubeHas draws. -/
def DrewCube (w : World) (e : Ending) (w' : World) : Prop :=
  ∃ (C P : Nat) (x : Int), e = .returned (.tuple #[.agg #[.int .i64 C, .int .i64 ((P &&& C : Nat) : Int)], .int .i64 x]) ∧ C < 16 ∧ P < 16 ∧ -1 ≤ x ∧ x ≤ 16 ∧ Below w.heap.size w w'
theorem drawCube_any (v : Value) (bs : List Int) (w : World) (h : Row w 1 v bs.length (bs.map (Value.int .u8))) (hb : ∀ x ∈ bs, (Lit.int .u8 x).wf = true) (hl : bs.length ≤ 1048576) :
    Calls Try.prog 16 #[v] w (DrewCube w) := by
  have H := Lib.hid h
  clear h
  go_enter Try.func16, Try.ntmps16
  go_wp2_with fail
  refine (open_any _ bs _ (H.out.alloc _) hb hl).mono ?_
  rintro e w1 ⟨rfl, hr1, hb1⟩
  have Hr1 : Hid (Rd w1 (w.heap.size + 1) 0) := Lib.hid (by simpa using hr1)
  have Hb1 := Lib.hid (((Below.refl _ w).alloc (Nat.le_refl _) _).trans (hb1.mono (by simp)))
  have Hz1 := Lib.hid Hr1.out.lt
  clear hr1
  have HB := Lib.hid hb1
  clear hb1
  go_wp2_with fail
  refine (pick_any 16 _ 0 _ Hr1.out (by omega) (by omega) (by omega)).mono ?_
  rintro e w2 ⟨x, hx0, hx1, rfl, hr2, hg2⟩
  obtain ⟨C, rfl⟩ := Int.eq_ofNat_of_zero_le hx0
  have Hr2 := Lib.hid hr2
  have Hg2 := Lib.hid hg2
  clear hr2 hg2
  go_wp2_with fail
  refine (pick_any 16 _ 1 _ Hr2.out (by omega) (by omega) (by omega)).mono ?_
  rintro e w3 ⟨x, hy0, hy1, rfl, hr3, hg3⟩
  obtain ⟨P, rfl⟩ := Int.eq_ofNat_of_zero_le hy0
  have Hr3 := Lib.hid hr3
  have Hg3 := Lib.hid (grownBy_trans Hg2.out hg3)
  clear hr3 hg3 Hr2 Hg2
  have hand := i64_and_nat P C (by omega) (by omega)
  go_wp2_with fail
  refine (pick_any 18 _ 2 _ Hr3.out (by omega) (by omega) (by omega)).mono ?_
  rintro e w4 ⟨x, hx0, hx1, rfl, hr4, hg4⟩
  have hg5 := grownBy_trans Hg3.out hg4
  have hz1 : w.heap.size + 1 < w1.heap.size := Hz1.out
  have hb4 := HB.out.block w.heap.size (by simp)
  have hk := hg5.block w.heap.size (by omega) (by simp)
  rw [hb4, heap_alloc_new] at hk
  have c0 := blk_cell hk 0
  have c1 := blk_cell hk 1
  have f0 := blk_free hk 0
  have f1 := blk_free hk 1
  simp only [List.getElem?_toArray, List.getElem?_cons_zero, List.getElem?_cons_succ] at c0 c1
  have hz4 := hg5.size
  have Hb := Lib.hid (((Below.refl _ w).alloc (Nat.le_refl _) (.cells #[.int .i64 0, .int .i64 0] 25)).trans (HB.out.mono (by simp)) |>.grown hg5 (by omega) (by simp) : Below w.heap.size w w4)
  clear hk hb4 hg4 hg5 hz1
  go_wp2
  refine bodyPost_ret (v := .tuple #[.agg #[.int .i64 C, .int .i64 ((P &&& C : Nat) : Int)], .int .i64 (x - 1)]) (by simp [results, Try.results16, go_sem, c0, c1]) rfl ⟨C, P, x - 1, rfl, by omega, by omega, by omega, by omega, (Hb.out.setCell (Nat.le_refl _) _).setCell (Nat.le_refl _) _⟩
end Go.Proofs.Ytlpellciiiflkaa
