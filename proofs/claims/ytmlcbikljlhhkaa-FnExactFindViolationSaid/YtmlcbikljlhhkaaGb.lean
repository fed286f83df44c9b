import Derived.Test.YtmlcbikljlhhkaaProg
import Derived.Test.YtmlcbikljlhhkaaGa
import Derived.StillTailTactics
import Derived.Maps.Views
import Derived.Maps.OwnOps
import Derived.Maps.RangeWalk
namespace Go.Proofs.Ytmlcbikljlhhkaa
open Go.RowKit
/-! What laws do with slices of booleans. -/
theorem info_bool : (Try.prog.info? 4).map (fun i => (i.zero, i.size, i.bytes)) = some (some (.bool false), 1, 1) := by kernel_rfl

theorem toBoolS_any (v : Value) (xs : List Bool) (w : World) (h : BoolsAt w v xs) (hlen : xs.length ≤ 1048576) :
    Calls Try.prog 81 #[v] w
      fun e w' => ∃ v', e = .returned v' ∧ w'.ownsRow w.heap.size 4 1 v' xs.length (bools xs) ∧ Below w.heap.size w w' := by
  have hmk := run_make_row' (P := Try.prog) 78 4 (.bool false) 1 Try.underlying78 info_bool rfl .i64 .i64 xs.length (by omega) (by omega)
  obtain ⟨A, c, hv, hc, hcm⟩ := h.shape
  subst hv
  go_enter Try.func81, Try.ntmps81
  go_wp2
  have hr0 := h.alloc (.cells (madeCells #[Value.bool false] xs.length) 4)
  have hown0 := World.ownsRow_lit (base := w.heap.size) (e := 4) (size := 1) w (madeCells #[Value.bool false] xs.length) xs.length (Nat.le_refl _) (by unfold maxLen; omega) (by simp [madeCells])
  have hb0 : Below w.heap.size w (w.alloc (.cells (madeCells #[Value.bool false] xs.length) 4)) := (Below.refl _ _).alloc (Nat.le_refl _) _
  go_loopw [4] (fun i wr => ∃ (k : Nat) (cs : List Value), k ≤ xs.length ∧ i = .int .i64 k ∧ wr.ownsRow w.heap.size 4 1 (.slice (some ⟨w.heap.size, 0, none⟩) xs.length xs.length) xs.length cs ∧ cs.take k = (bools xs).take k ∧ Below w.heap.size w wr)
    (fun i _ => xs.length - (intOf i).toNat)
  case atStart => exact ⟨0, _, Nat.zero_le _, rfl, hown0, rfl, hb0⟩
  case round =>
    obtain ⟨k, cs, hk, rfl, hown, htk, hb⟩ := hrel
    clear hmk hr0 hown0 hb0
    by_cases hlt : k < xs.length
    · obtain ⟨b, o, c', hv, _, _, hbl, hcell⟩ := h.open (by omega)
      obtain ⟨rfl, _⟩ : A = some ⟨b, o, none⟩ ∧ True := by injection hv with e1; exact ⟨e1, trivial⟩
      obtain ⟨x, hx, hs⟩ := bools_at hlt
      have hsrc : wr.cell? ⟨b, o + k, none⟩ = some (.bool x) := (hb.cell (p := ⟨b, o + k, none⟩) hbl).trans (hcell k _ hs)
      have hl := hown.1
      obtain ⟨u0, _, hd, hf⟩ := own_slot hown (j := k) (by omega)
      have Hown := Lib.hid (hown.stored k (.bool x)).1
      have Hstep := Lib.hid (take_set_succ (by omega) htk hs)
      clear hcell hv hx hs hl htk hown h
      go_wp2
      go_roundw
      case rel => exact ⟨k + 1, _, by omega, by go_num, Hown.out, Hstep.out, hb.setCell (Nat.le_refl _) _⟩
      case measure => simp [intOf]; omega
    · go_wp2
      go_ret
      have e : cs = bools xs := by
        have hl := hown.1
        rw [List.take_of_length_le (by omega), List.take_of_length_le (by rw [bools_length]; omega)] at htk
        exact htk
      exact ⟨_, rfl, e ▸ hown, hb⟩

theorem eqBoolS_any (v v2 : Value) (xs ys : List Bool) (w : World) (h : BoolsAt w v xs) (h2 : BoolsAt w v2 ys) (hlen : xs.length ≤ 1048576) :
    Calls Try.prog 86 #[v, v2] w
      fun e w' => e = .returned (.bool (decide (xs = ys))) ∧ Drew w w' := by
  obtain ⟨A, c, hv, hc, hcm⟩ := h.shape
  obtain ⟨A2, c2, hv2, hc2, hcm2⟩ := h2.shape
  subst hv hv2
  by_cases he : xs.length = ys.length
  · have hb := Lib.hid he
    have he1 : ((xs.length : Int) != (ys.length : Int)) = false := by rw [he]; simp
    have he2 : xs.length ≤ ys.length := by omega
    clear he
    go_enter Try.func86, Try.ntmps86
    go_wp2
    go_loopw [5] (fun i wr => ∃ (k : Nat), k ≤ xs.length ∧ i = .int .i64 k ∧ xs.take k = ys.take k ∧ Drew w wr)
      (fun i _ => xs.length - (intOf i).toNat)
    case atStart => exact ⟨0, Nat.zero_le _, rfl, rfl, Drew.refl _⟩
    case round =>
      obtain ⟨k, hk, rfl, htk, hd⟩ := hrel
      by_cases hlt : k < xs.length
      · obtain ⟨b, o, c', hv, _, _, hbl, hcell⟩ := h.open (by omega)
        obtain ⟨rfl, _⟩ : A = some ⟨b, o, none⟩ ∧ True := by injection hv with e1; exact ⟨e1, trivial⟩
        obtain ⟨b2, o2, c2', hv2, _, _, hbl2, hcell2⟩ := h2.open (by omega)
        obtain ⟨rfl, _⟩ : A2 = some ⟨b2, o2, none⟩ ∧ True := by injection hv2 with e1; exact ⟨e1, trivial⟩
        obtain ⟨x, hx, hs⟩ := bools_at hlt
        obtain ⟨y, hy, hs2⟩ := bools_at (xs := ys) (i := k) (by omega)
        have hsrc : wr.cell? ⟨b, o + k, none⟩ = some (.bool x) := (hd.cell _).trans (hcell k _ hs)
        have hsrc2 : wr.cell? ⟨b2, o2 + k, none⟩ = some (.bool y) := (hd.cell _).trans (hcell2 k _ hs2)
        have Hx := Lib.hid hx
        have Hy := Lib.hid hy
        have Ht := Lib.hid htk
        clear hcell hcell2 hv hv2 hs hs2 hx hy htk h h2
        go_wp2
        go_quiet (fail)
        go_wp2
        · go_ret
          have hn : x ≠ y := bne_iff_ne.1 (by assumption)
          exact ⟨ret_bool (decide_eq_false (take_ne Hx.out Hy.out hn)).symm, hd.more _⟩
        · go_roundw
          case rel =>
            have hn : x = y := by have hz : (x != y) = false := by assumption
                                  simpa using hz
            exact ⟨k + 1, by omega, by go_num, by rw [take_snoc Hx.out, take_snoc Hy.out, Ht.out, hn], hd.more _⟩
          case measure => simp [intOf]; omega
      · go_wp2
        go_ret
        have e : xs = ys := by
          rw [List.take_of_length_le (by omega), List.take_of_length_le (by have := hb.out; omega)] at htk
          exact htk
        exact ⟨ret_bool (decide_eq_true e).symm, hd⟩
  · have hn : xs ≠ ys := fun e => he (by rw [e])
    have Hn := Lib.hid hn
    have he1 : ((xs.length : Int) != (ys.length : Int)) = true := by rw [bne_iff_ne]; omega
    clear he hn
    go_enter Try.func86, Try.ntmps86
    go_wp2
    go_ret
    exact ⟨ret_bool (decide_eq_false Hn.out).symm, Drew.refl _⟩
theorem szBoolS_ok (v : Value) (n : Nat) (cs : List Value) (w : World) (left : Int) (h : Row w 1 v n cs) (hl : left ≤ 1048576) (hn : (n : Int) ≤ left) :
    Calls Try.prog 77 #[v, .int .i64 left] w
      fun e w' => e = .returned (.int .i64 (left - n)) ∧ w = w' := by
  obtain ⟨A, c, hv, hc, hcm⟩ := h.shape
  subst hv
  unfold maxLen at hcm
  have h0 : 0 ≤ left - n := by omega
  go_enter Try.func77, Try.ntmps77
  go_wp2
  go_ret
  exact ⟨rfl, rfl⟩
theorem szBoolS_no (v : Value) (n : Nat) (cs : List Value) (w : World) (left : Int) (h : Row w 1 v n cs) (hl : 0 ≤ left) (hl2 : left ≤ 1048576) (hn : left < n) :
    Calls Try.prog 77 #[v, .int .i64 left] w
      fun e w' => e = .returned (.int .i64 (-1)) ∧ w = w' := by
  obtain ⟨A, c, hv, hc, hcm⟩ := h.shape
  subst hv
  unfold maxLen at hcm
  have h0 : left - n < 0 := by omega
  go_enter Try.func77, Try.ntmps77
  go_wp2
  go_ret
  exact ⟨rfl, rfl⟩
end Go.Proofs.Ytmlcbikljlhhkaa

namespace Go.Proofs.Ytmlcbikljlhhkaa
open Go.RowKit
/-! What laws do with slices of ints. -/
theorem info_int : (Try.prog.info? 3).map (fun i => (i.zero, i.size, i.bytes)) = some (some (.int .i64 0), 1, 8) := by kernel_rfl

theorem toIntS_any (v : Value) (xs : List Int) (w : World) (h : IntsAt w v xs) (hlen : xs.length ≤ 1048576) :
    Calls Try.prog 21 #[v] w
      fun e w' => ∃ v', e = .returned v' ∧ w'.ownsRow w.heap.size 3 1 v' xs.length (ints xs) ∧ Below w.heap.size w w' := by
  have hmk := run_make_row' (P := Try.prog) 22 3 (.int .i64 0) 8 Try.underlying22 info_int rfl .i64 .i64 xs.length (by omega) (by omega)
  obtain ⟨A, c, hv, hc, hcm⟩ := h.shape
  subst hv
  go_enter Try.func21, Try.ntmps21
  go_wp2
  have hr0 := h.alloc (.cells (madeCells #[Value.int .i64 0] xs.length) 3)
  have hown0 := World.ownsRow_lit (base := w.heap.size) (e := 3) (size := 1) w (madeCells #[Value.int .i64 0] xs.length) xs.length (Nat.le_refl _) (by unfold maxLen; omega) (by simp [madeCells])
  have hb0 : Below w.heap.size w (w.alloc (.cells (madeCells #[Value.int .i64 0] xs.length) 3)) := (Below.refl _ _).alloc (Nat.le_refl _) _
  go_loopw [4] (fun i wr => ∃ (k : Nat) (cs : List Value), k ≤ xs.length ∧ i = .int .i64 k ∧ wr.ownsRow w.heap.size 3 1 (.slice (some ⟨w.heap.size, 0, none⟩) xs.length xs.length) xs.length cs ∧ cs.take k = (ints xs).take k ∧ Below w.heap.size w wr)
    (fun i _ => xs.length - (intOf i).toNat)
  case atStart => exact ⟨0, _, Nat.zero_le _, rfl, hown0, rfl, hb0⟩
  case round =>
    obtain ⟨k, cs, hk, rfl, hown, htk, hb⟩ := hrel
    clear hmk hr0 hown0 hb0
    by_cases hlt : k < xs.length
    · obtain ⟨b, o, c', hv, _, _, hbl, hcell⟩ := h.open (by omega)
      obtain ⟨rfl, _⟩ : A = some ⟨b, o, none⟩ ∧ True := by injection hv with e1; exact ⟨e1, trivial⟩
      obtain ⟨x, hx, hs⟩ := ints_at hlt
      have hsrc : wr.cell? ⟨b, o + k, none⟩ = some (.int .i64 x) := (hb.cell (p := ⟨b, o + k, none⟩) hbl).trans (hcell k _ hs)
      have hl := hown.1
      obtain ⟨u0, _, hd, hf⟩ := own_slot hown (j := k) (by omega)
      have Hown := Lib.hid (hown.stored k (.int .i64 x)).1
      have Hstep := Lib.hid (take_set_succ (by omega) htk hs)
      clear hcell hv hx hs hl htk hown h
      go_wp2
      go_roundw
      case rel => exact ⟨k + 1, _, by omega, by go_num, Hown.out, Hstep.out, hb.setCell (Nat.le_refl _) _⟩
      case measure => simp [intOf]; omega
    · go_wp2
      go_ret
      have e : cs = ints xs := by
        have hl := hown.1
        rw [List.take_of_length_le (by omega), List.take_of_length_le (by rw [ints_length]; omega)] at htk
        exact htk
      exact ⟨_, rfl, e ▸ hown, hb⟩

theorem eqIntS_any (v v2 : Value) (xs ys : List Int) (w : World) (h : IntsAt w v xs) (h2 : IntsAt w v2 ys) (hlen : xs.length ≤ 1048576) :
    Calls Try.prog 23 #[v, v2] w
      fun e w' => e = .returned (.bool (decide (xs = ys))) ∧ Drew w w' := by
  obtain ⟨A, c, hv, hc, hcm⟩ := h.shape
  obtain ⟨A2, c2, hv2, hc2, hcm2⟩ := h2.shape
  subst hv hv2
  by_cases he : xs.length = ys.length
  · have hb := Lib.hid he
    have he1 : ((xs.length : Int) != (ys.length : Int)) = false := by rw [he]; simp
    have he2 : xs.length ≤ ys.length := by omega
    clear he
    go_enter Try.func23, Try.ntmps23
    go_wp2
    go_loopw [5] (fun i wr => ∃ (k : Nat), k ≤ xs.length ∧ i = .int .i64 k ∧ xs.take k = ys.take k ∧ Drew w wr)
      (fun i _ => xs.length - (intOf i).toNat)
    case atStart => exact ⟨0, Nat.zero_le _, rfl, rfl, Drew.refl _⟩
    case round =>
      obtain ⟨k, hk, rfl, htk, hd⟩ := hrel
      by_cases hlt : k < xs.length
      · obtain ⟨b, o, c', hv, _, _, hbl, hcell⟩ := h.open (by omega)
        obtain ⟨rfl, _⟩ : A = some ⟨b, o, none⟩ ∧ True := by injection hv with e1; exact ⟨e1, trivial⟩
        obtain ⟨b2, o2, c2', hv2, _, _, hbl2, hcell2⟩ := h2.open (by omega)
        obtain ⟨rfl, _⟩ : A2 = some ⟨b2, o2, none⟩ ∧ True := by injection hv2 with e1; exact ⟨e1, trivial⟩
        obtain ⟨x, hx, hs⟩ := ints_at hlt
        obtain ⟨y, hy, hs2⟩ := ints_at (xs := ys) (i := k) (by omega)
        have hsrc : wr.cell? ⟨b, o + k, none⟩ = some (.int .i64 x) := (hd.cell _).trans (hcell k _ hs)
        have hsrc2 : wr.cell? ⟨b2, o2 + k, none⟩ = some (.int .i64 y) := (hd.cell _).trans (hcell2 k _ hs2)
        have Hx := Lib.hid hx
        have Hy := Lib.hid hy
        have Ht := Lib.hid htk
        clear hcell hcell2 hv hv2 hs hs2 hx hy htk h h2
        go_wp2
        go_quiet (fail)
        go_wp2
        · go_ret
          have hn : x ≠ y := bne_iff_ne.1 (by assumption)
          exact ⟨ret_bool (decide_eq_false (take_ne Hx.out Hy.out hn)).symm, hd.more _⟩
        · go_roundw
          case rel =>
            have hn : x = y := by have hz : (x != y) = false := by assumption
                                  simpa using hz
            exact ⟨k + 1, by omega, by go_num, by rw [take_snoc Hx.out, take_snoc Hy.out, Ht.out, hn], hd.more _⟩
          case measure => simp [intOf]; omega
      · go_wp2
        go_ret
        have e : xs = ys := by
          rw [List.take_of_length_le (by omega), List.take_of_length_le (by have := hb.out; omega)] at htk
          exact htk
        exact ⟨ret_bool (decide_eq_true e).symm, hd⟩
  · have hn : xs ≠ ys := fun e => he (by rw [e])
    have Hn := Lib.hid hn
    have he1 : ((xs.length : Int) != (ys.length : Int)) = true := by rw [bne_iff_ne]; omega
    clear he hn
    go_enter Try.func23, Try.ntmps23
    go_wp2
    go_ret
    exact ⟨ret_bool (decide_eq_false Hn.out).symm, Drew.refl _⟩
theorem szIntS_ok (v : Value) (n : Nat) (cs : List Value) (w : World) (left : Int) (h : Row w 1 v n cs) (hl : left ≤ 1048576) (hn : (n : Int) ≤ left) :
    Calls Try.prog 57 #[v, .int .i64 left] w
      fun e w' => e = .returned (.int .i64 (left - n)) ∧ w = w' := by
  obtain ⟨A, c, hv, hc, hcm⟩ := h.shape
  subst hv
  unfold maxLen at hcm
  have h0 : 0 ≤ left - n := by omega
  go_enter Try.func57, Try.ntmps57
  go_wp2
  go_ret
  exact ⟨rfl, rfl⟩
theorem szIntS_no (v : Value) (n : Nat) (cs : List Value) (w : World) (left : Int) (h : Row w 1 v n cs) (hl : 0 ≤ left) (hl2 : left ≤ 1048576) (hn : left < n) :
    Calls Try.prog 57 #[v, .int .i64 left] w
      fun e w' => e = .returned (.int .i64 (-1)) ∧ w = w' := by
  obtain ⟨A, c, hv, hc, hcm⟩ := h.shape
  subst hv
  unfold maxLen at hcm
  have h0 : left - n < 0 := by omega
  go_enter Try.func57, Try.ntmps57
  go_wp2
  go_ret
  exact ⟨rfl, rfl⟩
end Go.Proofs.Ytmlcbikljlhhkaa

namespace Go.Proofs.Ytmlcbikljlhhkaa
open Go.RowKit
/-- What marking a slice of ints comes to. -/
def MarkedInts (B : Nat) (v : Value) (n k : Nat) (w : World) (e : Ending) (w' : World) : Prop :=
  e = .returned (.int .i64 ((k + n : Nat) : Int)) ∧ w'.ownsRow B 3 1 v n (runI k n) ∧ w.grownBy w' v.ownBlock
theorem markIntS_any (B : Nat) (v : Value) (n k : Nat) (cs : List Value) (w : World) (h : w.ownsRow B 3 1 v n cs) (hn : n ≤ 1048576) (hk : k ≤ 100000000) :
    Calls Try.prog 25 #[v, .int .i64 k] w (MarkedInts B v n k w) := by
  obtain ⟨A, c, hv, hc, hcm⟩ := (Row.of_own h).shape
  subst hv
  have H := Lib.hid h
  clear h
  go_enter Try.func25, Try.ntmps25
  go_wp2_with fail
  go_loopw [1, 5] (fun q i wr => ∃ (j : Nat) (ds : List Value), j ≤ n ∧ i = .int .i64 j ∧ q = .int .i64 ((k + j : Nat) : Int) ∧ wr.ownsRow B 3 1 (.slice A n c) n ds ∧ ds.take j = runI k j ∧ w.grownBy wr (Value.slice A n c).ownBlock) (fun _ i _ => n - (intOf i).toNat)
  case atStart => exact ⟨0, cs, Nat.zero_le _, rfl, rfl, H.out, rfl, World.grownBy.refl w _⟩
  case round =>
    obtain ⟨j, ds, hj, rfl, rfl, hown, htk, hg⟩ := hrel
    by_cases hlt : j < n
    · obtain ⟨g, c', hv, _, hgl, _⟩ := own_open hown (by omega)
      injection hv with hA _ hcc
      subst hA hcc
      have hl := hown.1
      obtain ⟨u0, _, hd0, hf0⟩ := own_slot hown (j := j) (by omega)
      have s1 := Lib.hid (hown.stored j (.int .i64 ((k : Int) + (j : Int))))
      have t1 := Lib.hid (set_run_at (m := n) (x := (k : Int) + (j : Int)) (by omega) (by omega) hlt htk)
      have G := Lib.hid hg
      clear hown htk hl hg H
      go_wp2_with fail
      go_roundw
      case rel => exact ⟨j + 1, _, by omega, by go_num, by rw [show k + (j + 1) = k + j + 1 from by omega]; go_num, s1.out.1, t1.out, grownBy_comp G.out s1.out.2⟩
      case measure => simp [intOf]; omega
    · obtain rfl : j = n := by omega
      go_wp2
      go_ret
      exact ⟨rfl, by have := own_of_take (k := k) hown (by rw [Nat.mul_one]; exact htk); rwa [Nat.mul_one] at this, hg⟩
theorem heldIntS_any (v : Value) (n k : Nat) (w : World) (h : Row w 1 v n (runI k n)) (hn : n ≤ 1048576) (hk : k ≤ 100000000) :
    Calls Try.prog 26 #[v, .int .i64 k] w fun e w' => e = .returned (.int .i64 ((k + n : Nat) : Int)) ∧ w = w' := by
  obtain ⟨A, c, hv, hc, hcm⟩ := h.shape
  subst hv
  go_enter Try.func26, Try.ntmps26
  go_wp2_with fail
  go_loop [1, 5] (fun q i => ∃ (j : Nat), j ≤ n ∧ i = .int .i64 j ∧ q = .int .i64 ((k + j : Nat) : Int)) (fun _ i => n - (intOf i).toNat)
  case atStart => exact ⟨0, Nat.zero_le _, rfl, rfl⟩
  case round =>
    obtain ⟨j, hj, rfl, rfl⟩ := hrel
    by_cases hlt : j < n
    · obtain ⟨b, o, c', hv, _, _, hbl, hcell⟩ := h.open (by omega)
      injection hv with hA _ hcc
      subst hA hcc
      have c0 := hcell j _ (runI_get (by omega))
      clear hcell h
      go_wp2_with fail
      go_round
      case rel => exact ⟨j + 1, by omega, by go_num, by rw [show k + (j + 1) = k + j + 1 from by omega]; go_num⟩
      case measure => simp [intOf]; omega
    · obtain rfl : j = n := by omega
      go_wp2
      go_ret
      exact ⟨rfl, rfl⟩
end Go.Proofs.Ytmlcbikljlhhkaa

namespace Go.Proofs.Ytmlcbikljlhhkaa
open Go.RowKit
set_option maxRecDepth 100000
/-! Slices of slices of ints. -/
theorem info_ints : (Try.prog.info? 22).map (fun i => (i.zero, i.size, i.bytes)) = some (some (.slice none 0 0), 1, 24) := by kernel_rfl
def OwnIntSS (B T : Nat) (w : World) (v : Value) (xss : List (List Int)) : Prop := OwnSS ints 22 3 B T w v xss
end Go.Proofs.Ytmlcbikljlhhkaa

namespace Go.Proofs.Ytmlcbikljlhhkaa
open Go.RowKit
set_option maxRecDepth 100000
/-! What laws do with slices of slices of booleans. -/
theorem info_boolss : (Try.prog.info? 78).map (fun i => (i.zero, i.size, i.bytes)) = some (some (.slice none 0 0), 1, 24) := by kernel_rfl
def OwnBoolSS (B T : Nat) (w : World) (v : Value) (xss : List (List Bool)) : Prop := OwnSS bools 78 4 B T w v xss
theorem szBoolSS_any (v : Value) (xss : List (List Bool)) (left : Nat) (w : World) (h : SSAt bools w v xss) (hl : left ≤ 1048576) :
    Calls Try.prog 27 #[v, .int .i64 left] w fun e w' => (∃ r : Int, e = .returned (.int .i64 r) ∧ (r = -1 ∨ (0 ≤ r ∧ r + xss.length + total xss = left))) ∧ w = w' := by
  obtain ⟨A, c, hv, hc, hcm⟩ := h.shape
  subst hv
  unfold maxLen at hcm
  have H := Lib.hid h
  clear h
  by_cases h0 : xss.length ≤ left
  · have hq : ¬ ((left : Int) - (xss.length : Int) < 0) := by omega
    go_enter Try.func27, Try.ntmps27
    go_wp2_with fail
    go_loop [1, 5] (fun t i => ∃ k q : Nat, k ≤ xss.length ∧ i = .int .i64 k ∧ t = .int .i64 q ∧ Hid (q + xss.length + total (xss.take k) = left)) (fun _ i => xss.length - (intOf i).toNat)
    case atStart => exact ⟨0, left - xss.length, Nat.zero_le _, rfl, by go_num, Lib.hid (by simp [total]; omega)⟩
    case round =>
      obtain ⟨k, q, hk, rfl, rfl, hs⟩ := hrel
      by_cases hlt : k < xss.length
      · obtain ⟨x, hx⟩ := at_some hlt
        obtain ⟨b, o, Bx, m, rfl, hbl, hc1, hm1, hm2, hr⟩ := ss_open H.out (Below.refl _ _) hx
        have Hr := Lib.hid hr
        have hT := Lib.hid (total_take_succ hx)
        have hq2 : q ≤ 1048576 := by have := hs.out; omega
        clear hr hx
        by_cases hfit : x.length ≤ q
        · have hq3 : ¬ ((q : Int) - (x.length : Int) < 0) := by omega
          go_wp2_with fail
          refine (szBoolS_ok _ x.length _ _ q Hr.out (by omega) (by omega)).mono ?_
          rintro e w' ⟨rfl, rfl⟩
          go_wp2_with fail
          go_round
          case rel => exact ⟨k + 1, q - x.length, by omega, by go_num, by go_num, Lib.hid (by rw [hT.out]; have := hs.out; omega)⟩
          case measure => simp [intOf] <;> omega
        · go_wp2_with fail
          refine (szBoolS_no _ x.length _ _ q Hr.out (by omega) (by omega) (by omega)).mono ?_
          rintro e w' ⟨rfl, rfl⟩
          go_wp2_with fail
          go_ret
          exact ⟨⟨_, rfl, .inl rfl⟩, rfl⟩
      · obtain rfl : k = xss.length := by omega
        have hs' : q + xss.length + total xss = left := by have := hs.out; rwa [List.take_length] at this
        go_wp2_with fail
        go_ret
        exact ⟨⟨_, rfl, .inr ⟨by omega, by omega⟩⟩, rfl⟩
  · go_enter Try.func27, Try.ntmps27
    go_wp2_with fail
    go_ret
    exact ⟨⟨_, rfl, .inl rfl⟩, rfl⟩
set_option maxHeartbeats 4000000 in
theorem toBoolSS_any (v : Value) (xss : List (List Bool)) (w : World) (h : SSAt bools w v xss) (hl : xss.length ≤ 1048576) (hl2 : total xss ≤ 1048576) :
    Calls Try.prog 29 #[v] w fun e w' => (∃ v', e = .returned v' ∧ OwnBoolSS w.heap.size w'.heap.size w' v' xss) ∧ Below w.heap.size w w' := by
  obtain ⟨A, c, hv, hc, hcm⟩ := h.shape
  subst hv
  have hmk := run_make_row' (P := Try.prog) 39 78 (.slice none 0 0) 24 Try.underlying39 info_boolss rfl .i64 .i64 xss.length (by omega) (by omega)
  have H := Lib.hid h
  clear h
  go_enter Try.func29, Try.ntmps29
  go_wp2_with fail
  have hown0 : Hid ((w.alloc (.cells (madeCells #[Value.slice none 0 0] xss.length) 78)).ownsRow w.heap.size 78 1 (.slice (some ⟨w.heap.size, 0, none⟩) xss.length xss.length) xss.length ([] ++ List.replicate (xss.length - 0) (.slice none 0 0))) := Lib.hid (by
    have := World.ownsRow_lit (base := w.heap.size) (e := 78) (size := 1) w (madeCells #[Value.slice none 0 0] xss.length) xss.length (Nat.le_refl _) (by unfold maxLen; omega) (by simp [madeCells])
    rw [made_one] at this ⊢
    exact this)
  have B0 := Lib.hid ((Below.refl w.heap.size w).alloc (Nat.le_refl _) (.cells (madeCells #[Value.slice none 0 0] xss.length) 78))
  have z0 : (w.alloc (.cells (madeCells #[Value.slice none 0 0] xss.length) 78)).heap.size = w.heap.size + 1 := by simp
  generalize w.alloc (.cells (madeCells #[Value.slice none 0 0] xss.length) 78) = W at *
  clear hmk
  go_loopw [4] (fun i wr => ∃ (k : Nat) (vs : List Value), k ≤ xss.length ∧ i = .int .i64 k ∧ Hid (vs.length = k) ∧ Hid (wr.ownsRow w.heap.size 78 1 (.slice (some ⟨w.heap.size, 0, none⟩) xss.length xss.length) xss.length (vs ++ List.replicate (xss.length - k) (.slice none 0 0))) ∧
      Hid (∀ (i : Nat) (x : List Bool) (u : Value), xss[i]? = some x → vs[i]? = some u → wr.ownsRow (w.heap.size + 1) 4 1 u x.length (bools x)) ∧ Hid (vs.Pairwise Apart) ∧ Hid (∀ u ∈ vs, ∀ g, u.ownBlock = some g → w.heap.size < g ∧ g < wr.heap.size) ∧ Below w.heap.size w wr ∧ w.heap.size < wr.heap.size) (fun i _ => xss.length - (intOf i).toNat)
  case atStart => exact ⟨0, [], Nat.zero_le _, rfl, Lib.hid rfl, hown0, Lib.hid (by simp), Lib.hid List.Pairwise.nil, Lib.hid (by simp), B0.out, by omega⟩
  case round =>
    obtain ⟨k, vs, hk, rfl, hvl, Ho, Hin, Hap, Hlt, hb, hzw⟩ := hrel
    clear hown0 B0
    by_cases hlt : k < xss.length
    · obtain ⟨x, hx⟩ := at_some hlt
      obtain ⟨b, o, Bx, m, rfl, hbl, hc1, hm1, hm2, hr⟩ := ss_open H.out hb hx
      have Hr := Lib.hid hr
      have Hx := Lib.hid hx
      have hxl : x.length ≤ 1048576 := Nat.le_trans (total_mem (List.mem_of_getElem? hx)) hl2
      have Hb := Lib.hid hb
      have hz := hb.size
      clear hr hx hb
      go_wp2_with fail
      refine (toBoolS_any _ x _ Hr.out hxl).mono ?_
      rintro e w2 ⟨v2, rfl, hown2, hb2⟩
      obtain ⟨A2, c2, hv2, _, _⟩ := (Row.of_own hown2).shape
      subst hv2
      have Ho2 := Lib.hid (own_below Ho.out hb2)
      have Hu := Lib.hid hown2
      have Hin2 : Hid (∀ (i : Nat) (x : List Bool) (u : Value), xss[i]? = some x → vs[i]? = some u → w2.ownsRow (w.heap.size + 1) 4 1 u x.length (bools x)) := Lib.hid fun i x u hx hu => own_below (Hin.out i x u hx hu) hb2
      have Hb2 := Lib.hid (Hb.out.trans (hb2.mono hz))
      have z2 := hb2.size
      obtain ⟨u0, _, hd0, hf0⟩ := own_slot Ho2.out (j := k) (by omega)
      have Hst := Lib.hid (Ho2.out.stored k (.slice A2 x.length c2))
      have Hset := Lib.hid (set_mid_at vs (.slice none 0 0) (.slice A2 x.length c2) (xss.length - k) k hvl.out.symm (by omega))
      clear hown2 hb2
      go_wp2_with fail
      go_roundw
      case rel =>
        have hg := Hst.out.2
        refine ⟨k + 1, vs ++ [.slice A2 x.length c2], by omega, by go_num, Lib.hid (by simp [hvl.out]), Lib.hid ?_, Lib.hid ?_, Lib.hid ?_, Lib.hid ?_, Hb2.out.grown hg Hb2.out.size (fun q hq => by have := Option.some.inj hq; omega), by have := hg.size; omega⟩
        · have := Hst.out.1
          rw [Hset.out, show xss.length - k - 1 = xss.length - (k + 1) by omega] at this
          exact this
        · intro i x' u' hx' hu'
          rcases Nat.lt_or_ge i k with hi | hi
          · rw [List.getElem?_append_left (by rw [hvl.out]; exact hi)] at hu'
            exact own_kept (Hin2.out i x' u' hx' hu') hg fun g hg' e => by
              have h1 := (Hlt.out u' (List.mem_of_getElem? hu') g hg').1
              have h2 := Option.some.inj e
              omega
          · rw [List.getElem?_append_right (by rw [hvl.out]; exact hi), hvl.out] at hu'
            rcases hj : i - k with _ | j
            · rw [hj] at hu'
              obtain rfl : i = k := by omega
              rw [Hx.out] at hx'
              simp at hu' hx'
              subst hu' hx'
              exact own_kept (own_mono Hu.out (by omega)) hg fun g hg' e => by
                have h1 := (Hu.out.lt g hg').1
                have h2 := Option.some.inj e
                omega
            · rw [hj] at hu'
              simp at hu'
        · rw [List.pairwise_append]
          refine ⟨Hap.out, by simp, fun a ha b hb => ?_⟩
          rw [List.mem_singleton.1 hb]
          intro g hg1 hg2
          have h1 := (Hlt.out a ha g hg1).2
          have h2 := (Hu.out.lt g hg2).1
          omega
        · intro u hu g hgu
          have hsz := hg.size
          rcases List.mem_append.1 hu with h | h
          · have := Hlt.out u h g hgu
            omega
          · rw [List.mem_singleton.1 h] at hgu
            have := Hu.out.lt g hgu
            omega
      case measure => simp [intOf] <;> omega
    · obtain rfl : k = xss.length := by omega
      go_wp2_with fail
      go_ret
      refine ⟨⟨_, rfl, vs, hvl.out, ?_, fun i x u hx hu => own_mono (Hin.out i x u hx hu) (by omega), Hap.out, ?_, ?_, fun u hu g hg => (Hlt.out u hu g hg).2⟩, hb⟩
      · have := Ho.out
        rwa [Nat.sub_self, List.replicate_zero, List.append_nil] at this
      · intro u hu g hg e
        have h1 := (Hlt.out u hu g hg).1
        have h2 := Option.some.inj e
        simp at h2
        omega
      · intro g hg
        have := Option.some.inj hg
        simp at this
        omega
theorem take_eq_getB {α : Type} {xs ys : List α} {k : Nat} {x : α} (h : xs.take k = ys.take k) (hx : xs[k]? = some x) (hy : ys[k]? = some x) : xs.take (k + 1) = ys.take (k + 1) := by
  rw [take_snoc hx, take_snoc hy, h]
set_option maxHeartbeats 4000000 in
theorem eqBoolSS_any (v v2 : Value) (xss yss : List (List Bool)) (w : World) (h : SSAt bools w v xss) (h2 : SSAt bools w v2 yss) (hlen : ∀ x ∈ xss, x.length ≤ 1048576) :
    Calls Try.prog 31 #[v, v2] w fun e w' => e = .returned (.bool (decide (xss = yss))) ∧ Below w.heap.size w w' := by
  obtain ⟨A, c, hv, hc, hcm⟩ := h.shape
  obtain ⟨A2, c2, hv2, hc2, hcm2⟩ := h2.shape
  subst hv hv2
  unfold maxLen at hcm hcm2
  have H := Lib.hid h
  have H2 := Lib.hid h2
  clear h h2
  obtain ⟨res, hres⟩ : ∃ res, decide (xss = yss) = res := ⟨_, rfl⟩
  rw [hres]
  have HR := Lib.hid hres
  clear hres
  by_cases hl : xss.length = yss.length
  · have HL := Lib.hid hl
    have hl1 : ((xss.length : Int) != (yss.length : Int)) = false := by rw [hl]; simp
    have hl2 : xss.length ≤ yss.length := by omega
    have hl3 : yss.length ≤ xss.length := by omega
    clear hl
    go_enter Try.func31, Try.ntmps31
    go_wp2_with fail
    go_loopw [5] (fun i wr => ∃ k : Nat, k ≤ xss.length ∧ i = .int .i64 k ∧ Hid (xss.take k = yss.take k) ∧ Below w.heap.size w wr) (fun i _ => xss.length - (intOf i).toNat)
    case atStart => exact ⟨0, Nat.zero_le _, rfl, Lib.hid rfl, Below.refl _ _⟩
    case round =>
      obtain ⟨k, hk, rfl, htk, hb⟩ := hrel
      by_cases hlt : k < xss.length
      · obtain ⟨x, hx⟩ := at_some hlt
        obtain ⟨y, hy⟩ := at_some (show k < yss.length by omega)
        obtain ⟨b, o, Bx, m, rfl, hbl, hc1, hm1, hm2, hr⟩ := ss_open H.out hb hx
        obtain ⟨b', o', Bx', m', rfl, hbl', hc1', hm1', hm2', hr'⟩ := ss_open H2.out hb hy
        have hxl := hlen x (List.mem_of_getElem? hx)
        have Hx := Lib.hid hx
        have Hy := Lib.hid hy
        have Hb := Lib.hid hb
        have hz := hb.size
        have g1 := gw_cell hc1 (show b < wr.heap.size by omega)
        have g2 := gw_cell hc1' (show b' < wr.heap.size by omega)
        have HC : Hid (∀ n : GW wr, Calls Try.prog 86 #[.slice Bx x.length m, .slice Bx' y.length m'] (gw n) fun e w' => e = .returned (.bool (decide (x = y))) ∧ Drew (gw n) w') := Lib.hid fun n => eqBoolS_any _ _ x y _ (hr.below (gw_below n)) (hr'.below (gw_below n)) hxl
        clear hx hy hb hr hr'
        cases hd : decide (x = y)
        · rw [hd] at HC
          obtain rfl : res = false := by rw [← HR.out]; exact decide_eq_false (take_ne Hx.out Hy.out (of_decide_eq_false hd))
          go_wp2_with fail
          refine wp_region_grow (by kernel_rfl) (by kernel_rfl) ?_
          repeat (go_big_quiet_step ((go_at_call 86; exact grow_drew (HC.out _))))
          refine wpQuiet_nil ?_
          intro _ hw'
          obtain ⟨nq, hw''⟩ := hw'
          subst hw''
          have hgq := gw_below nq
          generalize gw nq = wq at *
          clear nq
          have Hb5 := Lib.hid (Hb.out.trans (hgq.mono hz))
          clear hgq g1 g2
          go_wp2_with fail
          go_ret
          exact ⟨rfl, Hb5.out⟩
        · rw [hd] at HC
          have hxy := of_decide_eq_true hd
          subst hxy
          have Hn := Lib.hid (take_eq_getB htk.out Hx.out Hy.out)
          clear hd
          go_wp2_with fail
          refine wp_region_grow (by kernel_rfl) (by kernel_rfl) ?_
          repeat (go_big_quiet_step ((go_at_call 86; exact grow_drew (HC.out _))))
          refine wpQuiet_nil ?_
          intro _ hw'
          obtain ⟨nq, hw''⟩ := hw'
          subst hw''
          have hgq := gw_below nq
          generalize gw nq = wq at *
          clear nq
          have Hb5 := Lib.hid (Hb.out.trans (hgq.mono hz))
          clear hgq g1 g2
          go_wp2_with fail
          go_roundw
          case rel => exact ⟨k + 1, by omega, by go_num, Hn, Hb5.out⟩
          case measure => simp [intOf] <;> omega
      · obtain rfl : k = xss.length := by omega
        obtain rfl : res = true := by
          rw [← HR.out]
          refine decide_eq_true ?_
          have := htk.out
          rwa [List.take_length, List.take_of_length_le (by omega)] at this
        go_wp2_with fail
        go_ret
        exact ⟨rfl, hb⟩
  · have hl1 : ((xss.length : Int) != (yss.length : Int)) = true := by simp; omega
    obtain rfl : res = false := by rw [← HR.out]; exact decide_eq_false fun e => hl (by rw [e])
    go_enter Try.func31, Try.ntmps31
    go_wp2_with fail
    go_ret
    exact ⟨rfl, Below.refl _ _⟩
end Go.Proofs.Ytmlcbikljlhhkaa

namespace Go.Proofs.Ytmlcbikljlhhkaa
open Go.RowKit
set_option maxRecDepth 100000
theorem Kept.atN {v : Value} {xs : List Int} {T : Nat} {w : World} (h : Kept (fun w' => IntsAt w' v xs) T w) : IntsAt w v xs := by
  obtain ⟨w0, h, _, hb⟩ := h
  exact Row.below h hb
theorem Kept.atB {v : Value} {xs : List Bool} {T : Nat} {w : World} (h : Kept (fun w' => BoolsAt w' v xs) T w) : BoolsAt w v xs := by
  obtain ⟨w0, h, _, hb⟩ := h
  exact Row.below h hb
theorem ints_of_row {B T : Nat} {e : TypeId} {v : Value} {xs : List Int} {w : World} (h : RowT B T e 1 v xs.length (ints xs) w) : IntsAt w v xs := Row.of_own h.1
theorem bools_of_row {B T : Nat} {e : TypeId} {v : Value} {xs : List Bool} {w : World} (h : RowT B T e 1 v xs.length (bools xs) w) : BoolsAt w v xs := Row.of_own h.1
theorem has_true (w : World) : Has 0 0 (fun _ => True) w := ⟨trivial, Nat.zero_le _, fun _ _ _ _ _ _ _ => trivial⟩
theorem markIntS_only (B T : Nat) (v : Value) (n k : Nat) (cs : List Value) (w : World) (h : RowT B T 3 1 v n cs w) (hn : n ≤ 1048576) (hk : k ≤ 100000000) :
    Calls Try.prog 25 #[v, .int .i64 k] w fun e w' => (∃ k' : Nat, e = .returned (.int .i64 (k' : Nat)) ∧ k' ≤ k + 1048576) ∧ Only (fun g => B ≤ g ∧ g < T) w w' :=
  (markIntS_any B v n k cs w h.1 hn hk).mono fun _ _ ⟨h1, _, h3⟩ => ⟨⟨_, h1, by omega⟩, Only.grown h3 fun g hg => ⟨(h.1.lt g hg).1, h.2 g hg⟩⟩
theorem markIntS_own (B T : Nat) (v : Value) (n k : Nat) (cs : List Value) (w : World) (h : RowT B T 3 1 v n cs w) (hn : n ≤ 1048576) (hk : k ≤ 100000000) :
    Calls Try.prog 25 #[v, .int .i64 k] w fun e w' => e = .returned (.int .i64 ((k + n : Nat) : Int)) ∧ Only (fun g => B ≤ g ∧ g < T) w w' ∧ Has B w'.heap.size (RowT B w'.heap.size 3 1 v n (runI k n)) w' :=
  (markIntS_any B v n k cs w h.1 hn hk).mono fun _ _ ⟨h1, h2, h3⟩ => ⟨h1, Only.grown h3 fun g hg => ⟨(h.1.lt g hg).1, h.2 g hg⟩, has_row h2⟩
end Go.Proofs.Ytmlcbikljlhhkaa

namespace Go.Proofs.Ytmlcbikljlhhkaa
open Go.RowKit
set_option maxRecDepth 100000
theorem take_eq_get {α : Type} {xs ys : List α} {k : Nat} {x : α} (h : xs.take k = ys.take k) (hx : xs[k]? = some x) (hy : ys[k]? = some x) : xs.take (k + 1) = ys.take (k + 1) := by
  rw [take_snoc hx, take_snoc hy, h]
set_option maxHeartbeats 4000000 in
theorem eqIntSS_any (v v2 : Value) (xss yss : List (List Int)) (w : World) (h : SSAt ints w v xss) (h2 : SSAt ints w v2 yss) (hlen : ∀ x ∈ xss, x.length ≤ 1048576) :
    Calls Try.prog 112 #[v, v2] w fun e w' => e = .returned (.bool (decide (xss = yss))) ∧ Below w.heap.size w w' := by
  obtain ⟨A, c, hv, hc, hcm⟩ := h.shape
  obtain ⟨A2, c2, hv2, hc2, hcm2⟩ := h2.shape
  subst hv hv2
  unfold maxLen at hcm hcm2
  have H := Lib.hid h
  have H2 := Lib.hid h2
  clear h h2
  obtain ⟨res, hres⟩ : ∃ res, decide (xss = yss) = res := ⟨_, rfl⟩
  rw [hres]
  have HR := Lib.hid hres
  clear hres
  by_cases hl : xss.length = yss.length
  · have HL := Lib.hid hl
    have hl1 : ((xss.length : Int) != (yss.length : Int)) = false := by rw [hl]; simp
    have hl2 : xss.length ≤ yss.length := by omega
    have hl3 : yss.length ≤ xss.length := by omega
    clear hl
    go_enter Try.func112, Try.ntmps112
    go_wp2_with fail
    go_loopw [5] (fun i wr => ∃ k : Nat, k ≤ xss.length ∧ i = .int .i64 k ∧ Hid (xss.take k = yss.take k) ∧ Below w.heap.size w wr) (fun i _ => xss.length - (intOf i).toNat)
    case atStart => exact ⟨0, Nat.zero_le _, rfl, Lib.hid rfl, Below.refl _ _⟩
    case round =>
      obtain ⟨k, hk, rfl, htk, hb⟩ := hrel
      by_cases hlt : k < xss.length
      · obtain ⟨x, hx⟩ := at_some hlt
        obtain ⟨y, hy⟩ := at_some (show k < yss.length by omega)
        obtain ⟨b, o, Bx, m, rfl, hbl, hc1, hm1, hm2, hr⟩ := ss_open H.out hb hx
        obtain ⟨b', o', Bx', m', rfl, hbl', hc1', hm1', hm2', hr'⟩ := ss_open H2.out hb hy
        have hxl := hlen x (List.mem_of_getElem? hx)
        have Hx := Lib.hid hx
        have Hy := Lib.hid hy
        have Hb := Lib.hid hb
        have hz := hb.size
        have g1 := gw_cell hc1 (show b < wr.heap.size by omega)
        have g2 := gw_cell hc1' (show b' < wr.heap.size by omega)
        have HC : Hid (∀ n : GW wr, Calls Try.prog 23 #[.slice Bx x.length m, .slice Bx' y.length m'] (gw n) fun e w' => e = .returned (.bool (decide (x = y))) ∧ Drew (gw n) w') := Lib.hid fun n => eqIntS_any _ _ x y _ (hr.below (gw_below n)) (hr'.below (gw_below n)) hxl
        clear hx hy hb hr hr'
        cases hd : decide (x = y)
        · rw [hd] at HC
          obtain rfl : res = false := by rw [← HR.out]; exact decide_eq_false (take_ne Hx.out Hy.out (of_decide_eq_false hd))
          go_wp2_with fail
          refine wp_region_grow (by kernel_rfl) (by kernel_rfl) ?_
          repeat (go_big_quiet_step ((go_at_call 23; exact grow_drew (HC.out _))))
          refine wpQuiet_nil ?_
          intro _ hw'
          obtain ⟨nq, hw''⟩ := hw'
          subst hw''
          have hgq := gw_below nq
          generalize gw nq = wq at *
          clear nq
          have Hb5 := Lib.hid (Hb.out.trans (hgq.mono hz))
          clear hgq g1 g2
          go_wp2_with fail
          go_ret
          exact ⟨rfl, Hb5.out⟩
        · rw [hd] at HC
          have hxy := of_decide_eq_true hd
          subst hxy
          have Hn := Lib.hid (take_eq_get htk.out Hx.out Hy.out)
          clear hd
          go_wp2_with fail
          refine wp_region_grow (by kernel_rfl) (by kernel_rfl) ?_
          repeat (go_big_quiet_step ((go_at_call 23; exact grow_drew (HC.out _))))
          refine wpQuiet_nil ?_
          intro _ hw'
          obtain ⟨nq, hw''⟩ := hw'
          subst hw''
          have hgq := gw_below nq
          generalize gw nq = wq at *
          clear nq
          have Hb5 := Lib.hid (Hb.out.trans (hgq.mono hz))
          clear hgq g1 g2
          go_wp2_with fail
          go_roundw
          case rel => exact ⟨k + 1, by omega, by go_num, Hn, Hb5.out⟩
          case measure => simp [intOf] <;> omega
      · obtain rfl : k = xss.length := by omega
        obtain rfl : res = true := by
          rw [← HR.out]
          refine decide_eq_true ?_
          have := htk.out
          rwa [List.take_length, List.take_of_length_le (by omega)] at this
        go_wp2_with fail
        go_ret
        exact ⟨rfl, hb⟩
  · have hl1 : ((xss.length : Int) != (yss.length : Int)) = true := by simp; omega
    obtain rfl : res = false := by rw [← HR.out]; exact decide_eq_false fun e => hl (by rw [e])
    go_enter Try.func112, Try.ntmps112
    go_wp2_with fail
    go_ret
    exact ⟨rfl, Below.refl _ _⟩
/-- Rows of values of the call's own, all apart, of such lengths. -/
def OwnIntSE (B : Nat) (E : Nat → Prop) (w : World) (v : Value) (xss : List (List Int)) : Prop := OwnSE ints 22 3 B E w v xss
def OwnVS (B : Nat) (E : Nat → Prop) (w : World) (v : Value) (rows : List (List Value)) : Prop := OwnSE id 22 3 B E w v rows
theorem OwnIntSE.raw {B : Nat} {E : Nat → Prop} {w : World} {v : Value} {xss : List (List Int)} (h : OwnIntSE B E w v xss) : OwnVS B E w v (xss.map ints) := OwnSE.raw ints_length h
/-- What marking comes to. -/
def MarkedSS (B : Nat) (E : Nat → Prop) (v : Value) (ns : List Nat) (k : Nat) (w : World) (e : Ending) (w' : World) : Prop :=
  e = .returned (.int .i64 ((k + ns.sum : Nat) : Int)) ∧ OwnVS B E w' v (runs k ns) ∧ Only (fun g => B ≤ g ∧ E g) w w'
theorem lens_get {rows : List (List Value)} {ns : List Nat} (hl : rows.map List.length = ns) {j : Nat} {n : Nat} (h : ns[j]? = some n) : ∃ r, rows[j]? = some r ∧ r.length = n := by
  subst hl
  rw [List.getElem?_map] at h
  obtain ⟨r, hr, rfl⟩ := Option.map_eq_some_iff.1 h
  exact ⟨r, hr, rfl⟩
set_option maxHeartbeats 4000000 in
theorem markIntSS_any (B : Nat) (E : Nat → Prop) (v : Value) (k : Nat) (rows : List (List Value)) (ns : List Nat) (w : World) (h : OwnVS B E w v rows) (hns : rows.map List.length = ns) (hl : ns.length ≤ 1048576) (hn : ns.sum ≤ 1048576) (hk : k ≤ 10000000) :
    Calls Try.prog 113 #[v, .int .i64 k] w (MarkedSS B E v ns k w) := by
  have hrl : rows.length = ns.length := by rw [← hns, List.length_map]
  have hsh : ∃ A c, v = .slice A ns.length c := by
    obtain ⟨A, c, hv, _⟩ := (OwnSE.at h).shape
    exact ⟨A, c, by rw [← hrl]; exact hv⟩
  obtain ⟨A, c, hv⟩ := hsh
  subst hv
  have H := Lib.hid h
  have Hns := Lib.hid hns
  have Hrl := Lib.hid hrl
  clear h hns hrl
  go_enter Try.func113, Try.ntmps113
  go_wp2_with fail
  go_loopw [1, 5] (fun q i wr => ∃ j : Nat, j ≤ ns.length ∧ i = .int .i64 j ∧ q = .int .i64 ((k + (ns.take j).sum : Nat) : Int) ∧ Hid (OwnVS B E wr (.slice A ns.length c) (runs k (ns.take j) ++ rows.drop j)) ∧ Only (fun g => B ≤ g ∧ E g) w wr) (fun _ i _ => ns.length - (intOf i).toNat)
  case atStart => exact ⟨0, Nat.zero_le _, rfl, by simp, H, Only.refl _ _⟩
  case round =>
    obtain ⟨j, hj, rfl, rfl, Ho, hon⟩ := hrel
    clear H
    by_cases hlt : j < ns.length
    · obtain ⟨n, hnj⟩ := at_some hlt
      obtain ⟨r, hr, hrn⟩ := lens_get Hns.out hnj
      obtain ⟨vs, q1, q2, q3, q4, q5, q6, q7⟩ := Ho.out
      have hlenR : (runs k (ns.take j) ++ rows.drop j).length = ns.length := by
        rw [List.length_append, runs_length, List.length_take, List.length_drop, Hrl.out]; omega
      have hrj : (runs k (ns.take j) ++ rows.drop j)[j]? = some r := by
        rw [List.getElem?_append_right (by rw [runs_length, List.length_take]; omega), runs_length, List.length_take, List.getElem?_drop, show j + (j - min j ns.length) = j from by omega]
        exact hr
      obtain ⟨u, hu⟩ : ∃ u, vs[j]? = some u := ⟨vs[j]'(by omega), List.getElem?_eq_getElem _⟩
      have hown := q3 j r u hrj hu
      rw [hrn] at hown
      have hS := Lib.hid (runs_set (k := k) (rows := rows) Hrl.out hnj)
      have hT := Lib.hid (sum_take_succ hnj)
      have hsl := sum_take_le ns j
      have hsl2 := sum_take_le ns (j + 1)
      have hTT := hT.out
      have hQ := Lib.hid q2
      obtain ⟨b, o, c', hv, _, _, hbl, hcell⟩ := (Row.of_own q2).open (by omega)
      rw [hlenR] at hv
      injection hv with hA _ hcc
      subst hA hcc
      have hc0 := hcell j u hu
      obtain ⟨Au, cu, hvu, hcu, hcmu⟩ := (Row.of_own hown).shape
      subst hvu
      have Hown := Lib.hid hown
      have Hon := Lib.hid hon
      have HU := Lib.hid (fun (w' : World) (x' : List Value) (hg : wr.grownBy w' (Value.slice Au n cu).ownBlock) (hx : w'.ownsRow B 3 1 (.slice Au n cu) x'.length (id x')) => OwnSE.update (enc := id) q1 q2 q3 q4 q5 q6 q7 hu hg hx)
      have HE : Hid (∀ g, (Value.slice Au n cu).ownBlock = some g → B ≤ g ∧ E g) := Lib.hid fun g hg => ⟨(hown.lt g hg).1, q7 _ (List.mem_of_getElem? hu) g hg⟩
      generalize (ns.take j).sum = s at *
      clear hcell hown hon q1 q2 q3 q4 q5 q6 q7 hu hr hrn hrj hlenR hnj hTT
      go_wp2_with fail
      refine (markIntS_any B _ n (k + s) _ _ Hown.out (by have := hT.out; omega) (by omega)).mono ?_
      rintro e w2 ⟨rfl, hown2, hg2⟩
      have Hown2 := Lib.hid hown2
      have Hg2 := Lib.hid hg2
      clear hown2 hg2
      go_wp2_with fail
      go_roundw
      case rel =>
        refine ⟨j + 1, by omega, by go_num, by have := hT.out; go_num, Lib.hid ?_, Hon.out.trans (Only.grown Hg2.out HE.out)⟩
        rw [← hS.out]
        exact HU.out w2 (runI (k + s) n) Hg2.out (by rw [runI_length]; exact Hown2.out)
      case measure => simp [intOf] <;> omega
    · obtain rfl : j = ns.length := by omega
      go_wp2_with fail
      go_ret
      refine ⟨ret_int (by rw [List.take_length]), ?_, hon⟩
      have := Ho.out
      rwa [List.take_length, List.drop_eq_nil_of_le (by rw [Hrl.out]; exact Nat.le_refl _), List.append_nil] at this
theorem heldIntSS_any (v : Value) (k : Nat) (ns : List Nat) (w : World) (h : SSAt id w v (runs k ns)) (hl : ns.length ≤ 1048576) (hn : ns.sum ≤ 1048576) (hk : k ≤ 10000000) :
    Calls Try.prog 114 #[v, .int .i64 k] w fun e w' => e = .returned (.int .i64 ((k + ns.sum : Nat) : Int)) ∧ w = w' := by
  have hsh : ∃ A c, v = .slice A ns.length c := by
    obtain ⟨A, c, hv, _⟩ := h.shape
    exact ⟨A, c, by rw [← runs_length k ns]; exact hv⟩
  obtain ⟨A, c, hv⟩ := hsh
  subst hv
  have H := Lib.hid h
  clear h
  go_enter Try.func114, Try.ntmps114
  go_wp2_with fail
  go_loop [1, 5] (fun q i => ∃ j : Nat, j ≤ ns.length ∧ i = .int .i64 j ∧ q = .int .i64 ((k + (ns.take j).sum : Nat) : Int)) (fun _ i => ns.length - (intOf i).toNat)
  case atStart => exact ⟨0, Nat.zero_le _, rfl, by simp⟩
  case round =>
    obtain ⟨j, hj, rfl, rfl⟩ := hrel
    by_cases hlt : j < ns.length
    · obtain ⟨n, hnj⟩ := at_some hlt
      obtain ⟨b, o, Bx, m, rfl, hbl, hc1, hm1, hm2, hr⟩ := ss_open H.out (Below.refl _ _) (runs_get hnj)
      rw [runI_length] at hc1 hm1 hr
      have Hr := Lib.hid hr
      have hT := Lib.hid (sum_take_succ hnj)
      have hsl := sum_take_le ns j
      have hsl2 := sum_take_le ns (j + 1)
      generalize (ns.take j).sum = s at *
      clear hr hnj
      go_wp2_with fail
      refine (heldIntS_any _ n (k + s) _ Hr.out (by have := hT.out; omega) (by omega)).mono ?_
      rintro e w' ⟨rfl, rfl⟩
      have hpos : ¬ (((k + s + n : Nat) : Int) < 0) := by omega
      go_wp2_with fail
      go_round
      case rel => exact ⟨j + 1, by omega, by go_num, by have := hT.out; go_num⟩
      case measure => simp [intOf] <;> omega
    · obtain rfl : j = ns.length := by omega
      go_wp2_with fail
      go_ret
      exact ⟨ret_int (by simp), rfl⟩
end Go.Proofs.Ytmlcbikljlhhkaa

namespace Go.Proofs.Ytmlcbikljlhhkaa
open Go.RowKit
set_option maxRecDepth 100000
/-! Slices of ints of the call's own; small lemmas. -/
theorem append_ints {w : World} {ops : Array Oper} {rest : List Oper} {o : Oper} {a : Act} {Q : Exit → Act → World → Prop} (hgd : o.guard = none) (s x : Operand)
    (ho : o.op = .call { callee := .builtin .append, args := #[s, x], argTypes := #[22, 22] })
    (base : Nat) (v : Value) (n : Nat) (xs : List Value) (hs : a.eval s = v) (hown : w.ownsRow base 3 1 v n xs) (sv : Value) (m : Nat) (news : List Value) (hx : a.eval x = sv) (hr : Row w 1 sv m news) (h1 : ∀ u ∈ news, u.oneCell' = true)
    (h63 : n + m ≤ 10000000) (hbase : base ≤ w.heap.size)
    (h : ∀ v' w', w'.ownsRow base 3 1 v' (n + m) (xs ++ news) → w.grownBy w' v.ownBlock → (v'.ownBlock = v.ownBlock ∨ v'.ownBlock = some w.heap.size) → wpList Try.prog ops Q rest (a.put o.dst v') w') : wpList Try.prog ops Q (o :: rest) a w := by
  obtain ⟨i, hi, hz0, hz1, hz2⟩ := info_parts info_int
  exact wpList_append_at hgd s x 22 ho base 3 i _ 1 8 Try.underlying22 hi hz0 hz1 hz2 rfl (by decide) v n xs hs hown sv m news hx hr h1 (by unfold maxLen; omega) (by omega) hbase h
theorem ints_one (xs : List Int) : ∀ u ∈ ints xs, u.oneCell' = true := by
  intro u hu
  obtain ⟨x, _, rfl⟩ := List.mem_map.1 hu
  rfl
theorem own_ge0 {w : World} {base n size : Nat} {e : TypeId} {v : Value} {xs : List Value} (h : w.ownsRow base e size v n xs) : ∀ k, v.ownBlock = some k → base ≤ k := fun k hk => (h.lt k hk).1
def OwnInts (xs : List Int) (w : World) (e : Ending) (w' : World) : Prop := ∃ v, e = .returned v ∧ w'.ownsRow w.heap.size 3 1 v xs.length (ints xs) ∧ Below w.heap.size w w'
def nats (xs : List Nat) : List Int := xs.map Int.ofNat
theorem nats_length (xs : List Nat) : (nats xs).length = xs.length := List.length_map _
def NatsAt (w : World) (v : Value) (xs : List Nat) : Prop := IntsAt w v (nats xs)
theorem nats_cell {w : World} {A : Option Addr} {n c : Nat} {xs : List Nat} (h : Row w 1 (.slice A n c) n (ints (nats xs))) (hn : n = xs.length) {i : Nat} (hi : i < xs.length) : ∃ b o x, A = some ⟨b, o, none⟩ ∧ b < w.heap.size ∧ Hid (xs[i]? = some x) ∧ w.cell? ⟨b, o + i, none⟩ = some (.int .i64 (x : Nat)) := by
  subst hn
  obtain ⟨b, o, c', hv, _, _, hbl, hcell⟩ := h.open (by omega)
  injection hv with hv1
  obtain ⟨x, hx⟩ := at_some hi
  exact ⟨b, o, x, hv1, hbl, Lib.hid hx, hcell i _ (by unfold ints nats; rw [List.getElem?_map, List.getElem?_map, hx]; rfl)⟩
def nints (xs : List Nat) : List Value := ints (nats xs)
theorem nints_length (xs : List Nat) : (nints xs).length = xs.length := by unfold nints; rw [ints_length, nats_length]
theorem nints_one (xs : List Nat) : ∀ u ∈ nints xs, u.oneCell' = true := ints_one _
theorem nints_rep (m : Nat) : nints (List.replicate m 0) = List.replicate m (Value.int .i64 0) := by
  unfold nints ints nats
  rw [List.map_replicate, List.map_replicate]
  rfl
theorem nats_own {w : World} {b n : Nat} {v : Value} {xs : List Nat} (h : w.ownsRow b 3 1 v n (nints xs)) (hn : xs.length = n) : NatsAt w v xs := by
  have := Row.of_own h
  unfold NatsAt IntsAt
  rw [nats_length, hn]
  exact this
theorem own_nil (w : World) (w' : World) (hb : Below w.heap.size w w') : OwnInts [] w (.returned (.slice none 0 0)) w' := ⟨_, rfl, World.ownsRow_nil _ _ _ _, hb⟩
theorem nints_append (a b : List Nat) : nints (a ++ b) = nints a ++ nints b := by unfold nints ints nats; rw [List.map_append, List.map_append]
theorem own_lit0 (w w' : World) (hb : Below w.heap.size w w') (t : TypeId) : OwnInts [] w (.returned (.slice (some ⟨w'.heap.size, 0, none⟩) 0 0)) (w'.alloc (.cells #[] 3)) :=
  ⟨_, rfl, World.ownsRow_lit (base := w.heap.size) (e := 3) (size := 1) w' #[] 0 hb.size (by unfold maxLen; omega) rfl, hb.alloc hb.size _⟩
theorem set_grown (w : World) (g i : Nat) (v : Value) : w.grownBy (w.setCell ⟨g, i, none⟩ v) (some g) :=
  ⟨rfl, rfl, rfl, by simp [World.setCell], fun k _ hk => heap_setCell_other w ⟨g, i, none⟩ k _ (fun e => hk (by simp [e]))⟩
theorem own_set {w : World} {base n size : Nat} {e : TypeId} {v : Value} {xs : List Value} {g i : Nat} {u : Value} (h : w.ownsRow base e size v n xs) (hg : g < base) : (w.setCell ⟨g, i, none⟩ u).ownsRow base e size v n xs :=
  own_kept h (set_grown w g i u) fun q hq e => by
    have h1 := (h.lt q hq).1
    have h2 := Option.some.inj e
    omega
theorem run_make_cap {P : Program} (t e : TypeId) (z : Value) (size bytes : Nat) (ht : P.underlying t = some (.slice e)) (hinfo : (P.info? e).map (fun i => (i.zero, i.size, i.bytes)) = some (some z, size, bytes))
    (kl kc : IntKind) (n : Nat) (hbytes : bytes * n ≤ 281474976710656) (h63 : n ≤ 9223372036854775807) (w : World) :
    (Instr.makeSlice t (.int kl 0) (.int kc (n : Int))).run P w = .ok (.slice (some ⟨w.heap.size, 0, none⟩) 0 n) (w.alloc (.cells (madeCells z.cells (n * size)) e)) := by
  obtain ⟨i, hi, hzz⟩ := Option.map_eq_some_iff.1 hinfo
  simp only [Prod.mk.injEq] at hzz
  obtain ⟨hz, hs, hb⟩ := hzz
  have hb' : (i.bytes : Int) * (n : Int) ≤ 281474976710656 := by
    have h : ((i.bytes * n : Nat) : Int) ≤ 281474976710656 := by rw [hb]; omega
    rwa [Int.natCast_mul] at h
  have hr := run_make (P := P) w t e i z ht hi hz kl kc 0 n (by omega) (by omega) hb' (by omega)
  simp only [Int.toNat_natCast, Int.toNat_zero, hs] at hr
  exact hr
theorem bel_new (w : World) (o : Obj) : Below w.heap.size w (w.alloc o) := (Below.refl _ _).alloc (Nat.le_refl _) o
theorem nats_row {w : World} {A : Option Addr} {c : Nat} {xs : List Nat} (h : NatsAt w (.slice A xs.length c) xs) : Row w 1 (.slice A xs.length c) xs.length (ints (nats xs)) := by
  have := h; unfold NatsAt IntsAt at this; rwa [nats_length] at this
theorem NatsAt.shape {w : World} {v : Value} {xs : List Nat} (h : NatsAt w v xs) : ∃ A c, v = .slice A xs.length c ∧ xs.length ≤ c ∧ c ≤ maxLen := by
  have := Row.shape h
  rwa [nats_length] at this
theorem NatsAt.below {w w' : World} {v : Value} {xs : List Nat} (h : NatsAt w v xs) (hb : Below w.heap.size w w') : NatsAt w' v xs := Row.below h hb
theorem slice_of_own {w : World} {B n size : Nat} {e : TypeId} {v : Value} {cs : List Value} (h : w.ownsRow B e size v n cs) : ∃ A c, v = .slice A n c := by
  obtain ⟨A, c, hv, -⟩ := (Row.of_own h).shape
  exact ⟨A, c, hv⟩
theorem heap_lt {w : World} {g : Nat} {o : Obj} (h : w.heap[g]? = some o) : g < w.heap.size := by
  rcases Nat.lt_or_ge g w.heap.size with hl | hl
  · exact hl
  · rw [Array.getElem?_eq_none hl] at h; cases h
theorem nints_snoc (l : List Nat) (n : Nat) : nints (l ++ [n]) = nints l ++ [.int .i64 (n : Int)] := by unfold nints ints nats; rw [List.map_append, List.map_append]; rfl
theorem own_nats {w : World} {B : Nat} {v : Value} {xs : List Nat} (h : w.ownsRow B 3 1 v xs.length (nints xs)) : NatsAt w v xs := nats_own h rfl
theorem ints_snoc (l : List Int) (n : Int) : ints (l ++ [n]) = ints l ++ [.int .i64 n] := by unfold ints; rw [List.map_append]; rfl
/-- An int of a slice, where it lies. -/
theorem ints_open {w wr : World} {A : Option Addr} {n c : Nat} {xs : List Int} (h : Row w 1 (.slice A n c) n (ints xs)) (hb : Below w.heap.size w wr) {i : Nat} (hn : n = xs.length) (hi : i < xs.length) :
    ∃ b o x, A = some ⟨b, o, none⟩ ∧ b < w.heap.size ∧ Hid (xs[i]? = some x) ∧ wr.cell? ⟨b, o + i, none⟩ = some (.int .i64 x) := by
  subst hn
  obtain ⟨b, o, c', hv, _, _, hbl, hcell⟩ := h.open (by omega)
  obtain ⟨rfl, _⟩ : A = some ⟨b, o, none⟩ ∧ True := by injection hv with e1; exact ⟨e1, trivial⟩
  obtain ⟨x, hx, hs⟩ := ints_at hi
  exact ⟨b, o, x, rfl, hbl, Lib.hid hx, (hb.cell (p := ⟨b, _, none⟩) hbl).trans (hcell _ _ hs)⟩
end Go.Proofs.Ytmlcbikljlhhkaa

namespace Go.Proofs.Ytmlcbikljlhhkaa
open Go.RowKit
theorem l1In_any (n lo hi : Int) (w : World) :
    Calls Try.prog 60 #[.int .i64 n, .int .i64 lo, .int .i64 hi] w
      fun e w' => e = .returned (.bool (decide (lo ≤ n ∧ n ≤ hi))) ∧ w = w' := by
  go_enter Try.func60, Try.ntmps60
  go_wp2
  all_goals
    go_ret
    refine ⟨ret_bool ?_, rfl⟩
    simp
    try omega
end Go.Proofs.Ytmlcbikljlhhkaa

namespace Go.Proofs.Ytmlcbikljlhhkaa
open Go.RowKit
/-! What laws do with slices of gates. -/
theorem toGate_any (c v : Int) (w : World) :
    Calls Try.prog 126 #[.agg #[.int .i64 c, .int .i64 v]] w
      fun e w' => e = .returned (.agg #[.int .i64 c, .int .i64 v]) ∧ Below w.heap.size w w' := by
  go_enter Try.func126, Try.ntmps126
  go_wp2
  refine bodyPost_ret (v := .agg #[.int .i64 c, .int .i64 v]) (by simp [results, Try.results126, go_sem]) rfl ⟨rfl, ?_⟩
  exact (((Below.refl _ _).alloc (Nat.le_refl _) _).alloc (by simp) _).alloc (by simp; omega) _
theorem info_gate : (Try.prog.info? 71).map (fun i => (i.zero, i.size, i.bytes)) = some (some (.agg #[.int .i64 0, .int .i64 0]), 2, 16) := by kernel_rfl
theorem toGateS_any (v : Value) (ks : List (Int × Int)) (w : World) (h : CubesAt w v ks) (hlen : ks.length ≤ 1048576) :
    Calls Try.prog 65 #[v] w
      fun e w' => ∃ v', e = .returned v' ∧ w'.ownsRow w.heap.size 71 2 v' ks.length (cubes ks) ∧ Below w.heap.size w w' := by
  have hmk := run_make_any (P := Try.prog) 28 71 _ 2 16 Try.underlying28 info_gate .i64 .i64 ks.length (by omega) (by omega)
  obtain ⟨A, c, hv, hc, hcm⟩ := h.shape
  subst hv
  go_enter Try.func65, Try.ntmps65
  go_wp2
  have hown0 := World.ownsRow_lit (base := w.heap.size) (e := 71) (size := 2) w (madeCells (Value.agg #[.int .i64 0, .int .i64 0]).cells (ks.length * 2)) ks.length (Nat.le_refl _) (by unfold maxLen; omega) (by simp [madeCells])
  have hb0 : Below w.heap.size w (w.alloc (.cells (madeCells (Value.agg #[.int .i64 0, .int .i64 0]).cells (ks.length * 2)) 71)) := (Below.refl _ _).alloc (Nat.le_refl _) _
  go_loopw [4] (fun i wr => ∃ (k : Nat) (cs : List Value), k ≤ ks.length ∧ i = .int .i64 k ∧ wr.ownsRow w.heap.size 71 2 (.slice (some ⟨w.heap.size, 0, none⟩) ks.length ks.length) ks.length cs ∧ cs.take (k * 2) = (cubes ks).take (k * 2) ∧ Below w.heap.size w wr)
    (fun i _ => ks.length - (intOf i).toNat)
  case atStart => exact ⟨0, _, Nat.zero_le _, rfl, hown0, rfl, hb0⟩
  case round =>
    obtain ⟨k, cs, hk, rfl, hown, htk, hb⟩ := hrel
    clear hmk hown0 hb0
    by_cases hlt : k < ks.length
    · obtain ⟨b, o, x, rfl, hbl, hx, hs1, hs2⟩ := cubes_open h hb rfl hlt
      have hl := hown.1
      have Hb := Lib.hid hb
      have Hown := Lib.hid hown
      have Htk := Lib.hid htk
      clear h hb hown htk
      go_wp2_with fail
      refine (toGate_any _ _ _).mono ?_
      rintro e w2 ⟨rfl, hb2⟩
      have ho2 := own_below Hown.out hb2
      obtain ⟨u0, _, hd0, hf0⟩ := own_slot ho2 (j := k * 2) (by omega)
      obtain ⟨u1, _, hd1, hf1⟩ := own_slot ho2 (j := k * 2 + 1) (by omega)
      obtain ⟨g1, g2⟩ := cubes_get hx.out
      have st := (ho2.stored (k * 2) (.int .i64 x.1)).1
      have st2 := Lib.hid (st.stored (k * 2 + 1) (.int .i64 x.2)).1
      have tk2 := Lib.hid (take_set2 (by omega) Htk.out g1 g2)
      have hbb := Lib.hid ((Hb.out.trans (hb2.mono Hb.out.size)))
      clear hb2 ho2 st g1 g2 hl
      go_wp2
      go_roundw
      case rel => exact ⟨k + 1, _, by omega, by go_num, st2.out, tk2.out, (hbb.out.setCell (Nat.le_refl _) _).setCell (Nat.le_refl _) _⟩
      case measure => simp [intOf]; omega
    · go_wp2
      go_ret
      have e : cs = cubes ks := by
        have hl := hown.1
        rw [List.take_of_length_le (by omega), List.take_of_length_le (by rw [cubes_length]; omega)] at htk
        exact htk
      exact ⟨_, rfl, e ▸ hown, hb⟩

theorem szGateS_ok (v : Value) (n : Nat) (cs : List Value) (w : World) (left : Int) (h : Row w 2 v n cs) (hl : left ≤ 1048576) (hn : (n : Int) ≤ left) :
    Calls Try.prog 58 #[v, .int .i64 left] w
      fun e w' => e = .returned (.int .i64 (left - n)) ∧ w = w' := by
  obtain ⟨A, c, hv, hc, hcm⟩ := h.shape
  subst hv
  unfold maxLen at hcm
  have h0 : 0 ≤ left - n := by omega
  go_enter Try.func58, Try.ntmps58
  go_wp2
  go_ret
  exact ⟨rfl, rfl⟩
theorem szGateS_no (v : Value) (n : Nat) (cs : List Value) (w : World) (left : Int) (h : Row w 2 v n cs) (hl : 0 ≤ left) (hn : left < n) :
    Calls Try.prog 58 #[v, .int .i64 left] w
      fun e w' => e = .returned (.int .i64 (-1)) ∧ w = w' := by
  obtain ⟨A, c, hv, hc, hcm⟩ := h.shape
  subst hv
  unfold maxLen at hcm
  have h0 : left - n < 0 := by omega
  go_enter Try.func58, Try.ntmps58
  go_wp2
  go_ret
  exact ⟨rfl, rfl⟩
theorem eqGate_any (a b c d : Int) (w : World) :
    Calls Try.prog 131 #[.agg #[.int .i64 a, .int .i64 b], .agg #[.int .i64 c, .int .i64 d]] w
      fun e w' => e = .returned (.bool (decide ((a, b) = (c, d)))) ∧ Below w.heap.size w w' := by
  by_cases h1 : a = c
  · by_cases h2 : b = d
    · subst h1 h2
      have d1 : (a != a) = false := by simp
      have d2 : (b != b) = false := by simp
      go_enter Try.func131, Try.ntmps131
      go_wp2
      go_ret
      exact ⟨ret_bool (by simp), ((Below.refl _ _).alloc (Nat.le_refl _) _).alloc (by simp) _⟩
    · subst h1
      have d1 : (a != a) = false := by simp
      have d2 : (b != d) = true := by simpa using h2
      go_enter Try.func131, Try.ntmps131
      go_wp2
      go_ret
      exact ⟨ret_bool (by simp [h2]), ((Below.refl _ _).alloc (Nat.le_refl _) _).alloc (by simp) _⟩
  · have d1 : (a != c) = true := by simpa using h1
    go_enter Try.func131, Try.ntmps131
    go_wp2
    go_ret
    exact ⟨ret_bool (by simp [h1]), ((Below.refl _ _).alloc (Nat.le_refl _) _).alloc (by simp) _⟩

set_option maxRecDepth 100000 in
theorem eqGateS_any (v v2 : Value) (xs ys : List (Int × Int)) (w : World) (h : CubesAt w v xs) (h2 : CubesAt w v2 ys) :
    Calls Try.prog 70 #[v, v2] w
      fun e w' => e = .returned (.bool (decide (xs = ys))) ∧ Below w.heap.size w w' := by
  obtain ⟨A, c, hv, hc, hcm⟩ := h.shape
  obtain ⟨A2, c2, hv2, hc2, hcm2⟩ := h2.shape
  subst hv hv2
  unfold maxLen at hcm hcm2
  by_cases he : xs.length = ys.length
  · have hb := Lib.hid he
    have he1 : ((xs.length : Int) != (ys.length : Int)) = false := by rw [he]; simp
    have he2 : xs.length ≤ ys.length := by omega
    clear he
    go_enter Try.func70, Try.ntmps70
    go_wp2
    go_loopw [5] (fun i wr => ∃ (k : Nat), k ≤ xs.length ∧ i = .int .i64 k ∧ xs.take k = ys.take k ∧ Below w.heap.size w wr)
      (fun i _ => xs.length - (intOf i).toNat)
    case atStart => exact ⟨0, Nat.zero_le _, rfl, rfl, Below.refl _ _⟩
    case round =>
      obtain ⟨k, hk, rfl, htk, hd⟩ := hrel
      by_cases hlt : k < xs.length
      · obtain ⟨b, o, x, rfl, hbl, hx, hs1, hs2⟩ := cubes_open h hd rfl hlt
        obtain ⟨b2, o2, y, rfl, hbl2, hy, ht1, ht2⟩ := cubes_open h2 hd rfl (show k < ys.length by omega)
        have hlt2 : k < ys.length := by omega
        have Ht := Lib.hid htk
        have Hd := Lib.hid hd
        clear htk h h2 hd
        go_wp2
        go_still_tail 8, (by kernel_rfl)
        change wpList _ _ _ _ _ wr.drew
        have Hd' := Lib.hid Hd.out.drew
        generalize wr.drew = w1 at *
        by_cases hxy : x = y
        · have Hxy := Lib.hid hxy
          have hdec : decide ((x.1, x.2) = (y.1, y.2)) = true := decide_eq_true hxy
          clear hxy
          go_wp2_with (go_at_call 131; refine (eqGate_any _ _ _ _ _).mono ?_; rintro e w2 ⟨rfl, hb2⟩; rw [hdec])
          go_roundw
          case rel => exact ⟨k + 1, by omega, by go_num, by rw [take_snoc hx.out, take_snoc hy.out, Ht.out, Hxy.out], Hd'.out.trans (hb2.mono Hd'.out.size)⟩
          case measure => simp [intOf]; omega
        · have hdec : decide ((x.1, x.2) = (y.1, y.2)) = false := decide_eq_false hxy
          have Hxy := Lib.hid hxy
          clear hxy
          go_wp2_with (go_at_call 131; refine (eqGate_any _ _ _ _ _).mono ?_; rintro e w2 ⟨rfl, hb2⟩; rw [hdec])
          go_ret
          exact ⟨ret_bool (decide_eq_false (take_ne hx.out hy.out Hxy.out)).symm, Hd'.out.trans (hb2.mono Hd'.out.size)⟩
      · go_wp2
        go_ret
        have e : xs = ys := by
          rw [List.take_of_length_le (by omega), List.take_of_length_le (by have := hb.out; omega)] at htk
          exact htk
        exact ⟨ret_bool (decide_eq_true e).symm, hd⟩
  · have hn : xs ≠ ys := fun e => he (by rw [e])
    have Hn := Lib.hid hn
    have he1 : ((xs.length : Int) != (ys.length : Int)) = true := by rw [bne_iff_ne]; omega
    clear he hn
    go_enter Try.func70, Try.ntmps70
    go_wp2
    go_ret
    exact ⟨ret_bool (decide_eq_false Hn.out).symm, Below.refl _ _⟩
end Go.Proofs.Ytmlcbikljlhhkaa

namespace Go.Proofs.Ytmlcbikljlhhkaa
open Go.RowKit Go.Maps
set_option maxRecDepth 100000
/-! Sets of natural numbers: maps of int to bool that the call has made, and in which only 'true' is stored. -/
theorem set_keyed : Keyed Try.prog 3 := int_keyed Try.underlying3
/-- Block b is a map of at most n entries; the elements are those of S. -/
def SetAt (w : World) (b n : Nat) (S : Nat → Bool) : Prop := ∃ D : DataW Unit, w.ownsMap Try.prog 3 (plainElem Try.prog 4) b n D ∧ IsMap D ∧ (∀ x : Nat, D.atKey (.int .i64 (x : Int)) (.lit (.bool false)) = .lit (.bool (S x))) ∧ (∀ kl, Maps.has D kl = true → ∃ x : Nat, kl = .int .i64 (x : Int) ∧ S x = true ∧ (x : Int) ≤ 9223372036854775807) ∧ ∀ x : Nat, S x = true → Maps.has D (.int .i64 (x : Int)) = true
theorem SetAt.lt {w : World} {b n : Nat} {S : Nat → Bool} (h : SetAt w b n S) : b < w.heap.size := by
  obtain ⟨D, h1, _⟩ := h
  exact h1.lt
theorem SetAt.only {E : Nat → Prop} {w w' : World} {b n : Nat} {S : Nat → Bool} (h : SetAt w b n S) (ho : Only E w w') (hE : ¬ E b) : SetAt w' b n S := by
  have hl := h.lt
  obtain ⟨D, ⟨es, clock, h1, h2, h3, h4⟩, h5⟩ := h
  exact ⟨D, ⟨es, clock, (ho.block b hl hE).trans h1, h2, h3, h4⟩, h5⟩
theorem SetAt.below {w w' : World} {b n : Nat} {S : Nat → Bool} (h : SetAt w b n S) (hb : Below w.heap.size w w') : SetAt w' b n S :=
  h.only (E := fun _ => False) ⟨hb.os, hb.tape, hb.output, hb.size, fun k hk _ => hb.block k hk⟩ id
theorem SetAt.mono {w : World} {b n n' : Nat} {S : Nat → Bool} (h : SetAt w b n S) (hn : n ≤ n') : SetAt w b n' S := by
  obtain ⟨D, h1, h2⟩ := h
  exact ⟨D, h1.mono hn, h2⟩
theorem SetAt.congr {w : World} {b n : Nat} {S S' : Nat → Bool} (h : SetAt w b n S) (he : ∀ x, S x = S' x) : SetAt w b n S' := by
  rwa [← funext he]
theorem setAt_made (w : World) : SetAt (w.alloc (.map #[] 0)) w.heap.size 0 (fun _ => false) :=
  ⟨.map [], World.ownsMap_made w _ _ _, isMap_empty, fun x => rfl, fun kl h => (by cases h), fun x h => (by cases h)⟩
theorem i64_wf {x : Nat} (h : (x : Int) ≤ 9223372036854775807) : (Lit.int .i64 (x : Int)).wf = true := by
  simp [Lit.wf, IntKind.min, IntKind.max, IntKind.signed, IntKind.bits]
  omega
theorem i64_ne {x y : Nat} (h : x ≠ y) : Lit.int .i64 (x : Int) ≠ Lit.int .i64 (y : Int) := by
  intro e
  injection e with e1 e2
  exact h (by omega)
section
variable (w : World) {ops : Array Oper} {rest : List Oper} {o : Oper} {a : Act} {Q : Exit → Act → World → Prop}
theorem zero_bool (w : World) : (zeroValue 4).run Try.prog w = .ok (.bool false) w := by kernel_rfl
/-- seen[x] -/
theorem wpList_look_set (hg : o.guard = none) (m x : Operand) (hop : o.op = Op.lookup 108 m x false) (b n : Nat) (S : Nat → Bool) (hm : a.eval m = .map (some b)) (h : SetAt w b n S) (k : Nat) (hk : (k : Int) ≤ 9223372036854775807) (hx : a.eval x = .int .i64 (k : Int))
    (hK : wpList Try.prog ops Q rest (a.put o.dst (.bool (S k))) w) : wpList Try.prog ops Q (o :: rest) a w := by
  refine wpList_plain hg fun K' hK' => ?_
  obtain ⟨D, h1, h2, h3, -⟩ := h
  obtain ⟨v, ps, hrun, hv⟩ := h1.lookup set_keyed Try.underlying108 (zero_bool w) (plainElem_bool Try.underlying4 false) (keyOf_int_mk Try.underlying3 (i64_wf hk))
  rw [h3 k] at hv
  have hvb : v = .bool (S k) := by
    unfold plainElem at hv
    rw [Try.underlying4] at hv
    cases v <;> simp at hv
    rw [hv.1]
  subst hvb
  unfold Oper.wp
  simp [execOp, hop, hm, hx, hrun, Result.andThen]
  exact hK' _ _ hK
/-- seen[x] = true -/
theorem wpList_add_set (hg : o.guard = none) (m x v : Operand) (hop : o.op = Op.mapUpdate 108 m x v ∨ o.op = Op.insert 108 m x v) (b n : Nat) (S : Nat → Bool) (hm : a.eval m = .map (some b)) (h : SetAt w b n S) (hn : n ≤ 1000000) (k : Nat) (hk : (k : Int) ≤ 9223372036854775807) (hx : a.eval x = .int .i64 (k : Int)) (hv : a.eval v = .bool true)
    (hK : ∀ w', SetAt w' b (n + 1) (fun z => S z || z == k) → w.grownBy w' (some b) → wpList Try.prog ops Q rest (a.put o.dst undef) w') : wpList Try.prog ops Q (o :: rest) a w := by
  refine wpList_plain hg fun K' hK' => ?_
  obtain ⟨D, h1, h2, h3, h4, h5⟩ := h
  have hkey := keyOf_int_mk (P := Try.prog) Try.underlying3 (i64_wf hk)
  obtain ⟨w', hrun, r1, r2⟩ := h1.update set_keyed Try.underlying108 (by unfold maxLen; omega) hkey (plainElem_bool Try.underlying4 true)
  have hlit : WideAt.IsKeyLit (.int .i64 (k : Int)) := set_keyed.key hkey
  unfold Oper.wp
  have hq : SetAt w' b (n + 1) (fun z => S z || z == k) := by
    refine ⟨_, r1, h2.put _ _, fun x => ?_, fun kl hh => ?_, fun x hS => ?_⟩
    · by_cases hxk : x = k
      · subst hxk
        rw [atKey_put_same h2 hlit]
        simp
      · rw [atKey_put_other (i64_ne hxk), h3 x]
        have : (x == k) = false := by simpa using hxk
        simp [this]
    · by_cases hkl : kl = .int .i64 (k : Int)
      · exact ⟨k, hkl, by simp, hk⟩
      · rw [has_put_other hkl] at hh
        obtain ⟨x, e1, e2, e3⟩ := h4 kl hh
        exact ⟨x, e1, by simp [e2], e3⟩
    · by_cases hxk : x = k
      · subst hxk
        exact has_put_same h2 hlit _
      · rw [has_put_other (i64_ne hxk)]
        have h6 : (x == k) = false := by simpa using hxk
        simp [h6] at hS
        exact h5 x hS
  have hw2 := hK w' hq r2
  rcases hop with hop | hop
  · simp [execOp, hop, hm, hx, hv, hrun, Result.andThen]
    exact hK' _ _ hw2
  · simp [execOp, hop, hm, hx, hv, hrun, Result.andThen]
    exact hK' _ _ hw2
end
end Go.Proofs.Ytmlcbikljlhhkaa

namespace Go.Proofs.Ytmlcbikljlhhkaa
/-! Machines, plainly. -/
/-- A machine as it lies in memory. -/
structure Mz where
  ins : Int
  next : List (List Int)
  out : List (List Int)
namespace Mac
def lenOk (ins : Int) (r : List Int) : Bool := decide ((r.length : Int) = ((2 ^ ins.toNat : Nat) : Int))
def inOk (limit x : Int) : Bool := decide (0 ≤ x ∧ x < limit)
def rowOk (ins limit : Int) (r : List Int) : Bool := lenOk ins r && r.all (inOk limit)
def sizes (m : Mz) : Bool := decide (0 ≤ m.ins ∧ m.ins ≤ 4 ∧ 1 ≤ m.next.length ∧ m.next.length ≤ 8 ∧ m.out.length = m.next.length)
def valid (m : Mz) : Bool := sizes m && (m.next.all (rowOk m.ins m.next.length) && m.out.all (rowOk m.ins 8))
/-- Row by row, as the reference looks at it. -/
def entOk (n : Int) (p : Int × Int) : Bool := inOk n p.1 && inOk 8 p.2
def pairOk (ins n : Int) (p : List Int × List Int) : Bool := lenOk ins p.1 && lenOk ins p.2 && (p.1.zip p.2).all (entOk n)
theorem all_zip {α β : Type} (f : α → Bool) (g : β → Bool) : ∀ (l : List α) (l' : List β), l.length = l'.length → (l.zip l').all (fun p => f p.1 && g p.2) = (l.all f && l'.all g)
  | [], [], _ => rfl
  | a :: l, b :: l', h => by
    rw [List.zip_cons_cons, List.all_cons, List.all_cons, List.all_cons, all_zip f g l l' (by simpa using h)]
    cases f a <;> cases g b <;> simp
  | [], _ :: _, h => by simp at h
  | _ :: _, [], h => by simp at h
theorem pair_row (ins n : Int) (p : List Int × List Int) : pairOk ins n p = (rowOk ins n p.1 && rowOk ins 8 p.2) := by
  unfold pairOk rowOk
  cases h1 : lenOk ins p.1
  · simp
  · cases h2 : lenOk ins p.2
    · simp
    · unfold lenOk at h1 h2
      rw [decide_eq_true_eq] at h1 h2
      have := all_zip (inOk n) (inOk 8) p.1 p.2 (by omega)
      simp only [Bool.true_and]
      exact this
theorem valid_zip (m : Mz) : valid m = (sizes m && (m.next.zip m.out).all (pairOk m.ins m.next.length)) := by
  unfold valid
  cases h : sizes m
  · rfl
  · unfold sizes at h
    rw [decide_eq_true_eq] at h
    rw [show (pairOk m.ins m.next.length) = fun p => rowOk m.ins m.next.length p.1 && rowOk m.ins 8 p.2 from funext (pair_row _ _), all_zip _ _ _ _ h.2.2.2.2.symm]
theorem sizes_cases {m : Mz} (h : sizes m = false) : m.ins < 0 ∨ (0 ≤ m.ins ∧ 4 < m.ins) ∨ (0 ≤ m.ins ∧ m.ins ≤ 4 ∧ (m.next.length : Int) < 1) ∨ (0 ≤ m.ins ∧ m.ins ≤ 4 ∧ (1 : Int) ≤ m.next.length ∧ (8 : Int) < m.next.length) ∨ (0 ≤ m.ins ∧ m.ins ≤ 4 ∧ (1 : Int) ≤ m.next.length ∧ (m.next.length : Int) ≤ 8 ∧ (m.out.length : Int) ≠ m.next.length) := by
  unfold sizes at h
  rw [decide_eq_false_iff_not] at h
  omega
theorem all_dropG {α : Type} {p : α → Bool} {l : List α} {k : Nat} {x : α} (h : l[k]? = some x) : (l.drop k).all p = (p x && (l.drop (k + 1)).all p) := by
  obtain ⟨hk, rfl⟩ := List.getElem?_eq_some_iff.1 h
  rw [List.drop_eq_getElem_cons hk, List.all_cons]
theorem zip_get {α β : Type} {l : List α} {l' : List β} {k : Nat} {x : α} {y : β} (h : l[k]? = some x) (h' : l'[k]? = some y) : (l.zip l')[k]? = some (x, y) := by
  rw [List.getElem?_zip_eq_some]
  exact ⟨h, h'⟩
end Mac
end Go.Proofs.Ytmlcbikljlhhkaa

namespace Go.Proofs.Ytmlcbikljlhhkaa
open Go.RowKit
set_option maxRecDepth 100000
/-! What laws do with machines. -/
def MachAt (w : World) (v : Value) (m : Mz) : Prop := ∃ vn vo, v = .agg #[.int .i64 m.ins, vn, vo] ∧ SSAt ints w vn m.next ∧ SSAt ints w vo m.out
theorem MachAt.below {w w' : World} {v : Value} {m : Mz} (h : MachAt w v m) (hb : Below w.heap.size w w') : MachAt w' v m := by
  obtain ⟨vn, vo, hv, h1, h2⟩ := h
  exact ⟨vn, vo, hv, h1.below hb, h2.below hb⟩
theorem MachAt.shape {w : World} {v : Value} {m : Mz} (h : MachAt w v m) : ∃ An cn Ao co, v = .agg #[.int .i64 m.ins, .slice An m.next.length cn, .slice Ao m.out.length co] ∧ cn ≤ maxLen ∧ co ≤ maxLen ∧ m.next.length ≤ cn ∧ m.out.length ≤ co := by
  obtain ⟨vn, vo, rfl, h1, h2⟩ := h
  obtain ⟨An, cn, rfl, h3, h4⟩ := h1.shape
  obtain ⟨Ao, co, rfl, h5, h6⟩ := h2.shape
  exact ⟨An, cn, Ao, co, rfl, h4, h6, h3, h5⟩
/-- The cells of a machine in memory. -/
def MCells (w : World) (g : Nat) (i : Int) (vn vo : Value) : Prop := g < w.heap.size ∧ w.cell? ⟨g, 0, none⟩ = some (.int .i64 i) ∧ w.cell? ⟨g, 1, none⟩ = some vn ∧ w.cell? ⟨g, 2, none⟩ = some vo
theorem MCells.below {w w' : World} {g : Nat} {i : Int} {vn vo : Value} (h : MCells w g i vn vo) (hb : Below w.heap.size w w') : MCells w' g i vn vo := by
  obtain ⟨hg, c0, c1, c2⟩ := h
  exact ⟨Nat.lt_of_lt_of_le hg hb.size, (hb.cell (p := ⟨g, 0, none⟩) hg).trans c0, (hb.cell (p := ⟨g, 1, none⟩) hg).trans c1, (hb.cell (p := ⟨g, 2, none⟩) hg).trans c2⟩
theorem MCells.boxed (w : World) (i : Int) (vn vo : Value) (t : TypeId) : MCells (w.alloc (.cells #[.int .i64 i, vn, vo] t)) w.heap.size i vn vo :=
  ⟨by simp, World.cell?_alloc_new _ _ _ 0, World.cell?_alloc_new _ _ _ 1, World.cell?_alloc_new _ _ _ 2⟩
theorem bel_alloc (w : World) (o : Obj) : Below w.heap.size w (w.alloc o) := (Below.refl _ _).alloc (Nat.le_refl _) o
theorem set_grownM (w : World) (g i : Nat) (v : Value) : w.grownBy (w.setCell ⟨g, i, none⟩ v) (some g) :=
  ⟨rfl, rfl, rfl, by simp [World.setCell], fun k _ hk => heap_setCell_other w ⟨g, i, none⟩ k _ (fun e => hk (by simp [e]))⟩
theorem own_setSS {α : Type} {enc : List α → List Value} {to ti : TypeId} {B T : Nat} {w : World} {v : Value} {xss : List (List α)} {g i : Nat} {u : Value} (h : OwnSS enc to ti B T w v xss) (hg : g < B) : OwnSS enc to ti B T (w.setCell ⟨g, i, none⟩ u) v xss :=
  OwnSS.only h (Only.grown (E := fun k => k = g) (set_grownM w g i u) (fun k hk => (Option.some.inj hk).symm)) (fun k hk _ e => by omega)
end Go.Proofs.Ytmlcbikljlhhkaa

namespace Go.Proofs.Ytmlcbikljlhhkaa
open Go.RowKit
/-- What marking a slice comes to. -/
def MarkedGates (B : Nat) (v : Value) (n k : Nat) (w : World) (e : Ending) (w' : World) : Prop :=
  e = .returned (.int .i64 ((k + n * 2 : Nat) : Int)) ∧ w'.ownsRow B 71 2 v n (runI k (n * 2)) ∧ w.grownBy w' v.ownBlock
theorem markGateS_any (B : Nat) (v : Value) (n k : Nat) (cs : List Value) (w : World) (h : w.ownsRow B 71 2 v n cs) (hn : n ≤ 1048576) (hk : k ≤ 100000000) :
    Calls Try.prog 76 #[v, .int .i64 k] w (MarkedGates B v n k w) := by
  have hlc := h.1
  obtain ⟨A, c, hv, hc, hcm⟩ := (Row.of_own h).shape
  subst hv
  have H := Lib.hid h
  clear h
  go_enter Try.func76, Try.ntmps76
  go_wp2_with fail
  go_loopw [1, 5] (fun q i wr => ∃ (j : Nat) (ds : List Value), j ≤ n ∧ i = .int .i64 j ∧ q = .int .i64 ((k + j * 2 : Nat) : Int) ∧ wr.ownsRow B 71 2 (.slice A n c) n ds ∧ ds.take (j * 2) = runI k (j * 2) ∧ w.grownBy wr (Value.slice A n c).ownBlock) (fun _ i _ => n - (intOf i).toNat)
  case atStart => exact ⟨0, cs, Nat.zero_le _, rfl, rfl, H.out, rfl, World.grownBy.refl w _⟩
  case round =>
    obtain ⟨j, ds, hj, rfl, rfl, hown, htk, hg⟩ := hrel
    by_cases hlt : j < n
    · obtain ⟨g, c', hv, _, hgl, _⟩ := own_open hown (by omega)
      injection hv with hA _ hcc
      subst hA hcc
      have hl := hown.1
      obtain ⟨u0, _, hd0, hf0⟩ := own_slot hown (j := j * 2) (by omega)
      obtain ⟨u1, _, hd1, hf1⟩ := own_slot hown (j := j * 2 + 1) (by omega)
      have s1 := hown.stored (j * 2) (.int .i64 ((k : Int) + (j : Int) * 2))
      have s2 := Lib.hid (s1.1.stored (j * 2 + 1) (.int .i64 ((k : Int) + (j : Int) * 2 + 1)))
      have t1 := set_run_at (m := n * 2) (x := (k : Int) + (j : Int) * 2) (by omega) hl (by omega) htk
      have t2 := Lib.hid (set_run_at (m := n * 2) (j := j * 2 + 1) (x := (k : Int) + (j : Int) * 2 + 1) (by omega) (by simp [hl]) (by omega) t1)
      have G := Lib.hid (grownBy_comp hg s1.2)
      clear hown htk hl hg s1 t1 H
      go_wp2_with fail
      go_roundw
      case rel => exact ⟨j + 1, _, by omega, by go_num, by rw [show k + (j + 1) * 2 = k + j * 2 + 2 from by omega]; go_num, s2.out.1, by rw [show (j + 1) * 2 = j * 2 + 1 + 1 from by omega]; exact t2.out, grownBy_comp G.out s2.out.2⟩
      case measure => simp [intOf]; omega
    · obtain rfl : j = n := by omega
      go_wp2
      go_ret
      exact ⟨rfl, own_of_take hown htk, hg⟩
end Go.Proofs.Ytmlcbikljlhhkaa
