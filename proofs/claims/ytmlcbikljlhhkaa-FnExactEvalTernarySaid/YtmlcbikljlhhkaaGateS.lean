import Derived.Test.YtmlcbikljlhhkaaProg
import Derived.Test.YtmlcbikljlhhkaaPair
import Derived.StillTailTactics
namespace Go.Proofs.Ytmlcbikljlhhkaa
open Go.RowKit
/-! What laws do with slices of gates. -/
theorem toGate_any (c v : Int) (w : World) :
    Calls Try.prog 126 #[.agg #[.int .i64 c, .int .i64 v]] w
      fun e w' => e = .returned (.agg #[.int .i64 c, .int .i64 v]) ∧ Below w.heap.size w w' := by
  go_enter Try.func126, Try.ntmps126
  go_wp2
  refine bodyPost_ret (v := .agg #[.int .i64 c, .int .i64 v]) (by simp [results, Try.results126, go_sem]) rfl ⟨rfl, ?_⟩
  exact (((Below.refl _ _).alloc (Nat.le_refl _) _).alloc (by simp) _).alloc (by simp; omega) _
theorem info_gate : (Try.prog.info? 71).map (fun i => (i.zero, i.size, i.bytes)) = some (some (.agg #[.int .i64 0, .int .i64 0]), 2, 16) := by kernel_rfl
theorem toGateS_any (v : Value) (ks : List (Int × Int)) (w : World) (h : CubesAt w v ks) (hlen : ks.length ≤ 1048576) :
    Calls Try.prog 65 #[v] w
      fun e w' => ∃ v', e = .returned v' ∧ w'.ownsRow w.heap.size 71 2 v' ks.length (cubes ks) ∧ Below w.heap.size w w' := by
  have hmk := run_make_any (P := Try.prog) 28 71 _ 2 16 Try.underlying28 info_gate .i64 .i64 ks.length (by omega) (by omega)
  obtain ⟨A, c, hv, hc, hcm⟩ := h.shape
  subst hv
  go_enter Try.func65, Try.ntmps65
  go_wp2
  have hown0 := World.ownsRow_lit (base := w.heap.size) (e := 71) (size := 2) w (madeCells (Value.agg #[.int .i64 0, .int .i64 0]).cells (ks.length * 2)) ks.length (Nat.le_refl _) (by unfold maxLen; omega) (by simp [madeCells])
  have hb0 : Below w.heap.size w (w.alloc (.cells (madeCells (Value.agg #[.int .i64 0, .int .i64 0]).cells (ks.length * 2)) 71)) := (Below.refl _ _).alloc (Nat.le_refl _) _
  go_loopw [4] (fun i wr => ∃ (k : Nat) (cs : List Value), k ≤ ks.length ∧ i = .int .i64 k ∧ wr.ownsRow w.heap.size 71 2 (.slice (some ⟨w.heap.size, 0, none⟩) ks.length ks.length) ks.length cs ∧ cs.take (k * 2) = (cubes ks).take (k * 2) ∧ Below w.heap.size w wr)
    (fun i _ => ks.length - (intOf i).toNat)
  case atStart => exact ⟨0, _, Nat.zero_le _, rfl, hown0, rfl, hb0⟩
  case round =>
    obtain ⟨k, cs, hk, rfl, hown, htk, hb⟩ := hrel
    clear hmk hown0 hb0
    by_cases hlt : k < ks.length
    · obtain ⟨b, o, x, rfl, hbl, hx, hs1, hs2⟩ := cubes_open h hb rfl hlt
      have hl := hown.1
      have Hb := Lib.hid hb
      have Hown := Lib.hid hown
      have Htk := Lib.hid htk
      clear h hb hown htk
      go_wp2_with fail
      refine (toGate_any _ _ _).mono ?_
      rintro e w2 ⟨rfl, hb2⟩
      have ho2 := own_below Hown.out hb2
      obtain ⟨u0, _, hd0, hf0⟩ := own_slot ho2 (j := k * 2) (by omega)
      obtain ⟨u1, _, hd1, hf1⟩ := own_slot ho2 (j := k * 2 + 1) (by omega)
      obtain ⟨g1, g2⟩ := cubes_get hx.out
      have st := (ho2.stored (k * 2) (.int .i64 x.1)).1
      have st2 := Lib.hid (st.stored (k * 2 + 1) (.int .i64 x.2)).1
      have tk2 := Lib.hid (take_set2 (by omega) Htk.out g1 g2)
      have hbb := Lib.hid ((Hb.out.trans (hb2.mono Hb.out.size)))
      clear hb2 ho2 st g1 g2 hl
      go_wp2
      go_roundw
      case rel => exact ⟨k + 1, _, by omega, by go_num, st2.out, tk2.out, (hbb.out.setCell (Nat.le_refl _) _).setCell (Nat.le_refl _) _⟩
      case measure => simp [intOf]; omega
    · go_wp2
      go_ret
      have e : cs = cubes ks := by
        have hl := hown.1
        rw [List.take_of_length_le (by omega), List.take_of_length_le (by rw [cubes_length]; omega)] at htk
        exact htk
      exact ⟨_, rfl, e ▸ hown, hb⟩

theorem szGateS_ok (v : Value) (n : Nat) (cs : List Value) (w : World) (left : Int) (h : Row w 2 v n cs) (hl : left ≤ 1048576) (hn : (n : Int) ≤ left) :
    Calls Try.prog 58 #[v, .int .i64 left] w
      fun e w' => e = .returned (.int .i64 (left - n)) ∧ w = w' := by
  obtain ⟨A, c, hv, hc, hcm⟩ := h.shape
  subst hv
  unfold maxLen at hcm
  have h0 : 0 ≤ left - n := by omega
  go_enter Try.func58, Try.ntmps58
  go_wp2
  go_ret
  exact ⟨rfl, rfl⟩
theorem szGateS_no (v : Value) (n : Nat) (cs : List Value) (w : World) (left : Int) (h : Row w 2 v n cs) (hl : 0 ≤ left) (hn : left < n) :
    Calls Try.prog 58 #[v, .int .i64 left] w
      fun e w' => e = .returned (.int .i64 (-1)) ∧ w = w' := by
  obtain ⟨A, c, hv, hc, hcm⟩ := h.shape
  subst hv
  unfold maxLen at hcm
  have h0 : left - n < 0 := by omega
  go_enter Try.func58, Try.ntmps58
  go_wp2
  go_ret
  exact ⟨rfl, rfl⟩
theorem eqGate_any (a b c d : Int) (w : World) :
    Calls Try.prog 131 #[.agg #[.int .i64 a, .int .i64 b], .agg #[.int .i64 c, .int .i64 d]] w
      fun e w' => e = .returned (.bool (decide ((a, b) = (c, d)))) ∧ Below w.heap.size w w' := by
  by_cases h1 : a = c
  · by_cases h2 : b = d
    · subst h1 h2
      have d1 : (a != a) = false := by simp
      have d2 : (b != b) = false := by simp
      go_enter Try.func131, Try.ntmps131
      go_wp2
      go_ret
      exact ⟨ret_bool (by simp), ((Below.refl _ _).alloc (Nat.le_refl _) _).alloc (by simp) _⟩
    · subst h1
      have d1 : (a != a) = false := by simp
      have d2 : (b != d) = true := by simpa using h2
      go_enter Try.func131, Try.ntmps131
      go_wp2
      go_ret
      exact ⟨ret_bool (by simp [h2]), ((Below.refl _ _).alloc (Nat.le_refl _) _).alloc (by simp) _⟩
  · have d1 : (a != c) = true := by simpa using h1
    go_enter Try.func131, Try.ntmps131
    go_wp2
    go_ret
    exact ⟨ret_bool (by simp [h1]), ((Below.refl _ _).alloc (Nat.le_refl _) _).alloc (by simp) _⟩

set_option maxRecDepth 100000 in
theorem eqGateS_any (v v2 : Value) (xs ys : List (Int × Int)) (w : World) (h : CubesAt w v xs) (h2 : CubesAt w v2 ys) :
    Calls Try.prog 70 #[v, v2] w
      fun e w' => e = .returned (.bool (decide (xs = ys))) ∧ Below w.heap.size w w' := by
  obtain ⟨A, c, hv, hc, hcm⟩ := h.shape
  obtain ⟨A2, c2, hv2, hc2, hcm2⟩ := h2.shape
  subst hv hv2
  unfold maxLen at hcm hcm2
  by_cases he : xs.length = ys.length
  · have hb := Lib.hid he
    have he1 : ((xs.length : Int) != (ys.length : Int)) = false := by rw [he]; simp
    have he2 : xs.length ≤ ys.length := by omega
    clear he
    go_enter Try.func70, Try.ntmps70
    go_wp2
    go_loopw [5] (fun i wr => ∃ (k : Nat), k ≤ xs.length ∧ i = .int .i64 k ∧ xs.take k = ys.take k ∧ Below w.heap.size w wr)
      (fun i _ => xs.length - (intOf i).toNat)
    case atStart => exact ⟨0, Nat.zero_le _, rfl, rfl, Below.refl _ _⟩
    case round =>
      obtain ⟨k, hk, rfl, htk, hd⟩ := hrel
      by_cases hlt : k < xs.length
      · obtain ⟨b, o, x, rfl, hbl, hx, hs1, hs2⟩ := cubes_open h hd rfl hlt
        obtain ⟨b2, o2, y, rfl, hbl2, hy, ht1, ht2⟩ := cubes_open h2 hd rfl (show k < ys.length by omega)
        have hlt2 : k < ys.length := by omega
        have Ht := Lib.hid htk
        have Hd := Lib.hid hd
        clear htk h h2 hd
        go_wp2
        go_still_tail 8, (by kernel_rfl)
        change wpList _ _ _ _ _ wr.drew
        have Hd' := Lib.hid Hd.out.drew
        generalize wr.drew = w1 at *
        by_cases hxy : x = y
        · have Hxy := Lib.hid hxy
          have hdec : decide ((x.1, x.2) = (y.1, y.2)) = true := decide_eq_true hxy
          clear hxy
          go_wp2_with (go_at_call 131; refine (eqGate_any _ _ _ _ _).mono ?_; rintro e w2 ⟨rfl, hb2⟩; rw [hdec])
          go_roundw
          case rel => exact ⟨k + 1, by omega, by go_num, by rw [take_snoc hx.out, take_snoc hy.out, Ht.out, Hxy.out], Hd'.out.trans (hb2.mono Hd'.out.size)⟩
          case measure => simp [intOf]; omega
        · have hdec : decide ((x.1, x.2) = (y.1, y.2)) = false := decide_eq_false hxy
          have Hxy := Lib.hid hxy
          clear hxy
          go_wp2_with (go_at_call 131; refine (eqGate_any _ _ _ _ _).mono ?_; rintro e w2 ⟨rfl, hb2⟩; rw [hdec])
          go_ret
          exact ⟨ret_bool (decide_eq_false (take_ne hx.out hy.out Hxy.out)).symm, Hd'.out.trans (hb2.mono Hd'.out.size)⟩
      · go_wp2
        go_ret
        have e : xs = ys := by
          rw [List.take_of_length_le (by omega), List.take_of_length_le (by have := hb.out; omega)] at htk
          exact htk
        exact ⟨ret_bool (decide_eq_true e).symm, hd⟩
  · have hn : xs ≠ ys := fun e => he (by rw [e])
    have Hn := Lib.hid hn
    have he1 : ((xs.length : Int) != (ys.length : Int)) = true := by rw [bne_iff_ne]; omega
    clear he hn
    go_enter Try.func70, Try.ntmps70
    go_wp2
    go_ret
    exact ⟨ret_bool (decide_eq_false Hn.out).symm, Below.refl _ _⟩
end Go.Proofs.Ytmlcbikljlhhkaa
