import Derived.Test.YtlpellciiiflkaaTwoB
import Derived.Test.YtlpellciiiflkaaGrow
namespace Go.Proofs.Ytlpellciiiflkaa
open Go.RowKit Go.Op Go.Instr
theorem cube_neq (w : World) (a b c d : Int) : (binOp .neq 25 (.agg #[.int .i64 a, .int .i64 b]) (.agg #[.int .i64 c, .int .i64 d])).run Try.prog w = .ok (.bool (!decide ((a, b) = (c, d)))) w := by
  have u3 := Try.underlying3
  have hS : Try.prog.underlying 25 = some (.struct (Try.prog.fieldsOf 25)) := by kernel_rfl
  have hp : Try.prog.stoodInHeld 25 = false := by kernel_rfl
  rw [run_neq_struct, show (10000 : Nat) = 9999 + 1 from rfl, run_equalIn_agg w 9999 25 _ _ hS hp]
  simp only [Program.fieldsOf, Try.underlying25]
  go_simp
  by_cases h1 : a = c <;> by_cases h2 : b = d <;> simp [h1, h2]
theorem cube_guard : Try.prog.eqGuardType Try.prog.depth 25 = false := by kernel_rfl
theorem sameCubes_any (v v2 : Value) (xs ys : List (Int × Int)) (w : World) (h : CubesAt w v xs) (h2 : CubesAt w v2 ys) :
    Calls Try.prog 30 #[v, v2] w
      fun e w' => e = .returned (.bool (decide (xs = ys))) ∧ Below w.heap.size w w' := by
  obtain ⟨A, c, hv, hc, hcm⟩ := h.shape
  obtain ⟨A2, c2, hv2, hc2, hcm2⟩ := h2.shape
  subst hv hv2
  unfold maxLen at hcm hcm2
  by_cases he : xs.length = ys.length
  · have hb := Lib.hid he
    have he1 : ((xs.length : Int) != (ys.length : Int)) = false := by rw [he]; simp
    have he2 : xs.length ≤ ys.length := by omega
    clear he
    go_enter Try.func30, Try.ntmps30
    go_wp2
    go_loopw [5] (fun i wr => ∃ (k : Nat), k ≤ xs.length ∧ i = .int .i64 k ∧ xs.take k = ys.take k ∧ Below w.heap.size w wr)
      (fun i _ => xs.length - (intOf i).toNat)
    case atStart => exact ⟨0, Nat.zero_le _, rfl, rfl, Below.refl _ _⟩
    case round =>
      obtain ⟨k, hk, rfl, htk, hd⟩ := hrel
      by_cases hlt : k < xs.length
      · obtain ⟨b, o, x, rfl, hbl, hx, hs1, hs2⟩ := cubes_open h hd rfl hlt
        obtain ⟨b2, o2, y, rfl, hbl2, hy, ht1, ht2⟩ := cubes_open h2 hd rfl (show k < ys.length by omega)
        have hlt2 : k < ys.length := by omega
        have Ht := Lib.hid htk
        have Hd := Lib.hid hd
        have hz := hd.size
        have g1 := gw_cell hs1 (by simp only; omega)
        have g2 := gw_cell hs2 (by simp only; omega)
        have g3 := gw_cell ht1 (by simp only; omega)
        have g4 := gw_cell ht2 (by simp only; omega)
        clear htk h h2 hd hs1 hs2 ht1 ht2
        go_wp2
        have hne := fun w => cube_neq w x.1 x.2 y.1 y.2
        have hgd := cube_guard
        by_cases hxy : x = y
        · have Hxy := Lib.hid hxy
          have hdec : decide ((x.1, x.2) = (y.1, y.2)) = true := decide_eq_true hxy
          rw [hdec] at hne
          clear hxy hdec
          refine wp_region_grow (by kernel_rfl) (by kernel_rfl) ?_
          repeat (go_big_quiet_step ((fail)))
          refine wpQuiet_nil ?_
          intro _ hw'
          obtain ⟨nq, hw''⟩ := hw'
          subst hw''
          have hgq := gw_below nq
          generalize gw nq = wq at *
          clear nq
          clear hne
          go_wp2_with fail
          go_roundw
          case rel => exact ⟨k + 1, by omega, by go_num, by rw [take_snoc hx.out, take_snoc hy.out, Ht.out, Hxy.out], Hd.out.trans (hgq.mono hz)⟩
          case measure => simp [intOf] <;> omega
        · have hdec : decide ((x.1, x.2) = (y.1, y.2)) = false := decide_eq_false hxy
          have Hxy := Lib.hid hxy
          rw [hdec] at hne
          clear hxy hdec
          refine wp_region_grow (by kernel_rfl) (by kernel_rfl) ?_
          repeat (go_big_quiet_step ((fail)))
          refine wpQuiet_nil ?_
          intro _ hw'
          obtain ⟨nq, hw''⟩ := hw'
          subst hw''
          have hgq := gw_below nq
          generalize gw nq = wq at *
          clear nq
          clear hne
          go_wp2_with fail
          go_ret
          exact ⟨ret_bool (decide_eq_false (take_ne hx.out hy.out Hxy.out)).symm, Hd.out.trans (hgq.mono hz)⟩
      · go_wp2
        go_ret
        have e : xs = ys := by
          rw [List.take_of_length_le (by omega), List.take_of_length_le (by have := hb.out; omega)] at htk
          exact htk
        exact ⟨ret_bool (decide_eq_true e).symm, hd⟩
  · have hn : xs ≠ ys := fun e => he (by rw [e])
    have Hn := Lib.hid hn
    have he1 : ((xs.length : Int) != (ys.length : Int)) = true := by rw [bne_iff_ne]; omega
    clear he hn
    go_enter Try.func30, Try.ntmps30
    go_wp2
    go_ret
    exact ⟨ret_bool (decide_eq_false Hn.out).symm, Below.refl _ _⟩
end Go.Proofs.Ytlpellciiiflkaa
