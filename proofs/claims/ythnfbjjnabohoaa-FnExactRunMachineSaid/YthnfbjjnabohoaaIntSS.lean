import Derived.Test.YthnfbjjnabohoaaIntSA
namespace Go.Proofs.Ythnfbjjnabohoaa
open Go.RowKit
set_option maxRecDepth 100000
/-! What laws do with slices of slices of ints. -/
theorem szIntSS_any (v : Value) (xss : List (List Int)) (left : Nat) (w : World) (h : SSAt ints w v xss) (hl : left ≤ 1048576) :
    Calls Try.prog 34 #[v, .int .i64 left] w fun e w' => (∃ r : Int, e = .returned (.int .i64 r) ∧ (r = -1 ∨ (0 ≤ r ∧ r + xss.length + total xss = left))) ∧ w = w' := by
  obtain ⟨A, c, hv, hc, hcm⟩ := h.shape
  subst hv
  unfold maxLen at hcm
  have H := Lib.hid h
  clear h
  by_cases h0 : xss.length ≤ left
  · have hq : ¬ ((left : Int) - (xss.length : Int) < 0) := by omega
    go_enter Try.func34, Try.ntmps34
    go_wp2_with fail
    go_loop [1, 5] (fun t i => ∃ k q : Nat, k ≤ xss.length ∧ i = .int .i64 k ∧ t = .int .i64 q ∧ Hid (q + xss.length + total (xss.take k) = left)) (fun _ i => xss.length - (intOf i).toNat)
    case atStart => exact ⟨0, left - xss.length, Nat.zero_le _, rfl, by go_num, Lib.hid (by simp [total]; omega)⟩
    case round =>
      obtain ⟨k, q, hk, rfl, rfl, hs⟩ := hrel
      by_cases hlt : k < xss.length
      · obtain ⟨x, hx⟩ := at_some hlt
        obtain ⟨b, o, Bx, m, rfl, hbl, hc1, hm1, hm2, hr⟩ := ss_open H.out (Below.refl _ _) hx
        have Hr := Lib.hid hr
        have hT := Lib.hid (total_take_succ hx)
        have hq2 : q ≤ 1048576 := by have := hs.out; omega
        clear hr hx
        by_cases hfit : x.length ≤ q
        · have hq3 : ¬ ((q : Int) - (x.length : Int) < 0) := by omega
          go_wp2_with fail
          refine (szIntS_ok _ x.length _ _ q Hr.out (by omega) (by omega)).mono ?_
          rintro e w' ⟨rfl, rfl⟩
          go_wp2_with fail
          go_round
          case rel => exact ⟨k + 1, q - x.length, by omega, by go_num, by go_num, Lib.hid (by rw [hT.out]; have := hs.out; omega)⟩
          case measure => simp [intOf] <;> omega
        · go_wp2_with fail
          refine (szIntS_no _ x.length _ _ q Hr.out (by omega) (by omega) (by omega)).mono ?_
          rintro e w' ⟨rfl, rfl⟩
          go_wp2_with fail
          go_ret
          exact ⟨⟨_, rfl, .inl rfl⟩, rfl⟩
      · obtain rfl : k = xss.length := by omega
        have hs' : q + xss.length + total xss = left := by have := hs.out; rwa [List.take_length] at this
        go_wp2_with fail
        go_ret
        exact ⟨⟨_, rfl, .inr ⟨by omega, by omega⟩⟩, rfl⟩
  · go_enter Try.func34, Try.ntmps34
    go_wp2_with fail
    go_ret
    exact ⟨⟨_, rfl, .inl rfl⟩, rfl⟩
set_option maxHeartbeats 4000000 in
theorem toIntSS_any (v : Value) (xss : List (List Int)) (w : World) (h : SSAt ints w v xss) (hl : xss.length ≤ 1048576) (hl2 : total xss ≤ 1048576) :
    Calls Try.prog 36 #[v] w fun e w' => (∃ v', e = .returned v' ∧ OwnIntSS w.heap.size w'.heap.size w' v' xss) ∧ Below w.heap.size w w' := by
  obtain ⟨A, c, hv, hc, hcm⟩ := h.shape
  subst hv
  have hmk := run_make_row' (P := Try.prog) 22 31 (.slice none 0 0) 24 Try.underlying22 info_ints rfl .i64 .i64 xss.length (by omega) (by omega)
  have H := Lib.hid h
  clear h
  go_enter Try.func36, Try.ntmps36
  go_wp2_with fail
  have hown0 : Hid ((w.alloc (.cells (madeCells #[Value.slice none 0 0] xss.length) 31)).ownsRow w.heap.size 31 1 (.slice (some ⟨w.heap.size, 0, none⟩) xss.length xss.length) xss.length ([] ++ List.replicate (xss.length - 0) (.slice none 0 0))) := Lib.hid (by
    have := World.ownsRow_lit (base := w.heap.size) (e := 31) (size := 1) w (madeCells #[Value.slice none 0 0] xss.length) xss.length (Nat.le_refl _) (by unfold maxLen; omega) (by simp [madeCells])
    rw [made_one] at this ⊢
    exact this)
  have B0 := Lib.hid ((Below.refl w.heap.size w).alloc (Nat.le_refl _) (.cells (madeCells #[Value.slice none 0 0] xss.length) 31))
  have z0 : (w.alloc (.cells (madeCells #[Value.slice none 0 0] xss.length) 31)).heap.size = w.heap.size + 1 := by simp
  generalize w.alloc (.cells (madeCells #[Value.slice none 0 0] xss.length) 31) = W at *
  clear hmk
  go_loopw [4] (fun i wr => ∃ (k : Nat) (vs : List Value), k ≤ xss.length ∧ i = .int .i64 k ∧ Hid (vs.length = k) ∧ Hid (wr.ownsRow w.heap.size 31 1 (.slice (some ⟨w.heap.size, 0, none⟩) xss.length xss.length) xss.length (vs ++ List.replicate (xss.length - k) (.slice none 0 0))) ∧
      Hid (∀ (i : Nat) (x : List Int) (u : Value), xss[i]? = some x → vs[i]? = some u → wr.ownsRow (w.heap.size + 1) 3 1 u x.length (ints x)) ∧ Hid (vs.Pairwise Apart) ∧ Hid (∀ u ∈ vs, ∀ g, u.ownBlock = some g → w.heap.size < g ∧ g < wr.heap.size) ∧ Below w.heap.size w wr ∧ w.heap.size < wr.heap.size) (fun i _ => xss.length - (intOf i).toNat)
  case atStart => exact ⟨0, [], Nat.zero_le _, rfl, Lib.hid rfl, hown0, Lib.hid (by simp), Lib.hid List.Pairwise.nil, Lib.hid (by simp), B0.out, by omega⟩
  case round =>
    obtain ⟨k, vs, hk, rfl, hvl, Ho, Hin, Hap, Hlt, hb, hzw⟩ := hrel
    clear hown0 B0
    by_cases hlt : k < xss.length
    · obtain ⟨x, hx⟩ := at_some hlt
      obtain ⟨b, o, Bx, m, rfl, hbl, hc1, hm1, hm2, hr⟩ := ss_open H.out hb hx
      have Hr := Lib.hid hr
      have Hx := Lib.hid hx
      have hxl : x.length ≤ 1048576 := Nat.le_trans (total_mem (List.mem_of_getElem? hx)) hl2
      have Hb := Lib.hid hb
      have hz := hb.size
      clear hr hx hb
      go_wp2_with fail
      refine (toIntS_any _ x _ Hr.out hxl).mono ?_
      rintro e w2 ⟨v2, rfl, hown2, hb2⟩
      obtain ⟨A2, c2, hv2, _, _⟩ := (Row.of_own hown2).shape
      subst hv2
      have Ho2 := Lib.hid (own_below Ho.out hb2)
      have Hu := Lib.hid hown2
      have Hin2 : Hid (∀ (i : Nat) (x : List Int) (u : Value), xss[i]? = some x → vs[i]? = some u → w2.ownsRow (w.heap.size + 1) 3 1 u x.length (ints x)) := Lib.hid fun i x u hx hu => own_below (Hin.out i x u hx hu) hb2
      have Hb2 := Lib.hid (Hb.out.trans (hb2.mono hz))
      have z2 := hb2.size
      obtain ⟨u0, _, hd0, hf0⟩ := own_slot Ho2.out (j := k) (by omega)
      have Hst := Lib.hid (Ho2.out.stored k (.slice A2 x.length c2))
      have Hset := Lib.hid (set_mid_at vs (.slice none 0 0) (.slice A2 x.length c2) (xss.length - k) k hvl.out.symm (by omega))
      clear hown2 hb2
      go_wp2_with fail
      go_roundw
      case rel =>
        have hg := Hst.out.2
        refine ⟨k + 1, vs ++ [.slice A2 x.length c2], by omega, by go_num, Lib.hid (by simp [hvl.out]), Lib.hid ?_, Lib.hid ?_, Lib.hid ?_, Lib.hid ?_, Hb2.out.grown hg Hb2.out.size (fun q hq => by have := Option.some.inj hq; omega), by have := hg.size; omega⟩
        · have := Hst.out.1
          rw [Hset.out, show xss.length - k - 1 = xss.length - (k + 1) by omega] at this
          exact this
        · intro i x' u' hx' hu'
          rcases Nat.lt_or_ge i k with hi | hi
          · rw [List.getElem?_append_left (by rw [hvl.out]; exact hi)] at hu'
            exact own_kept (Hin2.out i x' u' hx' hu') hg fun g hg' e => by
              have h1 := (Hlt.out u' (List.mem_of_getElem? hu') g hg').1
              have h2 := Option.some.inj e
              omega
          · rw [List.getElem?_append_right (by rw [hvl.out]; exact hi), hvl.out] at hu'
            rcases hj : i - k with _ | j
            · rw [hj] at hu'
              obtain rfl : i = k := by omega
              rw [Hx.out] at hx'
              simp at hu' hx'
              subst hu' hx'
              exact own_kept (own_mono Hu.out (by omega)) hg fun g hg' e => by
                have h1 := (Hu.out.lt g hg').1
                have h2 := Option.some.inj e
                omega
            · rw [hj] at hu'
              simp at hu'
        · rw [List.pairwise_append]
          refine ⟨Hap.out, by simp, fun a ha b hb => ?_⟩
          rw [List.mem_singleton.1 hb]
          intro g hg1 hg2
          have h1 := (Hlt.out a ha g hg1).2
          have h2 := (Hu.out.lt g hg2).1
          omega
        · intro u hu g hgu
          have hsz := hg.size
          rcases List.mem_append.1 hu with h | h
          · have := Hlt.out u h g hgu
            omega
          · rw [List.mem_singleton.1 h] at hgu
            have := Hu.out.lt g hgu
            omega
      case measure => simp [intOf] <;> omega
    · obtain rfl : k = xss.length := by omega
      go_wp2_with fail
      go_ret
      refine ⟨⟨_, rfl, vs, hvl.out, ?_, fun i x u hx hu => own_mono (Hin.out i x u hx hu) (by omega), Hap.out, ?_, ?_, fun u hu g hg => (Hlt.out u hu g hg).2⟩, hb⟩
      · have := Ho.out
        rwa [Nat.sub_self, List.replicate_zero, List.append_nil] at this
      · intro u hu g hg e
        have h1 := (Hlt.out u hu g hg).1
        have h2 := Option.some.inj e
        simp at h2
        omega
      · intro g hg
        have := Option.some.inj hg
        simp at this
        omega
end Go.Proofs.Ythnfbjjnabohoaa
