import Derived.Test.YthnfbjjnabohoaaIntSA
namespace Go.Proofs.Ythnfbjjnabohoaa
open Go.RowKit
set_option maxRecDepth 100000
theorem take_eq_get {α : Type} {xs ys : List α} {k : Nat} {x : α} (h : xs.take k = ys.take k) (hx : xs[k]? = some x) (hy : ys[k]? = some x) : xs.take (k + 1) = ys.take (k + 1) := by
  rw [take_snoc hx, take_snoc hy, h]
set_option maxHeartbeats 4000000 in
theorem eqIntSS_any (v v2 : Value) (xss yss : List (List Int)) (w : World) (h : SSAt ints w v xss) (h2 : SSAt ints w v2 yss) (hlen : ∀ x ∈ xss, x.length ≤ 1048576) :
    Calls Try.prog 38 #[v, v2] w fun e w' => e = .returned (.bool (decide (xss = yss))) ∧ Below w.heap.size w w' := by
  obtain ⟨A, c, hv, hc, hcm⟩ := h.shape
  obtain ⟨A2, c2, hv2, hc2, hcm2⟩ := h2.shape
  subst hv hv2
  unfold maxLen at hcm hcm2
  have H := Lib.hid h
  have H2 := Lib.hid h2
  clear h h2
  obtain ⟨res, hres⟩ : ∃ res, decide (xss = yss) = res := ⟨_, rfl⟩
  rw [hres]
  have HR := Lib.hid hres
  clear hres
  by_cases hl : xss.length = yss.length
  · have HL := Lib.hid hl
    have hl1 : ((xss.length : Int) != (yss.length : Int)) = false := by rw [hl]; simp
    have hl2 : xss.length ≤ yss.length := by omega
    have hl3 : yss.length ≤ xss.length := by omega
    clear hl
    go_enter Try.func38, Try.ntmps38
    go_wp2_with fail
    go_loopw [5] (fun i wr => ∃ k : Nat, k ≤ xss.length ∧ i = .int .i64 k ∧ Hid (xss.take k = yss.take k) ∧ Below w.heap.size w wr) (fun i _ => xss.length - (intOf i).toNat)
    case atStart => exact ⟨0, Nat.zero_le _, rfl, Lib.hid rfl, Below.refl _ _⟩
    case round =>
      obtain ⟨k, hk, rfl, htk, hb⟩ := hrel
      by_cases hlt : k < xss.length
      · obtain ⟨x, hx⟩ := at_some hlt
        obtain ⟨y, hy⟩ := at_some (show k < yss.length by omega)
        obtain ⟨b, o, Bx, m, rfl, hbl, hc1, hm1, hm2, hr⟩ := ss_open H.out hb hx
        obtain ⟨b', o', Bx', m', rfl, hbl', hc1', hm1', hm2', hr'⟩ := ss_open H2.out hb hy
        have hxl := hlen x (List.mem_of_getElem? hx)
        have Hx := Lib.hid hx
        have Hy := Lib.hid hy
        have Hb := Lib.hid hb
        have hz := hb.size
        have g1 := gw_cell hc1 (show b < wr.heap.size by omega)
        have g2 := gw_cell hc1' (show b' < wr.heap.size by omega)
        have HC : Hid (∀ n : GW wr, Calls Try.prog 19 #[.slice Bx x.length m, .slice Bx' y.length m'] (gw n) fun e w' => e = .returned (.bool (decide (x = y))) ∧ Drew (gw n) w') := Lib.hid fun n => eqIntS_any _ _ x y _ (hr.below (gw_below n)) (hr'.below (gw_below n)) hxl
        clear hx hy hb hr hr'
        cases hd : decide (x = y)
        · rw [hd] at HC
          obtain rfl : res = false := by rw [← HR.out]; exact decide_eq_false (take_ne Hx.out Hy.out (of_decide_eq_false hd))
          go_wp2_with fail
          refine wp_region_grow (by kernel_rfl) (by kernel_rfl) ?_
          repeat (go_big_quiet_step ((go_at_call 19; exact grow_drew (HC.out _))))
          refine wpQuiet_nil ?_
          intro _ hw'
          obtain ⟨nq, hw''⟩ := hw'
          subst hw''
          have hgq := gw_below nq
          generalize gw nq = wq at *
          clear nq
          have Hb5 := Lib.hid (Hb.out.trans (hgq.mono hz))
          clear hgq g1 g2
          go_wp2_with fail
          go_ret
          exact ⟨rfl, Hb5.out⟩
        · rw [hd] at HC
          have hxy := of_decide_eq_true hd
          subst hxy
          have Hn := Lib.hid (take_eq_get htk.out Hx.out Hy.out)
          clear hd
          go_wp2_with fail
          refine wp_region_grow (by kernel_rfl) (by kernel_rfl) ?_
          repeat (go_big_quiet_step ((go_at_call 19; exact grow_drew (HC.out _))))
          refine wpQuiet_nil ?_
          intro _ hw'
          obtain ⟨nq, hw''⟩ := hw'
          subst hw''
          have hgq := gw_below nq
          generalize gw nq = wq at *
          clear nq
          have Hb5 := Lib.hid (Hb.out.trans (hgq.mono hz))
          clear hgq g1 g2
          go_wp2_with fail
          go_roundw
          case rel => exact ⟨k + 1, by omega, by go_num, Hn, Hb5.out⟩
          case measure => simp [intOf] <;> omega
      · obtain rfl : k = xss.length := by omega
        obtain rfl : res = true := by
          rw [← HR.out]
          refine decide_eq_true ?_
          have := htk.out
          rwa [List.take_length, List.take_of_length_le (by omega)] at this
        go_wp2_with fail
        go_ret
        exact ⟨rfl, hb⟩
  · have hl1 : ((xss.length : Int) != (yss.length : Int)) = true := by simp; omega
    obtain rfl : res = false := by rw [← HR.out]; exact decide_eq_false fun e => hl (by rw [e])
    go_enter Try.func38, Try.ntmps38
    go_wp2_with fail
    go_ret
    exact ⟨rfl, Below.refl _ _⟩
/-- Rows of values of the call's own, all apart, of such lengths. -/
def OwnIntSE (B : Nat) (E : Nat → Prop) (w : World) (v : Value) (xss : List (List Int)) : Prop := OwnSE ints 31 3 B E w v xss
def OwnVS (B : Nat) (E : Nat → Prop) (w : World) (v : Value) (rows : List (List Value)) : Prop := OwnSE id 31 3 B E w v rows
theorem OwnIntSE.raw {B : Nat} {E : Nat → Prop} {w : World} {v : Value} {xss : List (List Int)} (h : OwnIntSE B E w v xss) : OwnVS B E w v (xss.map ints) := OwnSE.raw ints_length h
/-- What marking comes to. -/
def MarkedSS (B : Nat) (E : Nat → Prop) (v : Value) (ns : List Nat) (k : Nat) (w : World) (e : Ending) (w' : World) : Prop :=
  e = .returned (.int .i64 ((k + ns.sum : Nat) : Int)) ∧ OwnVS B E w' v (runs k ns) ∧ Only (fun g => B ≤ g ∧ E g) w w'
theorem lens_get {rows : List (List Value)} {ns : List Nat} (hl : rows.map List.length = ns) {j : Nat} {n : Nat} (h : ns[j]? = some n) : ∃ r, rows[j]? = some r ∧ r.length = n := by
  subst hl
  rw [List.getElem?_map] at h
  obtain ⟨r, hr, rfl⟩ := Option.map_eq_some_iff.1 h
  exact ⟨r, hr, rfl⟩
set_option maxHeartbeats 4000000 in
theorem markIntSS_any (B : Nat) (E : Nat → Prop) (v : Value) (k : Nat) (rows : List (List Value)) (ns : List Nat) (w : World) (h : OwnVS B E w v rows) (hns : rows.map List.length = ns) (hl : ns.length ≤ 1048576) (hn : ns.sum ≤ 1048576) (hk : k ≤ 10000000) :
    Calls Try.prog 39 #[v, .int .i64 k] w (MarkedSS B E v ns k w) := by
  have hrl : rows.length = ns.length := by rw [← hns, List.length_map]
  have hsh : ∃ A c, v = .slice A ns.length c := by
    obtain ⟨A, c, hv, _⟩ := (OwnSE.at h).shape
    exact ⟨A, c, by rw [← hrl]; exact hv⟩
  obtain ⟨A, c, hv⟩ := hsh
  subst hv
  have H := Lib.hid h
  have Hns := Lib.hid hns
  have Hrl := Lib.hid hrl
  clear h hns hrl
  go_enter Try.func39, Try.ntmps39
  go_wp2_with fail
  go_loopw [1, 5] (fun q i wr => ∃ j : Nat, j ≤ ns.length ∧ i = .int .i64 j ∧ q = .int .i64 ((k + (ns.take j).sum : Nat) : Int) ∧ Hid (OwnVS B E wr (.slice A ns.length c) (runs k (ns.take j) ++ rows.drop j)) ∧ Only (fun g => B ≤ g ∧ E g) w wr) (fun _ i _ => ns.length - (intOf i).toNat)
  case atStart => exact ⟨0, Nat.zero_le _, rfl, by simp, H, Only.refl _ _⟩
  case round =>
    obtain ⟨j, hj, rfl, rfl, Ho, hon⟩ := hrel
    clear H
    by_cases hlt : j < ns.length
    · obtain ⟨n, hnj⟩ := at_some hlt
      obtain ⟨r, hr, hrn⟩ := lens_get Hns.out hnj
      obtain ⟨vs, q1, q2, q3, q4, q5, q6, q7⟩ := Ho.out
      have hlenR : (runs k (ns.take j) ++ rows.drop j).length = ns.length := by
        rw [List.length_append, runs_length, List.length_take, List.length_drop, Hrl.out]; omega
      have hrj : (runs k (ns.take j) ++ rows.drop j)[j]? = some r := by
        rw [List.getElem?_append_right (by rw [runs_length, List.length_take]; omega), runs_length, List.length_take, List.getElem?_drop, show j + (j - min j ns.length) = j from by omega]
        exact hr
      obtain ⟨u, hu⟩ : ∃ u, vs[j]? = some u := ⟨vs[j]'(by omega), List.getElem?_eq_getElem _⟩
      have hown := q3 j r u hrj hu
      rw [hrn] at hown
      have hS := Lib.hid (runs_set (k := k) (rows := rows) Hrl.out hnj)
      have hT := Lib.hid (sum_take_succ hnj)
      have hsl := sum_take_le ns j
      have hsl2 := sum_take_le ns (j + 1)
      have hTT := hT.out
      have hQ := Lib.hid q2
      obtain ⟨b, o, c', hv, _, _, hbl, hcell⟩ := (Row.of_own q2).open (by omega)
      rw [hlenR] at hv
      injection hv with hA _ hcc
      subst hA hcc
      have hc0 := hcell j u hu
      obtain ⟨Au, cu, hvu, hcu, hcmu⟩ := (Row.of_own hown).shape
      subst hvu
      have Hown := Lib.hid hown
      have Hon := Lib.hid hon
      have HU := Lib.hid (fun (w' : World) (x' : List Value) (hg : wr.grownBy w' (Value.slice Au n cu).ownBlock) (hx : w'.ownsRow B 3 1 (.slice Au n cu) x'.length (id x')) => OwnSE.update (enc := id) q1 q2 q3 q4 q5 q6 q7 hu hg hx)
      have HE : Hid (∀ g, (Value.slice Au n cu).ownBlock = some g → B ≤ g ∧ E g) := Lib.hid fun g hg => ⟨(hown.lt g hg).1, q7 _ (List.mem_of_getElem? hu) g hg⟩
      generalize (ns.take j).sum = s at *
      clear hcell hown hon q1 q2 q3 q4 q5 q6 q7 hu hr hrn hrj hlenR hnj hTT
      go_wp2_with fail
      refine (markIntS_any B _ n (k + s) _ _ Hown.out (by have := hT.out; omega) (by omega)).mono ?_
      rintro e w2 ⟨rfl, hown2, hg2⟩
      have Hown2 := Lib.hid hown2
      have Hg2 := Lib.hid hg2
      clear hown2 hg2
      go_wp2_with fail
      go_roundw
      case rel =>
        refine ⟨j + 1, by omega, by go_num, by have := hT.out; go_num, Lib.hid ?_, Hon.out.trans (Only.grown Hg2.out HE.out)⟩
        rw [← hS.out]
        exact HU.out w2 (runI (k + s) n) Hg2.out (by rw [runI_length]; exact Hown2.out)
      case measure => simp [intOf] <;> omega
    · obtain rfl : j = ns.length := by omega
      go_wp2_with fail
      go_ret
      refine ⟨ret_int (by rw [List.take_length]), ?_, hon⟩
      have := Ho.out
      rwa [List.take_length, List.drop_eq_nil_of_le (by rw [Hrl.out]; exact Nat.le_refl _), List.append_nil] at this
theorem heldIntSS_any (v : Value) (k : Nat) (ns : List Nat) (w : World) (h : SSAt id w v (runs k ns)) (hl : ns.length ≤ 1048576) (hn : ns.sum ≤ 1048576) (hk : k ≤ 10000000) :
    Calls Try.prog 45 #[v, .int .i64 k] w fun e w' => e = .returned (.int .i64 ((k + ns.sum : Nat) : Int)) ∧ w = w' := by
  have hsh : ∃ A c, v = .slice A ns.length c := by
    obtain ⟨A, c, hv, _⟩ := h.shape
    exact ⟨A, c, by rw [← runs_length k ns]; exact hv⟩
  obtain ⟨A, c, hv⟩ := hsh
  subst hv
  have H := Lib.hid h
  clear h
  go_enter Try.func45, Try.ntmps45
  go_wp2_with fail
  go_loop [1, 5] (fun q i => ∃ j : Nat, j ≤ ns.length ∧ i = .int .i64 j ∧ q = .int .i64 ((k + (ns.take j).sum : Nat) : Int)) (fun _ i => ns.length - (intOf i).toNat)
  case atStart => exact ⟨0, Nat.zero_le _, rfl, by simp⟩
  case round =>
    obtain ⟨j, hj, rfl, rfl⟩ := hrel
    by_cases hlt : j < ns.length
    · obtain ⟨n, hnj⟩ := at_some hlt
      obtain ⟨b, o, Bx, m, rfl, hbl, hc1, hm1, hm2, hr⟩ := ss_open H.out (Below.refl _ _) (runs_get hnj)
      rw [runI_length] at hc1 hm1 hr
      have Hr := Lib.hid hr
      have hT := Lib.hid (sum_take_succ hnj)
      have hsl := sum_take_le ns j
      have hsl2 := sum_take_le ns (j + 1)
      generalize (ns.take j).sum = s at *
      clear hr hnj
      go_wp2_with fail
      refine (heldIntS_any _ n (k + s) _ Hr.out (by have := hT.out; omega) (by omega)).mono ?_
      rintro e w' ⟨rfl, rfl⟩
      have hpos : ¬ (((k + s + n : Nat) : Int) < 0) := by omega
      go_wp2_with fail
      go_round
      case rel => exact ⟨j + 1, by omega, by go_num, by have := hT.out; go_num⟩
      case measure => simp [intOf] <;> omega
    · obtain rfl : j = ns.length := by omega
      go_wp2_with fail
      go_ret
      exact ⟨ret_int (by simp), rfl⟩
end Go.Proofs.Ythnfbjjnabohoaa
