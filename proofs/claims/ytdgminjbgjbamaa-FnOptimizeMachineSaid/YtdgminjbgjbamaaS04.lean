import Derived.Test.YtdgminjbgjbamaaS03
import Derived.Test.YtdgminjbgjbamaaS01
import Derived.Test.YtdgminjbgjbamaaProg
import Derived.Maps.Views
import Derived.Maps.OwnOps
import Derived.Maps.RangeWalk
set_option linter.unusedVariables false
set_option linter.unusedSimpArgs false
namespace Go.Proofs.Ytdgminjbgjbamaa
open Go.RowKit
set_option maxRecDepth 100000
/-! A drawn circuit: the walk. -/
set_option maxHeartbeats 16000000 in
theorem l20Circuit_any (R P : Nat) (n : Int) (w : World) (h : Rd w R P) (hP : P ≤ 100000) (h0 : 0 ≤ n) (h1 : n ≤ 1000) :
    Calls Try.prog 32 #[.pointer (some ⟨R, 0, none⟩), .int .i64 n] w (DrewC R P w) := by
  have Hr := Lib.hid h
  have zR := h.lt
  clear h
  go_enter Try.func32, Try.ntmps32
  go_wp2_with fail
  refine (pick_any 5 _ P _ (Hr.out.alloc _) (by omega) (by omega) (by omega)).mono ?_
  rintro e w1 ⟨x, hx0, hx1, rfl, hr1, hg1⟩
  have Hr1 := Lib.hid hr1
  have HO1 := Lib.hid (only_drawn (only_alloc (Only.refl (· = R) w) _) hg1 (.inr rfl))
  have HX1 := Lib.hid (res_grown (heap_alloc_new w _) hg1 (fun e => by have := Option.some.inj e; omega))
  have z1 := hg1.size
  rw [World.size_alloc] at z1
  clear hr1 hg1 Hr
  go_wp2_with fail
  have hb2 := bel_new w1 (.cells #[.int .i64 x, .slice none 0 0, .slice none 0 0, .slice none 0 0] 26)
  have HC2 := Lib.hid (CB.start (ins := x) (w := w1) trivial)
  have Hr2 := Lib.hid (Hr1.out.alloc (.cells #[.int .i64 x, .slice none 0 0, .slice none 0 0, .slice none 0 0] 26))
  have HO2 := Lib.hid (only_alloc HO1.out (.cells #[.int .i64 x, .slice none 0 0, .slice none 0 0, .slice none 0 0] 26))
  have HX2 := Lib.hid ((hb2.block w.heap.size (by omega)).trans HX1.out)
  clear Hr1 HO1 HX1 hb2
  obtain ⟨gm, hgm⟩ : ∃ gm, gm = w1.heap.size := ⟨_, rfl⟩
  rw [← hgm] at HC2 ⊢
  have hgm1 : w.heap.size + 1 ≤ gm := by omega
  clear hgm z1
  generalize w1.alloc (.cells #[.int .i64 x, .slice none 0 0, .slice none 0 0, .slice none 0 0] 26) = w2 at *
  refine (pick_any 4 _ _ _ Hr2.out (by omega) (by omega) (by omega)).mono ?_
  rintro e w3 ⟨y, hy0, hy1, rfl, hr3, hg3⟩
  have Hr3 := Lib.hid hr3
  have HO3 := Lib.hid (only_drawn HO2.out hg3 (.inr rfl))
  have HX3 := Lib.hid (res_grown HX2.out hg3 (fun e => by have := Option.some.inj e; omega))
  have HC3 := Lib.hid (HC2.out.drawn hg3 (by omega))
  clear hr3 hg3 Hr2 HO2 HX2 HC2
  obtain ⟨zm, p0, -⟩ := HC3.out.cells
  go_wp2_with fail
  refine (pick_any 15 _ _ _ Hr3.out (by omega) (by omega) (by omega)).mono ?_
  rintro e w4 ⟨k0, hk0, hk1, rfl, hr4, hg4⟩
  have Hr4 := Lib.hid hr4
  have HO4 := Lib.hid (only_drawn HO3.out hg4 (.inr rfl))
  have HX4 := Lib.hid (res_grown HX3.out hg4 (fun e => by have := Option.some.inj e; omega))
  have HC4 := Lib.hid (HC3.out.drawn hg4 (by omega))
  clear hr4 hg4 Hr3 HO3 HX3 HC3 zm p0
  go_wp2_with fail
  go_loopw [7, 8] (fun m k wr => ∃ (M K : Int) (gs : List (Int × Int)) (vG : Value), m = .int .i64 M ∧ k = .int .i64 K ∧ 0 ≤ K ∧ gs.length + K ≤ 14 ∧ 1 ≤ M ∧ M ≤ 8 + gs.length ∧ Hid (∀ q ∈ gs, LitS q.1 ∧ LitS q.2) ∧ Hid (CB gm ⟨x, [], gs, []⟩ (.slice none 0 0) vG (.slice none 0 0) wr) ∧ Hid (Rd wr R (P + 100 + 10 * gs.length)) ∧ Hid (Only (· = R) w wr) ∧ Hid (wr.heap[w.heap.size]? = some (.cells #[.int .i64 0, .slice none 0 0, .slice none 0 0, .slice none 0 0] 26 (0, 0)))) (fun _ k _ => (intOf k).toNat)
  case atStart => exact ⟨_, k0, [], _, rfl, rfl, hk0, by simp; omega, by omega, by simp; omega, Lib.hid (by simp), HC4, Lib.hid (Hr4.out.more (by omega)), HO4, HX4⟩
  case round =>
    obtain ⟨M, K, gs, vG, rfl, rfl, hK, hKl, hM, hM2, Hl, HC, Hr, HO, HX⟩ := hrel
    clear HC4 Hr4 HO4 HX4
    by_cases hpos : 0 < K
    · go_wp2_with fail
      refine (pick_any (2 * M) _ _ _ Hr.out (by omega) (by omega) (by omega)).mono ?_
      rintro e w5 ⟨a, ha0, ha1, rfl, hr5, hg5⟩
      have Hr5 := Lib.hid hr5
      have HO5 := Lib.hid (only_drawn HO.out hg5 (.inr rfl))
      have HX5 := Lib.hid (res_grown HX.out hg5 (fun e => by have := Option.some.inj e; omega))
      have HC5 := Lib.hid (HC.out.drawn hg5 (by omega))
      clear hr5 hg5 Hr HO HX HC
      go_wp2_with fail
      refine (pick_any (2 * M) _ _ _ Hr5.out (by omega) (by omega) (by omega)).mono ?_
      rintro e w6 ⟨b, hb0, hb1, rfl, hr6, hg6⟩
      have Hr6 := Lib.hid hr6
      have HO6 := Lib.hid (only_drawn HO5.out hg6 (.inr rfl))
      have HX6 := Lib.hid (res_grown HX5.out hg6 (fun e => by have := Option.some.inj e; omega))
      have HC6 := Lib.hid (HC5.out.drawn hg6 (by omega))
      clear hr6 hg6 Hr5 HO5 HX5 HC5
      go_wp2_with fail
      refine (pick_any 3 _ _ _ Hr6.out (by omega) (by omega) (by omega)).mono ?_
      rintro e w7 ⟨z, hz0, hz1, rfl, hr7, hg7⟩
      have Hr7 := Lib.hid hr7
      have HO7 := Lib.hid (only_drawn HO6.out hg7 (.inr rfl))
      have HX7 := Lib.hid (res_grown HX6.out hg7 (fun e => by have := Option.some.inj e; omega))
      have HC7 := Lib.hid (HC6.out.drawn hg7 (by omega))
      clear hr7 hg7 Hr6 HO6 HX6 HC6
      by_cases hz : 0 < z
      · by_cases h6 : 2 * M < 6
        · go_wp2_with fail
          refine (pick_any (2 * M) _ _ _ Hr7.out (by omega) (by omega) (by omega)).mono ?_
          rintro e w8 ⟨u, hu0, hu1, rfl, hr8, hg8⟩
          have Hr8 := Lib.hid hr8
          have HO8 := Lib.hid (only_drawn HO7.out hg8 (.inr rfl))
          have HX8 := Lib.hid (res_grown HX7.out hg8 (fun e => by have := Option.some.inj e; omega))
          have HC8 := Lib.hid (HC7.out.drawn hg8 (by omega))
          clear hr8 hg8 Hr7 HO7 HX7 HC7
          have hne8 : vG.ownBlock ≠ some gm := fun e => by have := (HC8.out.g.lt gm e).1; omega
          obtain ⟨zm, p0, p1, p2, p3⟩ := HC8.out.cells
          have Hlit := Lib.hid (Row.of_own (World.ownsRow_lit (base := w8.heap.size) (e := 72) (size := 2) w8 #[.int .i64 (2 * M - 1 - u), .int .i64 b] 1 (Nat.le_refl _) (by unfold maxLen; omega) rfl))
          have z8 := zm
          go_wp2_with (
            at_builtin
            refine append_gates rfl (.tmp 50) (.tmp 54) rfl (gm + 1) _ gs.length _ rfl (HC8.out.g.alloc _) _ 1 [.int .i64 (2 * M - 1 - u), .int .i64 b] rfl Hlit.out (by simp [Value.oneCell']) (by omega) (by simp; omega) ?_
            intro v9 w9 hown9 hg9 hat9
            obtain ⟨A9, c9, e9⟩ := slice_of_own hown9
            subst e9
            have Ho9 := Lib.hid hown9
            have HE9 := Lib.hid (app_only hg9)
            have Hr9 := Lib.hid (app_rd Hr8.out hg9 HC8.out.g (by omega))
            have Hat9 := Lib.hid (app_at hat9)
            have hbx := (HE9.out.block gm (blk_lt HC8.out.box) hne8).trans HC8.out.box
            have q2 := blk_cell hbx 2
            have q2f := blk_free hbx 2
            have zq := blk_lt hbx
            simp at q2
            clear hown9 hg9 hat9 hbx)
          go_roundw
          case rel =>
            refine ⟨M + 1, K - 1, gs ++ [((2 * M - 1 - u), b)], .slice A9 (gs.length + 1) c9, by go_num, by go_num, by omega, by simp; omega, by omega, by simp; omega, Lib.hid fun q hq => ?_, Lib.hid ?_, Lib.hid ?_, Lib.hid ?_, Lib.hid ?_⟩
            · rcases List.mem_append.1 hq with h | h
              · exact Hl.out q h
              · rw [List.mem_singleton.1 h]
                unfold LitS
                simp only
                omega
            · refine HC8.out.addG (xs := gs ++ [((2 * M - 1 - u), b)]) HE9.out (fun g _ hn => hn) ?_ Hat9.out
              rw [List.length_append, cubes_append]
              exact Ho9.out
            · exact (rd_set Hr9.out (by omega)).more (by simp; omega)
            · exact only_set (HO8.out.aft HE9.out fun g hg => .inl (by have := (HC8.out.g.lt g hg).1; omega)) (by omega)
            · exact res_set ((HE9.out.block _ (blk_lt HX8.out) (fun e => by have := (HC8.out.g.lt _ e).1; omega)).trans HX8.out) (by omega)
          case measure => simp [intOf]; omega
        · go_wp2_with fail
          refine (pick_any 6 _ _ _ Hr7.out (by omega) (by omega) (by omega)).mono ?_
          rintro e w8 ⟨u, hu0, hu1, rfl, hr8, hg8⟩
          have Hr8 := Lib.hid hr8
          have HO8 := Lib.hid (only_drawn HO7.out hg8 (.inr rfl))
          have HX8 := Lib.hid (res_grown HX7.out hg8 (fun e => by have := Option.some.inj e; omega))
          have HC8 := Lib.hid (HC7.out.drawn hg8 (by omega))
          clear hr8 hg8 Hr7 HO7 HX7 HC7
          have hne8 : vG.ownBlock ≠ some gm := fun e => by have := (HC8.out.g.lt gm e).1; omega
          obtain ⟨zm, p0, p1, p2, p3⟩ := HC8.out.cells
          have Hlit := Lib.hid (Row.of_own (World.ownsRow_lit (base := w8.heap.size) (e := 72) (size := 2) w8 #[.int .i64 (2 * M - 1 - u), .int .i64 b] 1 (Nat.le_refl _) (by unfold maxLen; omega) rfl))
          have z8 := zm
          go_wp2_with (
            at_builtin
            refine append_gates rfl (.tmp 50) (.tmp 54) rfl (gm + 1) _ gs.length _ rfl (HC8.out.g.alloc _) _ 1 [.int .i64 (2 * M - 1 - u), .int .i64 b] rfl Hlit.out (by simp [Value.oneCell']) (by omega) (by simp; omega) ?_
            intro v9 w9 hown9 hg9 hat9
            obtain ⟨A9, c9, e9⟩ := slice_of_own hown9
            subst e9
            have Ho9 := Lib.hid hown9
            have HE9 := Lib.hid (app_only hg9)
            have Hr9 := Lib.hid (app_rd Hr8.out hg9 HC8.out.g (by omega))
            have Hat9 := Lib.hid (app_at hat9)
            have hbx := (HE9.out.block gm (blk_lt HC8.out.box) hne8).trans HC8.out.box
            have q2 := blk_cell hbx 2
            have q2f := blk_free hbx 2
            have zq := blk_lt hbx
            simp at q2
            clear hown9 hg9 hat9 hbx)
          go_roundw
          case rel =>
            refine ⟨M + 1, K - 1, gs ++ [((2 * M - 1 - u), b)], .slice A9 (gs.length + 1) c9, by go_num, by go_num, by omega, by simp; omega, by omega, by simp; omega, Lib.hid fun q hq => ?_, Lib.hid ?_, Lib.hid ?_, Lib.hid ?_, Lib.hid ?_⟩
            · rcases List.mem_append.1 hq with h | h
              · exact Hl.out q h
              · rw [List.mem_singleton.1 h]
                unfold LitS
                simp only
                omega
            · refine HC8.out.addG (xs := gs ++ [((2 * M - 1 - u), b)]) HE9.out (fun g _ hn => hn) ?_ Hat9.out
              rw [List.length_append, cubes_append]
              exact Ho9.out
            · exact (rd_set Hr9.out (by omega)).more (by simp; omega)
            · exact only_set (HO8.out.aft HE9.out fun g hg => .inl (by have := (HC8.out.g.lt g hg).1; omega)) (by omega)
            · exact res_set ((HE9.out.block _ (blk_lt HX8.out) (fun e => by have := (HC8.out.g.lt _ e).1; omega)).trans HX8.out) (by omega)
          case measure => simp [intOf]; omega
      · have hz' : z = 0 := by omega
        subst hz'
        have hne7 : vG.ownBlock ≠ some gm := fun e => by have := (HC7.out.g.lt gm e).1; omega
        obtain ⟨zm, p0, p1, p2, p3⟩ := HC7.out.cells
        have Hlit := Lib.hid (Row.of_own (World.ownsRow_lit (base := w7.heap.size) (e := 72) (size := 2) w7 #[.int .i64 (a), .int .i64 b] 1 (Nat.le_refl _) (by unfold maxLen; omega) rfl))
        have z7 := zm
        go_wp2_with (
          at_builtin
          refine append_gates rfl (.tmp 50) (.tmp 54) rfl (gm + 1) _ gs.length _ rfl (HC7.out.g.alloc _) _ 1 [.int .i64 (a), .int .i64 b] rfl Hlit.out (by simp [Value.oneCell']) (by omega) (by simp; omega) ?_
          intro v9 w9 hown9 hg9 hat9
          obtain ⟨A9, c9, e9⟩ := slice_of_own hown9
          subst e9
          have Ho9 := Lib.hid hown9
          have HE9 := Lib.hid (app_only hg9)
          have Hr9 := Lib.hid (app_rd Hr7.out hg9 HC7.out.g (by omega))
          have Hat9 := Lib.hid (app_at hat9)
          have hbx := (HE9.out.block gm (blk_lt HC7.out.box) hne7).trans HC7.out.box
          have q2 := blk_cell hbx 2
          have q2f := blk_free hbx 2
          have zq := blk_lt hbx
          simp at q2
          clear hown9 hg9 hat9 hbx)
        go_roundw
        case rel =>
          refine ⟨M + 1, K - 1, gs ++ [((a), b)], .slice A9 (gs.length + 1) c9, by go_num, by go_num, by omega, by simp; omega, by omega, by simp; omega, Lib.hid fun q hq => ?_, Lib.hid ?_, Lib.hid ?_, Lib.hid ?_, Lib.hid ?_⟩
          · rcases List.mem_append.1 hq with h | h
            · exact Hl.out q h
            · rw [List.mem_singleton.1 h]
              unfold LitS
              simp only
              omega
          · refine HC7.out.addG (xs := gs ++ [((a), b)]) HE9.out (fun g _ hn => hn) ?_ Hat9.out
            rw [List.length_append, cubes_append]
            exact Ho9.out
          · exact (rd_set Hr9.out (by omega)).more (by simp; omega)
          · exact only_set (HO7.out.aft HE9.out fun g hg => .inl (by have := (HC7.out.g.lt g hg).1; omega)) (by omega)
          · exact res_set ((HE9.out.block _ (blk_lt HX7.out) (fun e => by have := (HC7.out.g.lt _ e).1; omega)).trans HX7.out) (by omega)
        case measure => simp [intOf]; omega
    · obtain rfl : K = 0 := by omega
      have Hr1 := Lib.hid (Hr.out.more (show P + 100 + 10 * gs.length ≤ P + 300 by omega))
      have HC1 := Lib.hid HC.out
      clear Hr HC
      obtain ⟨W1, hW1⟩ : ∃ W1, W1 = wr := ⟨_, rfl⟩
      subst hW1
      go_wp2_with fail
      go_loopw [11] (fun j wr => ∃ (ns : List Int) (vN : Value), j = .int .i64 (ns.length : Nat) ∧ ns.length ≤ y ∧ Hid (∀ q ∈ ns, LitS q) ∧ Hid (CB gm ⟨x, ns, gs, []⟩ vN vG (.slice none 0 0) wr) ∧ Hid (Rd wr R (P + 300 + 400 * ns.length)) ∧ Hid (Only (· = R) w wr) ∧ Hid (wr.heap[w.heap.size]? = some (.cells #[.int .i64 0, .slice none 0 0, .slice none 0 0, .slice none 0 0] 26 (0, 0)))) (fun j _ => (y - intOf j).toNat)
      case atStart => exact ⟨[], _, rfl, by simp; omega, Lib.hid (by simp), HC1, Lib.hid (Hr1.out.more (by omega)), HO, HX⟩
      case round =>
        obtain ⟨ns, vN, rfl, hnl, Hn, HC, Hr, HO, HX⟩ := hrel
        clear Hr1 HC1
        by_cases hlt : (ns.length : Int) < y
        · go_wp2_with fail
          have hO := fun ops a => rdRS_ok (Pg := Try.prog) (ops := ops) (P := P + 300 + 400 * ns.length) (a := a) (G := GInt (-100) 1000) (d := 7) Hr.out.lt (show R < gm + 1 by omega) HC.out.n
          obtain ⟨zm, p0, p1, p2, p3⟩ := HC.out.cells
          have hneN : ¬ (gm = R ∨ vN.ownBlock = some gm) := fun e => by
            rcases e with e | e
            · omega
            · have := (HC.out.n.lt gm e).1; omega
          refine wp_region_rsl (rdRS Try.prog _ R (P + 300 + 400 * ns.length) wr _ (gm + 1) 3 vN ns.length (ints ns) (GInt (-100) 1000) 7) (hO _ _) (by kernel_rfl) (by kernel_rfl) (by kernel_rfl) 9 _ rfl rfl (by kernel_rfl) (show (7 : Nat) < 9 by decide) Hr.out HC.out.n ?_
          obtain ⟨i0, hi0, hz0, hz1, hz2⟩ := info_parts info_int
          apply rs_eq (hO _ _) (.inl (Nat.ne_of_beq_eq_false rfl))
          · intro ρ w' ho hK
            obtain ⟨h0, -⟩ := hK
            have h0' : ρ (.tmp 5) = .pointer (some ⟨gm, 0, none⟩) := h0
            go_simp
            try exact rfl
          apply rs_eq (hO _ _) (.inl (Nat.ne_of_beq_eq_false rfl))
          · intro ρ w' ho hK
            obtain ⟨h0, -⟩ := hK
            have h0' : ρ (.tmp 64) = .pointer (some ⟨gm, 1, none⟩) := h0
            have q1 := cell_on ho hneN zm p1
            go_simp
            try exact rfl
          refine rs_old (hO _ _) (.inl (Nat.ne_of_beq_eq_false rfl)) _ (.inl rfl) _ rfl rfl ?_
          refine rs_old (hO _ _) (.inl (Nat.ne_of_beq_eq_false rfl)) _ (.inl rfl) _ rfl rfl ?_
          apply rs_eq (hO _ _) (.inl (Nat.ne_of_beq_eq_false rfl))
          · intro ρ w' ho hK
            obtain ⟨h0, h1, -⟩ := hK
            have h0' : ρ (.const (.int .i64 2)) = .int .i64 2 := h0
            have h1' : ρ (.tmp 67) = .int .i64 M := h1
            have hwr := IntWalk.i64_in (2 * M) (by omega)
            go_simp
            try exact rfl
          refine rs_pick (hO _ _) (.inl (Nat.ne_of_beq_eq_false rfl)) 33 _ _ _ R (P + 300 + 400 * ns.length) 43 rfl rfl fn_draw (fun ρ w hK => ⟨hK.1, hK.2.1, 2 * M, hK.2.2.1, by omega, by omega⟩) (fun n k w hk h1n hn hr => pick_upto n 43 _ _ w hr (by have hk' : k < 10 := hk; omega) h1n hn (by omega)) ?_
          refine rs_build (hO _ _) (.inl (Nat.ne_of_beq_eq_false rfl)) 1 (GInt (-100) 1000) 3 (fun ρ w hK => by
            obtain ⟨⟨q, hq, hq0, hq1⟩, -⟩ := hK
            have h' : ρ (.tmp 69) = .int .i64 q := hq
            refine ⟨#[.int .i64 q], rfl, ?_, ?_⟩
            · go_simp
            · intro c hc
              simp at hc
              exact ⟨q, hc, by omega, by omega⟩) ?_
          refine rs_appendV rfl (gm + 1) 3 23 vN ns.length (ints ns) (GInt (-100) 1000) rfl R (P + 300 + 400 * ns.length) rfl (fun g hg => .inr hg) (show R < gm + 1 by omega) zm _ _ rfl _ _ rfl rfl rfl rfl i0 _ 8 Try.underlying23 hi0 hz0 hz1 hz2 rfl (by omega) (by decide) (fun u hu => by obtain ⟨q, rfl, -⟩ := hu; rfl) ?_
          apply rs_eq (hO _ _) (.inl (Nat.ne_of_beq_eq_false rfl))
          · intro ρ w' ho hK
            obtain ⟨h0, -⟩ := hK
            have h0' : ρ (.tmp 5) = .pointer (some ⟨gm, 0, none⟩) := h0
            go_simp
            try exact rfl
          intro f w9 k9 hk9 hI9 ht9 hcp9
          have E0 : f 0 = _ := ht9 0 (Nat.le_of_ble_eq_true rfl)
          have E1 : f 1 = _ := ht9 1 (Nat.le_of_ble_eq_true rfl)
          have E2 : f 2 = _ := ht9 2 (Nat.le_of_ble_eq_true rfl)
          have E3 : f 3 = _ := ht9 3 (Nat.le_of_ble_eq_true rfl)
          have E4 : f 4 = _ := ht9 4 (Nat.le_of_ble_eq_true rfl)
          have E8 : f 8 = _ := ht9 8 (Nat.le_of_ble_eq_true rfl)
          have Hr9 : Rd w9 R (P + 300 + 400 * ns.length + 40 * k9) := hI9.1
          have HE9 : Only (fun g => g = R ∨ vN.ownBlock = some g) wr w9 := hI9.2.1
          have HJ9 : (∃ u, GInt (-100) 1000 u ∧ w9.ownsRow (gm + 1) 3 1 (f 7) (ns.length + 1) (ints ns ++ [u])) ∧ ∀ g, (f 7).ownBlock = some g → vN.ownBlock = some g ∨ wr.heap.size ≤ g := hI9.2.2
          have hk9' : k9 ≤ 10 := hk9
          simp only [putAll, E0, E1, E2, E3, E4, E8, Nat.zero_add, Nat.reduceAdd, Act.put, List.take, List.setIfInBounds_toArray, List.set_cons_succ, List.set_cons_zero]
          clear E0 E1 E2 E3 E4 E8 hI9 ht9 hcp9 hk9 hO
          generalize f 5 = r5, f 6 = r6 at *
          generalize f 7 = v9 at *
          simp only [List.getElem_toArray, List.getElem_cons_succ, List.getElem_cons_zero]
          obtain ⟨⟨uu, ⟨q, rfl, hq0, hq1⟩, hown9⟩, hat9⟩ := HJ9
          obtain ⟨A9, c9, e9⟩ := slice_of_own hown9
          subst e9
          have Ho9 := Lib.hid hown9
          have Hat9 := Lib.hid hat9
          have HE9' := Lib.hid HE9
          have Hr9' := Lib.hid (Hr9.more (show P + 300 + 400 * ns.length + 40 * k9 ≤ P + 300 + 400 * (ns.length + 1) by omega))
          have hbx := (HE9.block gm zm hneN).trans HC.out.box
          have q1 := blk_cell hbx 1
          have q1f := blk_free hbx 1
          have zq := blk_lt hbx
          simp at q1
          clear hown9 hat9 HE9 Hr9 hbx p0 p1 p2 p3 hk9' hi0 hz0 hz1 hz2
          go_wp2_with fail
          go_roundw
          case rel =>
            refine ⟨ns ++ [q], .slice A9 (ns.length + 1) c9, by simp, by simp; omega, Lib.hid fun q' hq => ?_, Lib.hid ?_, Lib.hid ?_, Lib.hid ?_, Lib.hid ?_⟩
            · rcases List.mem_append.1 hq with h | h
              · exact Hn.out q' h
              · rw [List.mem_singleton.1 h]
                exact ⟨hq0, hq1⟩
            · refine HC.out.addN (xs := ns ++ [q]) HE9'.out (fun g hg hn => ?_) ?_ Hat9.out
              · rintro (e | e)
                · omega
                · exact hn e
              · rw [List.length_append, ints_snoc]
                exact Ho9.out
            · exact (rd_set Hr9'.out (by omega)).more (by simp)
            · exact only_set (HO.out.aft HE9'.out fun g hg => by
                rcases hg with h | h
                · exact .inr h
                · exact .inl (by have := (HC.out.n.lt g h).1; omega)) (by omega)
            · exact res_set ((HE9'.out.block _ (blk_lt HX.out) (fun e => by
                rcases e with h | h
                · omega
                · have := (HC.out.n.lt _ h).1; omega)).trans HX.out) (by omega)
          case measure => simp [intOf]; omega
        · have Hr1 := Lib.hid (Hr.out.more (show P + 300 + 400 * ns.length ≤ P + 2400 by omega))
          have HC1 := Lib.hid HC.out
          clear Hr HC
          obtain ⟨W2, hW2⟩ : ∃ W2, W2 = wr := ⟨_, rfl⟩
          subst hW2
          go_wp2_with fail
          refine (pick_any 4 _ _ _ Hr1.out (by omega) (by omega) (by omega)).mono ?_
          rintro e w5 ⟨k1, hk10, hk11, rfl, hr5, hg5⟩
          have Hr5 := Lib.hid (hr5.more (show P + 2400 + 1 ≤ P + 2500 by omega))
          have HO5 := Lib.hid (only_drawn HO.out hg5 (.inr rfl))
          have HX5 := Lib.hid (res_grown HX.out hg5 (fun e => by have := Option.some.inj e; omega))
          have HC5 := Lib.hid (HC1.out.drawn hg5 (by omega))
          clear hr5 hg5 Hr1 HO HX HC1
          go_wp2_with fail
          go_loopw [12] (fun j wr => ∃ (K : Int) (os : List Int) (vO : Value), j = .int .i64 K ∧ 0 ≤ K ∧ os.length + K ≤ 3 ∧ Hid (∀ q ∈ os, LitS q) ∧ Hid (CB gm ⟨x, ns, gs, os⟩ vN vG vO wr) ∧ Hid (Rd wr R (P + 2500 + 1000 * os.length)) ∧ Hid (Only (· = R) w wr) ∧ Hid (wr.heap[w.heap.size]? = some (.cells #[.int .i64 0, .slice none 0 0, .slice none 0 0, .slice none 0 0] 26 (0, 0)))) (fun j _ => (intOf j).toNat)
          case atStart => exact ⟨k1, [], _, rfl, hk10, by simp; omega, Lib.hid (by simp), HC5, Lib.hid (Hr5.out.more (by omega)), HO5, HX5⟩
          case round =>
            obtain ⟨K, os, vO, rfl, hK0, hKl2, Hos, HC, Hr, HO, HX⟩ := hrel
            clear Hr5 HC5 HO5 HX5
            by_cases hpos : 0 < K
            · go_wp2_with fail
              have hO := fun ops a => rdRS_ok (Pg := Try.prog) (ops := ops) (P := P + 2500 + 1000 * os.length) (a := a) (G := GInt (-100) 1000) (d := 21) Hr.out.lt (show R < gm + 1 by omega) HC.out.o
              obtain ⟨zm, p0, p1, p2, p3⟩ := HC.out.cells
              have hneO : ¬ (gm = R ∨ vO.ownBlock = some gm) := fun e => by
                rcases e with e | e
                · omega
                · have := (HC.out.o.lt gm e).1; omega
              refine wp_region_rsl (rdRS Try.prog _ R (P + 2500 + 1000 * os.length) wr _ (gm + 1) 3 vO os.length (ints os) (GInt (-100) 1000) 21) (hO _ _) (by kernel_rfl) (by kernel_rfl) (by kernel_rfl) 23 _ rfl rfl (by kernel_rfl) (show (21 : Nat) < 23 by decide) Hr.out HC.out.o ?_
              obtain ⟨i0, hi0, hz0, hz1, hz2⟩ := info_parts info_int
              apply rs_eq (hO _ _) (.inl (Nat.ne_of_beq_eq_false rfl))
              · intro ρ w' ho hK
                obtain ⟨h0, -⟩ := hK
                have h0' : ρ (.tmp 5) = .pointer (some ⟨gm, 0, none⟩) := h0
                go_simp
                try exact rfl
              apply rs_eq (hO _ _) (.inl (Nat.ne_of_beq_eq_false rfl))
              · intro ρ w' ho hK
                obtain ⟨h0, -⟩ := hK
                have h0' : ρ (.tmp 79) = .pointer (some ⟨gm, 3, none⟩) := h0
                have q1 := cell_on ho hneO zm p3
                go_simp
                try exact rfl
              refine rs_old (hO _ _) (.inl (Nat.ne_of_beq_eq_false rfl)) _ (.inl rfl) _ rfl rfl ?_
              apply rs_eq (hO _ _) (.inl (Nat.ne_of_beq_eq_false rfl))
              · intro ρ w' ho hK
                obtain ⟨h0, h1, -⟩ := hK
                have h0' : ρ (.const (.int .i64 2)) = .int .i64 2 := h0
                have h1' : ρ (.tmp 81) = .int .i64 M := h1
                have hwr := IntWalk.i64_in (2 * M) (by omega)
                go_simp
                try exact rfl
              apply rs_eq (hO _ _) (.inl (Nat.ne_of_beq_eq_false rfl))
              · intro ρ w' ho hK
                obtain ⟨h0, h1, -⟩ := hK
                have h1' : ρ (.const (.int .i64 1)) = .int .i64 1 := h1
                have h0' : ρ (.tmp 82) = .int .i64 (2 * M) := h0
                have hwr := IntWalk.i64_in (2 * M - 1) (by omega)
                go_simp
                try exact rfl
              refine rs_old (hO _ _) (.inl (Nat.ne_of_beq_eq_false rfl)) _ (.inl rfl) _ rfl rfl ?_
              refine rs_old (hO _ _) (.inl (Nat.ne_of_beq_eq_false rfl)) _ (.inl rfl) _ rfl rfl ?_
              apply rs_eq (hO _ _) (.inl (Nat.ne_of_beq_eq_false rfl))
              · intro ρ w' ho hK
                obtain ⟨h0, h1, -⟩ := hK
                have h0' : ρ (.const (.int .i64 2)) = .int .i64 2 := h0
                have h1' : ρ (.tmp 85) = .int .i64 M := h1
                have hwr := IntWalk.i64_in (2 * M) (by omega)
                go_simp
                try exact rfl
              refine rs_pure (hO _ _) (.inl (Nat.ne_of_beq_eq_false rfl)) (TInt 1 8) (stb_int _ _ _) (fun ρ w hK => by
                obtain ⟨h0, h1, -⟩ := hK
                have h0' : ρ (.const (.int .i64 8)) = .int .i64 8 := h0
                have h1' : ρ (.tmp 86) = .int .i64 (2 * M) := h1
                by_cases h8 : 2 * M < 8
                · refine ⟨.int .i64 (2 * M), ?_, 2 * M, rfl, by omega, by omega⟩
                  go_simp
                · refine ⟨.int .i64 8, ?_, 8, rfl, by omega, by omega⟩
                  go_simp) ?_
              refine rs_pick (hO _ _) (.inl (Nat.ne_of_beq_eq_false rfl)) 33 _ _ _ R (P + 2500 + 1000 * os.length) 7 rfl rfl fn_draw (fun ρ w hK => by
                obtain ⟨h0, h1, ⟨q, h2, h3, h4⟩, -⟩ := hK
                exact ⟨h0, h1, q, h2, h3, by omega⟩) (fun n k w hk h1n hn hr => pick_upto n 7 _ _ w hr (by have hk' : k < 24 := hk; omega) h1n hn (by omega)) ?_
              refine rs_pure (hO _ _) (.inl (Nat.ne_of_beq_eq_false rfl)) (TInt (-100) 1000) (stb_int _ _ _) (fun ρ w hK => by
                obtain ⟨h0, ⟨q, h1, h2, h3⟩, -⟩ := hK
                have h0' : ρ (.tmp 83) = .int .i64 (2 * M - 1) := h0
                have h1' : ρ (.tmp 88) = .int .i64 q := h1
                have h3' : q ≤ 7 := h3
                have hwr := IntWalk.i64_in (2 * M - 1 - q) (by omega)
                refine ⟨.int .i64 (2 * M - 1 - q), ?_, _, rfl, by omega, by omega⟩
                go_simp) ?_
              refine rs_old (hO _ _) (.inl (Nat.ne_of_beq_eq_false rfl)) _ (.inl rfl) _ rfl rfl ?_
              refine rs_old (hO _ _) (.inl (Nat.ne_of_beq_eq_false rfl)) _ (.inl rfl) _ rfl rfl ?_
              apply rs_eq (hO _ _) (.inl (Nat.ne_of_beq_eq_false rfl))
              · intro ρ w' ho hK
                obtain ⟨h0, h1, -⟩ := hK
                have h0' : ρ (.const (.int .i64 2)) = .int .i64 2 := h0
                have h1' : ρ (.tmp 91) = .int .i64 M := h1
                have hwr := IntWalk.i64_in (2 * M) (by omega)
                go_simp
                try exact rfl
              refine rs_pick (hO _ _) (.inl (Nat.ne_of_beq_eq_false rfl)) 33 _ _ _ R (P + 2500 + 1000 * os.length) 43 rfl rfl fn_draw (fun ρ w hK => ⟨hK.1, hK.2.1, 2 * M, hK.2.2.1, by omega, by omega⟩) (fun n k w hk h1n hn hr => pick_upto n 43 _ _ w hr (by have hk' : k < 24 := hk; omega) h1n hn (by omega)) ?_
              refine rs_build (hO _ _) (.inl (Nat.ne_of_beq_eq_false rfl)) 2 (GInt (-100) 1000) 3 (fun ρ w hK => by
                obtain ⟨⟨q, hq, hq0, hq1⟩, ⟨q2, hr, hr0, hr1⟩, -⟩ := hK
                have h' : ρ (.tmp 89) = .int .i64 q := hq
                have h2' : ρ (.tmp 93) = .int .i64 q2 := hr
                have hr1' : q2 ≤ 43 := hr1
                refine ⟨#[.int .i64 q, .int .i64 q2], rfl, ?_, ?_⟩
                · go_simp
                · intro c hc
                  simp at hc
                  rcases hc with rfl | rfl
                  · exact ⟨q, rfl, by omega, by omega⟩
                  · exact ⟨q2, rfl, by omega, by omega⟩) ?_
              refine rs_old (hO _ _) (.inl (Nat.ne_of_beq_eq_false rfl)) _ (.inl rfl) _ rfl rfl ?_
              refine rs_pick (hO _ _) (.inl (Nat.ne_of_beq_eq_false rfl)) 33 _ _ _ R (P + 2500 + 1000 * os.length) 1 rfl rfl fn_draw (fun ρ w hK => ⟨hK.1, hK.2.1, 2, hK.2.2.1, by omega, by omega⟩) (fun n k w hk h1n hn hr => pick_upto n 1 _ _ w hr (by have hk' : k < 24 := hk; omega) h1n hn (by omega)) ?_
              refine rs_index (hO _ _) (.inl (Nat.ne_of_beq_eq_false rfl)) 23 _ _ 2 (GInt (-100) 1000) 1 rfl _ _ rfl rfl rfl rfl (by omega) (by omega) ix_drawn ?_
              refine rs_load (hO _ _) (.inl (Nat.ne_of_beq_eq_false rfl)) 3 _ (GInt (-100) 1000) rfl _ rfl rfl ag_drawn ?_
              refine rs_build (hO _ _) (.inl (Nat.ne_of_beq_eq_false rfl)) 1 (GInt (-100) 1000) 3 (fun ρ w hK => by
                obtain ⟨⟨q, hq, hq0, hq1⟩, -⟩ := hK
                have h' : ρ (.tmp 98) = .int .i64 q := hq
                refine ⟨#[.int .i64 q], rfl, ?_, ?_⟩
                · go_simp
                · intro c hc
                  simp at hc
                  exact ⟨q, hc, by omega, by omega⟩) ?_
              refine rs_appendV rfl (gm + 1) 3 23 vO os.length (ints os) (GInt (-100) 1000) rfl R (P + 2500 + 1000 * os.length) rfl (fun g hg => .inr hg) (show R < gm + 1 by omega) zm _ _ rfl _ _ rfl rfl rfl rfl i0 _ 8 Try.underlying23 hi0 hz0 hz1 hz2 rfl (by omega) (by decide) (fun u hu => by obtain ⟨q, rfl, -⟩ := hu; rfl) ?_
              apply rs_eq (hO _ _) (.inl (Nat.ne_of_beq_eq_false rfl))
              · intro ρ w' ho hK
                obtain ⟨h0, -⟩ := hK
                have h0' : ρ (.tmp 5) = .pointer (some ⟨gm, 0, none⟩) := h0
                go_simp
                try exact rfl
              intro f w9 k9 hk9 hI9 ht9 hcp9
              have E0 : f 0 = _ := ht9 0 (Nat.le_of_ble_eq_true rfl)
              have E1 : f 1 = _ := ht9 1 (Nat.le_of_ble_eq_true rfl)
              have E2 : f 2 = _ := ht9 2 (Nat.le_of_ble_eq_true rfl)
              have E3 : f 3 = _ := ht9 3 (Nat.le_of_ble_eq_true rfl)
              have E4 : f 4 = _ := ht9 4 (Nat.le_of_ble_eq_true rfl)
              have E5 : f 5 = _ := ht9 5 (Nat.le_of_ble_eq_true rfl)
              have E6 : f 6 = _ := ht9 6 (Nat.le_of_ble_eq_true rfl)
              have E7 : f 7 = _ := ht9 7 (Nat.le_of_ble_eq_true rfl)
              have E11 : f 11 = _ := ht9 11 (Nat.le_of_ble_eq_true rfl)
              have E12 : f 12 = _ := ht9 12 (Nat.le_of_ble_eq_true rfl)
              have E13 : f 13 = _ := ht9 13 (Nat.le_of_ble_eq_true rfl)
              have E16 : f 16 = _ := ht9 16 (Nat.le_of_ble_eq_true rfl)
              have E22 : f 22 = _ := ht9 22 (Nat.le_of_ble_eq_true rfl)
              have Hr9 : Rd w9 R (P + 2500 + 1000 * os.length + 40 * k9) := hI9.1
              have HE9 : Only (fun g => g = R ∨ vO.ownBlock = some g) wr w9 := hI9.2.1
              have HJ9 : (∃ u, GInt (-100) 1000 u ∧ w9.ownsRow (gm + 1) 3 1 (f 21) (os.length + 1) (ints os ++ [u])) ∧ ∀ g, (f 21).ownBlock = some g → vO.ownBlock = some g ∨ wr.heap.size ≤ g := hI9.2.2
              have hk9' : k9 ≤ 24 := hk9
              simp only [putAll, E0, E1, E2, E3, E4, E5, E6, E7, E11, E12, E13, E16, E22, Nat.zero_add, Nat.reduceAdd, Act.put, List.take, List.setIfInBounds_toArray, List.set_cons_succ, List.set_cons_zero, List.getElem_toArray, List.getElem_cons_succ, List.getElem_cons_zero]
              clear E0 E1 E2 E3 E4 E5 E6 E7 E11 E12 E13 E16 E22 hI9 ht9 hcp9 hk9 hO
              generalize f 8 = r8, f 9 = r9, f 10 = r10, f 14 = r14, f 15 = r15, f 17 = r17, f 18 = r18, f 19 = r19, f 20 = r20 at *
              generalize f 21 = v9 at *
              obtain ⟨⟨uu, ⟨q, rfl, hq0, hq1⟩, hown9⟩, hat9⟩ := HJ9
              obtain ⟨A9, c9, e9⟩ := slice_of_own hown9
              subst e9
              have Ho9 := Lib.hid hown9
              have Hat9 := Lib.hid hat9
              have HE9' := Lib.hid HE9
              have Hr9' := Lib.hid (Hr9.more (show P + 2500 + 1000 * os.length + 40 * k9 ≤ P + 2500 + 1000 * (os.length + 1) by omega))
              have hbx := (HE9.block gm zm hneO).trans HC.out.box
              have q1 := blk_cell hbx 3
              have q1f := blk_free hbx 3
              have zq := blk_lt hbx
              simp at q1
              clear hown9 hat9 HE9 Hr9 hbx p0 p1 p2 p3 hk9' hi0 hz0 hz1 hz2
              go_wp2_with fail
              go_roundw
              case rel =>
                refine ⟨K - 1, os ++ [q], .slice A9 (os.length + 1) c9, by go_num, by omega, by simp; omega, Lib.hid fun q' hq => ?_, Lib.hid ?_, Lib.hid ?_, Lib.hid ?_, Lib.hid ?_⟩
                · rcases List.mem_append.1 hq with h | h
                  · exact Hos.out q' h
                  · rw [List.mem_singleton.1 h]
                    exact ⟨hq0, hq1⟩
                · refine HC.out.addO (xs := os ++ [q]) HE9'.out (fun g hg hn => ?_) ?_ Hat9.out
                  · rintro (e | e)
                    · omega
                    · exact hn e
                  · rw [List.length_append, ints_snoc]
                    exact Ho9.out
                · exact (rd_set Hr9'.out (by omega)).more (by simp)
                · exact only_set (HO.out.aft HE9'.out fun g hg => by
                    rcases hg with h | h
                    · exact .inr h
                    · exact .inl (by have := (HC.out.o.lt g h).1; omega)) (by omega)
                · exact res_set ((HE9'.out.block _ (blk_lt HX.out) (fun e => by
                    rcases e with h | h
                    · omega
                    · have := (HC.out.o.lt _ h).1; omega)).trans HX.out) (by omega)
              case measure => simp [intOf]; omega
            · obtain rfl : K = 0 := by omega
              have Hr1 := Lib.hid (Hr.out.more (show P + 2500 + 1000 * os.length ≤ P + 6000 by omega))
              have HC1 := Lib.hid HC.out
              clear Hr HC
              obtain ⟨W3, hW3⟩ : ∃ W3, W3 = wr := ⟨_, rfl⟩
              subst hW3
              go_wp2_with fail
              refine (odd_every n _ _ _ Hr1.out (by omega) h0 (by omega)).mono ?_
              rintro e w6 ⟨bb, rfl, hr6, hg6⟩
              have Hr6 := Lib.hid hr6
              have HO6 := Lib.hid (only_drawn HO.out hg6 (.inr rfl))
              have HX6 := Lib.hid (res_grown HX.out hg6 (fun e => by have := Option.some.inj e; omega))
              have HC6 := Lib.hid (HC1.out.drawn hg6 (by omega))
              clear hr6 hg6 Hr1 HO HX HC1
              obtain ⟨An, cn, en⟩ := slice_of_own HC6.out.n
              obtain ⟨Ag, cg, eg⟩ := slice_of_own HC6.out.g
              obtain ⟨Ao, co, eo⟩ := slice_of_own HC6.out.o
              simp only at en eg eo
              subst en eg eo
              cases bb
              · obtain ⟨zf, f0, f1, f2, f3⟩ := HC6.out.cells
                obtain ⟨ff0, ff1, ff2, ff3⟩ := HC6.out.free
                have o0 := blk_cell HX6.out 0
                have o1 := blk_cell HX6.out 1
                have o2 := blk_cell HX6.out 2
                have o3 := blk_cell HX6.out 3
                have b0 := blk_free HX6.out 0
                have b1 := blk_free HX6.out 1
                have b2 := blk_free HX6.out 2
                have b3 := blk_free HX6.out 3
                have zr := blk_lt HX6.out
                simp at o0 o1 o2 o3
                go_wp2_with fail
                refine bodyPost_ret (v := .agg #[.int .i64 x, .slice An ns.length cn, .slice Ag gs.length cg, .slice Ao os.length co]) (by simp [results, Try.results32, go_sem, o0, o1, o2, o3]) rfl (finC (c := ⟨x, ns, gs, os⟩) HC6.out HO6.out Hr6.out (by omega) zR (by omega) ⟨by simp only; omega, by simp only; omega, by simp only; omega, by simp only; omega, by simp only; omega, Hn.out, Hl.out, Hos.out⟩ _ _ _ _)
              · go_wp2_with fail
                refine (pick_any 6 _ _ _ Hr6.out (by omega) (by omega) (by omega)).mono ?_
                rintro e w7 ⟨z, hz0, hz1, rfl, hr7, hg7⟩
                have Hr7 := Lib.hid hr7
                have HO7 := Lib.hid (only_drawn HO6.out hg7 (.inr rfl))
                have HX7 := Lib.hid (res_grown HX6.out hg7 (fun e => by have := Option.some.inj e; omega))
                have HC7 := Lib.hid (HC6.out.drawn hg7 (by omega))
                clear hr7 hg7 Hr6 HO6 HX6 HC6
                obtain rfl | rfl | rfl | rfl | rfl | rfl : z = 0 ∨ z = 1 ∨ z = 2 ∨ z = 3 ∨ z = 4 ∨ z = 5 := by omega
                · go_wp2_with fail
                  refine (pick_any 2 _ _ _ (Hr7.out.alloc _) (by omega) (by omega) (by omega)).mono ?_
                  rintro e w8 ⟨u, hu0, hu1, rfl, hr8, hg8⟩
                  have hzr7 := Hr7.out.lt
                  obtain ⟨vv, hvv, hu0', hcell⟩ := lit_cell2 _ _ _ _ _ hg8 hzr7 u hu0 hu1
                  have zl := hg8.size
                  rw [World.size_alloc] at zl
                  have Hr8 := Lib.hid hr8
                  have HO8 := Lib.hid (only_drawn (only_alloc HO7.out _) hg8 (.inr rfl))
                  have HX8 := Lib.hid (res_grown (((bel_new w7 _).block _ (blk_lt HX7.out)).trans HX7.out) hg8 (fun e => by have := Option.some.inj e; omega))
                  have HC8 := Lib.hid ((HC7.out.below (bel_new w7 _)).drawn hg8 (by omega))
                  clear hr8 hg8 Hr7 HO7 HX7 HC7
                  obtain ⟨zf, f0, f1, f2, f3⟩ := HC8.out.cells
                  obtain ⟨ff0, ff1, ff2, ff3⟩ := HC8.out.free
                  have o0 := blk_cell HX8.out 0
                  have o1 := blk_cell HX8.out 1
                  have o2 := blk_cell HX8.out 2
                  have o3 := blk_cell HX8.out 3
                  have b0 := blk_free HX8.out 0
                  have b1 := blk_free HX8.out 1
                  have b2 := blk_free HX8.out 2
                  have b3 := blk_free HX8.out 3
                  have zr := blk_lt HX8.out
                  simp at o0 o1 o2 o3
                  go_wp2_with fail
                  refine bodyPost_ret (v := .agg #[.int .i64 vv, .slice An ns.length cn, .slice Ag gs.length cg, .slice Ao os.length co]) (by simp [results, Try.results32, go_sem, o0, o1, o2, o3]) rfl (finC (c := ⟨vv, ns, gs, os⟩) (HC8.out.setIns vv) (only_set HO8.out (by omega)) (rd_set Hr8.out (by omega)) (by omega) zR (by omega) ⟨by simp only; omega, by simp only; omega, by simp only; omega, by simp only; omega, by simp only; omega, Hn.out, Hl.out, Hos.out⟩ _ _ _ _)
                · go_wp2_with fail
                  have hO := fun ops a => rdRS_ok (Pg := Try.prog) (ops := ops) (P := P + 6000 + 1 + 1) (a := a) (G := GInt (-100) 1000) (d := 10) Hr7.out.lt (show R < gm + 1 by omega) HC7.out.o
                  obtain ⟨zm, p0, p1, p2, p3⟩ := HC7.out.cells
                  have hneO : ¬ (gm = R ∨ (Value.slice Ao os.length co).ownBlock = some gm) := fun e => by
                    rcases e with e | e
                    · omega
                    · have := (HC7.out.o.lt gm e).1; omega
                  refine wp_region_rsl (rdRS Try.prog _ R (P + 6000 + 1 + 1) w7 _ (gm + 1) 3 (.slice Ao os.length co) os.length (ints os) (GInt (-100) 1000) 10) (hO _ _) (by kernel_rfl) (by kernel_rfl) (by kernel_rfl) 12 _ rfl rfl (by kernel_rfl) (show (10 : Nat) < 12 by decide) Hr7.out HC7.out.o ?_
                  obtain ⟨i0, hi0, hz0, hz1, hz2⟩ := info_parts info_int
                  apply rs_eq (hO _ _) (.inl (Nat.ne_of_beq_eq_false rfl))
                  · intro ρ w' ho hK
                    obtain ⟨h0, -⟩ := hK
                    have h0' : ρ (.tmp 5) = .pointer (some ⟨gm, 0, none⟩) := h0
                    go_simp
                    try exact rfl
                  apply rs_eq (hO _ _) (.inl (Nat.ne_of_beq_eq_false rfl))
                  · intro ρ w' ho hK
                    obtain ⟨h0, -⟩ := hK
                    have h0' : ρ (.tmp 122) = .pointer (some ⟨gm, 3, none⟩) := h0
                    have q1 := cell_on ho hneO zm p3
                    go_simp
                    try exact rfl
                  refine rs_old (hO _ _) (.inl (Nat.ne_of_beq_eq_false rfl)) _ (.inl rfl) _ rfl rfl ?_
                  apply rs_eq (hO _ _) (.inl (Nat.ne_of_beq_eq_false rfl))
                  · intro ρ w' ho hK
                    obtain ⟨h0, h1, -⟩ := hK
                    have h0' : ρ (.const (.int .i64 2)) = .int .i64 2 := h0
                    have h1' : ρ (.tmp 124) = .int .i64 M := h1
                    have hwr := IntWalk.i64_in (2 * M) (by omega)
                    go_simp
                    try exact rfl
                  refine rs_build (hO _ _) (.inl (Nat.ne_of_beq_eq_false rfl)) 2 (GInt (-100) 1000) 3 (fun ρ w hK => by
                    obtain ⟨h1, h2, -⟩ := hK
                    have h1' : ρ (.const (.int .i64 (-1))) = .int .i64 (-1) := h1
                    have h2' : ρ (.tmp 125) = .int .i64 (2 * M) := h2
                    refine ⟨#[.int .i64 (-1), .int .i64 (2 * M)], rfl, ?_, ?_⟩
                    · go_simp
                    · intro c hc
                      simp at hc
                      rcases hc with rfl | rfl
                      · exact ⟨-1, rfl, by omega, by omega⟩
                      · exact ⟨2 * M, rfl, by omega, by omega⟩) ?_
                  refine rs_old (hO _ _) (.inl (Nat.ne_of_beq_eq_false rfl)) _ (.inl rfl) _ rfl rfl ?_
                  refine rs_pick (hO _ _) (.inl (Nat.ne_of_beq_eq_false rfl)) 33 _ _ _ R (P + 6000 + 1 + 1) 1 rfl rfl fn_draw (fun ρ w hK => ⟨hK.1, hK.2.1, 2, hK.2.2.1, by omega, by omega⟩) (fun n k w hk h1n hn hr => pick_upto n 1 _ _ w hr (by have hk' : k < 13 := hk; omega) h1n hn (by omega)) ?_
                  refine rs_index (hO _ _) (.inl (Nat.ne_of_beq_eq_false rfl)) 23 _ _ 2 (GInt (-100) 1000) 1 rfl _ _ rfl rfl rfl rfl (by omega) (by omega) ix_drawn ?_
                  refine rs_load (hO _ _) (.inl (Nat.ne_of_beq_eq_false rfl)) 3 _ (GInt (-100) 1000) rfl _ rfl rfl ag_drawn ?_
                  refine rs_build (hO _ _) (.inl (Nat.ne_of_beq_eq_false rfl)) 1 (GInt (-100) 1000) 3 (fun ρ w hK => by
                    obtain ⟨⟨q, hq, hq0, hq1⟩, -⟩ := hK
                    have h' : ρ (.tmp 130) = .int .i64 q := hq
                    refine ⟨#[.int .i64 q], rfl, ?_, ?_⟩
                    · go_simp
                    · intro c hc
                      simp at hc
                      exact ⟨q, hc, by omega, by omega⟩) ?_
                  refine rs_appendV rfl (gm + 1) 3 23 (.slice Ao os.length co) os.length (ints os) (GInt (-100) 1000) rfl R (P + 6000 + 1 + 1) rfl (fun g hg => .inr hg) (show R < gm + 1 by omega) zm _ _ rfl _ _ rfl rfl rfl rfl i0 _ 8 Try.underlying23 hi0 hz0 hz1 hz2 rfl (by omega) (by decide) (fun u hu => by obtain ⟨q, rfl, -⟩ := hu; rfl) ?_
                  apply rs_eq (hO _ _) (.inl (Nat.ne_of_beq_eq_false rfl))
                  · intro ρ w' ho hK
                    obtain ⟨h0, -⟩ := hK
                    have h0' : ρ (.tmp 5) = .pointer (some ⟨gm, 0, none⟩) := h0
                    go_simp
                    try exact rfl
                  intro f w9 k9 hk9 hI9 ht9 hcp9
                  have E0 : f 0 = _ := ht9 0 (Nat.le_of_ble_eq_true rfl)
                  have E1 : f 1 = _ := ht9 1 (Nat.le_of_ble_eq_true rfl)
                  have E2 : f 2 = _ := ht9 2 (Nat.le_of_ble_eq_true rfl)
                  have E3 : f 3 = _ := ht9 3 (Nat.le_of_ble_eq_true rfl)
                  have E5 : f 5 = _ := ht9 5 (Nat.le_of_ble_eq_true rfl)
                  have E11 : f 11 = _ := ht9 11 (Nat.le_of_ble_eq_true rfl)
                  have Hr9 : Rd w9 R (P + 6000 + 1 + 1 + 40 * k9) := hI9.1
                  have HE9 : Only (fun g => g = R ∨ (Value.slice Ao os.length co).ownBlock = some g) w7 w9 := hI9.2.1
                  have HJ9 : (∃ u, GInt (-100) 1000 u ∧ w9.ownsRow (gm + 1) 3 1 (f 10) (os.length + 1) (ints os ++ [u])) ∧ ∀ g, (f 10).ownBlock = some g → (Value.slice Ao os.length co).ownBlock = some g ∨ w7.heap.size ≤ g := hI9.2.2
                  have hk9' : k9 ≤ 13 := hk9
                  simp only [putAll, E0, E1, E2, E3, E5, E11, Nat.zero_add, Nat.reduceAdd, Act.put, List.take, List.setIfInBounds_toArray, List.set_cons_succ, List.set_cons_zero, List.getElem_toArray, List.getElem_cons_succ, List.getElem_cons_zero]
                  clear E0 E1 E2 E3 E5 E11 hI9 ht9 hcp9 hk9 hO
                  generalize f 4 = r4, f 6 = r6, f 7 = r7, f 8 = r8, f 9 = r9 at *
                  generalize f 10 = v9 at *
                  obtain ⟨⟨uu, ⟨q, rfl, hq0, hq1⟩, hown9⟩, hat9⟩ := HJ9
                  obtain ⟨A9, c9, e9⟩ := slice_of_own hown9
                  subst e9
                  have Ho9 := Lib.hid hown9
                  have Hat9 := Lib.hid hat9
                  have HE9' := Lib.hid HE9
                  have Hr9' := Lib.hid (Hr9.more (show P + 6000 + 1 + 1 + 40 * k9 ≤ P + 7000 by omega))
                  clear p0 p1 p2 p3
                  have hbx := (HE9.block gm zm hneO).trans HC7.out.box
                  have zf := blk_lt hbx
                  have f0 := blk_cell hbx 0
                  have f1 := blk_cell hbx 1
                  have f2 := blk_cell hbx 2
                  have f3 := blk_cell hbx 3
                  have ff3 := blk_free hbx 3
                  have HX9 := Lib.hid ((HE9.block _ (blk_lt HX7.out) (fun e => by
                    rcases e with h | h
                    · omega
                    · have := (HC7.out.o.lt _ h).1; omega)).trans HX7.out)
                  have o0 := blk_cell HX9.out 0
                  have o1 := blk_cell HX9.out 1
                  have o2 := blk_cell HX9.out 2
                  have o3 := blk_cell HX9.out 3
                  have b0 := blk_free HX9.out 0
                  have b1 := blk_free HX9.out 1
                  have b2 := blk_free HX9.out 2
                  have b3 := blk_free HX9.out 3
                  have zr := blk_lt HX9.out
                  simp at f0 f1 f2 f3 o0 o1 o2 o3
                  clear hown9 hat9 HE9 Hr9 hbx hk9' hi0 hz0 hz1 hz2
                  go_wp2_with fail
                  refine bodyPost_ret (v := .agg #[.int .i64 x, .slice An ns.length cn, .slice Ag gs.length cg, .slice A9 (os.length + 1) c9]) (by simp [results, Try.results32, go_sem, o0, o1, o2, o3]) rfl (finC (c := ⟨x, ns, gs, os ++ [q]⟩) (HC7.out.addO (xs := os ++ [q]) HE9'.out (fun g hg hn e => e.elim (fun e => by omega) hn) (by rw [List.length_append, ints_snoc]; exact Ho9.out) Hat9.out) (only_set (HO7.out.aft HE9'.out fun g hg => hg.elim .inr fun h => .inl (by have := (HC7.out.o.lt g h).1; omega)) (by omega)) (rd_set Hr9'.out (by omega)) (by omega) zR (by omega) ⟨by simp only; omega, by simp only; omega, by simp only; omega, by simp only; omega, by simp; omega, Hn.out, Hl.out, (fun q hq => by
                      rcases List.mem_append.1 hq with h | h
                      · exact Hos.out q h
                      · rw [List.mem_singleton.1 h]
                        exact ⟨hq0, hq1⟩)⟩ _ _ _ _)
                · have hneK : (Value.slice An ns.length cn).ownBlock ≠ some gm := fun e => by have := (HC7.out.n.lt gm e).1; omega
                  obtain ⟨zm, p0, p1, p2, p3⟩ := HC7.out.cells
                  have Hlit := Lib.hid (Row.of_own (World.ownsRow_lit (base := w7.heap.size) (e := 3) (size := 1) w7 #[.int .i64 (-1)] 1 (Nat.le_refl _) (by unfold maxLen; omega) rfl))
                  go_wp2_with (
                    at_builtin
                    refine append_ints rfl (.tmp 137) (.tmp 138) rfl (gm + 1) _ ns.length _ rfl (HC7.out.n.alloc _) _ 1 [.int .i64 (-1)] rfl Hlit.out (by simp [Value.oneCell']) (by omega) (by simp; omega) ?_
                    intro v9 w9 hown9 hg9 hat9
                    obtain ⟨A9, c9, e9⟩ := slice_of_own hown9
                    subst e9
                    have Ho9 := Lib.hid hown9
                    have HE9 := Lib.hid (app_only hg9)
                    have Hr9 := Lib.hid (app_rd Hr7.out hg9 HC7.out.n (by omega))
                    have Hat9 := Lib.hid (app_at hat9)
                    clear p0 p1 p2 p3
                    have hbx := (HE9.out.block gm zm hneK).trans HC7.out.box
                    have zf := blk_lt hbx
                    have f0 := blk_cell hbx 0
                    have f1 := blk_cell hbx 1
                    have f2 := blk_cell hbx 2
                    have f3 := blk_cell hbx 3
                    have ff1 := blk_free hbx 1
                    have HX9 := Lib.hid ((HE9.out.block _ (blk_lt HX7.out) (fun e => by have := (HC7.out.n.lt _ e).1; omega)).trans HX7.out)
                    have o0 := blk_cell HX9.out 0
                    have o1 := blk_cell HX9.out 1
                    have o2 := blk_cell HX9.out 2
                    have o3 := blk_cell HX9.out 3
                    have b0 := blk_free HX9.out 0
                    have b1 := blk_free HX9.out 1
                    have b2 := blk_free HX9.out 2
                    have b3 := blk_free HX9.out 3
                    have zr := blk_lt HX9.out
                    simp at f0 f1 f2 f3 o0 o1 o2 o3
                    clear hown9 hg9 hat9 hbx)
                  refine bodyPost_ret (v := .agg #[.int .i64 x, .slice A9 (ns.length + 1) c9, .slice Ag gs.length cg, .slice Ao os.length co]) (by simp [results, Try.results32, go_sem, o0, o1, o2, o3]) rfl (finC (c := ⟨x, ns ++ [-1], gs, os⟩) (HC7.out.addN (xs := ns ++ [-1]) HE9.out (fun g _ hn => hn) (by rw [List.length_append, ints_snoc]; exact Ho9.out) Hat9.out) (only_set (HO7.out.aft HE9.out fun g hg => .inl (by have := (HC7.out.n.lt g hg).1; omega)) (by omega)) (rd_set Hr9.out (by omega)) (by omega) zR (by omega) ⟨by simp only; omega, by simp only; omega, by simp; omega, by simp only; omega, by simp only; omega, (fun q hq => by
                      rcases List.mem_append.1 hq with h | h
                      · exact Hn.out q h
                      · rw [List.mem_singleton.1 h]
                        exact ⟨by omega, by omega⟩), Hl.out, Hos.out⟩ _ _ _ _)
                · have hneK : (Value.slice Ag gs.length cg).ownBlock ≠ some gm := fun e => by have := (HC7.out.g.lt gm e).1; omega
                  obtain ⟨zm, p0, p1, p2, p3⟩ := HC7.out.cells
                  have Hlit := Lib.hid (Row.of_own (World.ownsRow_lit (base := w7.heap.size) (e := 72) (size := 2) w7 #[.int .i64 (2 * M), .int .i64 0] 1 (Nat.le_refl _) (by unfold maxLen; omega) rfl))
                  go_wp2_with (
                    at_builtin
                    refine append_gates rfl (.tmp 144) (.tmp 148) rfl (gm + 1) _ gs.length _ rfl (HC7.out.g.alloc _) _ 1 [.int .i64 (2 * M), .int .i64 0] rfl Hlit.out (by simp [Value.oneCell']) (by omega) (by simp; omega) ?_
                    intro v9 w9 hown9 hg9 hat9
                    obtain ⟨A9, c9, e9⟩ := slice_of_own hown9
                    subst e9
                    have Ho9 := Lib.hid hown9
                    have HE9 := Lib.hid (app_only hg9)
                    have Hr9 := Lib.hid (app_rd Hr7.out hg9 HC7.out.g (by omega))
                    have Hat9 := Lib.hid (app_at hat9)
                    clear p0 p1 p2 p3
                    have hbx := (HE9.out.block gm zm hneK).trans HC7.out.box
                    have zf := blk_lt hbx
                    have f0 := blk_cell hbx 0
                    have f1 := blk_cell hbx 1
                    have f2 := blk_cell hbx 2
                    have f3 := blk_cell hbx 3
                    have ff2 := blk_free hbx 2
                    have HX9 := Lib.hid ((HE9.out.block _ (blk_lt HX7.out) (fun e => by have := (HC7.out.g.lt _ e).1; omega)).trans HX7.out)
                    have o0 := blk_cell HX9.out 0
                    have o1 := blk_cell HX9.out 1
                    have o2 := blk_cell HX9.out 2
                    have o3 := blk_cell HX9.out 3
                    have b0 := blk_free HX9.out 0
                    have b1 := blk_free HX9.out 1
                    have b2 := blk_free HX9.out 2
                    have b3 := blk_free HX9.out 3
                    have zr := blk_lt HX9.out
                    simp at f0 f1 f2 f3 o0 o1 o2 o3
                    clear hown9 hg9 hat9 hbx)
                  refine bodyPost_ret (v := .agg #[.int .i64 x, .slice An ns.length cn, .slice A9 (gs.length + 1) c9, .slice Ao os.length co]) (by simp [results, Try.results32, go_sem, o0, o1, o2, o3]) rfl (finC (c := ⟨x, ns, gs ++ [(2 * M, 0)], os⟩) (HC7.out.addG (xs := gs ++ [(2 * M, 0)]) HE9.out (fun g _ hn => hn) (by rw [List.length_append, cubes_append]; exact Ho9.out) Hat9.out) (only_set (HO7.out.aft HE9.out fun g hg => .inl (by have := (HC7.out.g.lt g hg).1; omega)) (by omega)) (rd_set Hr9.out (by omega)) (by omega) zR (by omega) ⟨by simp only; omega, by simp only; omega, by simp only; omega, by simp; omega, by simp only; omega, Hn.out, (fun q hq => by
                      rcases List.mem_append.1 hq with h | h
                      · exact Hl.out q h
                      · rw [List.mem_singleton.1 h]
                        exact ⟨⟨by simp only; omega, by simp only; omega⟩, by simp only; omega, by simp only; omega⟩), Hos.out⟩ _ _ _ _)
                · obtain ⟨W4, hW4⟩ : ∃ W4, W4 = w7 := ⟨_, rfl⟩
                  subst hW4
                  have Hr8 := Lib.hid (Hr7.out.more (show P + 6000 + 1 + 1 ≤ P + 7000 by omega))
                  go_wp2_with fail
                  go_loopw [] (fun wr => ∃ (hs : List (Int × Int)) (vH : Value), hs.length ≤ 15 ∧ Hid (∀ q ∈ hs, LitS q.1 ∧ LitS q.2) ∧ Hid (CB gm ⟨x, ns, hs, os⟩ (.slice An ns.length cn) vH (.slice Ao os.length co) wr) ∧ Hid (Rd wr R (P + 7000)) ∧ Hid (Only (· = R) w wr) ∧ Hid (wr.heap[w.heap.size]? = some (.cells #[.int .i64 0, .slice none 0 0, .slice none 0 0, .slice none 0 0] 26 (0, 0)))) (fun wr => 16 - gsLen gm wr)
                  case atStart => exact ⟨gs, _, by omega, Hl, HC7, Hr8, HO7, HX7⟩
                  case round =>
                    obtain ⟨hs, vH, hhl, Hhs, HC8, Hr9, HO8, HX8⟩ := hrel
                    clear HC7 Hr7 Hr8 HO7 HX7
                    obtain ⟨Ah, ch, eh⟩ := slice_of_own HC8.out.g
                    simp only at eh
                    subst eh
                    by_cases hl14 : (hs.length : Int) ≤ 14
                    · have hneK : (Value.slice Ah hs.length ch).ownBlock ≠ some gm := fun e => by have := (HC8.out.g.lt gm e).1; omega
                      obtain ⟨zm, p0, p1, p2, p3⟩ := HC8.out.cells
                      have hgl := gsLen_is HC8.out
                      simp only at hgl
                      have Hlit := Lib.hid (Row.of_own (World.ownsRow_lit (base := wr.heap.size) (e := 72) (size := 2) wr #[.int .i64 0, .int .i64 0] 1 (Nat.le_refl _) (by unfold maxLen; omega) rfl))
                      go_wp2_with (
                        at_builtin
                        refine append_gates rfl (.tmp 158) (.tmp 160) rfl (gm + 1) _ hs.length _ rfl (HC8.out.g.alloc _) _ 1 [.int .i64 0, .int .i64 0] rfl Hlit.out (by simp [Value.oneCell']) (by omega) (by simp; omega) ?_
                        intro v9 w9 hown9 hg9 hat9
                        obtain ⟨A9, c9, e9⟩ := slice_of_own hown9
                        subst e9
                        have Ho9 := Lib.hid hown9
                        have HE9 := Lib.hid (app_only hg9)
                        have Hr10 := Lib.hid (app_rd Hr9.out hg9 HC8.out.g (by omega))
                        have Hat9 := Lib.hid (app_at hat9)
                        clear p0 p1 p2 p3
                        have hbx := (HE9.out.block gm zm hneK).trans HC8.out.box
                        have q2 := blk_cell hbx 2
                        have q2f := blk_free hbx 2
                        have zq := blk_lt hbx
                        simp at q2
                        clear hown9 hg9 hat9 hbx)
                      have HCn := Lib.hid (HC8.out.addG (xs := hs ++ [(0, 0)]) HE9.out (fun g _ hn => hn) (by rw [List.length_append, cubes_append]; exact Ho9.out) Hat9.out)
                      go_roundw
                      case rel =>
                        refine ⟨hs ++ [(0, 0)], .slice A9 (hs.length + 1) c9, by simp; omega, Lib.hid fun q hq => ?_, HCn, Lib.hid ?_, Lib.hid ?_, Lib.hid ?_⟩
                        · rcases List.mem_append.1 hq with h | h
                          · exact Hhs.out q h
                          · rw [List.mem_singleton.1 h]
                            exact ⟨⟨by simp only; omega, by simp only; omega⟩, by simp only; omega, by simp only; omega⟩
                        · exact rd_set Hr10.out (by omega)
                        · exact only_set (HO8.out.aft HE9.out fun g hg => .inl (by have := (HC8.out.g.lt g hg).1; omega)) (by omega)
                        · exact res_set ((HE9.out.block _ (blk_lt HX8.out) (fun e => by have := (HC8.out.g.lt _ e).1; omega)).trans HX8.out) (by omega)
                      case measure =>
                        have h1 := gsLen_is HCn.out
                        have h2 := gsLen_is HC8.out
                        simp only [List.length_append, List.length_cons, List.length_nil] at h1 h2
                        rw [h1, h2]
                        omega
                    · obtain ⟨zf, f0, f1, f2, f3⟩ := HC8.out.cells
                      obtain ⟨ff0, ff1, ff2, ff3⟩ := HC8.out.free
                      have o0 := blk_cell HX8.out 0
                      have o1 := blk_cell HX8.out 1
                      have o2 := blk_cell HX8.out 2
                      have o3 := blk_cell HX8.out 3
                      have b0 := blk_free HX8.out 0
                      have b1 := blk_free HX8.out 1
                      have b2 := blk_free HX8.out 2
                      have b3 := blk_free HX8.out 3
                      have zr := blk_lt HX8.out
                      simp at o0 o1 o2 o3
                      go_wp2_with fail
                      refine bodyPost_ret (v := .agg #[.int .i64 x, .slice An ns.length cn, .slice Ah hs.length ch, .slice Ao os.length co]) (by simp [results, Try.results32, go_sem, o0, o1, o2, o3]) rfl (finC (c := ⟨x, ns, hs, os⟩) HC8.out HO8.out Hr9.out (by omega) zR (by omega) ⟨by simp only; omega, by simp only; omega, by simp only; omega, by simp only; omega, by simp only; omega, Hn.out, Hhs.out, Hos.out⟩ _ _ _ _)
                · have hneK : (Value.slice Ao os.length co).ownBlock ≠ some gm := fun e => by have := (HC7.out.o.lt gm e).1; omega
                  obtain ⟨zm, p0, p1, p2, p3⟩ := HC7.out.cells
                  have Hlit := Lib.hid (Row.of_own (World.ownsRow_lit (base := w7.heap.size) (e := 3) (size := 1) w7 #[.int .i64 0, .int .i64 0, .int .i64 0, .int .i64 0] 4 (Nat.le_refl _) (by unfold maxLen; omega) rfl))
                  go_wp2_with (
                    at_builtin
                    refine append_ints rfl (.tmp 108) (.tmp 109) rfl (gm + 1) _ os.length _ rfl (HC7.out.o.alloc _) _ 4 [.int .i64 0, .int .i64 0, .int .i64 0, .int .i64 0] rfl Hlit.out (by simp [Value.oneCell']) (by omega) (by simp; omega) ?_
                    intro v9 w9 hown9 hg9 hat9
                    obtain ⟨A9, c9, e9⟩ := slice_of_own hown9
                    subst e9
                    have Ho9 := Lib.hid hown9
                    have HE9 := Lib.hid (app_only hg9)
                    have Hr9 := Lib.hid (app_rd Hr7.out hg9 HC7.out.o (by omega))
                    have Hat9 := Lib.hid (app_at hat9)
                    clear p0 p1 p2 p3
                    have hbx := (HE9.out.block gm zm hneK).trans HC7.out.box
                    have zf := blk_lt hbx
                    have f0 := blk_cell hbx 0
                    have f1 := blk_cell hbx 1
                    have f2 := blk_cell hbx 2
                    have f3 := blk_cell hbx 3
                    have ff3 := blk_free hbx 3
                    have HX9 := Lib.hid ((HE9.out.block _ (blk_lt HX7.out) (fun e => by have := (HC7.out.o.lt _ e).1; omega)).trans HX7.out)
                    have o0 := blk_cell HX9.out 0
                    have o1 := blk_cell HX9.out 1
                    have o2 := blk_cell HX9.out 2
                    have o3 := blk_cell HX9.out 3
                    have b0 := blk_free HX9.out 0
                    have b1 := blk_free HX9.out 1
                    have b2 := blk_free HX9.out 2
                    have b3 := blk_free HX9.out 3
                    have zr := blk_lt HX9.out
                    simp at f0 f1 f2 f3 o0 o1 o2 o3
                    clear hown9 hg9 hat9 hbx)
                  refine bodyPost_ret (v := .agg #[.int .i64 x, .slice An ns.length cn, .slice Ag gs.length cg, .slice A9 (os.length + 4) c9]) (by simp [results, Try.results32, go_sem, o0, o1, o2, o3]) rfl (finC (c := ⟨x, ns, gs, os ++ [0, 0, 0, 0]⟩) (HC7.out.addO (xs := os ++ [0, 0, 0, 0]) HE9.out (fun g _ hn => hn) (by rw [List.length_append, ints_app4]; exact Ho9.out) Hat9.out) (only_set (HO7.out.aft HE9.out fun g hg => .inl (by have := (HC7.out.o.lt g hg).1; omega)) (by omega)) (rd_set Hr9.out (by omega)) (by omega) zR (by omega) ⟨by simp only; omega, by simp only; omega, by simp only; omega, by simp only; omega, by simp; omega, Hn.out, Hl.out, (fun q hq => by
                      rcases List.mem_append.1 hq with h | h
                      · exact Hos.out q h
                      · simp at h
                        subst h
                        exact ⟨by omega, by omega⟩)⟩ _ _ _ _)
end Go.Proofs.Ytdgminjbgjbamaa

namespace Go.Proofs.Ytdgminjbgjbamaa
open Go.RowKit
set_option maxRecDepth 100000
/-! Drawn circuits, as laws draw them. -/
/-- A result that is stored into its block, cell by cell. -/
def setR (w : World) (k : Nat) (a b c d : Value) : World := (((w.setCell ⟨k, 0, none⟩ a).setCell ⟨k, 1, none⟩ b).setCell ⟨k, 2, none⟩ c).setCell ⟨k, 3, none⟩ d
theorem own_setR {w : World} {k base n size : Nat} {e : TypeId} {v a b c d : Value} {xs : List Value} (h : w.ownsRow base e size v n xs) (hk : k < base) : (setR w k a b c d).ownsRow base e size v n xs :=
  own_set' (own_set' (own_set' (own_set' h hk) hk) hk) hk
theorem OwnC.setR {B k : Nat} {v a b d e : Value} {c : Cz} {w : World} (h : OwnC B v c w) (hk : k < B) : OwnC B v c (setR w k a b d e) := by
  obtain ⟨vN, vG, vO, rfl, h1, h2, h3, h4⟩ := h
  exact ⟨vN, vG, vO, rfl, own_setR h1 hk, own_setR h2 hk, own_setR h3 hk, h4⟩
theorem OwnC.only {E : Nat → Prop} {B : Nat} {v : Value} {c : Cz} {w w' : World} (h : OwnC B v c w) (ho : Only E w w') (hE : ∀ g, B ≤ g → ¬ E g) : OwnC B v c w' := by
  obtain ⟨vN, vG, vO, rfl, h1, h2, h3, h4⟩ := h
  exact ⟨vN, vG, vO, rfl, own_only h1 ho (fun g hg => hE g (h1.lt g hg).1), own_only h2 ho (fun g hg => hE g (h2.lt g hg).1), own_only h3 ho (fun g hg => hE g (h3.lt g hg).1), h4⟩
theorem OwnC.shape {B : Nat} {v : Value} {c : Cz} {w : World} (h : OwnC B v c w) : ∃ An cn Ag cg Ao co, v = .agg #[.int .i64 c.ins, .slice An c.next.length cn, .slice Ag c.gates.length cg, .slice Ao c.outs.length co] := by
  obtain ⟨vN, vG, vO, rfl, h1, h2, h3, -⟩ := h
  obtain ⟨An, cn, rfl⟩ := slice_of_own h1
  obtain ⟨Ag, cg, rfl⟩ := slice_of_own h2
  obtain ⟨Ao, co, rfl⟩ := slice_of_own h3
  exact ⟨An, cn, Ag, cg, Ao, co, rfl⟩
theorem OwnC.mono {B B' : Nat} {v : Value} {c : Cz} {w : World} (h : OwnC B v c w) (hB : B' ≤ B) : OwnC B' v c w := by
  obtain ⟨vN, vG, vO, rfl, h1, h2, h3, h4⟩ := h
  exact ⟨vN, vG, vO, rfl, own_mono h1 hB, own_mono h2 hB, own_mono h3 hB, h4⟩
theorem below_setR {B k : Nat} {w0 w : World} {a b c d : Value} (h : Below B w0 w) (hk : B ≤ k) : Below B w0 (setR w k a b c d) :=
  (((h.setCell (by exact hk) _).setCell (by exact hk) _).setCell (by exact hk) _).setCell (by exact hk) _
/-- What a law is given by a draw of a circuit. -/
def Drawn (w : World) (e : Ending) (w' : World) : Prop := ∃ v c, e = .returned v ∧ OwnC w.heap.size v c w' ∧ Small c ∧ Below w.heap.size w w'
set_option maxHeartbeats 4000000 in
theorem drawMachineOf_any (v : Value) (bs : List Int) (w : World) (h : Row w 1 v bs.length (bs.map (Value.int .u8))) (hb : ∀ x ∈ bs, (Lit.int .u8 x).wf = true) (hl : bs.length ≤ 1048576) :
    Calls Try.prog 13 #[v] w (Drawn w) := by
  have H := Lib.hid h
  clear h
  have hX := heap_alloc_new w (.cells #[.int .i64 0, .slice none 0 0, .slice none 0 0, .slice none 0 0] 26)
  have HB0 := Lib.hid (bel_new w (.cells #[.int .i64 0, .slice none 0 0, .slice none 0 0, .slice none 0 0] 26))
  have hs : (w.alloc (.cells #[.int .i64 0, .slice none 0 0, .slice none 0 0, .slice none 0 0] 26)).heap.size = w.heap.size + 1 := by simp
  have HX := Lib.hid hX
  clear hX
  go_enter Try.func13, Try.ntmps13
  go_wp2_with fail
  have H0 := Lib.hid (H.out.alloc (.cells #[.int .i64 0, .slice none 0 0, .slice none 0 0, .slice none 0 0] 26))
  generalize w.alloc (.cells #[.int .i64 0, .slice none 0 0, .slice none 0 0, .slice none 0 0] 26) = W at *
  refine (open_any _ bs _ H0.out hb hl).mono ?_
  rintro e w1 ⟨rfl, hr1, hb1⟩
  rw [hs] at hr1
  have Hr1 := Lib.hid hr1
  have Hb1 := Lib.hid (HB0.out.trans (hb1.mono HB0.out.size))
  have HX1 := Lib.hid ((hb1.block _ (by omega)).trans HX.out)
  have z1 := hb1.size
  clear hr1 hb1 HX HB0 H H0 hb hl
  go_wp2_with fail
  refine (l20Circuit_any _ 0 9 _ Hr1.out (by omega) (by omega) (by omega)).mono ?_
  rintro e w2 ⟨v2, c, rfl, hO, hS, hr2, hg2⟩
  have HX2 := Lib.hid (res_grown HX1.out hg2 (fun e => by have := Option.some.inj e; omega))
  have Hb2 := Lib.hid (Hb1.out.grown hg2 Hb1.out.size (fun k hk => by have := Option.some.inj hk; omega))
  have HO := Lib.hid hO
  have HS := Lib.hid hS
  obtain ⟨An, cn, Ag, cg, Ao, co, rfl⟩ := hO.shape
  clear hr2 hg2 hO hS HX1 Hb1
  have o0 := blk_cell HX2.out 0
  have o1 := blk_cell HX2.out 1
  have o2 := blk_cell HX2.out 2
  have o3 := blk_cell HX2.out 3
  have b0 := blk_free HX2.out 0
  have b1 := blk_free HX2.out 1
  have b2 := blk_free HX2.out 2
  have b3 := blk_free HX2.out 3
  have zr := blk_lt HX2.out
  simp at o0 o1 o2 o3
  go_wp2_with fail
  refine bodyPost_ret (v := .agg #[.int .i64 c.ins, .slice An c.next.length cn, .slice Ag c.gates.length cg, .slice Ao c.outs.length co]) (by simp [results, Try.results13, go_sem, o0, o1, o2, o3]) rfl ⟨_, c, rfl, (OwnC.setR HO.out (show w.heap.size < w1.heap.size by omega)).mono (by omega), HS.out, below_setR Hb2.out (Nat.le_refl _)⟩
end Go.Proofs.Ytdgminjbgjbamaa

namespace Go.Proofs.Ytdgminjbgjbamaa
/-! Reachable states, plainly. -/
namespace Cir
/-- Membership, as a Bool that the simplifier leaves alone. -/
def memB (l : List Nat) (n : Nat) : Bool := l.contains n
theorem memB_iff {l : List Nat} {n : Nat} : memB l n = true ↔ n ∈ l := by unfold memB; simp
def push (l : List Nat) (n : Nat) : List Nat := if l.contains n then l else l ++ [n]
/-- The next states for the first j inputs are added. -/
def pushes (c : Ci) (s j : Nat) (l : List Nat) : List Nat := ((List.range j).map (nextOf c s)).foldl push l
def bfs (c : Ci) : Nat → Nat → List Nat → List Nat
  | 0, _, l => l
  | f + 1, k, l => match l[k]? with
    | none => l
    | some s => bfs c f (k + 1) (pushes c s (2 ^ c.ins) l)
def reach (c : Ci) : List Nat := bfs c 9 0 [0]
/-- Different states of the circuit. -/
structure Sts (c : Ci) (l : List Nat) : Prop where
  nodup : l.Nodup
  lt : ∀ x ∈ l, x < 2 ^ c.next.length
theorem nodup_lt : ∀ (N : Nat) (l : List Nat), l.Nodup → (∀ x ∈ l, x < N) → l.length ≤ N
  | 0, l, _, h => by
    cases l with
    | nil => simp
    | cons a l => exact absurd (h a (by simp)) (by omega)
  | N + 1, l, hn, h => by
    by_cases hm : N ∈ l
    · have h1 := nodup_lt N (l.erase N) (hn.erase N) (fun x hx => by
        have h2 := (List.Nodup.mem_erase_iff hn).1 hx
        have h3 := h x h2.2
        have h4 := h2.1
        omega)
      rw [List.length_erase_of_mem hm] at h1
      omega
    · have := nodup_lt N l hn (fun x hx => by
        have h3 := h x hx
        have h4 : x ≠ N := fun e => hm (e ▸ hx)
        omega)
      omega
theorem Sts.len {c : Ci} {l : List Nat} (h : Sts c l) (hc : Ok c) : l.length ≤ 8 := by
  have h1 := nodup_lt _ l h.nodup h.lt
  have h2 : 2 ^ c.next.length ≤ 2 ^ 3 := Nat.pow_le_pow_right (show 0 < 2 by decide) hc.nexts
  omega
theorem Sts.zero (c : Ci) : Sts c [0] := ⟨by simp, fun x hx => by simp at hx; subst hx; exact Nat.pow_pos (by decide)⟩
theorem Sts.push {c : Ci} {l : List Nat} (h : Sts c l) {n : Nat} (hn : n < 2 ^ c.next.length) : Sts c (Cir.push l n) := by
  unfold Cir.push
  cases hc : l.contains n
  · refine ⟨?_, fun x hx => ?_⟩
    · simp only [Bool.false_eq_true, if_false]
      rw [List.nodup_append]
      refine ⟨h.nodup, by simp, fun a ha b hb => ?_⟩
      simp at hb
      subst hb
      rintro rfl
      have : l.contains a = true := by simpa using ha
      rw [hc] at this
      cases this
    · simp at hx
      rcases hx with hx | rfl
      · exact h.lt x hx
      · exact hn
  · simpa using h
theorem push_no {l : List Nat} {n : Nat} (h : memB l n = false) : push l n = l ++ [n] := by unfold memB at h; unfold push; rw [h]; rfl
theorem push_yes {l : List Nat} {n : Nat} (h : memB l n = true) : push l n = l := by unfold memB at h; unfold push; rw [h]; rfl
theorem memB_snoc (l : List Nat) (n x : Nat) : memB (l ++ [n]) x = (memB l x || x == n) := by unfold memB; rw [Bool.eq_iff_iff]; simp
theorem memB_zero (x : Nat) : memB [0] x = (x == 0) := by unfold memB; rw [Bool.eq_iff_iff]; simp
theorem pushes_zero (c : Ci) (s : Nat) (l : List Nat) : pushes c s 0 l = l := rfl
theorem pushes_succ (c : Ci) (s j : Nat) (l : List Nat) : pushes c s (j + 1) l = push (pushes c s j l) (nextOf c s j) := by
  unfold pushes
  rw [List.range_succ, List.map_append, List.foldl_append]
  rfl
theorem Sts.pushes {c : Ci} {l : List Nat} (h : Sts c l) (s : Nat) : ∀ j, Sts c (Cir.pushes c s j l)
  | 0 => h
  | j + 1 => by
    rw [pushes_succ]
    exact (Sts.pushes h s j).push (nextOf_lt _ _ _)
theorem pushes_prefix (c : Ci) (s : Nat) (l : List Nat) : ∀ j, ∃ m, Cir.pushes c s j l = l ++ m
  | 0 => ⟨[], by simp [pushes_zero]⟩
  | j + 1 => by
    obtain ⟨m, hm⟩ := pushes_prefix c s l j
    rw [pushes_succ, hm]
    unfold push
    split
    · exact ⟨m, rfl⟩
    · exact ⟨m ++ [nextOf c s j], by rw [List.append_assoc]⟩
theorem pushes_get {c : Ci} {s : Nat} {l : List Nat} {j k x : Nat} (h : l[k]? = some x) : (Cir.pushes c s j l)[k]? = some x := by
  obtain ⟨m, hm⟩ := pushes_prefix c s l j
  obtain ⟨hk, _⟩ := List.getElem?_eq_some_iff.1 h
  rw [hm, List.getElem?_append_left hk, h]
theorem bfs_step {c : Ci} {f k : Nat} {l : List Nat} {s : Nat} (h : l[k]? = some s) : bfs c (f + 1) k l = bfs c f (k + 1) (pushes c s (2 ^ c.ins) l) := by
  rw [bfs, h]
theorem bfs_end {c : Ci} {f : Nat} {l : List Nat} : bfs c f l.length l = l := by
  cases f with
  | zero => rfl
  | succ f => rw [bfs, List.getElem?_eq_none (Nat.le_refl _)]
theorem Sts.bfs {c : Ci} : ∀ (f k : Nat) {l : List Nat}, Sts c l → Sts c (Cir.bfs c f k l)
  | 0, _, _, h => h
  | f + 1, k, l, h => by
    rw [Cir.bfs]
    split
    · exact h
    · exact Sts.bfs f (k + 1) (h.pushes _ _)
theorem reach_sts (c : Ci) : Sts c (reach c) := Sts.bfs _ _ (Sts.zero c)
end Cir
end Go.Proofs.Ytdgminjbgjbamaa

namespace Go.Proofs.Ytdgminjbgjbamaa
namespace Cir
/-! Violations of invariants, plainly. -/
/-- Output o is 1 in state s for input number x. -/
def bad (c : Ci) (o s x : Nat) : Bool := (outsOf c s x).getD o false
def vsts (l : List (Nat × List Nat)) : List Nat := l.map (·.1)
def vpush (l : List (Nat × List Nat)) (n : Nat) (p : List Nat) : List (Nat × List Nat) := if memB (vsts l) n then l else l ++ [(n, p)]
def vpushes (c : Ci) (s : Nat) (p : List Nat) : Nat → List (Nat × List Nat) → List (Nat × List Nat)
  | 0, l => l
  | j + 1, l => vpush (vpushes c s p j l) (nextOf c s j) (p ++ [j])
def vfind (c : Ci) (o s M : Nat) : Option Nat := (List.range M).find? (bad c o s)
def vbfs (c : Ci) (o : Nat) : Nat → Nat → List (Nat × List Nat) → Option (List Nat)
  | 0, _, _ => none
  | f + 1, k, l => match l[k]? with
    | none => none
    | some (s, p) => match vfind c o s (2 ^ c.ins) with
      | some x => some (p ++ [x])
      | none => vbfs c o f (k + 1) (vpushes c s p (2 ^ c.ins) l)
def viol (c : Ci) (o : Nat) : Option (List Nat) := vbfs c o 9 0 [(0, [])]
theorem vsts_vpush (l : List (Nat × List Nat)) (n : Nat) (p : List Nat) : vsts (vpush l n p) = push (vsts l) n := by
  unfold vpush push memB
  split
  · rfl
  · unfold vsts; simp
theorem vsts_vpushes (c : Ci) (s : Nat) (p : List Nat) (l : List (Nat × List Nat)) : ∀ j, vsts (vpushes c s p j l) = pushes c s j (vsts l)
  | 0 => by rw [pushes_zero]; rfl
  | j + 1 => by rw [pushes_succ, ← vsts_vpushes c s p l j, ← vsts_vpush]; rfl
theorem vsts_get {l : List (Nat × List Nat)} {k s : Nat} {p : List Nat} (h : l[k]? = some (s, p)) : (vsts l)[k]? = some s := by
  unfold vsts; rw [List.getElem?_map, h]; rfl
theorem vsts_length (l : List (Nat × List Nat)) : (vsts l).length = l.length := by unfold vsts; simp
theorem vpush_prefix (l : List (Nat × List Nat)) (n : Nat) (p : List Nat) : ∃ m, vpush l n p = l ++ m := by
  unfold vpush
  split
  · exact ⟨[], by simp⟩
  · exact ⟨_, rfl⟩
theorem vpushes_prefix (c : Ci) (s : Nat) (p : List Nat) (l : List (Nat × List Nat)) : ∀ j, ∃ m, vpushes c s p j l = l ++ m
  | 0 => ⟨[], by simp [vpushes]⟩
  | j + 1 => by
    obtain ⟨m, hm⟩ := vpushes_prefix c s p l j
    obtain ⟨m', hm'⟩ := vpush_prefix (vpushes c s p j l) (nextOf c s j) (p ++ [j])
    exact ⟨m ++ m', by rw [vpushes, hm', hm, List.append_assoc]⟩
theorem vpushes_get {c : Ci} {s : Nat} {p : List Nat} {l : List (Nat × List Nat)} {j k : Nat} {x : Nat × List Nat} (h : l[k]? = some x) : (vpushes c s p j l)[k]? = some x := by
  obtain ⟨m, hm⟩ := vpushes_prefix c s p l j
  rw [hm, List.getElem?_append_left (List.getElem?_eq_some_iff.1 h).1, h]
/-- Lists of states with the inputs that lead there. -/
structure Vs (c : Ci) (l : List (Nat × List Nat)) : Prop where
  sts : Sts c (vsts l)
  len : ∀ (k s : Nat) (p : List Nat), l[k]? = some (s, p) → p.length ≤ k
  inp : ∀ (k s : Nat) (p : List Nat), l[k]? = some (s, p) → ∀ x ∈ p, x < 2 ^ c.ins
theorem Vs.zero (c : Ci) : Vs c [(0, [])] := by
  refine ⟨Sts.zero c, fun k s p h => ?_, fun k s p h => ?_⟩
  · cases k with
    | zero => simp at h; obtain ⟨_, rfl⟩ := h; simp
    | succ k => simp at h
  · cases k with
    | zero => simp at h; obtain ⟨_, rfl⟩ := h; simp
    | succ k => simp at h
theorem Vs.push {c : Ci} {l : List (Nat × List Nat)} (h : Vs c l) {k s : Nat} {p : List Nat} (hk : l[k]? = some (s, p)) {n x : Nat} (hn : n < 2 ^ c.next.length) (hx : x < 2 ^ c.ins) : Vs c (vpush l n (p ++ [x])) := by
  refine ⟨by rw [vsts_vpush]; exact h.sts.push hn, fun k' s' p' h' => ?_, fun k' s' p' h' => ?_⟩
  all_goals
    unfold vpush at h'
    split at h'
    · first | exact h.len _ _ _ h' | exact h.inp _ _ _ h'
    · rcases Nat.lt_or_ge k' l.length with hl | hl
      · rw [List.getElem?_append_left hl] at h'
        first | exact h.len _ _ _ h' | exact h.inp _ _ _ h'
      · rw [List.getElem?_append_right hl] at h'
        have hz : k' - l.length = 0 := by
          rcases Nat.eq_zero_or_pos (k' - l.length) with hz | hz
          · exact hz
          · rw [List.getElem?_eq_none (by simp; omega)] at h'; cases h'
        rw [hz] at h'
        simp at h'
        obtain ⟨rfl, rfl⟩ := h'
        first
        | (have := h.len _ _ _ hk
           have h2 := (List.getElem?_eq_some_iff.1 hk).1
           simp
           omega)
        | (intro y hy
           rcases List.mem_append.1 hy with hy | hy
           · exact h.inp _ _ _ hk y hy
           · obtain rfl := List.mem_singleton.1 hy
             exact hx)
theorem Vs.pushes {c : Ci} {l : List (Nat × List Nat)} (h : Vs c l) {k s : Nat} {p : List Nat} (hk : l[k]? = some (s, p)) : ∀ j, j ≤ 2 ^ c.ins → Vs c (vpushes c s p j l)
  | 0, _ => h
  | j + 1, hj => (Vs.pushes h hk j (by omega)).push (vpushes_get hk) (nextOf_lt c s j) (by omega)
theorem Vs.size {c : Ci} {l : List (Nat × List Nat)} (h : Vs c l) (hc : Ok c) : l.length ≤ 8 := by
  have := h.sts.len hc
  rwa [vsts_length] at this
theorem vfind_none {c : Ci} {o s M : Nat} (h : ∀ x, x < M → bad c o s x = false) : vfind c o s M = none := by
  unfold vfind
  rw [List.find?_eq_none]
  intro x hx
  rw [h x (List.mem_range.1 hx)]
  simp
theorem find_range (p : Nat → Bool) : ∀ (M x : Nat), x < M → p x = true → (∀ y, y < x → p y = false) → (List.range M).find? p = some x
  | 0, x, h, _, _ => by omega
  | M + 1, x, h, hp, hl => by
    rw [List.range_succ, List.find?_append]
    rcases Nat.lt_or_ge x M with hx | hx
    · rw [find_range p M x hx hp hl]; rfl
    · obtain rfl : x = M := by omega
      rw [List.find?_eq_none.2 (fun y hy => by rw [hl y (List.mem_range.1 hy)]; simp)]
      simp [hp]
theorem vfind_some {c : Ci} {o s M x : Nat} (hx : x < M) (hb : bad c o s x = true) (h : ∀ y, y < x → bad c o s y = false) : vfind c o s M = some x := find_range _ M x hx hb h
theorem vbfs_hit {c : Ci} {o f k s x : Nat} {p : List Nat} {l : List (Nat × List Nat)} (hk : l[k]? = some (s, p)) (h : vfind c o s (2 ^ c.ins) = some x) : vbfs c o (f + 1) k l = some (p ++ [x]) := by
  rw [vbfs, hk]; simp only [h]
theorem vbfs_step {c : Ci} {o f k s : Nat} {p : List Nat} {l : List (Nat × List Nat)} (hk : l[k]? = some (s, p)) (h : vfind c o s (2 ^ c.ins) = none) : vbfs c o (f + 1) k l = vbfs c o f (k + 1) (vpushes c s p (2 ^ c.ins) l) := by
  rw [vbfs, hk]; simp only [h]
theorem vbfs_end {c : Ci} {o f : Nat} {l : List (Nat × List Nat)} : vbfs c o f l.length l = none := by
  cases f with
  | zero => rfl
  | succ f => rw [vbfs, List.getElem?_eq_none (Nat.le_refl _)]
theorem vpush_no {l : List (Nat × List Nat)} {n : Nat} {p : List Nat} (h : memB (vsts l) n = false) : vpush l n p = l ++ [(n, p)] := by
  unfold vpush; rw [h]; rfl
theorem vpush_yes {l : List (Nat × List Nat)} {n : Nat} {p : List Nat} (h : memB (vsts l) n = true) : vpush l n p = l := by
  unfold vpush; rw [h]; rfl
theorem vpushes_succ (c : Ci) (s : Nat) (p : List Nat) (j : Nat) (l : List (Nat × List Nat)) : vpushes c s p (j + 1) l = vpush (vpushes c s p j l) (nextOf c s j) (p ++ [j]) := rfl
/-- The way back: from which place, and by which input. -/
structure Back (l : List (Nat × List Nat)) (from_ how : List Nat) : Prop where
  l1 : from_.length = l.length
  l2 : how.length = l.length
  zero : ∃ s, l[0]? = some (s, [])
  step : ∀ (k s : Nat) (p : List Nat), l[k]? = some (s, p) → 0 < k → ∃ i x s' p', from_[k]? = some i ∧ i < k ∧ how[k]? = some x ∧ l[i]? = some (s', p') ∧ p = p' ++ [x]
theorem Back.start : Back [(0, [])] [0] [0] := ⟨rfl, rfl, ⟨0, rfl⟩, fun k s p h hk => by
  cases k with
  | zero => omega
  | succ k => simp at h⟩
theorem Back.snoc {l : List (Nat × List Nat)} {from_ how : List Nat} (h : Back l from_ how) {k s n x : Nat} {p : List Nat} (hk : l[k]? = some (s, p)) : Back (l ++ [(n, p ++ [x])]) (from_ ++ [k]) (how ++ [x]) := by
  have hkl := (List.getElem?_eq_some_iff.1 hk).1
  refine ⟨by simp [h.l1], by simp [h.l2], ?_, fun k' s' p' h' hpos => ?_⟩
  · obtain ⟨s0, h0⟩ := h.zero
    exact ⟨s0, by rw [List.getElem?_append_left (List.getElem?_eq_some_iff.1 h0).1, h0]⟩
  · rcases Nat.lt_or_ge k' l.length with hl | hl
    · rw [List.getElem?_append_left hl] at h'
      obtain ⟨i, y, s1, p1, h1, h2, h3, h4, h5⟩ := h.step k' s' p' h' hpos
      exact ⟨i, y, s1, p1, by rw [List.getElem?_append_left (by rw [h.l1]; exact hl), h1], h2, by rw [List.getElem?_append_left (by rw [h.l2]; exact hl), h3], by rw [List.getElem?_append_left (by omega), h4], h5⟩
    · have hz : k' = l.length := by
        rcases Nat.lt_or_ge l.length k' with hz | hz
        · rw [List.getElem?_eq_none (by simp; omega)] at h'; cases h'
        · omega
      subst hz
      rw [List.getElem?_append_right (Nat.le_refl _), Nat.sub_self] at h'
      simp at h'
      obtain ⟨rfl, rfl⟩ := h'
      exact ⟨k, x, s, p, by rw [List.getElem?_append_right (by rw [h.l1]; exact Nat.le_refl _), h.l1]; simp, hkl, by rw [List.getElem?_append_right (by rw [h.l2]; exact Nat.le_refl _), h.l2]; simp, by rw [List.getElem?_append_left hkl, hk], rfl⟩
end Cir
end Go.Proofs.Ytdgminjbgjbamaa

namespace Go.Proofs.Ytdgminjbgjbamaa
namespace Cir
/-! Simulation, plainly; reachable states as states of runs; what the inputs of a violation do. -/
theorem num_bit : ∀ (l : List Bool) (i : Nat), (num l).testBit i = l.getD i false
  | [], i => by simp [num]
  | b :: l, 0 => by
    rw [num, Nat.testBit_zero]
    cases b <;> simp <;> omega
  | b :: l, i + 1 => by
    rw [num, Nat.testBit_succ, show ((if b = true then 1 else 0) + 2 * num l) / 2 = num l from by cases b <;> simp <;> omega, num_bit l i]
    simp
theorem bits_num (l : List Bool) : bits (num l) l.length = l := by
  unfold bits
  apply List.ext_getElem
  · simp
  · intro i h1 h2
    simp [num_bit, List.getElem?_eq_getElem h2]
theorem bits_numL {l : List Bool} {n : Nat} (h : l.length = n) : bits (num l) n = l := h ▸ bits_num l
theorem lits_len (v : List Bool) (ls : List Nat) : (lits v ls).length = ls.length := List.length_map _
/-- The outputs, cycle by cycle. -/
def simL (c : Ci) : List Bool → List (List Bool) → List (List Bool)
  | _, [] => []
  | st, r :: rs => lits (vals c st r) c.outs :: simL c (lits (vals c st r) c.next) rs
/-- The state behind some cycles. -/
def runL (c : Ci) : List Bool → List (List Bool) → List Bool
  | st, [] => st
  | st, r :: rs => runL c (lits (vals c st r) c.next) rs
theorem simL_length (c : Ci) : ∀ (rs : List (List Bool)) (st : List Bool), (simL c st rs).length = rs.length
  | [], _ => rfl
  | r :: rs, st => by rw [simL, List.length_cons, simL_length c rs, List.length_cons]
theorem simL_snoc (c : Ci) (r : List Bool) : ∀ (rs : List (List Bool)) (st : List Bool), simL c st (rs ++ [r]) = simL c st rs ++ [lits (vals c (runL c st rs) r) c.outs]
  | [], _ => rfl
  | q :: rs, st => by rw [List.cons_append, simL, simL_snoc c r rs, simL, runL, List.cons_append]
theorem runL_snoc (c : Ci) (r : List Bool) : ∀ (rs : List (List Bool)) (st : List Bool), runL c st (rs ++ [r]) = lits (vals c (runL c st rs) r) c.next
  | [], _ => rfl
  | q :: rs, st => by rw [List.cons_append, runL, runL_snoc c r rs, runL]
theorem runL_append (c : Ci) (ts : List (List Bool)) : ∀ (rs : List (List Bool)) (st : List Bool), runL c st (rs ++ ts) = runL c (runL c st rs) ts
  | [], _ => rfl
  | q :: rs, st => by rw [List.cons_append, runL, runL_append c ts rs, runL]
theorem runL_length (c : Ci) : ∀ (rs : List (List Bool)) (st : List Bool), st.length = c.next.length → (runL c st rs).length = c.next.length
  | [], _, h => h
  | r :: rs, st, _ => runL_length c rs _ (lits_len _ _)
/-- The same, of numbers. -/
def runN (c : Ci) : Nat → List Nat → Nat
  | s, [] => s
  | s, x :: xs => runN c (nextOf c s x) xs
theorem runN_snoc (c : Ci) (x : Nat) : ∀ (xs : List Nat) (s : Nat), runN c s (xs ++ [x]) = nextOf c (runN c s xs) x
  | [], _ => rfl
  | y :: xs, s => by rw [List.cons_append, runN, runN_snoc c x xs, runN]
def rowsN (n : Nat) (xs : List Nat) : List (List Bool) := xs.map fun x => bits x n
theorem lits_next (c : Ci) (s x : Nat) : lits (vals c (bits s c.next.length) (bits x c.ins)) c.next = bits (nextOf c s x) c.next.length := (bits_numL (lits_len _ _)).symm
theorem runL_rows (c : Ci) : ∀ (xs : List Nat) (s : Nat), runL c (bits s c.next.length) (rowsN c.ins xs) = bits (runN c s xs) c.next.length
  | [], _ => rfl
  | x :: xs, s => by
    show runL c (lits (vals c (bits s c.next.length) (bits x c.ins)) c.next) (rowsN c.ins xs) = _
    rw [lits_next, runL_rows c xs]
    rfl
theorem simL_rows (c : Ci) : ∀ (xs : List Nat) (s i : Nat), (simL c (bits s c.next.length) (rowsN c.ins xs))[i]? = (xs[i]?).map fun x => outsOf c (runN c s (xs.take i)) x
  | [], _, i => by simp [rowsN, simL]
  | x :: xs, s, 0 => rfl
  | x :: xs, s, i + 1 => by
    show (simL c (lits (vals c (bits s c.next.length) (bits x c.ins)) c.next) (rowsN c.ins xs))[i]? = _
    rw [lits_next, simL_rows c xs, List.getElem?_cons_succ, List.take_succ_cons]
    rfl
theorem bits_zero (n : Nat) : bits 0 n = List.replicate n false := by
  unfold bits
  apply List.ext_getElem
  · simp
  · intro i h1 h2; simp
/-! ### Reachable states -/
theorem mem_push {l : List Nat} {n x : Nat} : x ∈ push l n ↔ x ∈ l ∨ x = n := by
  unfold push
  cases h : l.contains n
  · simp
  · have hn : n ∈ l := by simpa using h
    simp only [if_true]
    exact ⟨.inl, fun h => h.elim id fun e => e ▸ hn⟩
theorem mem_pushes {c : Ci} {s : Nat} {l : List Nat} {y : Nat} : ∀ {j : Nat}, y ∈ pushes c s j l ↔ y ∈ l ∨ ∃ x, x < j ∧ nextOf c s x = y
  | 0 => by rw [pushes_zero]; exact ⟨.inl, fun h => h.elim id fun ⟨x, hx, _⟩ => absurd hx (by omega)⟩
  | j + 1 => by
    rw [pushes_succ, mem_push, mem_pushes (j := j)]
    constructor
    · rintro ((h | ⟨x, hx, h⟩) | h)
      · exact .inl h
      · exact .inr ⟨x, by omega, h⟩
      · exact .inr ⟨j, by omega, h.symm⟩
    · rintro (h | ⟨x, hx, h⟩)
      · exact .inl (.inl h)
      · rcases Nat.lt_or_ge x j with hj | hj
        · exact .inl (.inr ⟨x, hj, h⟩)
        · exact .inr (by rw [← h, show x = j from by omega])
theorem bfs_get {c : Ci} : ∀ (f k : Nat) {l : List Nat} {i x : Nat}, l[i]? = some x → (bfs c f k l)[i]? = some x
  | 0, _, _, _, _, h => h
  | f + 1, k, l, i, x, h => by
    rw [bfs]
    split
    · exact h
    · exact bfs_get f (k + 1) (pushes_get h)
theorem bfs_closed {c : Ci} (hc : Ok c) : ∀ (f k : Nat) (l : List Nat), 9 ≤ f + k → Sts c l → k ≤ l.length → (∀ i s, i < k → l[i]? = some s → ∀ x, x < 2 ^ c.ins → nextOf c s x ∈ l) → ∀ s ∈ bfs c f k l, ∀ x, x < 2 ^ c.ins → nextOf c s x ∈ bfs c f k l
  | 0, k, l, hf, hl, hk, _ => absurd (hl.len hc) (by omega)
  | f + 1, k, l, hf, hl, hk, h => by
    rw [bfs]
    cases hs : l[k]? with
    | none =>
      intro s hm x hx
      have hm : s ∈ l := hm
      obtain ⟨i, hi, rfl⟩ := List.mem_iff_getElem.1 hm
      have hkl : l.length ≤ k := by simpa using hs
      exact h i _ (by omega) (List.getElem?_eq_getElem hi) x hx
    | some t =>
      simp only
      obtain ⟨hkl, ht⟩ := List.getElem?_eq_some_iff.1 hs
      obtain ⟨m, hm⟩ := pushes_prefix c t l (2 ^ c.ins)
      refine bfs_closed hc f (k + 1) _ (by omega) (hl.pushes t _) (by rw [hm, List.length_append]; omega) fun i s hi hs' x hx => ?_
      have hil : i < l.length := by omega
      rw [hm, List.getElem?_append_left hil] at hs'
      rcases Nat.lt_or_ge i k with h1 | h1
      · exact mem_pushes.2 (.inl (h i s h1 hs' x hx))
      · obtain rfl : i = k := by omega
        rw [hs] at hs'
        obtain rfl := Option.some.inj hs'
        exact mem_pushes.2 (.inr ⟨x, hx, rfl⟩)
theorem reach_closed {c : Ci} (hc : Ok c) {s x : Nat} (h : s ∈ reach c) (hx : x < 2 ^ c.ins) : nextOf c s x ∈ reach c :=
  bfs_closed hc 9 0 [0] (by omega) (Sts.zero c) (by omega) (fun i s hi => by omega) s h x hx
theorem reach_zero (c : Ci) : 0 ∈ reach c := List.mem_of_getElem? (bfs_get (c := c) 9 0 (l := [0]) (i := 0) rfl)
def Inputs (c : Ci) (p : List Nat) : Prop := ∀ x ∈ p, x < 2 ^ c.ins
theorem Inputs.snoc {c : Ci} {p : List Nat} {x : Nat} (h : Inputs c p) (hx : x < 2 ^ c.ins) : Inputs c (p ++ [x]) := fun y hy => by
  rcases List.mem_append.1 hy with h1 | h1
  · exact h y h1
  · rw [List.mem_singleton.1 h1]; exact hx
theorem Inputs.take {c : Ci} {p : List Nat} (h : Inputs c p) (i : Nat) : Inputs c (p.take i) := fun x hx => h x (List.mem_of_mem_take hx)
theorem run_reach {c : Ci} (hc : Ok c) : ∀ (p : List Nat) (s : Nat), s ∈ reach c → Inputs c p → runN c s p ∈ reach c
  | [], _, h, _ => h
  | x :: p, s, h, hp => run_reach hc p _ (reach_closed hc h (hp x (by simp))) fun y hy => hp y (List.mem_cons_of_mem _ hy)
theorem bfs_run {c : Ci} : ∀ (f k : Nat) (l : List Nat), (∀ s ∈ l, ∃ p, Inputs c p ∧ runN c 0 p = s) → ∀ s ∈ bfs c f k l, ∃ p, Inputs c p ∧ runN c 0 p = s
  | 0, _, _, h => h
  | f + 1, k, l, h => by
    rw [bfs]
    cases hs : l[k]? with
    | none => exact h
    | some t =>
      refine bfs_run f (k + 1) _ fun s hm => ?_
      rcases mem_pushes.1 hm with h1 | ⟨x, hx, h1⟩
      · exact h s h1
      · obtain ⟨p, hp, hr⟩ := h t (List.mem_of_getElem? hs)
        exact ⟨p ++ [x], hp.snoc hx, by rw [runN_snoc, hr, h1]⟩
theorem reach_run {c : Ci} {s : Nat} (h : s ∈ reach c) : ∃ p, Inputs c p ∧ runN c 0 p = s :=
  bfs_run 9 0 [0] (fun s hs => ⟨[], fun x hx => (by cases hx), (List.mem_singleton.1 hs).symm⟩) s h
/-! ### Violations -/
theorem vfind_no {c : Ci} {o s M : Nat} (h : vfind c o s M = none) {x : Nat} (hx : x < M) : bad c o s x = false := by
  unfold vfind at h
  rw [List.find?_eq_none] at h
  simpa using h x (List.mem_range.2 hx)
theorem vfind_hit {c : Ci} {o s M x : Nat} (h : vfind c o s M = some x) : x < M ∧ bad c o s x = true := by
  unfold vfind at h
  exact ⟨List.mem_range.1 (List.mem_of_find?_eq_some h), List.find?_some h⟩
theorem vbfs_none {c : Ci} (hc : Ok c) (o : Nat) : ∀ (f k : Nat) (l : List (Nat × List Nat)), 9 ≤ f + k → Vs c l → k ≤ l.length →
    (vbfs c o f k l = none ↔ ∀ i s, k ≤ i → (bfs c f k (vsts l))[i]? = some s → ∀ x, x < 2 ^ c.ins → bad c o s x = false)
  | 0, k, l, hf, hl, hk => absurd (hl.size hc) (by omega)
  | f + 1, k, l, hf, hl, hk => by
    rw [vbfs, bfs]
    cases hs : l[k]? with
    | none =>
      have hkl : l.length ≤ k := by simpa using hs
      have hv : (vsts l)[k]? = none := by rw [List.getElem?_eq_none_iff, vsts_length]; exact hkl
      rw [hv]
      refine ⟨fun _ i s hi h => ?_, fun _ => rfl⟩
      simp only at h
      rw [List.getElem?_eq_none (by rw [vsts_length]; omega)] at h
      cases h
    | some sp =>
      obtain ⟨s, p⟩ := sp
      have hv := vsts_get hs
      rw [hv]
      have hkl := (List.getElem?_eq_some_iff.1 hs).1
      obtain ⟨m, hm⟩ := vpushes_prefix c s p l (2 ^ c.ins)
      have hget : ∀ F K L i y, (vsts l)[i]? = some y → (bfs c F K (pushes c s L (vsts l)))[i]? = some y := fun F K L i y h => bfs_get F K (pushes_get h)
      simp only
      cases hfd : vfind c o s (2 ^ c.ins) with
      | some x =>
        obtain ⟨h1, h2⟩ := vfind_hit hfd
        refine ⟨fun h => (by cases h), fun h => ?_⟩
        have := h k s (Nat.le_refl _) (hget _ _ _ _ _ hv) x h1
        rw [h2] at this; cases this
      | none =>
        have IH := vbfs_none hc o f (k + 1) (vpushes c s p (2 ^ c.ins) l) (by omega) (hl.pushes hs _ (Nat.le_refl _)) (by rw [hm, List.length_append]; omega)
        rw [vsts_vpushes] at IH
        rw [IH]
        constructor
        · intro h i t hi ht x hx
          rcases Nat.lt_or_ge k i with h1 | h1
          · exact h i t h1 ht x hx
          · obtain rfl : i = k := by omega
            rw [hget _ _ _ _ _ hv] at ht
            obtain rfl := Option.some.inj ht
            exact vfind_no hfd hx
        · exact fun h i t hi ht x hx => h i t (by omega) ht x hx
theorem viol_none {c : Ci} (hc : Ok c) {o : Nat} : viol c o = none ↔ ∀ s ∈ reach c, ∀ x, x < 2 ^ c.ins → bad c o s x = false := by
  rw [viol, vbfs_none hc o 9 0 _ (by omega) (Vs.zero c) (by omega)]
  constructor
  · intro h s hs x hx
    obtain ⟨i, hi, rfl⟩ := List.mem_iff_getElem.1 hs
    exact h i _ (Nat.zero_le _) (List.getElem?_eq_getElem hi) x hx
  · exact fun h i s _ hs x hx => h s (List.mem_of_getElem? hs) x hx
/-- The output is 0 in all cycles. -/
def clean (c : Ci) (o : Nat) : Nat → List Nat → Bool
  | _, [] => true
  | s, x :: xs => !bad c o s x && clean c o (nextOf c s x) xs
theorem clean_snoc (c : Ci) (o x : Nat) : ∀ (p : List Nat) (s : Nat), clean c o s (p ++ [x]) = (clean c o s p && !bad c o (runN c s p) x)
  | [], s => by simp [clean, runN]
  | y :: p, s => by rw [List.cons_append, clean, clean_snoc c o x p, clean, runN, Bool.and_assoc]
theorem clean_get {c : Ci} {o : Nat} : ∀ (p : List Nat) (s i : Nat) {x : Nat}, clean c o s p = true → p[i]? = some x → bad c o (runN c s (p.take i)) x = false
  | [], _, _, _, _, h => by simp at h
  | y :: p, s, 0, x, h, hx => by
    rw [clean, Bool.and_eq_true] at h
    obtain rfl : y = x := by simpa using hx
    simpa [runN] using h.1
  | y :: p, s, i + 1, x, h, hx => by
    rw [clean, Bool.and_eq_true] at h
    rw [List.take_succ_cons, runN]
    exact clean_get p _ i h.2 (by simpa using hx)
theorem viol_none_clean {c : Ci} (hc : Ok c) {o : Nat} (h : viol c o = none) : ∀ (p : List Nat) (s : Nat), s ∈ reach c → Inputs c p → clean c o s p = true
  | [], _, _, _ => rfl
  | x :: p, s, hs, hp => by
    have hx := hp x (by simp)
    rw [clean, (viol_none hc).1 h s hs x hx, viol_none_clean hc h p _ (reach_closed hc hs hx) fun y hy => hp y (List.mem_cons_of_mem _ hy)]
    rfl
theorem viol_none_of {c : Ci} (hc : Ok c) {o : Nat} (h : ∀ p, Inputs c p → clean c o 0 p = true) : viol c o = none := by
  refine (viol_none hc).2 fun s hs x hx => ?_
  obtain ⟨p, hp, rfl⟩ := reach_run hs
  have := h _ (hp.snoc hx)
  rw [clean_snoc, Bool.and_eq_true] at this
  simpa using this.2
def Paths (c : Ci) (o : Nat) (l : List (Nat × List Nat)) : Prop := ∀ e ∈ l, Inputs c e.2 ∧ runN c 0 e.2 = e.1 ∧ clean c o 0 e.2 = true
theorem Paths.pushes {c : Ci} {o : Nat} {l : List (Nat × List Nat)} (h : Paths c o l) {s : Nat} {p : List Nat} (hp : (s, p) ∈ l) (hb : ∀ x, x < 2 ^ c.ins → bad c o s x = false) : ∀ j, j ≤ 2 ^ c.ins → Paths c o (vpushes c s p j l)
  | 0, _ => h
  | j + 1, hj => by
    have IH := Paths.pushes h hp hb j (by omega)
    rw [vpushes_succ]
    unfold vpush
    split
    · exact IH
    · intro e he
      rcases List.mem_append.1 he with h1 | h1
      · exact IH e h1
      · obtain rfl := List.mem_singleton.1 h1
        obtain ⟨a1, a2, a3⟩ := h _ hp
        simp only at a1 a2 a3
        exact ⟨a1.snoc (by omega), by rw [runN_snoc, a2], by rw [clean_snoc, a3, a2, hb j (by omega)]; rfl⟩
theorem vbfs_path {c : Ci} (o : Nat) : ∀ (f k : Nat) (l : List (Nat × List Nat)), Paths c o l → ∀ r, vbfs c o f k l = some r → ∃ q x, r = q ++ [x] ∧ Inputs c q ∧ x < 2 ^ c.ins ∧ clean c o 0 q = true ∧ bad c o (runN c 0 q) x = true
  | 0, _, _, _, r, h => by cases h
  | f + 1, k, l, hl, r, h => by
    rw [vbfs] at h
    cases hs : l[k]? with
    | none => rw [hs] at h; cases h
    | some sp =>
      obtain ⟨s, p⟩ := sp
      rw [hs] at h
      simp only at h
      have hm := List.mem_of_getElem? hs
      cases hfd : vfind c o s (2 ^ c.ins) with
      | some x =>
        rw [hfd] at h
        obtain ⟨h1, h2⟩ := vfind_hit hfd
        obtain ⟨a1, a2, a3⟩ := hl _ hm
        simp only at a1 a2 a3
        exact ⟨p, x, (Option.some.inj h).symm, a1, h1, a3, by rw [a2]; exact h2⟩
      | none =>
        rw [hfd] at h
        exact vbfs_path o f (k + 1) _ (hl.pushes hm (fun x hx => vfind_no hfd hx) _ (Nat.le_refl _)) r h
theorem viol_path {c : Ci} {o : Nat} {r : List Nat} (h : viol c o = some r) : ∃ q x, r = q ++ [x] ∧ Inputs c q ∧ x < 2 ^ c.ins ∧ clean c o 0 q = true ∧ bad c o (runN c 0 q) x = true :=
  vbfs_path o 9 0 _ (fun e he => by
    obtain rfl := List.mem_singleton.1 he
    exact ⟨fun x hx => (by cases hx), rfl, rfl⟩) r h
/-- The output is 1 in the last cycle alone. -/
theorem viol_outs {c : Ci} {o : Nat} {r : List Nat} (h : viol c o = some r) {i x : Nat} (hi : r[i]? = some x) : bad c o (runN c 0 (r.take i)) x = (i + 1 == r.length) := by
  obtain ⟨q, y, rfl, -, -, h3, h4⟩ := viol_path h
  have hlt := (List.getElem?_eq_some_iff.1 hi).1
  rw [List.length_append, List.length_singleton] at hlt ⊢
  rcases Nat.lt_or_ge i q.length with h1 | h1
  · rw [List.getElem?_append_left h1] at hi
    rw [List.take_append_of_le_length (by omega), clean_get q 0 i h3 hi]
    symm
    rw [beq_eq_false_iff_ne]
    omega
  · obtain rfl : i = q.length := by omega
    rw [List.getElem?_append_right (Nat.le_refl _), Nat.sub_self] at hi
    obtain rfl : y = x := by simpa using hi
    rw [List.take_left, h4]
    simp
theorem viol_pos {c : Ci} {o : Nat} {r : List Nat} (h : viol c o = some r) : 0 < r.length := by
  obtain ⟨q, y, rfl, -⟩ := viol_path h
  simp
end Cir
end Go.Proofs.Ytdgminjbgjbamaa

namespace Go.Proofs.Ytdgminjbgjbamaa
/-! Machines, plainly. -/
/-- A machine as it lies in memory. -/
structure Mz where
  ins : Int
  next : List (List Int)
  out : List (List Int)
namespace Mac
def lenOk (ins : Int) (r : List Int) : Bool := decide ((r.length : Int) = ((2 ^ ins.toNat : Nat) : Int))
def inOk (limit x : Int) : Bool := decide (0 ≤ x ∧ x < limit)
def rowOk (ins limit : Int) (r : List Int) : Bool := lenOk ins r && r.all (inOk limit)
def sizes (m : Mz) : Bool := decide (0 ≤ m.ins ∧ m.ins ≤ 4 ∧ 1 ≤ m.next.length ∧ m.next.length ≤ 8 ∧ m.out.length = m.next.length)
def valid (m : Mz) : Bool := sizes m && (m.next.all (rowOk m.ins m.next.length) && m.out.all (rowOk m.ins 8))
/-- Row by row, as the reference looks at it. -/
def entOk (n : Int) (p : Int × Int) : Bool := inOk n p.1 && inOk 8 p.2
def pairOk (ins n : Int) (p : List Int × List Int) : Bool := lenOk ins p.1 && lenOk ins p.2 && (p.1.zip p.2).all (entOk n)
theorem all_zip {α β : Type} (f : α → Bool) (g : β → Bool) : ∀ (l : List α) (l' : List β), l.length = l'.length → (l.zip l').all (fun p => f p.1 && g p.2) = (l.all f && l'.all g)
  | [], [], _ => rfl
  | a :: l, b :: l', h => by
    rw [List.zip_cons_cons, List.all_cons, List.all_cons, List.all_cons, all_zip f g l l' (by simpa using h)]
    cases f a <;> cases g b <;> simp
  | [], _ :: _, h => by simp at h
  | _ :: _, [], h => by simp at h
theorem pair_row (ins n : Int) (p : List Int × List Int) : pairOk ins n p = (rowOk ins n p.1 && rowOk ins 8 p.2) := by
  unfold pairOk rowOk
  cases h1 : lenOk ins p.1
  · simp
  · cases h2 : lenOk ins p.2
    · simp
    · unfold lenOk at h1 h2
      rw [decide_eq_true_eq] at h1 h2
      have := all_zip (inOk n) (inOk 8) p.1 p.2 (by omega)
      simp only [Bool.true_and]
      exact this
theorem valid_zip (m : Mz) : valid m = (sizes m && (m.next.zip m.out).all (pairOk m.ins m.next.length)) := by
  unfold valid
  cases h : sizes m
  · rfl
  · unfold sizes at h
    rw [decide_eq_true_eq] at h
    rw [show (pairOk m.ins m.next.length) = fun p => rowOk m.ins m.next.length p.1 && rowOk m.ins 8 p.2 from funext (pair_row _ _), all_zip _ _ _ _ h.2.2.2.2.symm]
theorem sizes_cases {m : Mz} (h : sizes m = false) : m.ins < 0 ∨ (0 ≤ m.ins ∧ 4 < m.ins) ∨ (0 ≤ m.ins ∧ m.ins ≤ 4 ∧ (m.next.length : Int) < 1) ∨ (0 ≤ m.ins ∧ m.ins ≤ 4 ∧ (1 : Int) ≤ m.next.length ∧ (8 : Int) < m.next.length) ∨ (0 ≤ m.ins ∧ m.ins ≤ 4 ∧ (1 : Int) ≤ m.next.length ∧ (m.next.length : Int) ≤ 8 ∧ (m.out.length : Int) ≠ m.next.length) := by
  unfold sizes at h
  rw [decide_eq_false_iff_not] at h
  omega
theorem all_dropG {α : Type} {p : α → Bool} {l : List α} {k : Nat} {x : α} (h : l[k]? = some x) : (l.drop k).all p = (p x && (l.drop (k + 1)).all p) := by
  obtain ⟨hk, rfl⟩ := List.getElem?_eq_some_iff.1 h
  rw [List.drop_eq_getElem_cons hk, List.all_cons]
theorem zip_get {α β : Type} {l : List α} {l' : List β} {k : Nat} {x : α} {y : β} (h : l[k]? = some x) (h' : l'[k]? = some y) : (l.zip l')[k]? = some (x, y) := by
  rw [List.getElem?_zip_eq_some]
  exact ⟨h, h'⟩
end Mac
end Go.Proofs.Ytdgminjbgjbamaa

namespace Go.Proofs.Ytdgminjbgjbamaa
/-! Runs of machines, plainly. -/
namespace Mac
def stepN (m : Mz) (s : Nat) (x : Int) : Nat := ((m.next.getD s []).getD x.toNat 0).toNat
def stepO (m : Mz) (s : Nat) (x : Int) : Int := (m.out.getD s []).getD x.toNat 0
/-- The state behind some inputs, and the outputs. -/
def st (m : Mz) (ins : List Int) : Nat := ins.foldl (stepN m) 0
def outs (m : Mz) : Nat → List Int → List Int
  | _, [] => []
  | s, x :: xs => stepO m s x :: outs m (stepN m s x) xs
theorem outs_append (m : Mz) : ∀ (xs ys : List Int) (s : Nat), outs m s (xs ++ ys) = outs m s xs ++ outs m (xs.foldl (stepN m) s) ys
  | [], _, _ => rfl
  | x :: xs, ys, s => by rw [List.cons_append, outs, outs, outs_append m xs ys, List.foldl_cons, List.cons_append]
theorem outs_length (m : Mz) : ∀ (xs : List Int) (s : Nat), (outs m s xs).length = xs.length
  | [], _ => rfl
  | x :: xs, s => by rw [outs, List.length_cons, outs_length m xs, List.length_cons]
def inRange (m : Mz) (x : Int) : Bool := inOk ((2 ^ m.ins.toNat : Nat) : Int) x
def runOk (m : Mz) (ins : List Int) : Bool := valid m && decide (ins.length ≤ 40) && ins.all (inRange m)
def runI (m : Mz) (ins : List Int) : List Int := if runOk m ins then outs m 0 ins else []
theorem runI_length (m : Mz) (ins : List Int) : (runI m ins).length ≤ 40 := by
  unfold runI
  split
  · rename_i h
    unfold runOk at h
    simp at h
    rw [outs_length]
    exact h.1.2
  · simp
/-- What a valid machine's rows hold. -/
theorem valid_row {m : Mz} (h : valid m = true) {s : Nat} (hs : s < m.next.length) {x : Nat} (hx : x < 2 ^ m.ins.toNat) :
    ∃ r q y o, m.next[s]? = some r ∧ m.out[s]? = some q ∧ r.length = 2 ^ m.ins.toNat ∧ q.length = 2 ^ m.ins.toNat ∧ r[x]? = some ((y : Nat) : Int) ∧ y < m.next.length ∧ q[x]? = some o ∧ 0 ≤ o ∧ o < 8 ∧ stepN m s x = y ∧ stepO m s x = o := by
  unfold valid at h
  rw [Bool.and_eq_true, Bool.and_eq_true] at h
  obtain ⟨h0, h1, h2⟩ := h
  unfold sizes at h0
  rw [decide_eq_true_eq] at h0
  obtain ⟨_, _, _, _, h5⟩ := h0
  have hso : s < m.out.length := by omega
  have e1 : m.next[s]? = some m.next[s] := List.getElem?_eq_getElem hs
  have e2 : m.out[s]? = some m.out[s] := List.getElem?_eq_getElem hso
  have g1 := List.all_eq_true.1 h1 _ (List.getElem_mem hs)
  have g2 := List.all_eq_true.1 h2 _ (List.getElem_mem hso)
  generalize m.next[s] = r at e1 g1
  generalize m.out[s] = q at e2 g2
  unfold rowOk lenOk at g1 g2
  rw [Bool.and_eq_true, decide_eq_true_eq] at g1 g2
  have l1 : r.length = 2 ^ m.ins.toNat := by omega
  have l2 : q.length = 2 ^ m.ins.toNat := by omega
  have f1 : r[x]? = some (r[x]'(by omega)) := List.getElem?_eq_getElem _
  have f2 : q[x]? = some (q[x]'(by omega)) := List.getElem?_eq_getElem _
  have k1 := List.all_eq_true.1 g1.2 _ (List.getElem_mem (show x < r.length by omega))
  have k2 := List.all_eq_true.1 g2.2 _ (List.getElem_mem (show x < q.length by omega))
  generalize r[x]'(by omega) = y at f1 k1
  generalize q[x]'(by omega) = o at f2 k2
  unfold inOk at k1 k2
  rw [decide_eq_true_eq] at k1 k2
  obtain ⟨y', rfl⟩ := Int.eq_ofNat_of_zero_le k1.1
  refine ⟨r, q, y', o, e1, e2, l1, l2, f1, by omega, f2, k2.1, k2.2, ?_, ?_⟩
  · unfold stepN
    simp [List.getD_eq_getElem?_getD, e1, f1]
  · unfold stepO
    simp [List.getD_eq_getElem?_getD, e2, f2]
theorem st_snoc {m : Mz} {ins : List Int} {k : Nat} {x : Int} (h : ins[k]? = some x) : st m (ins.take (k + 1)) = stepN m (st m (ins.take k)) x := by
  unfold st
  rw [List.take_add_one, h, List.foldl_append]
  rfl
theorem outs_snoc {m : Mz} {ins : List Int} {k : Nat} {x : Int} (h : ins[k]? = some x) : outs m 0 (ins.take (k + 1)) = outs m 0 (ins.take k) ++ [stepO m (st m (ins.take k)) x] := by
  rw [List.take_add_one, h, outs_append]
  rfl
theorem inRange_nat {m : Mz} {x : Int} (h : inRange m x = true) : ∃ n : Nat, x = n ∧ n < 2 ^ m.ins.toNat := by
  unfold inRange inOk at h
  rw [decide_eq_true_eq] at h
  obtain ⟨n, rfl⟩ := Int.eq_ofNat_of_zero_le h.1
  exact ⟨n, rfl, by omega⟩
end Mac
end Go.Proofs.Ytdgminjbgjbamaa

namespace Go.Proofs.Ytdgminjbgjbamaa
open Go.RowKit
set_option maxRecDepth 100000
/-! The next state and the outputs, by the reference; small searches in lists. -/
theorem step_field0 (A B : Option Addr) (n m c q : Nat) (w : World) : (Instr.field 115 (.agg #[.slice A n c, .slice B m q]) 0).run Try.prog w = .ok (.slice A n c) w := by kernel_rfl
theorem step_field1 (A B : Option Addr) (n m c q : Nat) (w : World) : (Instr.field 115 (.agg #[.slice A n c, .slice B m q]) 1).run Try.prog w = .ok (.slice B m q) w := by kernel_rfl
/-- l2Step, drawn: a struct of two rows. -/
def TStep (so st : List Bool) : Ty := fun w v => ∃ a b, v = .agg #[a, b] ∧ BoolsAt w a so ∧ BoolsAt w b st
theorem stb_step (so st : List Bool) : Stb (fun _ => False) (TStep so st) := by
  rintro v w w' ⟨a, b, rfl, h1, h2⟩ ho
  exact ⟨a, b, rfl, stb_bools _ _ _ _ h1 ho, stb_bools _ _ _ _ h2 ho⟩
set_option maxHeartbeats 4000000 in
theorem l16Next_any (v : Value) (d : Ci) (s x : Nat) (w : World) (h : CircAt w v (Cir.toCz d)) (hd : Cir.Ok d) (hs : s ≤ 1000) (hx : x ≤ 1000) :
    Calls Try.prog 41 #[v, .int .i64 s, .int .i64 x] w fun e w' => e = .returned (.int .i64 (Cir.nextOf d s x : Nat)) ∧ Below w.heap.size w w' := by
  have l1 := hd.ins
  have l2 := hd.nexts
  have HC := Lib.hid h
  obtain ⟨vn, vg, vo, rfl, r1, r2, r3⟩ := h
  obtain ⟨An, cn, rfl, hcn, hcmn⟩ := NatsAt.shape (xs := d.next) r1
  have hins : (Cir.toCz d).ins = (d.ins : Int) := rfl
  rw [hins] at HC ⊢
  have B0 := Lib.hid (bel_new w (.cells #[.int .i64 d.ins, .slice An d.next.length cn, vg, vo] 26))
  obtain ⟨z, p0, p1, p2, p3⟩ := PCells.boxed w d.ins (.slice An d.next.length cn) vg vo 26
  have HC := Lib.hid (HC.out.below B0.out)
  have Hd := Lib.hid hd
  have HNx : Hid (Cir.nextOf d s x = Cir.num (Cir.lits (Cir.vals d (Cir.bits s d.next.length) (Cir.bits x d.ins)) d.next)) := Lib.hid rfl
  clear r1 r2 r3 hd hins
  go_enter Try.func41, Try.ntmps41
  go_wp2_with fail
  generalize w.alloc (.cells #[.int .i64 d.ins, .slice An d.next.length cn, vg, vo] 26) = W at *
  refine wp_region_rs (quietRS Try.prog _ W _) quietRS_ok (by kernel_rfl) (by kernel_rfl) (by kernel_rfl) (Nat.le_of_ble_eq_true rfl) trivial trivial ?_
  apply rs_eq quietRS_ok quiet_any
  · intro ρ w' ho hK
    have ho : Only _ W w' := ho
    obtain ⟨h0, -⟩ := hK
    have h0' : ρ (.tmp 3) = _ := h0
    have hb := only_below ho
    have q0 := (hb.cell (p := ⟨w.heap.size, 0, none⟩) z).trans p0
    have q1 := (hb.cell (p := ⟨w.heap.size, 1, none⟩) z).trans p1
    have q2 := (hb.cell (p := ⟨w.heap.size, 2, none⟩) z).trans p2
    have q3 := (hb.cell (p := ⟨w.heap.size, 3, none⟩) z).trans p3
    go_simp
    try exact rfl
  refine rs_old quietRS_ok quiet_any _ (.inl rfl) _ rfl rfl ?_
  apply rs_eq quietRS_ok quiet_any
  · intro ρ w' ho hK
    have ho : Only _ W w' := ho
    obtain ⟨h0, -⟩ := hK
    have h0' : ρ (.tmp 3) = _ := h0
    go_simp
    try exact rfl
  apply rs_eq quietRS_ok quiet_any
  · intro ρ w' ho hK
    have ho : Only _ W w' := ho
    obtain ⟨h0, -⟩ := hK
    have h0' : ρ (.tmp 9) = _ := h0
    have hb := only_below ho
    have q0 := (hb.cell (p := ⟨w.heap.size, 0, none⟩) z).trans p0
    have q1 := (hb.cell (p := ⟨w.heap.size, 1, none⟩) z).trans p1
    have q2 := (hb.cell (p := ⟨w.heap.size, 2, none⟩) z).trans p2
    have q3 := (hb.cell (p := ⟨w.heap.size, 3, none⟩) z).trans p3
    go_simp
    try exact rfl
  apply rs_eq quietRS_ok quiet_any
  · intro ρ w' ho hK
    have ho : Only _ W w' := ho
    obtain ⟨h0, -⟩ := hK
    have h0' : ρ (.tmp 10) = _ := h0
    go_simp
    try exact rfl
  refine rs_call quietRS_ok quiet_any (TBools (Cir.bits s d.next.length)) (stb_bools _) 89 _ _ rfl (fun ρ w' ho hK => by
    have ho : Only _ W w' := ho
    obtain ⟨h0, h1, h2, -⟩ := hK
    have h0' : ρ (.func 89) = .func (.func 89) #[] #[] := h0
    have h1' : ρ (.tmp 8) = _ := h1
    have h2' : ρ (.tmp 11) = _ := h2
    refine ⟨#[ρ (.tmp 8), ρ (.tmp 11)], ?_, ?_⟩
    · go_simp
    · rw [h1', h2']
      refine (l4Bits_any s d.next.length w' (by omega) (by omega)).mono ?_
      rintro e w2 ⟨v2, rfl, hO, hb⟩
      exact ⟨v2, rfl, Row.of_own hO, hb⟩) ?_
  refine rs_old quietRS_ok quiet_any _ (.inl rfl) _ rfl rfl ?_
  apply rs_eq quietRS_ok quiet_any
  · intro ρ w' ho hK
    have ho : Only _ W w' := ho
    obtain ⟨h0, -⟩ := hK
    have h0' : ρ (.tmp 3) = _ := h0
    go_simp
    try exact rfl
  apply rs_eq quietRS_ok quiet_any
  · intro ρ w' ho hK
    have ho : Only _ W w' := ho
    obtain ⟨h0, -⟩ := hK
    have h0' : ρ (.tmp 14) = _ := h0
    have hb := only_below ho
    have q0 := (hb.cell (p := ⟨w.heap.size, 0, none⟩) z).trans p0
    have q1 := (hb.cell (p := ⟨w.heap.size, 1, none⟩) z).trans p1
    have q2 := (hb.cell (p := ⟨w.heap.size, 2, none⟩) z).trans p2
    have q3 := (hb.cell (p := ⟨w.heap.size, 3, none⟩) z).trans p3
    go_simp
    try exact rfl
  refine rs_call quietRS_ok quiet_any (TBools (Cir.bits x d.ins)) (stb_bools _) 89 _ _ rfl (fun ρ w' ho hK => by
    have ho : Only _ W w' := ho
    obtain ⟨h0, h1, h2, -⟩ := hK
    have h0' : ρ (.func 89) = .func (.func 89) #[] #[] := h0
    have h1' : ρ (.tmp 13) = _ := h1
    have h2' : ρ (.tmp 15) = _ := h2
    refine ⟨#[ρ (.tmp 13), ρ (.tmp 15)], ?_, ?_⟩
    · go_simp
    · rw [h1', h2']
      refine (l4Bits_any x d.ins w' (by omega) (by omega)).mono ?_
      rintro e w2 ⟨v2, rfl, hO, hb⟩
      exact ⟨v2, rfl, Row.of_own hO, hb⟩) ?_
  refine rs_call quietRS_ok quiet_any (TStep (Cir.outsOf d s x) (Cir.lits (Cir.vals d (Cir.bits s d.next.length) (Cir.bits x d.ins)) d.next)) (stb_step _ _) 88 _ _ rfl (fun ρ w' ho hK => by
    have ho : Only _ W w' := ho
    obtain ⟨h0, h1, h2, h3, -⟩ := hK
    have h0' : ρ (.func 88) = .func (.func 88) #[] #[] := h0
    have h1' : ρ (.tmp 7) = _ := h1
    have h2' : (TBools (Cir.bits s d.next.length)) w' (ρ (.tmp 12)) := h2
    have h3' : (TBools (Cir.bits x d.ins)) w' (ρ (.tmp 16)) := h3
    refine ⟨#[ρ (.tmp 7), ρ (.tmp 12), ρ (.tmp 16)], ?_, ?_⟩
    · go_simp
    · rw [h1']
      refine (l2Step_any _ _ _ d _ _ w' (HC.out.below (only_below ho)) Hd.out h2' h3' (Cir.bits_length _ _) (Cir.bits_length _ _)).mono ?_
      rintro e w2 ⟨a, b, rfl, oa, ob, hb⟩
      exact ⟨_, rfl, ⟨a, b, rfl, Row.of_own oa, Row.of_own ob⟩, hb⟩) ?_
  refine rs_look quietRS_ok quiet_any (TBools (Cir.lits (Cir.vals d (Cir.bits s d.next.length) (Cir.bits x d.ins)) d.next)) (stb_bools _) (fun ρ w' ho hK => by
    obtain ⟨h0, -⟩ := hK
    obtain ⟨a, b, e0, ha, hb⟩ : (TStep (Cir.outsOf d s x) (Cir.lits (Cir.vals d (Cir.bits s d.next.length) (Cir.bits x d.ins)) d.next)) w' (ρ (.tmp 17)) := h0
    obtain ⟨Aa, ca, rfl, -⟩ := Row.shape ha
    obtain ⟨Ab, cb, rfl, -⟩ := Row.shape hb
    have hf := fun n m => step_field1 Aa Ab n m ca cb w'
    refine ⟨_, ?_, hb⟩
    go_simp) ?_
  refine rs_call quietRS_ok quiet_any (TEq (.int .i64 (Cir.nextOf d s x : Nat))) (stb_eq _ _) 52 _ _ rfl (fun ρ w' ho hK => by
    have ho : Only _ W w' := ho
    obtain ⟨h0, h1, -⟩ := hK
    have h0' : ρ (.func 52) = .func (.func 52) #[] #[] := h0
    have h1' : (TBools (Cir.lits (Cir.vals d (Cir.bits s d.next.length) (Cir.bits x d.ins)) d.next)) w' (ρ (.tmp 18)) := h1
    refine ⟨#[ρ (.tmp 18)], ?_, ?_⟩
    · go_simp
    · skip
      refine (l16Number_any _ _ w' h1' (by rw [lits_length]; omega)).mono ?_
      rintro e w2 ⟨rfl, rfl⟩
      exact ⟨_, rfl, by rw [HNx.out]; rfl, Below.refl _ _⟩) ?_
  refine rs_same quietRS_ok quiet_any 19 12 (.inr rfl) rfl _ rfl ?_
  intro f w9 k9 hk9 hI9 ht9 hcp9
  have E0 : f 0 = _ := ht9 0 (Nat.le_of_ble_eq_true rfl)
  have E1 : f 1 = _ := ht9 1 (Nat.le_of_ble_eq_true rfl)
  conv at E1 => rhs; whnf
  have E2 : f 2 = _ := ht9 2 (Nat.le_of_ble_eq_true rfl)
  have E3 : f 3 = _ := ht9 3 (Nat.le_of_ble_eq_true rfl)
  have E4 : f 4 = _ := ht9 4 (Nat.le_of_ble_eq_true rfl)
  have E5 : (TBools (Cir.bits s d.next.length)) w9 (f 5) := ht9 5 (Nat.le_of_ble_eq_true rfl)
  have E6 : f 6 = _ := ht9 6 (Nat.le_of_ble_eq_true rfl)
  conv at E6 => rhs; whnf
  have E7 : f 7 = _ := ht9 7 (Nat.le_of_ble_eq_true rfl)
  have E8 : f 8 = _ := ht9 8 (Nat.le_of_ble_eq_true rfl)
  have E9 : (TBools (Cir.bits x d.ins)) w9 (f 9) := ht9 9 (Nat.le_of_ble_eq_true rfl)
  have E10 : (TStep (Cir.outsOf d s x) (Cir.lits (Cir.vals d (Cir.bits s d.next.length) (Cir.bits x d.ins)) d.next)) w9 (f 10) := ht9 10 (Nat.le_of_ble_eq_true rfl)
  have E11 : (TBools (Cir.lits (Cir.vals d (Cir.bits s d.next.length) (Cir.bits x d.ins)) d.next)) w9 (f 11) := ht9 11 (Nat.le_of_ble_eq_true rfl)
  have E12 : f 12 = _ := ht9 12 (Nat.le_of_ble_eq_true rfl)
  have E13 : f 13 = _ := ht9 13 (Nat.le_of_ble_eq_true rfl)
  have Ho9 : Only _ W w9 := hI9.2.1
  simp only [putAll, E0, E1, E2, E3, E4, E6, E7, E8, E12, E13, Nat.zero_add, Nat.reduceAdd, Act.put, List.setIfInBounds_toArray, List.set_cons_succ, List.set_cons_zero]
  clear E0 E1 E2 E3 E4 E6 E7 E8 E12 E13
  clear hI9 ht9 hcp9 hk9
  generalize f 5 = r5 at *
  generalize f 9 = r9 at *
  generalize f 10 = r10 at *
  generalize f 11 = r11 at *
  have B := Lib.hid (B0.out.trans ((only_below Ho9).mono B0.out.size))
  clear Ho9 E5 E9 E10 E11 p0 p1 p2 p3
  go_wp2_with fail
  go_ret
  exact ⟨rfl, B.out⟩
set_option maxHeartbeats 4000000 in
theorem l16Outs_any (v : Value) (d : Ci) (s x : Nat) (w : World) (h : CircAt w v (Cir.toCz d)) (hd : Cir.Ok d) (hs : s ≤ 1000) (hx : x ≤ 1000) :
    Calls Try.prog 39 #[v, .int .i64 s, .int .i64 x] w fun e w' => (∃ u, e = .returned u ∧ BoolsAt w' u (Cir.outsOf d s x)) ∧ Below w.heap.size w w' := by
  have l1 := hd.ins
  have l2 := hd.nexts
  have HC := Lib.hid h
  obtain ⟨vn, vg, vo, rfl, r1, r2, r3⟩ := h
  obtain ⟨An, cn, rfl, hcn, hcmn⟩ := NatsAt.shape (xs := d.next) r1
  have hins : (Cir.toCz d).ins = (d.ins : Int) := rfl
  rw [hins] at HC ⊢
  have B0 := Lib.hid (bel_new w (.cells #[.int .i64 d.ins, .slice An d.next.length cn, vg, vo] 26))
  obtain ⟨z, p0, p1, p2, p3⟩ := PCells.boxed w d.ins (.slice An d.next.length cn) vg vo 26
  have HC := Lib.hid (HC.out.below B0.out)
  have Hd := Lib.hid hd
  clear r1 r2 r3 hd hins
  go_enter Try.func39, Try.ntmps39
  go_wp2_with fail
  generalize w.alloc (.cells #[.int .i64 d.ins, .slice An d.next.length cn, vg, vo] 26) = W at *
  refine wp_region_rs (quietRS Try.prog _ W _) quietRS_ok (by kernel_rfl) (by kernel_rfl) (by kernel_rfl) (Nat.le_of_ble_eq_true rfl) trivial trivial ?_
  apply rs_eq quietRS_ok quiet_any
  · intro ρ w' ho hK
    have ho : Only _ W w' := ho
    obtain ⟨h0, -⟩ := hK
    have h0' : ρ (.tmp 3) = _ := h0
    have hb := only_below ho
    have q0 := (hb.cell (p := ⟨w.heap.size, 0, none⟩) z).trans p0
    have q1 := (hb.cell (p := ⟨w.heap.size, 1, none⟩) z).trans p1
    have q2 := (hb.cell (p := ⟨w.heap.size, 2, none⟩) z).trans p2
    have q3 := (hb.cell (p := ⟨w.heap.size, 3, none⟩) z).trans p3
    go_simp
    try exact rfl
  refine rs_old quietRS_ok quiet_any _ (.inl rfl) _ rfl rfl ?_
  apply rs_eq quietRS_ok quiet_any
  · intro ρ w' ho hK
    have ho : Only _ W w' := ho
    obtain ⟨h0, -⟩ := hK
    have h0' : ρ (.tmp 3) = _ := h0
    go_simp
    try exact rfl
  apply rs_eq quietRS_ok quiet_any
  · intro ρ w' ho hK
    have ho : Only _ W w' := ho
    obtain ⟨h0, -⟩ := hK
    have h0' : ρ (.tmp 9) = _ := h0
    have hb := only_below ho
    have q0 := (hb.cell (p := ⟨w.heap.size, 0, none⟩) z).trans p0
    have q1 := (hb.cell (p := ⟨w.heap.size, 1, none⟩) z).trans p1
    have q2 := (hb.cell (p := ⟨w.heap.size, 2, none⟩) z).trans p2
    have q3 := (hb.cell (p := ⟨w.heap.size, 3, none⟩) z).trans p3
    go_simp
    try exact rfl
  apply rs_eq quietRS_ok quiet_any
  · intro ρ w' ho hK
    have ho : Only _ W w' := ho
    obtain ⟨h0, -⟩ := hK
    have h0' : ρ (.tmp 10) = _ := h0
    go_simp
    try exact rfl
  refine rs_call quietRS_ok quiet_any (TBools (Cir.bits s d.next.length)) (stb_bools _) 89 _ _ rfl (fun ρ w' ho hK => by
    have ho : Only _ W w' := ho
    obtain ⟨h0, h1, h2, -⟩ := hK
    have h0' : ρ (.func 89) = .func (.func 89) #[] #[] := h0
    have h1' : ρ (.tmp 8) = _ := h1
    have h2' : ρ (.tmp 11) = _ := h2
    refine ⟨#[ρ (.tmp 8), ρ (.tmp 11)], ?_, ?_⟩
    · go_simp
    · rw [h1', h2']
      refine (l4Bits_any s d.next.length w' (by omega) (by omega)).mono ?_
      rintro e w2 ⟨v2, rfl, hO, hb⟩
      exact ⟨v2, rfl, Row.of_own hO, hb⟩) ?_
  refine rs_old quietRS_ok quiet_any _ (.inl rfl) _ rfl rfl ?_
  apply rs_eq quietRS_ok quiet_any
  · intro ρ w' ho hK
    have ho : Only _ W w' := ho
    obtain ⟨h0, -⟩ := hK
    have h0' : ρ (.tmp 3) = _ := h0
    go_simp
    try exact rfl
  apply rs_eq quietRS_ok quiet_any
  · intro ρ w' ho hK
    have ho : Only _ W w' := ho
    obtain ⟨h0, -⟩ := hK
    have h0' : ρ (.tmp 14) = _ := h0
    have hb := only_below ho
    have q0 := (hb.cell (p := ⟨w.heap.size, 0, none⟩) z).trans p0
    have q1 := (hb.cell (p := ⟨w.heap.size, 1, none⟩) z).trans p1
    have q2 := (hb.cell (p := ⟨w.heap.size, 2, none⟩) z).trans p2
    have q3 := (hb.cell (p := ⟨w.heap.size, 3, none⟩) z).trans p3
    go_simp
    try exact rfl
  refine rs_call quietRS_ok quiet_any (TBools (Cir.bits x d.ins)) (stb_bools _) 89 _ _ rfl (fun ρ w' ho hK => by
    have ho : Only _ W w' := ho
    obtain ⟨h0, h1, h2, -⟩ := hK
    have h0' : ρ (.func 89) = .func (.func 89) #[] #[] := h0
    have h1' : ρ (.tmp 13) = _ := h1
    have h2' : ρ (.tmp 15) = _ := h2
    refine ⟨#[ρ (.tmp 13), ρ (.tmp 15)], ?_, ?_⟩
    · go_simp
    · rw [h1', h2']
      refine (l4Bits_any x d.ins w' (by omega) (by omega)).mono ?_
      rintro e w2 ⟨v2, rfl, hO, hb⟩
      exact ⟨v2, rfl, Row.of_own hO, hb⟩) ?_
  refine rs_call quietRS_ok quiet_any (TStep (Cir.outsOf d s x) (Cir.lits (Cir.vals d (Cir.bits s d.next.length) (Cir.bits x d.ins)) d.next)) (stb_step _ _) 88 _ _ rfl (fun ρ w' ho hK => by
    have ho : Only _ W w' := ho
    obtain ⟨h0, h1, h2, h3, -⟩ := hK
    have h0' : ρ (.func 88) = .func (.func 88) #[] #[] := h0
    have h1' : ρ (.tmp 7) = _ := h1
    have h2' : (TBools (Cir.bits s d.next.length)) w' (ρ (.tmp 12)) := h2
    have h3' : (TBools (Cir.bits x d.ins)) w' (ρ (.tmp 16)) := h3
    refine ⟨#[ρ (.tmp 7), ρ (.tmp 12), ρ (.tmp 16)], ?_, ?_⟩
    · go_simp
    · rw [h1']
      refine (l2Step_any _ _ _ d _ _ w' (HC.out.below (only_below ho)) Hd.out h2' h3' (Cir.bits_length _ _) (Cir.bits_length _ _)).mono ?_
      rintro e w2 ⟨a, b, rfl, oa, ob, hb⟩
      exact ⟨_, rfl, ⟨a, b, rfl, Row.of_own oa, Row.of_own ob⟩, hb⟩) ?_
  refine rs_look quietRS_ok quiet_any (TBools (Cir.outsOf d s x)) (stb_bools _) (fun ρ w' ho hK => by
    obtain ⟨h0, -⟩ := hK
    obtain ⟨a, b, e0, ha, hb⟩ : (TStep (Cir.outsOf d s x) (Cir.lits (Cir.vals d (Cir.bits s d.next.length) (Cir.bits x d.ins)) d.next)) w' (ρ (.tmp 17)) := h0
    obtain ⟨Aa, ca, rfl, -⟩ := Row.shape ha
    obtain ⟨Ab, cb, rfl, -⟩ := Row.shape hb
    have hf := fun n m => step_field0 Aa Ab n m ca cb w'
    refine ⟨_, ?_, ha⟩
    go_simp) ?_
  refine rs_same quietRS_ok quiet_any 18 11 (.inr rfl) rfl _ rfl ?_
  intro f w9 k9 hk9 hI9 ht9 hcp9
  have E0 : f 0 = _ := ht9 0 (Nat.le_of_ble_eq_true rfl)
  have E1 : f 1 = _ := ht9 1 (Nat.le_of_ble_eq_true rfl)
  conv at E1 => rhs; whnf
  have E2 : f 2 = _ := ht9 2 (Nat.le_of_ble_eq_true rfl)
  have E3 : f 3 = _ := ht9 3 (Nat.le_of_ble_eq_true rfl)
  have E4 : f 4 = _ := ht9 4 (Nat.le_of_ble_eq_true rfl)
  have E5 : (TBools (Cir.bits s d.next.length)) w9 (f 5) := ht9 5 (Nat.le_of_ble_eq_true rfl)
  have E6 : f 6 = _ := ht9 6 (Nat.le_of_ble_eq_true rfl)
  conv at E6 => rhs; whnf
  have E7 : f 7 = _ := ht9 7 (Nat.le_of_ble_eq_true rfl)
  have E8 : f 8 = _ := ht9 8 (Nat.le_of_ble_eq_true rfl)
  have E9 : (TBools (Cir.bits x d.ins)) w9 (f 9) := ht9 9 (Nat.le_of_ble_eq_true rfl)
  have E10 : (TStep (Cir.outsOf d s x) (Cir.lits (Cir.vals d (Cir.bits s d.next.length) (Cir.bits x d.ins)) d.next)) w9 (f 10) := ht9 10 (Nat.le_of_ble_eq_true rfl)
  have E11 : (TBools (Cir.outsOf d s x)) w9 (f 11) := ht9 11 (Nat.le_of_ble_eq_true rfl)
  have E12 : (TBools (Cir.outsOf d s x)) w9 (f 12) := ht9 12 (Nat.le_of_ble_eq_true rfl)
  have Ho9 : Only _ W w9 := hI9.2.1
  have C12 : f 12 = f 11 := (hcp9 12 _ 18 11 rfl rfl rfl rfl).2
  simp only [putAll, E0, E1, E2, E3, E4, E6, E7, E8, C12, Nat.zero_add, Nat.reduceAdd, Act.put, List.setIfInBounds_toArray, List.set_cons_succ, List.set_cons_zero]
  clear E0 E1 E2 E3 E4 E6 E7 E8
  clear hI9 ht9 hcp9 hk9
  generalize f 5 = r5 at *
  generalize f 9 = r9 at *
  generalize f 10 = r10 at *
  generalize f 11 = r11 at *
  have B := Lib.hid (B0.out.trans ((only_below Ho9).mono B0.out.size))
  have HU := Lib.hid E11
  clear Ho9 E5 E9 E10 E11 p0 p1 p2 p3
  go_wp2_with fail
  go_ret
  exact ⟨⟨_, rfl, HU.out⟩, B.out⟩
theorem l16Has_any (v : Value) (xs : List Nat) (n : Nat) (w : World) (h : NatsAt w v xs) (hn : n ≤ 1000000) :
    Calls Try.prog 42 #[v, .int .i64 n] w fun e w' => e = .returned (.bool (Cir.memB xs n)) ∧ w = w' := by
  obtain ⟨A, c, rfl, hc, hcm⟩ := h.shape
  unfold maxLen at hcm
  have H := Lib.hid h
  have h0 : Hid (Cir.memB xs n = (xs.drop 0).contains n) := Lib.hid rfl
  generalize Cir.memB xs n = res at h0 ⊢
  clear h
  go_enter Try.func42, Try.ntmps42
  go_wp2_with fail
  go_loop [5] (fun i => ∃ k : Nat, k ≤ xs.length ∧ i = .int .i64 k ∧ Hid (res = (xs.drop k).contains n)) (fun i => xs.length - (intOf i).toNat)
  case atStart => exact ⟨0, Nat.zero_le _, rfl, h0⟩
  case round =>
    obtain ⟨k, hk, rfl, hres⟩ := hrel
    clear h0
    by_cases hlt : k < xs.length
    · obtain ⟨b, o, x, rfl, hbl, hx, hs1⟩ := nats_cell (nats_row H.out) rfl hlt
      have Hstep : Hid ((xs.drop k).contains n = (n == x || (xs.drop (k + 1)).contains n)) := Lib.hid (by
        obtain ⟨hk', e⟩ := List.getElem?_eq_some_iff.1 hx.out
        rw [List.drop_eq_getElem_cons hk', e, List.contains_cons])
      by_cases hxn : x = n
      · obtain rfl : res = true := by rw [hres.out, Hstep.out, hxn]; simp
        have hq : ((x : Int) == (n : Int)) = true := by simp [hxn]
        clear hxn
        go_wp2_with fail
        go_ret
        exact ⟨rfl, rfl⟩
      · have Hn : Hid (res = (xs.drop (k + 1)).contains n) := Lib.hid (by rw [hres.out, Hstep.out, show (n == x) = false from by simpa using fun e => hxn e.symm]; rfl)
        have hq : ((x : Int) == (n : Int)) = false := by simp; omega
        clear hxn
        go_wp2_with fail
        go_round
        case rel => exact ⟨k + 1, by omega, by go_num, Hn⟩
        case measure => simp [intOf] <;> omega
    · obtain rfl : res = false := by rw [hres.out, List.drop_eq_nil_of_le (by omega : xs.length ≤ k)]; rfl
      go_wp2_with fail
      go_ret
      exact ⟨rfl, rfl⟩
end Go.Proofs.Ytdgminjbgjbamaa

namespace Go.Proofs.Ytdgminjbgjbamaa
open Go.RowKit Go.Maps
set_option maxRecDepth 100000
/-! Sets of natural numbers: maps of int to bool that the call has made, and in which only 'true' is stored. -/
theorem set_keyed : Keyed Try.prog 3 := int_keyed Try.underlying3
/-- Block b is a map of at most n entries; the elements are those of S. -/
def SetAt (w : World) (b n : Nat) (S : Nat → Bool) : Prop := ∃ D : DataW Unit, w.ownsMap Try.prog 3 (plainElem Try.prog 4) b n D ∧ IsMap D ∧ (∀ x : Nat, D.atKey (.int .i64 (x : Int)) (.lit (.bool false)) = .lit (.bool (S x))) ∧ (∀ kl, Maps.has D kl = true → ∃ x : Nat, kl = .int .i64 (x : Int) ∧ S x = true ∧ (x : Int) ≤ 9223372036854775807) ∧ ∀ x : Nat, S x = true → Maps.has D (.int .i64 (x : Int)) = true
theorem SetAt.lt {w : World} {b n : Nat} {S : Nat → Bool} (h : SetAt w b n S) : b < w.heap.size := by
  obtain ⟨D, h1, _⟩ := h
  exact h1.lt
theorem SetAt.only {E : Nat → Prop} {w w' : World} {b n : Nat} {S : Nat → Bool} (h : SetAt w b n S) (ho : Only E w w') (hE : ¬ E b) : SetAt w' b n S := by
  have hl := h.lt
  obtain ⟨D, ⟨es, clock, h1, h2, h3, h4⟩, h5⟩ := h
  exact ⟨D, ⟨es, clock, (ho.block b hl hE).trans h1, h2, h3, h4⟩, h5⟩
theorem SetAt.below {w w' : World} {b n : Nat} {S : Nat → Bool} (h : SetAt w b n S) (hb : Below w.heap.size w w') : SetAt w' b n S :=
  h.only (E := fun _ => False) ⟨hb.os, hb.tape, hb.output, hb.size, fun k hk _ => hb.block k hk⟩ id
theorem SetAt.mono {w : World} {b n n' : Nat} {S : Nat → Bool} (h : SetAt w b n S) (hn : n ≤ n') : SetAt w b n' S := by
  obtain ⟨D, h1, h2⟩ := h
  exact ⟨D, h1.mono hn, h2⟩
theorem SetAt.congr {w : World} {b n : Nat} {S S' : Nat → Bool} (h : SetAt w b n S) (he : ∀ x, S x = S' x) : SetAt w b n S' := by
  rwa [← funext he]
theorem setAt_made (w : World) : SetAt (w.alloc (.map #[] 0)) w.heap.size 0 (fun _ => false) :=
  ⟨.map [], World.ownsMap_made w _ _ _, isMap_empty, fun x => rfl, fun kl h => (by cases h), fun x h => (by cases h)⟩
theorem i64_wf {x : Nat} (h : (x : Int) ≤ 9223372036854775807) : (Lit.int .i64 (x : Int)).wf = true := by
  simp [Lit.wf, IntKind.min, IntKind.max, IntKind.signed, IntKind.bits]
  omega
theorem i64_ne {x y : Nat} (h : x ≠ y) : Lit.int .i64 (x : Int) ≠ Lit.int .i64 (y : Int) := by
  intro e
  injection e with e1 e2
  exact h (by omega)
section
variable (w : World) {ops : Array Oper} {rest : List Oper} {o : Oper} {a : Act} {Q : Exit → Act → World → Prop}
theorem zero_bool (w : World) : (zeroValue 4).run Try.prog w = .ok (.bool false) w := by kernel_rfl
/-- seen[x] -/
theorem wpList_look_set (hg : o.guard = none) (m x : Operand) (hop : o.op = Op.lookup 107 m x false) (b n : Nat) (S : Nat → Bool) (hm : a.eval m = .map (some b)) (h : SetAt w b n S) (k : Nat) (hk : (k : Int) ≤ 9223372036854775807) (hx : a.eval x = .int .i64 (k : Int))
    (hK : wpList Try.prog ops Q rest (a.put o.dst (.bool (S k))) w) : wpList Try.prog ops Q (o :: rest) a w := by
  refine wpList_plain hg fun K' hK' => ?_
  obtain ⟨D, h1, h2, h3, -⟩ := h
  obtain ⟨v, ps, hrun, hv⟩ := h1.lookup set_keyed Try.underlying107 (zero_bool w) (plainElem_bool Try.underlying4 false) (keyOf_int_mk Try.underlying3 (i64_wf hk))
  rw [h3 k] at hv
  have hvb : v = .bool (S k) := by
    unfold plainElem at hv
    rw [Try.underlying4] at hv
    cases v <;> simp at hv
    rw [hv.1]
  subst hvb
  unfold Oper.wp
  simp [execOp, hop, hm, hx, hrun, Result.andThen]
  exact hK' _ _ hK
/-- seen[x] = true -/
theorem wpList_add_set (hg : o.guard = none) (m x v : Operand) (hop : o.op = Op.mapUpdate 107 m x v ∨ o.op = Op.insert 107 m x v) (b n : Nat) (S : Nat → Bool) (hm : a.eval m = .map (some b)) (h : SetAt w b n S) (hn : n ≤ 1000000) (k : Nat) (hk : (k : Int) ≤ 9223372036854775807) (hx : a.eval x = .int .i64 (k : Int)) (hv : a.eval v = .bool true)
    (hK : ∀ w', SetAt w' b (n + 1) (fun z => S z || z == k) → w.grownBy w' (some b) → wpList Try.prog ops Q rest (a.put o.dst undef) w') : wpList Try.prog ops Q (o :: rest) a w := by
  refine wpList_plain hg fun K' hK' => ?_
  obtain ⟨D, h1, h2, h3, h4, h5⟩ := h
  have hkey := keyOf_int_mk (P := Try.prog) Try.underlying3 (i64_wf hk)
  obtain ⟨w', hrun, r1, r2⟩ := h1.update set_keyed Try.underlying107 (by unfold maxLen; omega) hkey (plainElem_bool Try.underlying4 true)
  have hlit : WideAt.IsKeyLit (.int .i64 (k : Int)) := set_keyed.key hkey
  unfold Oper.wp
  have hq : SetAt w' b (n + 1) (fun z => S z || z == k) := by
    refine ⟨_, r1, h2.put _ _, fun x => ?_, fun kl hh => ?_, fun x hS => ?_⟩
    · by_cases hxk : x = k
      · subst hxk
        rw [atKey_put_same h2 hlit]
        simp
      · rw [atKey_put_other (i64_ne hxk), h3 x]
        have : (x == k) = false := by simpa using hxk
        simp [this]
    · by_cases hkl : kl = .int .i64 (k : Int)
      · exact ⟨k, hkl, by simp, hk⟩
      · rw [has_put_other hkl] at hh
        obtain ⟨x, e1, e2, e3⟩ := h4 kl hh
        exact ⟨x, e1, by simp [e2], e3⟩
    · by_cases hxk : x = k
      · subst hxk
        exact has_put_same h2 hlit _
      · rw [has_put_other (i64_ne hxk)]
        have h6 : (x == k) = false := by simpa using hxk
        simp [h6] at hS
        exact h5 x hS
  have hw2 := hK w' hq r2
  rcases hop with hop | hop
  · simp [execOp, hop, hm, hx, hv, hrun, Result.andThen]
    exact hK' _ _ hw2
  · simp [execOp, hop, hm, hx, hv, hrun, Result.andThen]
    exact hK' _ _ hw2
end
end Go.Proofs.Ytdgminjbgjbamaa

namespace Go.Proofs.Ytdgminjbgjbamaa
open Go.RowKit
set_option maxRecDepth 100000
namespace Cir
def evalOk (c : Cz) (st inp : List Int) : Bool := valid c && (decide (st.length = c.next.length) && (decide ((inp.length : Int) = c.ins) && (st.all tern && inp.all tern)))
/-- What EvalTernary answers. -/
def evalT (c : Cz) (st inp : List Int) : List Int := if evalOk c st inp = true then nats (tvals (nat c) (st.map Int.toNat) (inp.map Int.toNat)) else []
theorem tern_nats : ∀ {xs : List Int}, xs.all tern = true → xs = nats (xs.map Int.toNat) ∧ ∀ x ∈ xs.map Int.toNat, x ≤ 2
  | [], _ => ⟨rfl, by simp⟩
  | x :: xs, h => by
    rw [List.all_cons, Bool.and_eq_true] at h
    obtain ⟨h1, h2⟩ := tern_nats h.2
    have h0 : 0 ≤ x ∧ x ≤ 2 := by have := h.1; unfold tern at this; simpa using this
    refine ⟨?_, ?_⟩
    · rw [List.map_cons, nats, List.map_cons, ← nats, ← h1]
      congr 1
      simp; omega
    · intro y hy
      rw [List.map_cons] at hy
      rcases List.mem_cons.1 hy with rfl | hy
      · omega
      · exact h2 y hy
theorem evalT_no {c : Cz} {st inp : List Int} (h : evalOk c st inp = false) : evalT c st inp = [] := by unfold evalT; rw [h]; rfl
end Cir
theorem bel_al (w : World) (o : Obj) : Below w.heap.size w (w.alloc o) := (Below.refl _ _).alloc (Nat.le_refl _) o
end Go.Proofs.Ytdgminjbgjbamaa

namespace Go.Proofs.Ytdgminjbgjbamaa
open Go.RowKit
set_option maxRecDepth 100000
/-! Reachable, by the program. -/
def Cir.reachI (c : Cz) : List Int := if Cir.valid c then nats (Cir.reach (Cir.nat c)) else []
theorem own_no_map {w : World} {B n size b m : Nat} {e : TypeId} {v : Value} {cs : List Value} {S : Nat → Bool} (h : w.ownsRow B e size v n cs) (hs : SetAt w b m S) : ¬ v.ownBlock = some b := by
  rintro hv
  obtain ⟨D, ⟨es, clock, h1, _⟩, _⟩ := hs
  rcases h.2 with ⟨rfl, _⟩ | ⟨g, cap, cur, rfl, _, h2, _⟩
  · simp [Value.ownBlock] at hv
  · simp [Value.ownBlock] at hv
    subst hv
    rw [h1] at h2
    cases h2
set_option maxHeartbeats 4000000 in
theorem implReach_ok (v : Value) (d : Ci) (w : World) (h : CircAt w v (Cir.toCz d)) (hd : Cir.Ok d) (hv : Cir.valid (Cir.toCz d) = true) :
    Calls Try.prog 46 #[v] w (OwnInts (nats (Cir.reach d)) w) := by
  have l1 := hd.ins
  have l2 := hd.nexts
  have HC := Lib.hid h
  obtain ⟨vn, vg, vo, rfl, r1, r2, r3⟩ := h
  have hins : (Cir.toCz d).ins = (d.ins : Int) := rfl
  have HP := Lib.hid (PCirc.boxed (c := Cir.toCz d) 26 r1 r2 r3)
  rw [hins] at HC HP ⊢
  have B0 := Lib.hid (bel_new w (.cells #[.int .i64 d.ins, vn, vg, vo] 26))
  have hsz : (w.alloc (.cells #[.int .i64 d.ins, vn, vg, vo] 26)).heap.size = w.heap.size + 1 := by simp
  obtain ⟨z, p0, p1, p2, p3⟩ := PCells.boxed w d.ins vn vg vo 26
  have HV := Lib.hid (implValid_any _ _ _ (HC.out.below B0.out))
  rw [hv] at HV
  have Hd := Lib.hid hd
  obtain ⟨M, e, hM⟩ : ∃ M : Nat, (2 : Int) ^ d.ins = (M : Int) ∧ M = 2 ^ d.ins := ⟨2 ^ d.ins, two_pow d.ins, rfl⟩
  have hM16 : M ≤ 16 := by rw [hM]; exact Nat.pow_le_pow_right (show 0 < 2 by decide) l1
  have hwM := IntWalk.i64_in (M : Int) (by omega)
  have HM := Lib.hid hM
  have hmm := @run_makeMap Try.prog
  clear r1 r2 r3 hd hins hM hv HC
  go_enter Try.func46, Try.ntmps46
  go_wp2_with fail
  generalize w.alloc (.cells #[.int .i64 d.ins, vn, vg, vo] 26) = W at *
  refine HV.out.mono ?_
  rintro e w1 ⟨rfl, hb1⟩
  have B1 := Lib.hid (B0.out.trans (hb1.mono B0.out.size))
  have HP1 := Lib.hid (HP.out.below hb1)
  have q0 := (hb1.cell (p := ⟨w.heap.size, 0, none⟩) z).trans p0
  have z1 := hb1.size
  clear hb1 p0 p1 p2 p3 HV HP
  have Hset0 : Hid (SetAt ((w1.alloc (.cells #[.int .i64 0] 3)).alloc (.map #[] 0)) (w1.heap.size + 1) 0 (fun _ => false)) := Lib.hid (by have := setAt_made (w1.alloc (.cells #[.int .i64 0] 3)); rwa [World.size_alloc] at this)
  have Hlit : Hid (((w1.alloc (.cells #[.int .i64 0] 3)).alloc (.map #[] 0)).ownsRow w1.heap.size 3 1 (.slice (some ⟨w1.heap.size, 0, none⟩) 1 1) 1 [.int .i64 0]) := Lib.hid ((World.ownsRow_lit (base := w1.heap.size) (e := 3) (size := 1) w1 #[.int .i64 0] 1 (Nat.le_refl _) (by unfold maxLen; omega) rfl).alloc _)
  have hs1 : (w1.alloc (.cells #[.int .i64 0] 3)).heap.size = w1.heap.size + 1 := by simp
  have Bm : Hid (Below w1.heap.size w1 ((w1.alloc (.cells #[.int .i64 0] 3)).alloc (.map #[] 0))) := Lib.hid (((Below.refl _ _).alloc (Nat.le_refl _) _).alloc (by simp) _)
  go_wp2_with (with_reducible refine wpList_add_set _ rfl (.tmp 13) _ _ (.inr rfl) _ _ _ rfl Hset0.out (by omega) 0 (by omega) rfl rfl ?_; intro w2 hset2 hg2)
  have Hset2 := Lib.hid (hset2.congr (S' := fun x => Cir.memB [0] x) (fun x => by rw [Cir.memB_zero, Bool.false_or]))
  have Ho2 := Lib.hid (own_kept Hlit.out hg2 (fun g hg e => own_no_map Hlit.out Hset0.out (hg.trans e.symm)))
  have B2 := Lib.hid (Bm.out.grown hg2 Bm.out.size (fun q hq => by have := Option.some.inj hq; omega))
  clear hset2 hg2 Hset0 Hlit Bm hmm
  have hR0 : Hid (Cir.reach d = Cir.bfs d (9 - 0) 0 [0]) := Lib.hid rfl
  generalize Cir.reach d = res at *
  go_wp2_with fail
  go_loopw [3, 5] (fun v i wr => ∃ (vv : Value) (k m : Nat) (l : List Nat), vv = v ∧ i = .int .i64 k ∧ k ≤ l.length ∧ l.length ≤ 8 ∧ m ≤ 300 ∧ Hid (Cir.Sts d l) ∧ Hid (res = Cir.bfs d (9 - k) k l) ∧ Hid (wr.ownsRow w1.heap.size 3 1 v l.length (nints l)) ∧ Hid (SetAt wr (w1.heap.size + 1) m (fun x => Cir.memB l x)) ∧ m ≤ 1 + k * 16 ∧ Below w1.heap.size w1 wr) (fun v i _ => 8 - (intOf i).toNat)
  case atStart => exact ⟨_, 0, 1, [0], rfl, rfl, by simp, by simp, by omega, Lib.hid (Cir.Sts.zero d), hR0, Ho2, Lib.hid (Hset2.out.mono (by omega)), by omega, B2.out⟩
  case round =>
    obtain ⟨vv, k, m, l, hvv, rfl, hk, hl8, hm3, Hst, hres, Ho, Hs, hm16, hb⟩ := hrel
    subst hvv
    clear Ho2 Hset2 B2 hR0
    obtain ⟨A, c, rfl, hc, hcm⟩ := NatsAt.shape (own_nats Ho.out)
    unfold maxLen at hcm
    have Hb := Lib.hid hb
    have hzb := hb.size
    have c0 := (hb.cell (p := ⟨w.heap.size, 0, none⟩) (show w.heap.size < w1.heap.size by omega)).trans q0
    clear hb
    by_cases hlt : k < l.length
    · obtain ⟨s, hs⟩ := at_some hlt
      have hs8 : s < 8 := by
        have h1 := Hst.out.lt s (List.mem_of_getElem? hs)
        have h2 : 2 ^ d.next.length ≤ 2 ^ 3 := Nat.pow_le_pow_right (show 0 < 2 by decide) l2
        omega
      have Hstep := Lib.hid (Cir.bfs_step (c := d) (f := 9 - (k + 1)) hs)
      have hf : 9 - k = 9 - (k + 1) + 1 := by omega
      rw [hf] at hres
      have Hgs := Lib.hid hs
      have hdl : decide (k < l.length) = true := decide_eq_true hlt
      clear hs hf
      go_wp2_with fail
      obtain ⟨Wk, hWk⟩ : ∃ Wk, Wk = wr := ⟨_, rfl⟩
      subst hWk
      go_loopw [3, 24] (fun v i wr => ∃ (vv : Value) (j q : Nat), vv = v ∧ i = .int .i64 j ∧ j ≤ M ∧ q ≤ m + j ∧ Hid (wr.ownsRow w1.heap.size 3 1 v (Cir.pushes d s j l).length (nints (Cir.pushes d s j l))) ∧ Hid (SetAt wr (w1.heap.size + 1) q (fun x => Cir.memB (Cir.pushes d s j l) x)) ∧ Below w1.heap.size w1 wr) (fun v i _ => M - (intOf i).toNat)
      case atStart => exact ⟨_, 0, m, rfl, rfl, Nat.zero_le _, by omega, Ho, Hs, Hb.out⟩
      case round =>
        obtain ⟨vv, j, q, hvv, rfl, hj, hq, Ho, Hs, hb⟩ := hrel
        subst hvv
        clear c0
        have Hb := Lib.hid hb
        have hzb := hb.size
        have c0 := (hb.cell (p := ⟨w.heap.size, 0, none⟩) (show w.heap.size < w1.heap.size by omega)).trans q0
        have Hst2 := Lib.hid (Hst.out.pushes s j)
        have hL8 := Hst2.out.len Hd.out
        have Hgj := Lib.hid (Cir.pushes_get (c := d) (s := s) (j := j) Hgs.out)
        have Hsu := Lib.hid (Cir.pushes_succ d s j l)
        by_cases hlj : j < M
        · obtain ⟨L2, hL2⟩ : ∃ L2, Cir.pushes d s (j + 1) l = L2 := ⟨_, rfl⟩
          rw [hL2] at Hsu
          have HL2 := Lib.hid hL2
          clear hL2
          generalize Cir.pushes d s j l = L at *
          obtain ⟨A, c, rfl, hc, hcm⟩ := NatsAt.shape (own_nats Ho.out)
          unfold maxLen at hcm
          have hkL : k < L.length := (List.getElem?_eq_some_iff.1 Hgj.out).1
          obtain ⟨b, o, s', rfl, hbl, hx0, hs0⟩ := nats_cell (nats_row (own_nats Ho.out)) rfl hkL
          obtain rfl : s' = s := Option.some.inj (hx0.out.symm.trans Hgj.out)
          clear hb
          go_wp2_with fail
          refine (cycle_any w.heap.size d s' j _ (HP1.out.below Hb.out) Hd.out (by omega) (by omega)).mono ?_
          rintro e w5 ⟨rfl, hb5⟩
          have Hb5 := Lib.hid (Hb.out.trans (hb5.mono hzb))
          have Ho5 := Lib.hid (own_below Ho.out hb5)
          have Hs5 := Lib.hid (Hs.out.below hb5)
          have hz5 := hb5.size
          have hN8 : Cir.nextOf d s' j < 8 := by
            have h1 := Cir.nextOf_lt d s' j
            have h2 : 2 ^ d.next.length ≤ 2 ^ 3 := Nat.pow_le_pow_right (show 0 < 2 by decide) l2
            omega
          clear hb5 Ho Hs c0 hs0
          generalize Cir.nextOf d s' j = N at *
          generalize Cir.num (Cir.outsOf d s' j) = On at *
          cases hc : Cir.memB L N
          · have HP := Lib.hid (Cir.push_no hc)
            go_wp2_with (first
              | (at_lookup; refine wpList_look_set _ rfl (.tmp 36) (.tmp 37) rfl _ _ _ rfl Hs5.out N (by omega) rfl ?_)
              | (at_mapUpdate; refine wpList_add_set _ rfl (.tmp 40) (.tmp 41) _ (.inl rfl) _ _ _ rfl Hs5.out (by omega) N (by omega) rfl rfl ?_; intro w6 hset6 hg6; have Hset6 := Lib.hid (hset6.congr (S' := fun x => Cir.memB (L ++ [N]) x) (fun x => by rw [Cir.memB_snoc])); have Ho6 := Lib.hid (own_kept Ho5.out hg6 (fun g hg e => own_no_map Ho5.out Hs5.out (hg.trans e.symm))); have Hb6 := Lib.hid (Hb5.out.grown hg6 Hb5.out.size (fun q hq => by have := Option.some.inj hq; omega)); have hz6 := hg6.size; have Hlit := Lib.hid (Row.of_own (World.ownsRow_lit (base := w6.heap.size) (e := 3) (size := 1) w6 #[.int .i64 N] 1 (Nat.le_refl _) (by unfold maxLen; omega) rfl)); clear hset6 hg6)
              | (at_builtin; refine append_ints rfl (.tmp 42) (.tmp 44) rfl w1.heap.size _ L.length (nints L) rfl (Ho6.out.alloc _) _ 1 [.int .i64 N] rfl Hlit.out (by simp [Value.oneCell']) (by omega) (by simp; omega) ?_; intro v7 w7 hown7 hg7 hat7; have Ho7 := Lib.hid hown7; have Hset7 := Lib.hid ((Hset6.out.below (bel_new w6 (.cells #[.int .i64 N] 3))).only (Only.grown (E := fun g => some g = (Value.slice (some ⟨b, o, none⟩) L.length c).ownBlock) hg7 (fun k hk => hk.symm)) (fun hq => own_no_map Ho6.out Hset6.out hq.symm)); have Hg7 := Lib.hid hg7; clear hown7 hg7 hat7))
            go_roundw
            case rel => exact ⟨_, j + 1, q + 1, rfl, by go_num, by omega, by omega, Lib.hid (by rw [HL2.out, Hsu.out, HP.out, nints_snoc, List.length_append]; exact Ho7.out), Lib.hid (by rw [HL2.out, Hsu.out, HP.out]; exact Hset7.out), (Hb6.out.alloc Hb6.out.size _).grown Hg7.out (Hb6.out.alloc Hb6.out.size _).size (own_ge0 Ho6.out)⟩
            case measure => simp [intOf] <;> omega
          · have HP := Lib.hid (Cir.push_yes hc)
            go_wp2_with (first
              | (at_lookup; refine wpList_look_set _ rfl (.tmp 36) (.tmp 37) rfl _ _ _ rfl Hs5.out N (by omega) rfl ?_))
            go_roundw
            case rel => exact ⟨_, j + 1, q, rfl, by go_num, by omega, by omega, Lib.hid (by rw [HL2.out, Hsu.out, HP.out]; exact Ho5.out), Lib.hid (by rw [HL2.out, Hsu.out, HP.out]; exact Hs5.out), Hb5.out⟩
            case measure => simp [intOf] <;> omega
        · obtain rfl : j = M := by omega
          have HMr : Hid (res = Cir.bfs d (9 - (k + 1)) (k + 1) (Cir.pushes d s j l)) := Lib.hid (by rw [hres.out, Hstep.out, HM.out])
          have Hlk := Lib.hid (show k + 1 ≤ (Cir.pushes d s j l).length by have := (List.getElem?_eq_some_iff.1 Hgj.out).1; omega)
          clear hb
          generalize Cir.pushes d s j l = L at *
          go_wp2_with fail
          go_roundw
          case rel => exact ⟨_, k + 1, q, L, rfl, by go_num, Hlk.out, hL8, by omega, Hst2, HMr, Ho, Hs, by omega, Hb.out⟩
          case measure => simp [intOf] <;> omega
    · obtain rfl : k = l.length := by omega
      have hr : res = l := by rw [hres.out, Cir.bfs_end]
      go_wp2_with fail
      go_ret
      exact ⟨_, rfl, by rw [hr, nats_length]; exact own_mono Ho.out (by omega), B1.out.trans (Hb.out.mono B1.out.size)⟩
end Go.Proofs.Ytdgminjbgjbamaa
