import Derived.Test.YtdgminjbgjbamaaS06
import Derived.Test.YtdgminjbgjbamaaS05
import Derived.Test.YtdgminjbgjbamaaS02
import Derived.Test.YtdgminjbgjbamaaS01
set_option linter.unusedVariables false
set_option linter.unusedSimpArgs false
set_option maxRecDepth 100000
set_option maxHeartbeats 16000000
namespace Go.Proofs.Ytdgminjbgjbamaa
open Go.RowKit
theorem l20Circuit_any (R P : Nat) (n : Int) (w : World) (h : Rd w R P) (hP : P ≤ 100000) (h0 : 0 ≤ n) (h1 : n ≤ 1000) :
    Calls Try.prog 32 #[.pointer (some ⟨R, 0, none⟩), .int .i64 n] w (DrewC R P w) := by
  have Hr := Lib.hid h
  have zR := h.lt
  clear h
  go_enter Try.func32, Try.ntmps32
  go_wp2_with fail
  refine (pick_any 5 _ P _ (Hr.out.alloc _) (by omega) (by omega) (by omega)).mono ?_
  rintro e w1 ⟨x, hx0, hx1, rfl, hr1, hg1⟩
  have Hr1 := Lib.hid hr1
  have HO1 := Lib.hid (only_drawn (only_alloc (Only.refl (· = R) w) _) hg1 (.inr rfl))
  have HX1 := Lib.hid (res_grown (heap_alloc_new w _) hg1 (fun e => by have := Option.some.inj e; omega))
  have z1 := hg1.size
  rw [World.size_alloc] at z1
  clear hr1 hg1 Hr
  go_wp2_with fail
  have hb2 := bel_new w1 (.cells #[.int .i64 x, .slice none 0 0, .slice none 0 0, .slice none 0 0] 26)
  have HC2 := Lib.hid (CB.start (ins := x) (w := w1) trivial)
  have Hr2 := Lib.hid (Hr1.out.alloc (.cells #[.int .i64 x, .slice none 0 0, .slice none 0 0, .slice none 0 0] 26))
  have HO2 := Lib.hid (only_alloc HO1.out (.cells #[.int .i64 x, .slice none 0 0, .slice none 0 0, .slice none 0 0] 26))
  have HX2 := Lib.hid ((hb2.block w.heap.size (by omega)).trans HX1.out)
  clear Hr1 HO1 HX1 hb2
  obtain ⟨gm, hgm⟩ : ∃ gm, gm = w1.heap.size := ⟨_, rfl⟩
  rw [← hgm] at HC2 ⊢
  have hgm1 : w.heap.size + 1 ≤ gm := by omega
  clear hgm z1
  generalize w1.alloc (.cells #[.int .i64 x, .slice none 0 0, .slice none 0 0, .slice none 0 0] 26) = w2 at *
  refine (pick_any 4 _ _ _ Hr2.out (by omega) (by omega) (by omega)).mono ?_
  rintro e w3 ⟨y, hy0, hy1, rfl, hr3, hg3⟩
  have Hr3 := Lib.hid hr3
  have HO3 := Lib.hid (only_drawn HO2.out hg3 (.inr rfl))
  have HX3 := Lib.hid (res_grown HX2.out hg3 (fun e => by have := Option.some.inj e; omega))
  have HC3 := Lib.hid (HC2.out.drawn hg3 (by omega))
  clear hr3 hg3 Hr2 HO2 HX2 HC2
  obtain ⟨zm, p0, -⟩ := HC3.out.cells
  go_wp2_with fail
  refine (pick_any 15 _ _ _ Hr3.out (by omega) (by omega) (by omega)).mono ?_
  rintro e w4 ⟨k0, hk0, hk1, rfl, hr4, hg4⟩
  have Hr4 := Lib.hid hr4
  have HO4 := Lib.hid (only_drawn HO3.out hg4 (.inr rfl))
  have HX4 := Lib.hid (res_grown HX3.out hg4 (fun e => by have := Option.some.inj e; omega))
  have HC4 := Lib.hid (HC3.out.drawn hg4 (by omega))
  clear hr4 hg4 Hr3 HO3 HX3 HC3 zm p0
  go_wp2_with fail
  go_loopw [7, 8] (fun m k wr => ∃ (M K : Int) (gs : List (Int × Int)) (vG : Value), m = .int .i64 M ∧ k = .int .i64 K ∧ 0 ≤ K ∧ gs.length + K ≤ 14 ∧ 1 ≤ M ∧ M ≤ 8 + gs.length ∧ Hid (∀ q ∈ gs, LitS q.1 ∧ LitS q.2) ∧ Hid (CB gm ⟨x, [], gs, []⟩ (.slice none 0 0) vG (.slice none 0 0) wr) ∧ Hid (Rd wr R (P + 100 + 10 * gs.length)) ∧ Hid (Only (· = R) w wr) ∧ Hid (wr.heap[w.heap.size]? = some (.cells #[.int .i64 0, .slice none 0 0, .slice none 0 0, .slice none 0 0] 26 (0, 0)))) (fun _ k _ => (intOf k).toNat)
  case atStart => exact ⟨_, k0, [], _, rfl, rfl, hk0, by simp; omega, by omega, by simp; omega, Lib.hid (by simp), HC4, Lib.hid (Hr4.out.more (by omega)), HO4, HX4⟩
  case round =>
    obtain ⟨M, K, gs, vG, rfl, rfl, hK, hKl, hM, hM2, Hl, HC, Hr, HO, HX⟩ := hrel
    clear HC4 Hr4 HO4 HX4
    by_cases hpos : 0 < K
    · go_wp2_with fail
      refine (pick_any (2 * M) _ _ _ Hr.out (by omega) (by omega) (by omega)).mono ?_
      rintro e w5 ⟨a, ha0, ha1, rfl, hr5, hg5⟩
      have Hr5 := Lib.hid hr5
      have HO5 := Lib.hid (only_drawn HO.out hg5 (.inr rfl))
      have HX5 := Lib.hid (res_grown HX.out hg5 (fun e => by have := Option.some.inj e; omega))
      have HC5 := Lib.hid (HC.out.drawn hg5 (by omega))
      clear hr5 hg5 Hr HO HX HC
      go_wp2_with fail
      refine (pick_any (2 * M) _ _ _ Hr5.out (by omega) (by omega) (by omega)).mono ?_
      rintro e w6 ⟨b, hb0, hb1, rfl, hr6, hg6⟩
      have Hr6 := Lib.hid hr6
      have HO6 := Lib.hid (only_drawn HO5.out hg6 (.inr rfl))
      have HX6 := Lib.hid (res_grown HX5.out hg6 (fun e => by have := Option.some.inj e; omega))
      have HC6 := Lib.hid (HC5.out.drawn hg6 (by omega))
      clear hr6 hg6 Hr5 HO5 HX5 HC5
      go_wp2_with fail
      refine (pick_any 3 _ _ _ Hr6.out (by omega) (by omega) (by omega)).mono ?_
      rintro e w7 ⟨z, hz0, hz1, rfl, hr7, hg7⟩
      have Hr7 := Lib.hid hr7
      have HO7 := Lib.hid (only_drawn HO6.out hg7 (.inr rfl))
      have HX7 := Lib.hid (res_grown HX6.out hg7 (fun e => by have := Option.some.inj e; omega))
      have HC7 := Lib.hid (HC6.out.drawn hg7 (by omega))
      clear hr7 hg7 Hr6 HO6 HX6 HC6
      by_cases hz : 0 < z
      · by_cases h6 : 2 * M < 6
        · go_wp2_with fail
          refine (pick_any (2 * M) _ _ _ Hr7.out (by omega) (by omega) (by omega)).mono ?_
          rintro e w8 ⟨u, hu0, hu1, rfl, hr8, hg8⟩
          have Hr8 := Lib.hid hr8
          have HO8 := Lib.hid (only_drawn HO7.out hg8 (.inr rfl))
          have HX8 := Lib.hid (res_grown HX7.out hg8 (fun e => by have := Option.some.inj e; omega))
          have HC8 := Lib.hid (HC7.out.drawn hg8 (by omega))
          clear hr8 hg8 Hr7 HO7 HX7 HC7
          have hne8 : vG.ownBlock ≠ some gm := fun e => by have := (HC8.out.g.lt gm e).1; omega
          obtain ⟨zm, p0, p1, p2, p3⟩ := HC8.out.cells
          have Hlit := Lib.hid (Row.of_own (World.ownsRow_lit (base := w8.heap.size) (e := 72) (size := 2) w8 #[.int .i64 (2 * M - 1 - u), .int .i64 b] 1 (Nat.le_refl _) (by unfold maxLen; omega) rfl))
          have z8 := zm
          go_wp2_with (
            at_builtin
            refine append_gates rfl (.tmp 50) (.tmp 54) rfl (gm + 1) _ gs.length _ rfl (HC8.out.g.alloc _) _ 1 [.int .i64 (2 * M - 1 - u), .int .i64 b] rfl Hlit.out (by simp [Value.oneCell']) (by omega) (by simp; omega) ?_
            intro v9 w9 hown9 hg9 hat9
            obtain ⟨A9, c9, e9⟩ := slice_of_own hown9
            subst e9
            have Ho9 := Lib.hid hown9
            have HE9 := Lib.hid (app_only hg9)
            have Hr9 := Lib.hid (app_rd Hr8.out hg9 HC8.out.g (by omega))
            have Hat9 := Lib.hid (app_at hat9)
            have hbx := (HE9.out.block gm (blk_lt HC8.out.box) hne8).trans HC8.out.box
            have q2 := blk_cell hbx 2
            have q2f := blk_free hbx 2
            have zq := blk_lt hbx
            simp at q2
            clear hown9 hg9 hat9 hbx)
          go_roundw
          case rel =>
            refine ⟨M + 1, K - 1, gs ++ [((2 * M - 1 - u), b)], .slice A9 (gs.length + 1) c9, by go_num, by go_num, by omega, by simp; omega, by omega, by simp; omega, Lib.hid fun q hq => ?_, Lib.hid ?_, Lib.hid ?_, Lib.hid ?_, Lib.hid ?_⟩
            · rcases List.mem_append.1 hq with h | h
              · exact Hl.out q h
              · rw [List.mem_singleton.1 h]
                unfold LitS
                simp only
                omega
            · refine HC8.out.addG (xs := gs ++ [((2 * M - 1 - u), b)]) HE9.out (fun g _ hn => hn) ?_ Hat9.out
              rw [List.length_append, cubes_append]
              exact Ho9.out
            · exact (rd_set Hr9.out (by omega)).more (by simp; omega)
            · exact only_set (HO8.out.aft HE9.out fun g hg => .inl (by have := (HC8.out.g.lt g hg).1; omega)) (by omega)
            · exact res_set ((HE9.out.block _ (blk_lt HX8.out) (fun e => by have := (HC8.out.g.lt _ e).1; omega)).trans HX8.out) (by omega)
          case measure => simp [intOf]; omega
        · go_wp2_with fail
          refine (pick_any 6 _ _ _ Hr7.out (by omega) (by omega) (by omega)).mono ?_
          rintro e w8 ⟨u, hu0, hu1, rfl, hr8, hg8⟩
          have Hr8 := Lib.hid hr8
          have HO8 := Lib.hid (only_drawn HO7.out hg8 (.inr rfl))
          have HX8 := Lib.hid (res_grown HX7.out hg8 (fun e => by have := Option.some.inj e; omega))
          have HC8 := Lib.hid (HC7.out.drawn hg8 (by omega))
          clear hr8 hg8 Hr7 HO7 HX7 HC7
          have hne8 : vG.ownBlock ≠ some gm := fun e => by have := (HC8.out.g.lt gm e).1; omega
          obtain ⟨zm, p0, p1, p2, p3⟩ := HC8.out.cells
          have Hlit := Lib.hid (Row.of_own (World.ownsRow_lit (base := w8.heap.size) (e := 72) (size := 2) w8 #[.int .i64 (2 * M - 1 - u), .int .i64 b] 1 (Nat.le_refl _) (by unfold maxLen; omega) rfl))
          have z8 := zm
          go_wp2_with (
            at_builtin
            refine append_gates rfl (.tmp 50) (.tmp 54) rfl (gm + 1) _ gs.length _ rfl (HC8.out.g.alloc _) _ 1 [.int .i64 (2 * M - 1 - u), .int .i64 b] rfl Hlit.out (by simp [Value.oneCell']) (by omega) (by simp; omega) ?_
            intro v9 w9 hown9 hg9 hat9
            obtain ⟨A9, c9, e9⟩ := slice_of_own hown9
            subst e9
            have Ho9 := Lib.hid hown9
            have HE9 := Lib.hid (app_only hg9)
            have Hr9 := Lib.hid (app_rd Hr8.out hg9 HC8.out.g (by omega))
            have Hat9 := Lib.hid (app_at hat9)
            have hbx := (HE9.out.block gm (blk_lt HC8.out.box) hne8).trans HC8.out.box
            have q2 := blk_cell hbx 2
            have q2f := blk_free hbx 2
            have zq := blk_lt hbx
            simp at q2
            clear hown9 hg9 hat9 hbx)
          go_roundw
          case rel =>
            refine ⟨M + 1, K - 1, gs ++ [((2 * M - 1 - u), b)], .slice A9 (gs.length + 1) c9, by go_num, by go_num, by omega, by simp; omega, by omega, by simp; omega, Lib.hid fun q hq => ?_, Lib.hid ?_, Lib.hid ?_, Lib.hid ?_, Lib.hid ?_⟩
            · rcases List.mem_append.1 hq with h | h
              · exact Hl.out q h
              · rw [List.mem_singleton.1 h]
                unfold LitS
                simp only
                omega
            · refine HC8.out.addG (xs := gs ++ [((2 * M - 1 - u), b)]) HE9.out (fun g _ hn => hn) ?_ Hat9.out
              rw [List.length_append, cubes_append]
              exact Ho9.out
            · exact (rd_set Hr9.out (by omega)).more (by simp; omega)
            · exact only_set (HO8.out.aft HE9.out fun g hg => .inl (by have := (HC8.out.g.lt g hg).1; omega)) (by omega)
            · exact res_set ((HE9.out.block _ (blk_lt HX8.out) (fun e => by have := (HC8.out.g.lt _ e).1; omega)).trans HX8.out) (by omega)
          case measure => simp [intOf]; omega
      · have hz' : z = 0 := by omega
        subst hz'
        have hne7 : vG.ownBlock ≠ some gm := fun e => by have := (HC7.out.g.lt gm e).1; omega
        obtain ⟨zm, p0, p1, p2, p3⟩ := HC7.out.cells
        have Hlit := Lib.hid (Row.of_own (World.ownsRow_lit (base := w7.heap.size) (e := 72) (size := 2) w7 #[.int .i64 (a), .int .i64 b] 1 (Nat.le_refl _) (by unfold maxLen; omega) rfl))
        have z7 := zm
        go_wp2_with (
          at_builtin
          refine append_gates rfl (.tmp 50) (.tmp 54) rfl (gm + 1) _ gs.length _ rfl (HC7.out.g.alloc _) _ 1 [.int .i64 (a), .int .i64 b] rfl Hlit.out (by simp [Value.oneCell']) (by omega) (by simp; omega) ?_
          intro v9 w9 hown9 hg9 hat9
          obtain ⟨A9, c9, e9⟩ := slice_of_own hown9
          subst e9
          have Ho9 := Lib.hid hown9
          have HE9 := Lib.hid (app_only hg9)
          have Hr9 := Lib.hid (app_rd Hr7.out hg9 HC7.out.g (by omega))
          have Hat9 := Lib.hid (app_at hat9)
          have hbx := (HE9.out.block gm (blk_lt HC7.out.box) hne7).trans HC7.out.box
          have q2 := blk_cell hbx 2
          have q2f := blk_free hbx 2
          have zq := blk_lt hbx
          simp at q2
          clear hown9 hg9 hat9 hbx)
        go_roundw
        case rel =>
          refine ⟨M + 1, K - 1, gs ++ [((a), b)], .slice A9 (gs.length + 1) c9, by go_num, by go_num, by omega, by simp; omega, by omega, by simp; omega, Lib.hid fun q hq => ?_, Lib.hid ?_, Lib.hid ?_, Lib.hid ?_, Lib.hid ?_⟩
          · rcases List.mem_append.1 hq with h | h
            · exact Hl.out q h
            · rw [List.mem_singleton.1 h]
              unfold LitS
              simp only
              omega
          · refine HC7.out.addG (xs := gs ++ [((a), b)]) HE9.out (fun g _ hn => hn) ?_ Hat9.out
            rw [List.length_append, cubes_append]
            exact Ho9.out
          · exact (rd_set Hr9.out (by omega)).more (by simp; omega)
          · exact only_set (HO7.out.aft HE9.out fun g hg => .inl (by have := (HC7.out.g.lt g hg).1; omega)) (by omega)
          · exact res_set ((HE9.out.block _ (blk_lt HX7.out) (fun e => by have := (HC7.out.g.lt _ e).1; omega)).trans HX7.out) (by omega)
        case measure => simp [intOf]; omega
    · obtain rfl : K = 0 := by omega
      have Hr1 := Lib.hid (Hr.out.more (show P + 100 + 10 * gs.length ≤ P + 300 by omega))
      have HC1 := Lib.hid HC.out
      clear Hr HC
      obtain ⟨W1, hW1⟩ : ∃ W1, W1 = wr := ⟨_, rfl⟩
      subst hW1
      go_wp2_with fail
      go_loopw [11] (fun j wr => ∃ (ns : List Int) (vN : Value), j = .int .i64 (ns.length : Nat) ∧ ns.length ≤ y ∧ Hid (∀ q ∈ ns, LitS q) ∧ Hid (CB gm ⟨x, ns, gs, []⟩ vN vG (.slice none 0 0) wr) ∧ Hid (Rd wr R (P + 300 + 400 * ns.length)) ∧ Hid (Only (· = R) w wr) ∧ Hid (wr.heap[w.heap.size]? = some (.cells #[.int .i64 0, .slice none 0 0, .slice none 0 0, .slice none 0 0] 26 (0, 0)))) (fun j _ => (y - intOf j).toNat)
      case atStart => exact ⟨[], _, rfl, by simp; omega, Lib.hid (by simp), HC1, Lib.hid (Hr1.out.more (by omega)), HO, HX⟩
      case round =>
        obtain ⟨ns, vN, rfl, hnl, Hn, HC, Hr, HO, HX⟩ := hrel
        clear Hr1 HC1
        by_cases hlt : (ns.length : Int) < y
        · go_wp2_with fail
          have hO := fun ops a => rdRS_ok (Pg := Try.prog) (ops := ops) (P := P + 300 + 400 * ns.length) (a := a) (G := GInt (-100) 1000) (d := 7) Hr.out.lt (show R < gm + 1 by omega) HC.out.n
          obtain ⟨zm, p0, p1, p2, p3⟩ := HC.out.cells
          have hneN : ¬ (gm = R ∨ vN.ownBlock = some gm) := fun e => by
            rcases e with e | e
            · omega
            · have := (HC.out.n.lt gm e).1; omega
          refine wp_region_rsl (rdRS Try.prog _ R (P + 300 + 400 * ns.length) wr _ (gm + 1) 3 vN ns.length (ints ns) (GInt (-100) 1000) 7) (hO _ _) (by kernel_rfl) (by kernel_rfl) (by kernel_rfl) 9 _ rfl rfl (by kernel_rfl) (show (7 : Nat) < 9 by decide) Hr.out HC.out.n ?_
          obtain ⟨i0, hi0, hz0, hz1, hz2⟩ := info_parts info_int
          apply rs_eq (hO _ _) (.inl (Nat.ne_of_beq_eq_false rfl))
          · intro ρ w' ho hK
            obtain ⟨h0, -⟩ := hK
            have h0' : ρ (.tmp 5) = .pointer (some ⟨gm, 0, none⟩) := h0
            go_simp
            try exact rfl
          apply rs_eq (hO _ _) (.inl (Nat.ne_of_beq_eq_false rfl))
          · intro ρ w' ho hK
            obtain ⟨h0, -⟩ := hK
            have h0' : ρ (.tmp 64) = .pointer (some ⟨gm, 1, none⟩) := h0
            have q1 := cell_on ho hneN zm p1
            go_simp
            try exact rfl
          refine rs_old (hO _ _) (.inl (Nat.ne_of_beq_eq_false rfl)) _ (.inl rfl) _ rfl rfl ?_
          refine rs_old (hO _ _) (.inl (Nat.ne_of_beq_eq_false rfl)) _ (.inl rfl) _ rfl rfl ?_
          apply rs_eq (hO _ _) (.inl (Nat.ne_of_beq_eq_false rfl))
          · intro ρ w' ho hK
            obtain ⟨h0, h1, -⟩ := hK
            have h0' : ρ (.const (.int .i64 2)) = .int .i64 2 := h0
            have h1' : ρ (.tmp 67) = .int .i64 M := h1
            have hwr := IntWalk.i64_in (2 * M) (by omega)
            go_simp
            try exact rfl
          refine rs_pick (hO _ _) (.inl (Nat.ne_of_beq_eq_false rfl)) 33 _ _ _ R (P + 300 + 400 * ns.length) 43 rfl rfl fn_draw (fun ρ w hK => ⟨hK.1, hK.2.1, 2 * M, hK.2.2.1, by omega, by omega⟩) (fun n k w hk h1n hn hr => pick_upto n 43 _ _ w hr (by have hk' : k < 10 := hk; omega) h1n hn (by omega)) ?_
          refine rs_build (hO _ _) (.inl (Nat.ne_of_beq_eq_false rfl)) 1 (GInt (-100) 1000) 3 (fun ρ w hK => by
            obtain ⟨⟨q, hq, hq0, hq1⟩, -⟩ := hK
            have h' : ρ (.tmp 69) = .int .i64 q := hq
            refine ⟨#[.int .i64 q], rfl, ?_, ?_⟩
            · go_simp
            · intro c hc
              simp at hc
              exact ⟨q, hc, by omega, by omega⟩) ?_
          refine rs_appendV rfl (gm + 1) 3 23 vN ns.length (ints ns) (GInt (-100) 1000) rfl R (P + 300 + 400 * ns.length) rfl (fun g hg => .inr hg) (show R < gm + 1 by omega) zm _ _ rfl _ _ rfl rfl rfl rfl i0 _ 8 Try.underlying23 hi0 hz0 hz1 hz2 rfl (by omega) (by decide) (fun u hu => by obtain ⟨q, rfl, -⟩ := hu; rfl) ?_
          apply rs_eq (hO _ _) (.inl (Nat.ne_of_beq_eq_false rfl))
          · intro ρ w' ho hK
            obtain ⟨h0, -⟩ := hK
            have h0' : ρ (.tmp 5) = .pointer (some ⟨gm, 0, none⟩) := h0
            go_simp
            try exact rfl
          intro f w9 k9 hk9 hI9 ht9 hcp9
          have E0 : f 0 = _ := ht9 0 (Nat.le_of_ble_eq_true rfl)
          have E1 : f 1 = _ := ht9 1 (Nat.le_of_ble_eq_true rfl)
          have E2 : f 2 = _ := ht9 2 (Nat.le_of_ble_eq_true rfl)
          have E3 : f 3 = _ := ht9 3 (Nat.le_of_ble_eq_true rfl)
          have E4 : f 4 = _ := ht9 4 (Nat.le_of_ble_eq_true rfl)
          have E8 : f 8 = _ := ht9 8 (Nat.le_of_ble_eq_true rfl)
          have Hr9 : Rd w9 R (P + 300 + 400 * ns.length + 40 * k9) := hI9.1
          have HE9 : Only (fun g => g = R ∨ vN.ownBlock = some g) wr w9 := hI9.2.1
          have HJ9 : (∃ u, GInt (-100) 1000 u ∧ w9.ownsRow (gm + 1) 3 1 (f 7) (ns.length + 1) (ints ns ++ [u])) ∧ ∀ g, (f 7).ownBlock = some g → vN.ownBlock = some g ∨ wr.heap.size ≤ g := hI9.2.2
          have hk9' : k9 ≤ 10 := hk9
          simp only [putAll, E0, E1, E2, E3, E4, E8, Nat.zero_add, Nat.reduceAdd, Act.put, List.take, List.setIfInBounds_toArray, List.set_cons_succ, List.set_cons_zero]
          clear E0 E1 E2 E3 E4 E8 hI9 ht9 hcp9 hk9 hO
          generalize f 5 = r5, f 6 = r6 at *
          generalize f 7 = v9 at *
          simp only [List.getElem_toArray, List.getElem_cons_succ, List.getElem_cons_zero]
          obtain ⟨⟨uu, ⟨q, rfl, hq0, hq1⟩, hown9⟩, hat9⟩ := HJ9
          obtain ⟨A9, c9, e9⟩ := slice_of_own hown9
          subst e9
          have Ho9 := Lib.hid hown9
          have Hat9 := Lib.hid hat9
          have HE9' := Lib.hid HE9
          have Hr9' := Lib.hid (Hr9.more (show P + 300 + 400 * ns.length + 40 * k9 ≤ P + 300 + 400 * (ns.length + 1) by omega))
          have hbx := (HE9.block gm zm hneN).trans HC.out.box
          have q1 := blk_cell hbx 1
          have q1f := blk_free hbx 1
          have zq := blk_lt hbx
          simp at q1
          clear hown9 hat9 HE9 Hr9 hbx p0 p1 p2 p3 hk9' hi0 hz0 hz1 hz2
          go_wp2_with fail
          go_roundw
          case rel =>
            refine ⟨ns ++ [q], .slice A9 (ns.length + 1) c9, by simp, by simp; omega, Lib.hid fun q' hq => ?_, Lib.hid ?_, Lib.hid ?_, Lib.hid ?_, Lib.hid ?_⟩
            · rcases List.mem_append.1 hq with h | h
              · exact Hn.out q' h
              · rw [List.mem_singleton.1 h]
                exact ⟨hq0, hq1⟩
            · refine HC.out.addN (xs := ns ++ [q]) HE9'.out (fun g hg hn => ?_) ?_ Hat9.out
              · rintro (e | e)
                · omega
                · exact hn e
              · rw [List.length_append, ints_snoc]
                exact Ho9.out
            · exact (rd_set Hr9'.out (by omega)).more (by simp)
            · exact only_set (HO.out.aft HE9'.out fun g hg => by
                rcases hg with h | h
                · exact .inr h
                · exact .inl (by have := (HC.out.n.lt g h).1; omega)) (by omega)
            · exact res_set ((HE9'.out.block _ (blk_lt HX.out) (fun e => by
                rcases e with h | h
                · omega
                · have := (HC.out.n.lt _ h).1; omega)).trans HX.out) (by omega)
          case measure => simp [intOf]; omega
        · have Hr1 := Lib.hid (Hr.out.more (show P + 300 + 400 * ns.length ≤ P + 2400 by omega))
          have HC1 := Lib.hid HC.out
          clear Hr HC
          obtain ⟨W2, hW2⟩ : ∃ W2, W2 = wr := ⟨_, rfl⟩
          subst hW2
          go_wp2_with fail
          refine (pick_any 4 _ _ _ Hr1.out (by omega) (by omega) (by omega)).mono ?_
          rintro e w5 ⟨k1, hk10, hk11, rfl, hr5, hg5⟩
          have Hr5 := Lib.hid (hr5.more (show P + 2400 + 1 ≤ P + 2500 by omega))
          have HO5 := Lib.hid (only_drawn HO.out hg5 (.inr rfl))
          have HX5 := Lib.hid (res_grown HX.out hg5 (fun e => by have := Option.some.inj e; omega))
          have HC5 := Lib.hid (HC1.out.drawn hg5 (by omega))
          clear hr5 hg5 Hr1 HO HX HC1
          go_wp2_with fail
          go_loopw [12] (fun j wr => ∃ (K : Int) (os : List Int) (vO : Value), j = .int .i64 K ∧ 0 ≤ K ∧ os.length + K ≤ 3 ∧ Hid (∀ q ∈ os, LitS q) ∧ Hid (CB gm ⟨x, ns, gs, os⟩ vN vG vO wr) ∧ Hid (Rd wr R (P + 2500 + 1000 * os.length)) ∧ Hid (Only (· = R) w wr) ∧ Hid (wr.heap[w.heap.size]? = some (.cells #[.int .i64 0, .slice none 0 0, .slice none 0 0, .slice none 0 0] 26 (0, 0)))) (fun j _ => (intOf j).toNat)
          case atStart => exact ⟨k1, [], _, rfl, hk10, by simp; omega, Lib.hid (by simp), HC5, Lib.hid (Hr5.out.more (by omega)), HO5, HX5⟩
          case round =>
            obtain ⟨K, os, vO, rfl, hK0, hKl2, Hos, HC, Hr, HO, HX⟩ := hrel
            clear Hr5 HC5 HO5 HX5
            by_cases hpos : 0 < K
            · go_wp2_with fail
              have hO := fun ops a => rdRS_ok (Pg := Try.prog) (ops := ops) (P := P + 2500 + 1000 * os.length) (a := a) (G := GInt (-100) 1000) (d := 21) Hr.out.lt (show R < gm + 1 by omega) HC.out.o
              obtain ⟨zm, p0, p1, p2, p3⟩ := HC.out.cells
              have hneO : ¬ (gm = R ∨ vO.ownBlock = some gm) := fun e => by
                rcases e with e | e
                · omega
                · have := (HC.out.o.lt gm e).1; omega
              refine wp_region_rsl (rdRS Try.prog _ R (P + 2500 + 1000 * os.length) wr _ (gm + 1) 3 vO os.length (ints os) (GInt (-100) 1000) 21) (hO _ _) (by kernel_rfl) (by kernel_rfl) (by kernel_rfl) 23 _ rfl rfl (by kernel_rfl) (show (21 : Nat) < 23 by decide) Hr.out HC.out.o ?_
              obtain ⟨i0, hi0, hz0, hz1, hz2⟩ := info_parts info_int
              apply rs_eq (hO _ _) (.inl (Nat.ne_of_beq_eq_false rfl))
              · intro ρ w' ho hK
                obtain ⟨h0, -⟩ := hK
                have h0' : ρ (.tmp 5) = .pointer (some ⟨gm, 0, none⟩) := h0
                go_simp
                try exact rfl
              apply rs_eq (hO _ _) (.inl (Nat.ne_of_beq_eq_false rfl))
              · intro ρ w' ho hK
                obtain ⟨h0, -⟩ := hK
                have h0' : ρ (.tmp 79) = .pointer (some ⟨gm, 3, none⟩) := h0
                have q1 := cell_on ho hneO zm p3
                go_simp
                try exact rfl
              refine rs_old (hO _ _) (.inl (Nat.ne_of_beq_eq_false rfl)) _ (.inl rfl) _ rfl rfl ?_
              apply rs_eq (hO _ _) (.inl (Nat.ne_of_beq_eq_false rfl))
              · intro ρ w' ho hK
                obtain ⟨h0, h1, -⟩ := hK
                have h0' : ρ (.const (.int .i64 2)) = .int .i64 2 := h0
                have h1' : ρ (.tmp 81) = .int .i64 M := h1
                have hwr := IntWalk.i64_in (2 * M) (by omega)
                go_simp
                try exact rfl
              apply rs_eq (hO _ _) (.inl (Nat.ne_of_beq_eq_false rfl))
              · intro ρ w' ho hK
                obtain ⟨h0, h1, -⟩ := hK
                have h1' : ρ (.const (.int .i64 1)) = .int .i64 1 := h1
                have h0' : ρ (.tmp 82) = .int .i64 (2 * M) := h0
                have hwr := IntWalk.i64_in (2 * M - 1) (by omega)
                go_simp
                try exact rfl
              refine rs_old (hO _ _) (.inl (Nat.ne_of_beq_eq_false rfl)) _ (.inl rfl) _ rfl rfl ?_
              refine rs_old (hO _ _) (.inl (Nat.ne_of_beq_eq_false rfl)) _ (.inl rfl) _ rfl rfl ?_
              apply rs_eq (hO _ _) (.inl (Nat.ne_of_beq_eq_false rfl))
              · intro ρ w' ho hK
                obtain ⟨h0, h1, -⟩ := hK
                have h0' : ρ (.const (.int .i64 2)) = .int .i64 2 := h0
                have h1' : ρ (.tmp 85) = .int .i64 M := h1
                have hwr := IntWalk.i64_in (2 * M) (by omega)
                go_simp
                try exact rfl
              refine rs_pure (hO _ _) (.inl (Nat.ne_of_beq_eq_false rfl)) (TInt 1 8) (stb_int _ _ _) (fun ρ w hK => by
                obtain ⟨h0, h1, -⟩ := hK
                have h0' : ρ (.const (.int .i64 8)) = .int .i64 8 := h0
                have h1' : ρ (.tmp 86) = .int .i64 (2 * M) := h1
                by_cases h8 : 2 * M < 8
                · refine ⟨.int .i64 (2 * M), ?_, 2 * M, rfl, by omega, by omega⟩
                  go_simp
                · refine ⟨.int .i64 8, ?_, 8, rfl, by omega, by omega⟩
                  go_simp) ?_
              refine rs_pick (hO _ _) (.inl (Nat.ne_of_beq_eq_false rfl)) 33 _ _ _ R (P + 2500 + 1000 * os.length) 7 rfl rfl fn_draw (fun ρ w hK => by
                obtain ⟨h0, h1, ⟨q, h2, h3, h4⟩, -⟩ := hK
                exact ⟨h0, h1, q, h2, h3, by omega⟩) (fun n k w hk h1n hn hr => pick_upto n 7 _ _ w hr (by have hk' : k < 24 := hk; omega) h1n hn (by omega)) ?_
              refine rs_pure (hO _ _) (.inl (Nat.ne_of_beq_eq_false rfl)) (TInt (-100) 1000) (stb_int _ _ _) (fun ρ w hK => by
                obtain ⟨h0, ⟨q, h1, h2, h3⟩, -⟩ := hK
                have h0' : ρ (.tmp 83) = .int .i64 (2 * M - 1) := h0
                have h1' : ρ (.tmp 88) = .int .i64 q := h1
                have h3' : q ≤ 7 := h3
                have hwr := IntWalk.i64_in (2 * M - 1 - q) (by omega)
                refine ⟨.int .i64 (2 * M - 1 - q), ?_, _, rfl, by omega, by omega⟩
                go_simp) ?_
              refine rs_old (hO _ _) (.inl (Nat.ne_of_beq_eq_false rfl)) _ (.inl rfl) _ rfl rfl ?_
              refine rs_old (hO _ _) (.inl (Nat.ne_of_beq_eq_false rfl)) _ (.inl rfl) _ rfl rfl ?_
              apply rs_eq (hO _ _) (.inl (Nat.ne_of_beq_eq_false rfl))
              · intro ρ w' ho hK
                obtain ⟨h0, h1, -⟩ := hK
                have h0' : ρ (.const (.int .i64 2)) = .int .i64 2 := h0
                have h1' : ρ (.tmp 91) = .int .i64 M := h1
                have hwr := IntWalk.i64_in (2 * M) (by omega)
                go_simp
                try exact rfl
              refine rs_pick (hO _ _) (.inl (Nat.ne_of_beq_eq_false rfl)) 33 _ _ _ R (P + 2500 + 1000 * os.length) 43 rfl rfl fn_draw (fun ρ w hK => ⟨hK.1, hK.2.1, 2 * M, hK.2.2.1, by omega, by omega⟩) (fun n k w hk h1n hn hr => pick_upto n 43 _ _ w hr (by have hk' : k < 24 := hk; omega) h1n hn (by omega)) ?_
              refine rs_build (hO _ _) (.inl (Nat.ne_of_beq_eq_false rfl)) 2 (GInt (-100) 1000) 3 (fun ρ w hK => by
                obtain ⟨⟨q, hq, hq0, hq1⟩, ⟨q2, hr, hr0, hr1⟩, -⟩ := hK
                have h' : ρ (.tmp 89) = .int .i64 q := hq
                have h2' : ρ (.tmp 93) = .int .i64 q2 := hr
                have hr1' : q2 ≤ 43 := hr1
                refine ⟨#[.int .i64 q, .int .i64 q2], rfl, ?_, ?_⟩
                · go_simp
                · intro c hc
                  simp at hc
                  rcases hc with rfl | rfl
                  · exact ⟨q, rfl, by omega, by omega⟩
                  · exact ⟨q2, rfl, by omega, by omega⟩) ?_
              refine rs_old (hO _ _) (.inl (Nat.ne_of_beq_eq_false rfl)) _ (.inl rfl) _ rfl rfl ?_
              refine rs_pick (hO _ _) (.inl (Nat.ne_of_beq_eq_false rfl)) 33 _ _ _ R (P + 2500 + 1000 * os.length) 1 rfl rfl fn_draw (fun ρ w hK => ⟨hK.1, hK.2.1, 2, hK.2.2.1, by omega, by omega⟩) (fun n k w hk h1n hn hr => pick_upto n 1 _ _ w hr (by have hk' : k < 24 := hk; omega) h1n hn (by omega)) ?_
              refine rs_index (hO _ _) (.inl (Nat.ne_of_beq_eq_false rfl)) 23 _ _ 2 (GInt (-100) 1000) 1 rfl _ _ rfl rfl rfl rfl (by omega) (by omega) ix_drawn ?_
              refine rs_load (hO _ _) (.inl (Nat.ne_of_beq_eq_false rfl)) 3 _ (GInt (-100) 1000) rfl _ rfl rfl ag_drawn ?_
              refine rs_build (hO _ _) (.inl (Nat.ne_of_beq_eq_false rfl)) 1 (GInt (-100) 1000) 3 (fun ρ w hK => by
                obtain ⟨⟨q, hq, hq0, hq1⟩, -⟩ := hK
                have h' : ρ (.tmp 98) = .int .i64 q := hq
                refine ⟨#[.int .i64 q], rfl, ?_, ?_⟩
                · go_simp
                · intro c hc
                  simp at hc
                  exact ⟨q, hc, by omega, by omega⟩) ?_
              refine rs_appendV rfl (gm + 1) 3 23 vO os.length (ints os) (GInt (-100) 1000) rfl R (P + 2500 + 1000 * os.length) rfl (fun g hg => .inr hg) (show R < gm + 1 by omega) zm _ _ rfl _ _ rfl rfl rfl rfl i0 _ 8 Try.underlying23 hi0 hz0 hz1 hz2 rfl (by omega) (by decide) (fun u hu => by obtain ⟨q, rfl, -⟩ := hu; rfl) ?_
              apply rs_eq (hO _ _) (.inl (Nat.ne_of_beq_eq_false rfl))
              · intro ρ w' ho hK
                obtain ⟨h0, -⟩ := hK
                have h0' : ρ (.tmp 5) = .pointer (some ⟨gm, 0, none⟩) := h0
                go_simp
                try exact rfl
              intro f w9 k9 hk9 hI9 ht9 hcp9
              have E0 : f 0 = _ := ht9 0 (Nat.le_of_ble_eq_true rfl)
              have E1 : f 1 = _ := ht9 1 (Nat.le_of_ble_eq_true rfl)
              have E2 : f 2 = _ := ht9 2 (Nat.le_of_ble_eq_true rfl)
              have E3 : f 3 = _ := ht9 3 (Nat.le_of_ble_eq_true rfl)
              have E4 : f 4 = _ := ht9 4 (Nat.le_of_ble_eq_true rfl)
              have E5 : f 5 = _ := ht9 5 (Nat.le_of_ble_eq_true rfl)
              have E6 : f 6 = _ := ht9 6 (Nat.le_of_ble_eq_true rfl)
              have E7 : f 7 = _ := ht9 7 (Nat.le_of_ble_eq_true rfl)
              have E11 : f 11 = _ := ht9 11 (Nat.le_of_ble_eq_true rfl)
              have E12 : f 12 = _ := ht9 12 (Nat.le_of_ble_eq_true rfl)
              have E13 : f 13 = _ := ht9 13 (Nat.le_of_ble_eq_true rfl)
              have E16 : f 16 = _ := ht9 16 (Nat.le_of_ble_eq_true rfl)
              have E22 : f 22 = _ := ht9 22 (Nat.le_of_ble_eq_true rfl)
              have Hr9 : Rd w9 R (P + 2500 + 1000 * os.length + 40 * k9) := hI9.1
              have HE9 : Only (fun g => g = R ∨ vO.ownBlock = some g) wr w9 := hI9.2.1
              have HJ9 : (∃ u, GInt (-100) 1000 u ∧ w9.ownsRow (gm + 1) 3 1 (f 21) (os.length + 1) (ints os ++ [u])) ∧ ∀ g, (f 21).ownBlock = some g → vO.ownBlock = some g ∨ wr.heap.size ≤ g := hI9.2.2
              have hk9' : k9 ≤ 24 := hk9
              simp only [putAll, E0, E1, E2, E3, E4, E5, E6, E7, E11, E12, E13, E16, E22, Nat.zero_add, Nat.reduceAdd, Act.put, List.take, List.setIfInBounds_toArray, List.set_cons_succ, List.set_cons_zero, List.getElem_toArray, List.getElem_cons_succ, List.getElem_cons_zero]
              clear E0 E1 E2 E3 E4 E5 E6 E7 E11 E12 E13 E16 E22 hI9 ht9 hcp9 hk9 hO
              generalize f 8 = r8, f 9 = r9, f 10 = r10, f 14 = r14, f 15 = r15, f 17 = r17, f 18 = r18, f 19 = r19, f 20 = r20 at *
              generalize f 21 = v9 at *
              obtain ⟨⟨uu, ⟨q, rfl, hq0, hq1⟩, hown9⟩, hat9⟩ := HJ9
              obtain ⟨A9, c9, e9⟩ := slice_of_own hown9
              subst e9
              have Ho9 := Lib.hid hown9
              have Hat9 := Lib.hid hat9
              have HE9' := Lib.hid HE9
              have Hr9' := Lib.hid (Hr9.more (show P + 2500 + 1000 * os.length + 40 * k9 ≤ P + 2500 + 1000 * (os.length + 1) by omega))
              have hbx := (HE9.block gm zm hneO).trans HC.out.box
              have q1 := blk_cell hbx 3
              have q1f := blk_free hbx 3
              have zq := blk_lt hbx
              simp at q1
              clear hown9 hat9 HE9 Hr9 hbx p0 p1 p2 p3 hk9' hi0 hz0 hz1 hz2
              go_wp2_with fail
              go_roundw
              case rel =>
                refine ⟨K - 1, os ++ [q], .slice A9 (os.length + 1) c9, by go_num, by omega, by simp; omega, Lib.hid fun q' hq => ?_, Lib.hid ?_, Lib.hid ?_, Lib.hid ?_, Lib.hid ?_⟩
                · rcases List.mem_append.1 hq with h | h
                  · exact Hos.out q' h
                  · rw [List.mem_singleton.1 h]
                    exact ⟨hq0, hq1⟩
                · refine HC.out.addO (xs := os ++ [q]) HE9'.out (fun g hg hn => ?_) ?_ Hat9.out
                  · rintro (e | e)
                    · omega
                    · exact hn e
                  · rw [List.length_append, ints_snoc]
                    exact Ho9.out
                · exact (rd_set Hr9'.out (by omega)).more (by simp)
                · exact only_set (HO.out.aft HE9'.out fun g hg => by
                    rcases hg with h | h
                    · exact .inr h
                    · exact .inl (by have := (HC.out.o.lt g h).1; omega)) (by omega)
                · exact res_set ((HE9'.out.block _ (blk_lt HX.out) (fun e => by
                    rcases e with h | h
                    · omega
                    · have := (HC.out.o.lt _ h).1; omega)).trans HX.out) (by omega)
              case measure => simp [intOf]; omega
            · obtain rfl : K = 0 := by omega
              have Hr1 := Lib.hid (Hr.out.more (show P + 2500 + 1000 * os.length ≤ P + 6000 by omega))
              have HC1 := Lib.hid HC.out
              clear Hr HC
              obtain ⟨W3, hW3⟩ : ∃ W3, W3 = wr := ⟨_, rfl⟩
              subst hW3
              go_wp2_with fail
              refine (odd_every n _ _ _ Hr1.out (by omega) h0 (by omega)).mono ?_
              rintro e w6 ⟨bb, rfl, hr6, hg6⟩
              have Hr6 := Lib.hid hr6
              have HO6 := Lib.hid (only_drawn HO.out hg6 (.inr rfl))
              have HX6 := Lib.hid (res_grown HX.out hg6 (fun e => by have := Option.some.inj e; omega))
              have HC6 := Lib.hid (HC1.out.drawn hg6 (by omega))
              clear hr6 hg6 Hr1 HO HX HC1
              obtain ⟨An, cn, en⟩ := slice_of_own HC6.out.n
              obtain ⟨Ag, cg, eg⟩ := slice_of_own HC6.out.g
              obtain ⟨Ao, co, eo⟩ := slice_of_own HC6.out.o
              simp only at en eg eo
              subst en eg eo
              cases bb
              · obtain ⟨zf, f0, f1, f2, f3⟩ := HC6.out.cells
                obtain ⟨ff0, ff1, ff2, ff3⟩ := HC6.out.free
                have o0 := blk_cell HX6.out 0
                have o1 := blk_cell HX6.out 1
                have o2 := blk_cell HX6.out 2
                have o3 := blk_cell HX6.out 3
                have b0 := blk_free HX6.out 0
                have b1 := blk_free HX6.out 1
                have b2 := blk_free HX6.out 2
                have b3 := blk_free HX6.out 3
                have zr := blk_lt HX6.out
                simp at o0 o1 o2 o3
                go_wp2_with fail
                refine bodyPost_ret (v := .agg #[.int .i64 x, .slice An ns.length cn, .slice Ag gs.length cg, .slice Ao os.length co]) (by simp [results, Try.results32, go_sem, o0, o1, o2, o3]) rfl (finC (c := ⟨x, ns, gs, os⟩) HC6.out HO6.out Hr6.out (by omega) zR (by omega) ⟨by simp only; omega, by simp only; omega, by simp only; omega, by simp only; omega, by simp only; omega, Hn.out, Hl.out, Hos.out⟩ _ _ _ _)
              · go_wp2_with fail
                refine (pick_any 6 _ _ _ Hr6.out (by omega) (by omega) (by omega)).mono ?_
                rintro e w7 ⟨z, hz0, hz1, rfl, hr7, hg7⟩
                have Hr7 := Lib.hid hr7
                have HO7 := Lib.hid (only_drawn HO6.out hg7 (.inr rfl))
                have HX7 := Lib.hid (res_grown HX6.out hg7 (fun e => by have := Option.some.inj e; omega))
                have HC7 := Lib.hid (HC6.out.drawn hg7 (by omega))
                clear hr7 hg7 Hr6 HO6 HX6 HC6
                obtain rfl | rfl | rfl | rfl | rfl | rfl : z = 0 ∨ z = 1 ∨ z = 2 ∨ z = 3 ∨ z = 4 ∨ z = 5 := by omega
                · go_wp2_with fail
                  refine (pick_any 2 _ _ _ (Hr7.out.alloc _) (by omega) (by omega) (by omega)).mono ?_
                  rintro e w8 ⟨u, hu0, hu1, rfl, hr8, hg8⟩
                  have hzr7 := Hr7.out.lt
                  obtain ⟨vv, hvv, hu0', hcell⟩ := lit_cell2 _ _ _ _ _ hg8 hzr7 u hu0 hu1
                  have zl := hg8.size
                  rw [World.size_alloc] at zl
                  have Hr8 := Lib.hid hr8
                  have HO8 := Lib.hid (only_drawn (only_alloc HO7.out _) hg8 (.inr rfl))
                  have HX8 := Lib.hid (res_grown (((bel_new w7 _).block _ (blk_lt HX7.out)).trans HX7.out) hg8 (fun e => by have := Option.some.inj e; omega))
                  have HC8 := Lib.hid ((HC7.out.below (bel_new w7 _)).drawn hg8 (by omega))
                  clear hr8 hg8 Hr7 HO7 HX7 HC7
                  obtain ⟨zf, f0, f1, f2, f3⟩ := HC8.out.cells
                  obtain ⟨ff0, ff1, ff2, ff3⟩ := HC8.out.free
                  have o0 := blk_cell HX8.out 0
                  have o1 := blk_cell HX8.out 1
                  have o2 := blk_cell HX8.out 2
                  have o3 := blk_cell HX8.out 3
                  have b0 := blk_free HX8.out 0
                  have b1 := blk_free HX8.out 1
                  have b2 := blk_free HX8.out 2
                  have b3 := blk_free HX8.out 3
                  have zr := blk_lt HX8.out
                  simp at o0 o1 o2 o3
                  go_wp2_with fail
                  refine bodyPost_ret (v := .agg #[.int .i64 vv, .slice An ns.length cn, .slice Ag gs.length cg, .slice Ao os.length co]) (by simp [results, Try.results32, go_sem, o0, o1, o2, o3]) rfl (finC (c := ⟨vv, ns, gs, os⟩) (HC8.out.setIns vv) (only_set HO8.out (by omega)) (rd_set Hr8.out (by omega)) (by omega) zR (by omega) ⟨by simp only; omega, by simp only; omega, by simp only; omega, by simp only; omega, by simp only; omega, Hn.out, Hl.out, Hos.out⟩ _ _ _ _)
                · go_wp2_with fail
                  have hO := fun ops a => rdRS_ok (Pg := Try.prog) (ops := ops) (P := P + 6000 + 1 + 1) (a := a) (G := GInt (-100) 1000) (d := 10) Hr7.out.lt (show R < gm + 1 by omega) HC7.out.o
                  obtain ⟨zm, p0, p1, p2, p3⟩ := HC7.out.cells
                  have hneO : ¬ (gm = R ∨ (Value.slice Ao os.length co).ownBlock = some gm) := fun e => by
                    rcases e with e | e
                    · omega
                    · have := (HC7.out.o.lt gm e).1; omega
                  refine wp_region_rsl (rdRS Try.prog _ R (P + 6000 + 1 + 1) w7 _ (gm + 1) 3 (.slice Ao os.length co) os.length (ints os) (GInt (-100) 1000) 10) (hO _ _) (by kernel_rfl) (by kernel_rfl) (by kernel_rfl) 12 _ rfl rfl (by kernel_rfl) (show (10 : Nat) < 12 by decide) Hr7.out HC7.out.o ?_
                  obtain ⟨i0, hi0, hz0, hz1, hz2⟩ := info_parts info_int
                  apply rs_eq (hO _ _) (.inl (Nat.ne_of_beq_eq_false rfl))
                  · intro ρ w' ho hK
                    obtain ⟨h0, -⟩ := hK
                    have h0' : ρ (.tmp 5) = .pointer (some ⟨gm, 0, none⟩) := h0
                    go_simp
                    try exact rfl
                  apply rs_eq (hO _ _) (.inl (Nat.ne_of_beq_eq_false rfl))
                  · intro ρ w' ho hK
                    obtain ⟨h0, -⟩ := hK
                    have h0' : ρ (.tmp 122) = .pointer (some ⟨gm, 3, none⟩) := h0
                    have q1 := cell_on ho hneO zm p3
                    go_simp
                    try exact rfl
                  refine rs_old (hO _ _) (.inl (Nat.ne_of_beq_eq_false rfl)) _ (.inl rfl) _ rfl rfl ?_
                  apply rs_eq (hO _ _) (.inl (Nat.ne_of_beq_eq_false rfl))
                  · intro ρ w' ho hK
                    obtain ⟨h0, h1, -⟩ := hK
                    have h0' : ρ (.const (.int .i64 2)) = .int .i64 2 := h0
                    have h1' : ρ (.tmp 124) = .int .i64 M := h1
                    have hwr := IntWalk.i64_in (2 * M) (by omega)
                    go_simp
                    try exact rfl
                  refine rs_build (hO _ _) (.inl (Nat.ne_of_beq_eq_false rfl)) 2 (GInt (-100) 1000) 3 (fun ρ w hK => by
                    obtain ⟨h1, h2, -⟩ := hK
                    have h1' : ρ (.const (.int .i64 (-1))) = .int .i64 (-1) := h1
                    have h2' : ρ (.tmp 125) = .int .i64 (2 * M) := h2
                    refine ⟨#[.int .i64 (-1), .int .i64 (2 * M)], rfl, ?_, ?_⟩
                    · go_simp
                    · intro c hc
                      simp at hc
                      rcases hc with rfl | rfl
                      · exact ⟨-1, rfl, by omega, by omega⟩
                      · exact ⟨2 * M, rfl, by omega, by omega⟩) ?_
                  refine rs_old (hO _ _) (.inl (Nat.ne_of_beq_eq_false rfl)) _ (.inl rfl) _ rfl rfl ?_
                  refine rs_pick (hO _ _) (.inl (Nat.ne_of_beq_eq_false rfl)) 33 _ _ _ R (P + 6000 + 1 + 1) 1 rfl rfl fn_draw (fun ρ w hK => ⟨hK.1, hK.2.1, 2, hK.2.2.1, by omega, by omega⟩) (fun n k w hk h1n hn hr => pick_upto n 1 _ _ w hr (by have hk' : k < 13 := hk; omega) h1n hn (by omega)) ?_
                  refine rs_index (hO _ _) (.inl (Nat.ne_of_beq_eq_false rfl)) 23 _ _ 2 (GInt (-100) 1000) 1 rfl _ _ rfl rfl rfl rfl (by omega) (by omega) ix_drawn ?_
                  refine rs_load (hO _ _) (.inl (Nat.ne_of_beq_eq_false rfl)) 3 _ (GInt (-100) 1000) rfl _ rfl rfl ag_drawn ?_
                  refine rs_build (hO _ _) (.inl (Nat.ne_of_beq_eq_false rfl)) 1 (GInt (-100) 1000) 3 (fun ρ w hK => by
                    obtain ⟨⟨q, hq, hq0, hq1⟩, -⟩ := hK
                    have h' : ρ (.tmp 130) = .int .i64 q := hq
                    refine ⟨#[.int .i64 q], rfl, ?_, ?_⟩
                    · go_simp
                    · intro c hc
                      simp at hc
                      exact ⟨q, hc, by omega, by omega⟩) ?_
                  refine rs_appendV rfl (gm + 1) 3 23 (.slice Ao os.length co) os.length (ints os) (GInt (-100) 1000) rfl R (P + 6000 + 1 + 1) rfl (fun g hg => .inr hg) (show R < gm + 1 by omega) zm _ _ rfl _ _ rfl rfl rfl rfl i0 _ 8 Try.underlying23 hi0 hz0 hz1 hz2 rfl (by omega) (by decide) (fun u hu => by obtain ⟨q, rfl, -⟩ := hu; rfl) ?_
                  apply rs_eq (hO _ _) (.inl (Nat.ne_of_beq_eq_false rfl))
                  · intro ρ w' ho hK
                    obtain ⟨h0, -⟩ := hK
                    have h0' : ρ (.tmp 5) = .pointer (some ⟨gm, 0, none⟩) := h0
                    go_simp
                    try exact rfl
                  intro f w9 k9 hk9 hI9 ht9 hcp9
                  have E0 : f 0 = _ := ht9 0 (Nat.le_of_ble_eq_true rfl)
                  have E1 : f 1 = _ := ht9 1 (Nat.le_of_ble_eq_true rfl)
                  have E2 : f 2 = _ := ht9 2 (Nat.le_of_ble_eq_true rfl)
                  have E3 : f 3 = _ := ht9 3 (Nat.le_of_ble_eq_true rfl)
                  have E5 : f 5 = _ := ht9 5 (Nat.le_of_ble_eq_true rfl)
                  have E11 : f 11 = _ := ht9 11 (Nat.le_of_ble_eq_true rfl)
                  have Hr9 : Rd w9 R (P + 6000 + 1 + 1 + 40 * k9) := hI9.1
                  have HE9 : Only (fun g => g = R ∨ (Value.slice Ao os.length co).ownBlock = some g) w7 w9 := hI9.2.1
                  have HJ9 : (∃ u, GInt (-100) 1000 u ∧ w9.ownsRow (gm + 1) 3 1 (f 10) (os.length + 1) (ints os ++ [u])) ∧ ∀ g, (f 10).ownBlock = some g → (Value.slice Ao os.length co).ownBlock = some g ∨ w7.heap.size ≤ g := hI9.2.2
                  have hk9' : k9 ≤ 13 := hk9
                  simp only [putAll, E0, E1, E2, E3, E5, E11, Nat.zero_add, Nat.reduceAdd, Act.put, List.take, List.setIfInBounds_toArray, List.set_cons_succ, List.set_cons_zero, List.getElem_toArray, List.getElem_cons_succ, List.getElem_cons_zero]
                  clear E0 E1 E2 E3 E5 E11 hI9 ht9 hcp9 hk9 hO
                  generalize f 4 = r4, f 6 = r6, f 7 = r7, f 8 = r8, f 9 = r9 at *
                  generalize f 10 = v9 at *
                  obtain ⟨⟨uu, ⟨q, rfl, hq0, hq1⟩, hown9⟩, hat9⟩ := HJ9
                  obtain ⟨A9, c9, e9⟩ := slice_of_own hown9
                  subst e9
                  have Ho9 := Lib.hid hown9
                  have Hat9 := Lib.hid hat9
                  have HE9' := Lib.hid HE9
                  have Hr9' := Lib.hid (Hr9.more (show P + 6000 + 1 + 1 + 40 * k9 ≤ P + 7000 by omega))
                  clear p0 p1 p2 p3
                  have hbx := (HE9.block gm zm hneO).trans HC7.out.box
                  have zf := blk_lt hbx
                  have f0 := blk_cell hbx 0
                  have f1 := blk_cell hbx 1
                  have f2 := blk_cell hbx 2
                  have f3 := blk_cell hbx 3
                  have ff3 := blk_free hbx 3
                  have HX9 := Lib.hid ((HE9.block _ (blk_lt HX7.out) (fun e => by
                    rcases e with h | h
                    · omega
                    · have := (HC7.out.o.lt _ h).1; omega)).trans HX7.out)
                  have o0 := blk_cell HX9.out 0
                  have o1 := blk_cell HX9.out 1
                  have o2 := blk_cell HX9.out 2
                  have o3 := blk_cell HX9.out 3
                  have b0 := blk_free HX9.out 0
                  have b1 := blk_free HX9.out 1
                  have b2 := blk_free HX9.out 2
                  have b3 := blk_free HX9.out 3
                  have zr := blk_lt HX9.out
                  simp at f0 f1 f2 f3 o0 o1 o2 o3
                  clear hown9 hat9 HE9 Hr9 hbx hk9' hi0 hz0 hz1 hz2
                  go_wp2_with fail
                  refine bodyPost_ret (v := .agg #[.int .i64 x, .slice An ns.length cn, .slice Ag gs.length cg, .slice A9 (os.length + 1) c9]) (by simp [results, Try.results32, go_sem, o0, o1, o2, o3]) rfl (finC (c := ⟨x, ns, gs, os ++ [q]⟩) (HC7.out.addO (xs := os ++ [q]) HE9'.out (fun g hg hn e => e.elim (fun e => by omega) hn) (by rw [List.length_append, ints_snoc]; exact Ho9.out) Hat9.out) (only_set (HO7.out.aft HE9'.out fun g hg => hg.elim .inr fun h => .inl (by have := (HC7.out.o.lt g h).1; omega)) (by omega)) (rd_set Hr9'.out (by omega)) (by omega) zR (by omega) ⟨by simp only; omega, by simp only; omega, by simp only; omega, by simp only; omega, by simp; omega, Hn.out, Hl.out, (fun q hq => by
                      rcases List.mem_append.1 hq with h | h
                      · exact Hos.out q h
                      · rw [List.mem_singleton.1 h]
                        exact ⟨hq0, hq1⟩)⟩ _ _ _ _)
                · have hneK : (Value.slice An ns.length cn).ownBlock ≠ some gm := fun e => by have := (HC7.out.n.lt gm e).1; omega
                  obtain ⟨zm, p0, p1, p2, p3⟩ := HC7.out.cells
                  have Hlit := Lib.hid (Row.of_own (World.ownsRow_lit (base := w7.heap.size) (e := 3) (size := 1) w7 #[.int .i64 (-1)] 1 (Nat.le_refl _) (by unfold maxLen; omega) rfl))
                  go_wp2_with (
                    at_builtin
                    refine append_ints rfl (.tmp 137) (.tmp 138) rfl (gm + 1) _ ns.length _ rfl (HC7.out.n.alloc _) _ 1 [.int .i64 (-1)] rfl Hlit.out (by simp [Value.oneCell']) (by omega) (by simp; omega) ?_
                    intro v9 w9 hown9 hg9 hat9
                    obtain ⟨A9, c9, e9⟩ := slice_of_own hown9
                    subst e9
                    have Ho9 := Lib.hid hown9
                    have HE9 := Lib.hid (app_only hg9)
                    have Hr9 := Lib.hid (app_rd Hr7.out hg9 HC7.out.n (by omega))
                    have Hat9 := Lib.hid (app_at hat9)
                    clear p0 p1 p2 p3
                    have hbx := (HE9.out.block gm zm hneK).trans HC7.out.box
                    have zf := blk_lt hbx
                    have f0 := blk_cell hbx 0
                    have f1 := blk_cell hbx 1
                    have f2 := blk_cell hbx 2
                    have f3 := blk_cell hbx 3
                    have ff1 := blk_free hbx 1
                    have HX9 := Lib.hid ((HE9.out.block _ (blk_lt HX7.out) (fun e => by have := (HC7.out.n.lt _ e).1; omega)).trans HX7.out)
                    have o0 := blk_cell HX9.out 0
                    have o1 := blk_cell HX9.out 1
                    have o2 := blk_cell HX9.out 2
                    have o3 := blk_cell HX9.out 3
                    have b0 := blk_free HX9.out 0
                    have b1 := blk_free HX9.out 1
                    have b2 := blk_free HX9.out 2
                    have b3 := blk_free HX9.out 3
                    have zr := blk_lt HX9.out
                    simp at f0 f1 f2 f3 o0 o1 o2 o3
                    clear hown9 hg9 hat9 hbx)
                  refine bodyPost_ret (v := .agg #[.int .i64 x, .slice A9 (ns.length + 1) c9, .slice Ag gs.length cg, .slice Ao os.length co]) (by simp [results, Try.results32, go_sem, o0, o1, o2, o3]) rfl (finC (c := ⟨x, ns ++ [-1], gs, os⟩) (HC7.out.addN (xs := ns ++ [-1]) HE9.out (fun g _ hn => hn) (by rw [List.length_append, ints_snoc]; exact Ho9.out) Hat9.out) (only_set (HO7.out.aft HE9.out fun g hg => .inl (by have := (HC7.out.n.lt g hg).1; omega)) (by omega)) (rd_set Hr9.out (by omega)) (by omega) zR (by omega) ⟨by simp only; omega, by simp only; omega, by simp; omega, by simp only; omega, by simp only; omega, (fun q hq => by
                      rcases List.mem_append.1 hq with h | h
                      · exact Hn.out q h
                      · rw [List.mem_singleton.1 h]
                        exact ⟨by omega, by omega⟩), Hl.out, Hos.out⟩ _ _ _ _)
                · have hneK : (Value.slice Ag gs.length cg).ownBlock ≠ some gm := fun e => by have := (HC7.out.g.lt gm e).1; omega
                  obtain ⟨zm, p0, p1, p2, p3⟩ := HC7.out.cells
                  have Hlit := Lib.hid (Row.of_own (World.ownsRow_lit (base := w7.heap.size) (e := 72) (size := 2) w7 #[.int .i64 (2 * M), .int .i64 0] 1 (Nat.le_refl _) (by unfold maxLen; omega) rfl))
                  go_wp2_with (
                    at_builtin
                    refine append_gates rfl (.tmp 144) (.tmp 148) rfl (gm + 1) _ gs.length _ rfl (HC7.out.g.alloc _) _ 1 [.int .i64 (2 * M), .int .i64 0] rfl Hlit.out (by simp [Value.oneCell']) (by omega) (by simp; omega) ?_
                    intro v9 w9 hown9 hg9 hat9
                    obtain ⟨A9, c9, e9⟩ := slice_of_own hown9
                    subst e9
                    have Ho9 := Lib.hid hown9
                    have HE9 := Lib.hid (app_only hg9)
                    have Hr9 := Lib.hid (app_rd Hr7.out hg9 HC7.out.g (by omega))
                    have Hat9 := Lib.hid (app_at hat9)
                    clear p0 p1 p2 p3
                    have hbx := (HE9.out.block gm zm hneK).trans HC7.out.box
                    have zf := blk_lt hbx
                    have f0 := blk_cell hbx 0
                    have f1 := blk_cell hbx 1
                    have f2 := blk_cell hbx 2
                    have f3 := blk_cell hbx 3
                    have ff2 := blk_free hbx 2
                    have HX9 := Lib.hid ((HE9.out.block _ (blk_lt HX7.out) (fun e => by have := (HC7.out.g.lt _ e).1; omega)).trans HX7.out)
                    have o0 := blk_cell HX9.out 0
                    have o1 := blk_cell HX9.out 1
                    have o2 := blk_cell HX9.out 2
                    have o3 := blk_cell HX9.out 3
                    have b0 := blk_free HX9.out 0
                    have b1 := blk_free HX9.out 1
                    have b2 := blk_free HX9.out 2
                    have b3 := blk_free HX9.out 3
                    have zr := blk_lt HX9.out
                    simp at f0 f1 f2 f3 o0 o1 o2 o3
                    clear hown9 hg9 hat9 hbx)
                  refine bodyPost_ret (v := .agg #[.int .i64 x, .slice An ns.length cn, .slice A9 (gs.length + 1) c9, .slice Ao os.length co]) (by simp [results, Try.results32, go_sem, o0, o1, o2, o3]) rfl (finC (c := ⟨x, ns, gs ++ [(2 * M, 0)], os⟩) (HC7.out.addG (xs := gs ++ [(2 * M, 0)]) HE9.out (fun g _ hn => hn) (by rw [List.length_append, cubes_append]; exact Ho9.out) Hat9.out) (only_set (HO7.out.aft HE9.out fun g hg => .inl (by have := (HC7.out.g.lt g hg).1; omega)) (by omega)) (rd_set Hr9.out (by omega)) (by omega) zR (by omega) ⟨by simp only; omega, by simp only; omega, by simp only; omega, by simp; omega, by simp only; omega, Hn.out, (fun q hq => by
                      rcases List.mem_append.1 hq with h | h
                      · exact Hl.out q h
                      · rw [List.mem_singleton.1 h]
                        exact ⟨⟨by simp only; omega, by simp only; omega⟩, by simp only; omega, by simp only; omega⟩), Hos.out⟩ _ _ _ _)
                · obtain ⟨W4, hW4⟩ : ∃ W4, W4 = w7 := ⟨_, rfl⟩
                  subst hW4
                  have Hr8 := Lib.hid (Hr7.out.more (show P + 6000 + 1 + 1 ≤ P + 7000 by omega))
                  go_wp2_with fail
                  go_loopw [] (fun wr => ∃ (hs : List (Int × Int)) (vH : Value), hs.length ≤ 15 ∧ Hid (∀ q ∈ hs, LitS q.1 ∧ LitS q.2) ∧ Hid (CB gm ⟨x, ns, hs, os⟩ (.slice An ns.length cn) vH (.slice Ao os.length co) wr) ∧ Hid (Rd wr R (P + 7000)) ∧ Hid (Only (· = R) w wr) ∧ Hid (wr.heap[w.heap.size]? = some (.cells #[.int .i64 0, .slice none 0 0, .slice none 0 0, .slice none 0 0] 26 (0, 0)))) (fun wr => 16 - gsLen gm wr)
                  case atStart => exact ⟨gs, _, by omega, Hl, HC7, Hr8, HO7, HX7⟩
                  case round =>
                    obtain ⟨hs, vH, hhl, Hhs, HC8, Hr9, HO8, HX8⟩ := hrel
                    clear HC7 Hr7 Hr8 HO7 HX7
                    obtain ⟨Ah, ch, eh⟩ := slice_of_own HC8.out.g
                    simp only at eh
                    subst eh
                    by_cases hl14 : (hs.length : Int) ≤ 14
                    · have hneK : (Value.slice Ah hs.length ch).ownBlock ≠ some gm := fun e => by have := (HC8.out.g.lt gm e).1; omega
                      obtain ⟨zm, p0, p1, p2, p3⟩ := HC8.out.cells
                      have hgl := gsLen_is HC8.out
                      simp only at hgl
                      have Hlit := Lib.hid (Row.of_own (World.ownsRow_lit (base := wr.heap.size) (e := 72) (size := 2) wr #[.int .i64 0, .int .i64 0] 1 (Nat.le_refl _) (by unfold maxLen; omega) rfl))
                      go_wp2_with (
                        at_builtin
                        refine append_gates rfl (.tmp 158) (.tmp 160) rfl (gm + 1) _ hs.length _ rfl (HC8.out.g.alloc _) _ 1 [.int .i64 0, .int .i64 0] rfl Hlit.out (by simp [Value.oneCell']) (by omega) (by simp; omega) ?_
                        intro v9 w9 hown9 hg9 hat9
                        obtain ⟨A9, c9, e9⟩ := slice_of_own hown9
                        subst e9
                        have Ho9 := Lib.hid hown9
                        have HE9 := Lib.hid (app_only hg9)
                        have Hr10 := Lib.hid (app_rd Hr9.out hg9 HC8.out.g (by omega))
                        have Hat9 := Lib.hid (app_at hat9)
                        clear p0 p1 p2 p3
                        have hbx := (HE9.out.block gm zm hneK).trans HC8.out.box
                        have q2 := blk_cell hbx 2
                        have q2f := blk_free hbx 2
                        have zq := blk_lt hbx
                        simp at q2
                        clear hown9 hg9 hat9 hbx)
                      have HCn := Lib.hid (HC8.out.addG (xs := hs ++ [(0, 0)]) HE9.out (fun g _ hn => hn) (by rw [List.length_append, cubes_append]; exact Ho9.out) Hat9.out)
                      go_roundw
                      case rel =>
                        refine ⟨hs ++ [(0, 0)], .slice A9 (hs.length + 1) c9, by simp; omega, Lib.hid fun q hq => ?_, HCn, Lib.hid ?_, Lib.hid ?_, Lib.hid ?_⟩
                        · rcases List.mem_append.1 hq with h | h
                          · exact Hhs.out q h
                          · rw [List.mem_singleton.1 h]
                            exact ⟨⟨by simp only; omega, by simp only; omega⟩, by simp only; omega, by simp only; omega⟩
                        · exact rd_set Hr10.out (by omega)
                        · exact only_set (HO8.out.aft HE9.out fun g hg => .inl (by have := (HC8.out.g.lt g hg).1; omega)) (by omega)
                        · exact res_set ((HE9.out.block _ (blk_lt HX8.out) (fun e => by have := (HC8.out.g.lt _ e).1; omega)).trans HX8.out) (by omega)
                      case measure =>
                        have h1 := gsLen_is HCn.out
                        have h2 := gsLen_is HC8.out
                        simp only [List.length_append, List.length_cons, List.length_nil] at h1 h2
                        rw [h1, h2]
                        omega
                    · obtain ⟨zf, f0, f1, f2, f3⟩ := HC8.out.cells
                      obtain ⟨ff0, ff1, ff2, ff3⟩ := HC8.out.free
                      have o0 := blk_cell HX8.out 0
                      have o1 := blk_cell HX8.out 1
                      have o2 := blk_cell HX8.out 2
                      have o3 := blk_cell HX8.out 3
                      have b0 := blk_free HX8.out 0
                      have b1 := blk_free HX8.out 1
                      have b2 := blk_free HX8.out 2
                      have b3 := blk_free HX8.out 3
                      have zr := blk_lt HX8.out
                      simp at o0 o1 o2 o3
                      go_wp2_with fail
                      refine bodyPost_ret (v := .agg #[.int .i64 x, .slice An ns.length cn, .slice Ah hs.length ch, .slice Ao os.length co]) (by simp [results, Try.results32, go_sem, o0, o1, o2, o3]) rfl (finC (c := ⟨x, ns, hs, os⟩) HC8.out HO8.out Hr9.out (by omega) zR (by omega) ⟨by simp only; omega, by simp only; omega, by simp only; omega, by simp only; omega, by simp only; omega, Hn.out, Hhs.out, Hos.out⟩ _ _ _ _)
                · have hneK : (Value.slice Ao os.length co).ownBlock ≠ some gm := fun e => by have := (HC7.out.o.lt gm e).1; omega
                  obtain ⟨zm, p0, p1, p2, p3⟩ := HC7.out.cells
                  have Hlit := Lib.hid (Row.of_own (World.ownsRow_lit (base := w7.heap.size) (e := 3) (size := 1) w7 #[.int .i64 0, .int .i64 0, .int .i64 0, .int .i64 0] 4 (Nat.le_refl _) (by unfold maxLen; omega) rfl))
                  go_wp2_with (
                    at_builtin
                    refine append_ints rfl (.tmp 108) (.tmp 109) rfl (gm + 1) _ os.length _ rfl (HC7.out.o.alloc _) _ 4 [.int .i64 0, .int .i64 0, .int .i64 0, .int .i64 0] rfl Hlit.out (by simp [Value.oneCell']) (by omega) (by simp; omega) ?_
                    intro v9 w9 hown9 hg9 hat9
                    obtain ⟨A9, c9, e9⟩ := slice_of_own hown9
                    subst e9
                    have Ho9 := Lib.hid hown9
                    have HE9 := Lib.hid (app_only hg9)
                    have Hr9 := Lib.hid (app_rd Hr7.out hg9 HC7.out.o (by omega))
                    have Hat9 := Lib.hid (app_at hat9)
                    clear p0 p1 p2 p3
                    have hbx := (HE9.out.block gm zm hneK).trans HC7.out.box
                    have zf := blk_lt hbx
                    have f0 := blk_cell hbx 0
                    have f1 := blk_cell hbx 1
                    have f2 := blk_cell hbx 2
                    have f3 := blk_cell hbx 3
                    have ff3 := blk_free hbx 3
                    have HX9 := Lib.hid ((HE9.out.block _ (blk_lt HX7.out) (fun e => by have := (HC7.out.o.lt _ e).1; omega)).trans HX7.out)
                    have o0 := blk_cell HX9.out 0
                    have o1 := blk_cell HX9.out 1
                    have o2 := blk_cell HX9.out 2
                    have o3 := blk_cell HX9.out 3
                    have b0 := blk_free HX9.out 0
                    have b1 := blk_free HX9.out 1
                    have b2 := blk_free HX9.out 2
                    have b3 := blk_free HX9.out 3
                    have zr := blk_lt HX9.out
                    simp at f0 f1 f2 f3 o0 o1 o2 o3
                    clear hown9 hg9 hat9 hbx)
                  refine bodyPost_ret (v := .agg #[.int .i64 x, .slice An ns.length cn, .slice Ag gs.length cg, .slice A9 (os.length + 4) c9]) (by simp [results, Try.results32, go_sem, o0, o1, o2, o3]) rfl (finC (c := ⟨x, ns, gs, os ++ [0, 0, 0, 0]⟩) (HC7.out.addO (xs := os ++ [0, 0, 0, 0]) HE9.out (fun g _ hn => hn) (by rw [List.length_append, ints_app4]; exact Ho9.out) Hat9.out) (only_set (HO7.out.aft HE9.out fun g hg => .inl (by have := (HC7.out.o.lt g hg).1; omega)) (by omega)) (rd_set Hr9.out (by omega)) (by omega) zR (by omega) ⟨by simp only; omega, by simp only; omega, by simp only; omega, by simp only; omega, by simp; omega, Hn.out, Hl.out, (fun q hq => by
                      rcases List.mem_append.1 hq with h | h
                      · exact Hos.out q h
                      · simp at h
                        subst h
                        exact ⟨by omega, by omega⟩)⟩ _ _ _ _)
end Go.Proofs.Ytdgminjbgjbamaa
namespace Go.Proofs.Ytdgminjbgjbamaa
open Go.RowKit
def setR (w : World) (k : Nat) (a b c d : Value) : World := (((w.setCell ⟨k, 0, none⟩ a).setCell ⟨k, 1, none⟩ b).setCell ⟨k, 2, none⟩ c).setCell ⟨k, 3, none⟩ d
def Drawn (w : World) (e : Ending) (w' : World) : Prop := ∃ v c, e = .returned v ∧ OwnC w.heap.size v c w' ∧ Small c ∧ Below w.heap.size w w'
end Go.Proofs.Ytdgminjbgjbamaa
namespace Go.Proofs.Ytdgminjbgjbamaa
namespace Cir
theorem num_bit : ∀ (l : List Bool) (i : Nat), (num l).testBit i = l.getD i false
  | [], i => by simp [num]
  | b :: l, 0 => by
    rw [num, Nat.testBit_zero]
    cases b <;> simp <;> omega
  | b :: l, i + 1 => by
    rw [num, Nat.testBit_succ, show ((if b = true then 1 else 0) + 2 * num l) / 2 = num l from by cases b <;> simp <;> omega, num_bit l i]
    simp
theorem bits_num (l : List Bool) : bits (num l) l.length = l := by
  unfold bits
  apply List.ext_getElem
  · simp
  · intro i h1 h2
    simp [num_bit, List.getElem?_eq_getElem h2]
theorem bits_numL {l : List Bool} {n : Nat} (h : l.length = n) : bits (num l) n = l := h ▸ bits_num l
theorem lits_len (v : List Bool) (ls : List Nat) : (lits v ls).length = ls.length := List.length_map _
def simL (c : Ci) : List Bool → List (List Bool) → List (List Bool)
  | _, [] => []
  | st, r :: rs => lits (vals c st r) c.outs :: simL c (lits (vals c st r) c.next) rs
def runL (c : Ci) : List Bool → List (List Bool) → List Bool
  | st, [] => st
  | st, r :: rs => runL c (lits (vals c st r) c.next) rs
def runN (c : Ci) : Nat → List Nat → Nat
  | s, [] => s
  | s, x :: xs => runN c (nextOf c s x) xs
theorem runN_snoc (c : Ci) (x : Nat) : ∀ (xs : List Nat) (s : Nat), runN c s (xs ++ [x]) = nextOf c (runN c s xs) x
  | [], _ => rfl
  | y :: xs, s => by rw [List.cons_append, runN, runN_snoc c x xs, runN]
def rowsN (n : Nat) (xs : List Nat) : List (List Bool) := xs.map fun x => bits x n
theorem lits_next (c : Ci) (s x : Nat) : lits (vals c (bits s c.next.length) (bits x c.ins)) c.next = bits (nextOf c s x) c.next.length := (bits_numL (lits_len _ _)).symm
theorem bits_zero (n : Nat) : bits 0 n = List.replicate n false := by
  unfold bits
  apply List.ext_getElem
  · simp
  · intro i h1 h2; simp
theorem mem_push {l : List Nat} {n x : Nat} : x ∈ push l n ↔ x ∈ l ∨ x = n := by
  unfold push
  cases h : l.contains n
  · simp
  · have hn : n ∈ l := by simpa using h
    simp only [if_true]
    exact ⟨.inl, fun h => h.elim id fun e => e ▸ hn⟩
theorem mem_pushes {c : Ci} {s : Nat} {l : List Nat} {y : Nat} : ∀ {j : Nat}, y ∈ pushes c s j l ↔ y ∈ l ∨ ∃ x, x < j ∧ nextOf c s x = y
  | 0 => by rw [pushes_zero]; exact ⟨.inl, fun h => h.elim id fun ⟨x, hx, _⟩ => absurd hx (by omega)⟩
  | j + 1 => by
    rw [pushes_succ, mem_push, mem_pushes (j := j)]
    constructor
    · rintro ((h | ⟨x, hx, h⟩) | h)
      · exact .inl h
      · exact .inr ⟨x, by omega, h⟩
      · exact .inr ⟨j, by omega, h.symm⟩
    · rintro (h | ⟨x, hx, h⟩)
      · exact .inl (.inl h)
      · rcases Nat.lt_or_ge x j with hj | hj
        · exact .inl (.inr ⟨x, hj, h⟩)
        · exact .inr (by rw [← h, show x = j from by omega])
theorem bfs_get {c : Ci} : ∀ (f k : Nat) {l : List Nat} {i x : Nat}, l[i]? = some x → (bfs c f k l)[i]? = some x
  | 0, _, _, _, _, h => h
  | f + 1, k, l, i, x, h => by
    rw [bfs]
    split
    · exact h
    · exact bfs_get f (k + 1) (pushes_get h)
theorem bfs_closed {c : Ci} (hc : Ok c) : ∀ (f k : Nat) (l : List Nat), 9 ≤ f + k → Sts c l → k ≤ l.length → (∀ i s, i < k → l[i]? = some s → ∀ x, x < 2 ^ c.ins → nextOf c s x ∈ l) → ∀ s ∈ bfs c f k l, ∀ x, x < 2 ^ c.ins → nextOf c s x ∈ bfs c f k l
  | 0, k, l, hf, hl, hk, _ => absurd (hl.len hc) (by omega)
  | f + 1, k, l, hf, hl, hk, h => by
    rw [bfs]
    cases hs : l[k]? with
    | none =>
      intro s hm x hx
      have hm : s ∈ l := hm
      obtain ⟨i, hi, rfl⟩ := List.mem_iff_getElem.1 hm
      have hkl : l.length ≤ k := by simpa using hs
      exact h i _ (by omega) (List.getElem?_eq_getElem hi) x hx
    | some t =>
      simp only
      obtain ⟨hkl, ht⟩ := List.getElem?_eq_some_iff.1 hs
      obtain ⟨m, hm⟩ := pushes_prefix c t l (2 ^ c.ins)
      refine bfs_closed hc f (k + 1) _ (by omega) (hl.pushes t _) (by rw [hm, List.length_append]; omega) fun i s hi hs' x hx => ?_
      have hil : i < l.length := by omega
      rw [hm, List.getElem?_append_left hil] at hs'
      rcases Nat.lt_or_ge i k with h1 | h1
      · exact mem_pushes.2 (.inl (h i s h1 hs' x hx))
      · obtain rfl : i = k := by omega
        rw [hs] at hs'
        obtain rfl := Option.some.inj hs'
        exact mem_pushes.2 (.inr ⟨x, hx, rfl⟩)
theorem reach_closed {c : Ci} (hc : Ok c) {s x : Nat} (h : s ∈ reach c) (hx : x < 2 ^ c.ins) : nextOf c s x ∈ reach c :=
  bfs_closed hc 9 0 [0] (by omega) (Sts.zero c) (by omega) (fun i s hi => by omega) s h x hx
theorem reach_zero (c : Ci) : 0 ∈ reach c := List.mem_of_getElem? (bfs_get (c := c) 9 0 (l := [0]) (i := 0) rfl)
def Inputs (c : Ci) (p : List Nat) : Prop := ∀ x ∈ p, x < 2 ^ c.ins
theorem Inputs.snoc {c : Ci} {p : List Nat} {x : Nat} (h : Inputs c p) (hx : x < 2 ^ c.ins) : Inputs c (p ++ [x]) := fun y hy => by
  rcases List.mem_append.1 hy with h1 | h1
  · exact h y h1
  · rw [List.mem_singleton.1 h1]; exact hx
theorem run_reach {c : Ci} (hc : Ok c) : ∀ (p : List Nat) (s : Nat), s ∈ reach c → Inputs c p → runN c s p ∈ reach c
  | [], _, h, _ => h
  | x :: p, s, h, hp => run_reach hc p _ (reach_closed hc h (hp x (by simp))) fun y hy => hp y (List.mem_cons_of_mem _ hy)
theorem bfs_run {c : Ci} : ∀ (f k : Nat) (l : List Nat), (∀ s ∈ l, ∃ p, Inputs c p ∧ runN c 0 p = s) → ∀ s ∈ bfs c f k l, ∃ p, Inputs c p ∧ runN c 0 p = s
  | 0, _, _, h => h
  | f + 1, k, l, h => by
    rw [bfs]
    cases hs : l[k]? with
    | none => exact h
    | some t =>
      refine bfs_run f (k + 1) _ fun s hm => ?_
      rcases mem_pushes.1 hm with h1 | ⟨x, hx, h1⟩
      · exact h s h1
      · obtain ⟨p, hp, hr⟩ := h t (List.mem_of_getElem? hs)
        exact ⟨p ++ [x], hp.snoc hx, by rw [runN_snoc, hr, h1]⟩
theorem reach_run {c : Ci} {s : Nat} (h : s ∈ reach c) : ∃ p, Inputs c p ∧ runN c 0 p = s :=
  bfs_run 9 0 [0] (fun s hs => ⟨[], fun x hx => (by cases hx), (List.mem_singleton.1 hs).symm⟩) s h
theorem vfind_no {c : Ci} {o s M : Nat} (h : vfind c o s M = none) {x : Nat} (hx : x < M) : bad c o s x = false := by
  unfold vfind at h
  rw [List.find?_eq_none] at h
  simpa using h x (List.mem_range.2 hx)
theorem vfind_hit {c : Ci} {o s M x : Nat} (h : vfind c o s M = some x) : x < M ∧ bad c o s x = true := by
  unfold vfind at h
  exact ⟨List.mem_range.1 (List.mem_of_find?_eq_some h), List.find?_some h⟩
theorem vbfs_none {c : Ci} (hc : Ok c) (o : Nat) : ∀ (f k : Nat) (l : List (Nat × List Nat)), 9 ≤ f + k → Vs c l → k ≤ l.length →
    (vbfs c o f k l = none ↔ ∀ i s, k ≤ i → (bfs c f k (vsts l))[i]? = some s → ∀ x, x < 2 ^ c.ins → bad c o s x = false)
  | 0, k, l, hf, hl, hk => absurd (hl.size hc) (by omega)
  | f + 1, k, l, hf, hl, hk => by
    rw [vbfs, bfs]
    cases hs : l[k]? with
    | none =>
      have hkl : l.length ≤ k := by simpa using hs
      have hv : (vsts l)[k]? = none := by rw [List.getElem?_eq_none_iff, vsts_length]; exact hkl
      rw [hv]
      refine ⟨fun _ i s hi h => ?_, fun _ => rfl⟩
      simp only at h
      rw [List.getElem?_eq_none (by rw [vsts_length]; omega)] at h
      cases h
    | some sp =>
      obtain ⟨s, p⟩ := sp
      have hv := vsts_get hs
      rw [hv]
      have hkl := (List.getElem?_eq_some_iff.1 hs).1
      obtain ⟨m, hm⟩ := vpushes_prefix c s p l (2 ^ c.ins)
      have hget : ∀ F K L i y, (vsts l)[i]? = some y → (bfs c F K (pushes c s L (vsts l)))[i]? = some y := fun F K L i y h => bfs_get F K (pushes_get h)
      simp only
      cases hfd : vfind c o s (2 ^ c.ins) with
      | some x =>
        obtain ⟨h1, h2⟩ := vfind_hit hfd
        refine ⟨fun h => (by cases h), fun h => ?_⟩
        have := h k s (Nat.le_refl _) (hget _ _ _ _ _ hv) x h1
        rw [h2] at this; cases this
      | none =>
        have IH := vbfs_none hc o f (k + 1) (vpushes c s p (2 ^ c.ins) l) (by omega) (hl.pushes hs _ (Nat.le_refl _)) (by rw [hm, List.length_append]; omega)
        rw [vsts_vpushes] at IH
        rw [IH]
        constructor
        · intro h i t hi ht x hx
          rcases Nat.lt_or_ge k i with h1 | h1
          · exact h i t h1 ht x hx
          · obtain rfl : i = k := by omega
            rw [hget _ _ _ _ _ hv] at ht
            obtain rfl := Option.some.inj ht
            exact vfind_no hfd hx
        · exact fun h i t hi ht x hx => h i t (by omega) ht x hx
theorem viol_none {c : Ci} (hc : Ok c) {o : Nat} : viol c o = none ↔ ∀ s ∈ reach c, ∀ x, x < 2 ^ c.ins → bad c o s x = false := by
  rw [viol, vbfs_none hc o 9 0 _ (by omega) (Vs.zero c) (by omega)]
  constructor
  · intro h s hs x hx
    obtain ⟨i, hi, rfl⟩ := List.mem_iff_getElem.1 hs
    exact h i _ (Nat.zero_le _) (List.getElem?_eq_getElem hi) x hx
  · exact fun h i s _ hs x hx => h s (List.mem_of_getElem? hs) x hx
def clean (c : Ci) (o : Nat) : Nat → List Nat → Bool
  | _, [] => true
  | s, x :: xs => !bad c o s x && clean c o (nextOf c s x) xs
def Paths (c : Ci) (o : Nat) (l : List (Nat × List Nat)) : Prop := ∀ e ∈ l, Inputs c e.2 ∧ runN c 0 e.2 = e.1 ∧ clean c o 0 e.2 = true
end Cir
end Go.Proofs.Ytdgminjbgjbamaa
namespace Go.Proofs.Ytdgminjbgjbamaa
namespace Mac
def stepN (m : Mz) (s : Nat) (x : Int) : Nat := ((m.next.getD s []).getD x.toNat 0).toNat
def stepO (m : Mz) (s : Nat) (x : Int) : Int := (m.out.getD s []).getD x.toNat 0
def st (m : Mz) (ins : List Int) : Nat := ins.foldl (stepN m) 0
def outs (m : Mz) : Nat → List Int → List Int
  | _, [] => []
  | s, x :: xs => stepO m s x :: outs m (stepN m s x) xs
def inRange (m : Mz) (x : Int) : Bool := inOk ((2 ^ m.ins.toNat : Nat) : Int) x
def runOk (m : Mz) (ins : List Int) : Bool := valid m && decide (ins.length ≤ 40) && ins.all (inRange m)
def runI (m : Mz) (ins : List Int) : List Int := if runOk m ins then outs m 0 ins else []
theorem valid_row {m : Mz} (h : valid m = true) {s : Nat} (hs : s < m.next.length) {x : Nat} (hx : x < 2 ^ m.ins.toNat) :
    ∃ r q y o, m.next[s]? = some r ∧ m.out[s]? = some q ∧ r.length = 2 ^ m.ins.toNat ∧ q.length = 2 ^ m.ins.toNat ∧ r[x]? = some ((y : Nat) : Int) ∧ y < m.next.length ∧ q[x]? = some o ∧ 0 ≤ o ∧ o < 8 ∧ stepN m s x = y ∧ stepO m s x = o := by
  unfold valid at h
  rw [Bool.and_eq_true, Bool.and_eq_true] at h
  obtain ⟨h0, h1, h2⟩ := h
  unfold sizes at h0
  rw [decide_eq_true_eq] at h0
  obtain ⟨_, _, _, _, h5⟩ := h0
  have hso : s < m.out.length := by omega
  have e1 : m.next[s]? = some m.next[s] := List.getElem?_eq_getElem hs
  have e2 : m.out[s]? = some m.out[s] := List.getElem?_eq_getElem hso
  have g1 := List.all_eq_true.1 h1 _ (List.getElem_mem hs)
  have g2 := List.all_eq_true.1 h2 _ (List.getElem_mem hso)
  generalize m.next[s] = r at e1 g1
  generalize m.out[s] = q at e2 g2
  unfold rowOk lenOk at g1 g2
  rw [Bool.and_eq_true, decide_eq_true_eq] at g1 g2
  have l1 : r.length = 2 ^ m.ins.toNat := by omega
  have l2 : q.length = 2 ^ m.ins.toNat := by omega
  have f1 : r[x]? = some (r[x]'(by omega)) := List.getElem?_eq_getElem _
  have f2 : q[x]? = some (q[x]'(by omega)) := List.getElem?_eq_getElem _
  have k1 := List.all_eq_true.1 g1.2 _ (List.getElem_mem (show x < r.length by omega))
  have k2 := List.all_eq_true.1 g2.2 _ (List.getElem_mem (show x < q.length by omega))
  generalize r[x]'(by omega) = y at f1 k1
  generalize q[x]'(by omega) = o at f2 k2
  unfold inOk at k1 k2
  rw [decide_eq_true_eq] at k1 k2
  obtain ⟨y', rfl⟩ := Int.eq_ofNat_of_zero_le k1.1
  refine ⟨r, q, y', o, e1, e2, l1, l2, f1, by omega, f2, k2.1, k2.2, ?_, ?_⟩
  · unfold stepN
    simp [List.getD_eq_getElem?_getD, e1, f1]
  · unfold stepO
    simp [List.getD_eq_getElem?_getD, e2, f2]
end Mac
end Go.Proofs.Ytdgminjbgjbamaa
namespace Go.Proofs.Ytdgminjbgjbamaa
open Go.RowKit
def TStep (so st : List Bool) : Ty := fun w v => ∃ a b, v = .agg #[a, b] ∧ BoolsAt w a so ∧ BoolsAt w b st
end Go.Proofs.Ytdgminjbgjbamaa
namespace Go.Proofs.Ytdgminjbgjbamaa
open Go.RowKit
namespace Cir
def evalOk (c : Cz) (st inp : List Int) : Bool := valid c && (decide (st.length = c.next.length) && (decide ((inp.length : Int) = c.ins) && (st.all tern && inp.all tern)))
def evalT (c : Cz) (st inp : List Int) : List Int := if evalOk c st inp = true then nats (tvals (nat c) (st.map Int.toNat) (inp.map Int.toNat)) else []
end Cir
end Go.Proofs.Ytdgminjbgjbamaa
namespace Go.Proofs.Ytdgminjbgjbamaa
open Go.RowKit
def Cir.reachI (c : Cz) : List Int := if Cir.valid c then nats (Cir.reach (Cir.nat c)) else []
end Go.Proofs.Ytdgminjbgjbamaa
namespace Go.Proofs.Ytdgminjbgjbamaa
open Go.RowKit
end Go.Proofs.Ytdgminjbgjbamaa
namespace Go.Proofs.Ytdgminjbgjbamaa
open Go.RowKit
def idxFrom : Nat → List Nat → Nat → Int
  | _, [], _ => -1
  | k, x :: l, n => if x = n then (k : Int) else idxFrom (k + 1) l n
def idxOf (l : List Nat) (n : Nat) : Int := idxFrom 0 l n
end Go.Proofs.Ytdgminjbgjbamaa
namespace Go.Proofs.Ytdgminjbgjbamaa
open Go.RowKit
namespace Cir
def rowN (d : Ci) (s : Nat) : List Nat := (List.range (2 ^ d.ins)).map (nextOf d s)
def rowO (d : Ci) (s : Nat) : List Nat := (List.range (2 ^ d.ins)).map fun x => num (outsOf d s x)
def rowI (d : Ci) (s : Nat) : List Int := (rowN d s).map (idxOf (reach d))
def machN (d : Ci) : Mz := { ins := d.ins, next := (reach d).map (rowI d), out := (reach d).map fun s => nats (rowO d s) }
def machI (c : Cz) : Mz := if valid c then machN (nat c) else { ins := 0, next := [], out := [] }
end Cir
def OwnTwo (xs ys : List Int) (w : World) (e : Ending) (w' : World) : Prop := ∃ a b, e = .returned (.tuple #[a, b]) ∧ w'.ownsRow w.heap.size 3 1 a xs.length (ints xs) ∧ w'.ownsRow w.heap.size 3 1 b ys.length (ints ys) ∧ Apart a b ∧ Below w.heap.size w w'
end Go.Proofs.Ytdgminjbgjbamaa
namespace Go.Proofs.Ytdgminjbgjbamaa
namespace Cir
def outN (c : Ci) : Nat → List Nat → List Nat
  | _, [] => []
  | s, x :: xs => num (outsOf c s x) :: outN c (nextOf c s x) xs
end Cir
end Go.Proofs.Ytdgminjbgjbamaa
namespace Go.Proofs.Ytdgminjbgjbamaa
namespace Mac
def cg (C : List Nat) (s : Nat) : Nat := C.getD s 0
def least (R : Nat → Bool) : Nat → Nat → Nat
  | 0, j => j
  | f + 1, j => if R j then j else least R f (j + 1)
section
variable {κ : Type} [DecidableEq κ]
def mkK (key : Nat → κ) (n : Nat) : List Nat := (List.range n).map fun s => least (fun t => decide (key t = key s)) s 0
end
structure Cl (n : Nat) (C : List Nat) : Prop where
  len : C.length = n
  le : ∀ s, s < n → cg C s ≤ s
  root : ∀ s, s < n → cg C (cg C s) = cg C s
def Finer (n : Nat) (C' C : List Nat) : Prop := ∀ a b, a < n → b < n → cg C' a = cg C' b → cg C a = cg C b
def roots (n : Nat) (C : List Nat) : Nat := (List.range n).countP fun s => cg C s == s
end Mac
end Go.Proofs.Ytdgminjbgjbamaa
namespace Go.Proofs.Ytdgminjbgjbamaa
namespace Mac
def nrow (next : List (List Int)) (a : Nat) : List Int := next.getD a []
def key0 (out : List (List Int)) (a : Nat) : List Int := out.getD a []
def keyI (next : List (List Int)) (C : List Nat) (a : Nat) : Nat × List Nat := (cg C a, (nrow next a).map fun y => cg C y.toNat)
def keyS (next out : List (List Int)) (C : List Nat) (a : Nat) : Nat × List Int × List Nat := (cg C a, key0 out a, (nrow next a).map fun y => cg C y.toNat)
def seqI (next out : List (List Int)) : Nat → List Nat
  | 0 => mkK (key0 out) next.length
  | k + 1 => mkK (keyI next (seqI next out k)) next.length
def seqS (next out : List (List Int)) : Nat → List Nat
  | 0 => List.replicate next.length 0
  | k + 1 => mkK (keyS next out (seqS next out k)) next.length
def classI (next out : List (List Int)) : List Nat := seqI next out (next.length + 1)
def classS (next out : List (List Int)) : List Nat := seqS next out (next.length + 1)
structure Tab where
  n : Nat
  M : Nat
  nx : Nat → Nat → Nat
  ou : Nat → Nat → Int
  pos : 0 < M
  lt : ∀ s x, s < n → nx s x < n
  nmod : ∀ s x, nx s (x % M) = nx s x
  omod : ∀ s x, ou s (x % M) = ou s x
def beh (T : Tab) : Nat → List Nat → List Int
  | _, [] => []
  | s, x :: xs => T.ou s x :: beh T (T.nx s x) xs
structure Rows (T : Tab) (next out : List (List Int)) : Prop where
  len : next.length = T.n
  row : ∀ a, a < T.n → nrow next a = (List.range T.M).map fun x => ((T.nx a x : Nat) : Int)
  outs : ∀ a, a < T.n → key0 out a = (List.range T.M).map (T.ou a)
end Mac
end Go.Proofs.Ytdgminjbgjbamaa
namespace Go.Proofs.Ytdgminjbgjbamaa
namespace Mac
section
variable {α : Type} [DecidableEq α]
def pushG (l : List α) (a : α) : List α := if a ∈ l then l else l ++ [a]
def pushesG (l xs : List α) : List α := xs.foldl pushG l
def bfsG (succ : α → List α) : Nat → Nat → List α → List α
  | 0, _, l => l
  | f + 1, k, l => match l[k]? with
    | none => l
    | some s => bfsG succ f (k + 1) (pushesG l (succ s))
def idxG (l : List α) (a : α) : Nat := l.findIdx fun b => decide (b = a)
end
section
variable {α β : Type} [DecidableEq α] [DecidableEq β] {f : α → β} {P : α → Prop}
end
theorem nodup_lt : ∀ (N : Nat) (l : List Nat), l.Nodup → (∀ x ∈ l, x < N) → l.length ≤ N
  | 0, l, _, h => by
    cases l with
    | nil => simp
    | cons a l => exact absurd (h a (by simp)) (by omega)
  | N + 1, l, hn, h => by
    by_cases hm : N ∈ l
    · have h1 := nodup_lt N (l.erase N) (hn.erase N) (fun x hx => by
        have h2 := (List.Nodup.mem_erase_iff hn).1 hx
        have h3 := h x h2.2
        have h4 := h2.1
        omega)
      rw [List.length_erase_of_mem hm] at h1
      omega
    · have := nodup_lt N l hn (fun x hx => by
        have h3 := h x hx
        have h4 : x ≠ N := fun e => hm (e ▸ hx)
        omega)
      omega
def succL (next : List (List Int)) (C : List Nat) (s : Nat) : List Nat := (nrow next s).map fun y => cg C y.toNat
def ordL (next : List (List Int)) (C : List Nat) : List Nat := bfsG (succL next C) 9 0 [0]
def minL (ins : Int) (next out : List (List Int)) (C : List Nat) : Mz :=
  ⟨ins, (ordL next C).map fun s => (succL next C s).map fun c => ((idxG (ordL next C) c : Nat) : Int), (ordL next C).map (key0 out)⟩
def zeroM : Mz := ⟨0, [], []⟩
def minI (m : Mz) : Mz := if valid m then minL m.ins m.next m.out (classI m.next m.out) else zeroM
def minS (m : Mz) : Mz := if valid m then minL m.ins m.next m.out (classS m.next m.out) else zeroM
def nextB (β : List Nat → List Int) (x : Nat) : List Nat → List Int := fun xs => (β (x :: xs)).tail
def outB (β : List Nat → List Int) (x : Nat) : Int := (β [x]).headD 0
open Classical in
noncomputable def succB (M : Nat) (β : List Nat → List Int) : List (List Nat → List Int) := (List.range M).map (nextB β)
open Classical in
noncomputable def ordB (M : Nat) (β : List Nat → List Int) : List (List Nat → List Int) := bfsG (succB M) 9 0 [β]
open Classical in
noncomputable def buildB (ins : Int) (M : Nat) (β : List Nat → List Int) : Mz :=
  ⟨ins, (ordB M β).map fun γ => (succB M γ).map fun c => ((idxG (ordB M β) c : Nat) : Int), (ordB M β).map fun γ => (List.range M).map (outB γ)⟩
section
variable {T : Tab} {next out : List (List Int)} (h : Rows T next out)
include h
def Rep (T : Tab) (C : List Nat) (s : Nat) : Prop := s < T.n ∧ cg C s = s
end
end Mac
end Go.Proofs.Ytdgminjbgjbamaa