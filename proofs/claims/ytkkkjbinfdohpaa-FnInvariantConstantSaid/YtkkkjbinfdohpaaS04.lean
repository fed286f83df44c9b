import Derived.Test.YtkkkjbinfdohpaaS03
import Derived.Test.YtkkkjbinfdohpaaS02
import Derived.Test.YtkkkjbinfdohpaaS01
set_option linter.unusedVariables false
set_option linter.unusedSimpArgs false
namespace Go.Proofs.Ytkkkjbinfdohpaa
open Go.RowKit
set_option maxRecDepth 100000
/-! A drawn circuit: the walk. -/
set_option maxHeartbeats 16000000 in
theorem l20Circuit_any (R P : Nat) (n : Int) (w : World) (h : Rd w R P) (hP : P ≤ 100000) (h0 : 0 ≤ n) (h1 : n ≤ 1000) :
    Calls Try.prog 35 #[.pointer (some ⟨R, 0, none⟩), .int .i64 n] w (DrewC R P w) := by
  have Hr := Lib.hid h
  have zR := h.lt
  clear h
  go_enter Try.func35, Try.ntmps35
  go_wp2_with fail
  refine (pick_any 5 _ P _ (Hr.out.alloc _) (by omega) (by omega) (by omega)).mono ?_
  rintro e w1 ⟨x, hx0, hx1, rfl, hr1, hg1⟩
  have Hr1 := Lib.hid hr1
  have HO1 := Lib.hid (only_drawn (only_alloc (Only.refl (· = R) w) _) hg1 (.inr rfl))
  have HX1 := Lib.hid (res_grown (heap_alloc_new w _) hg1 (fun e => by have := Option.some.inj e; omega))
  have z1 := hg1.size
  rw [World.size_alloc] at z1
  clear hr1 hg1 Hr
  go_wp2_with fail
  have hb2 := bel_new w1 (.cells #[.int .i64 x, .slice none 0 0, .slice none 0 0, .slice none 0 0] 26)
  have HC2 := Lib.hid (CB.start (ins := x) (w := w1) trivial)
  have Hr2 := Lib.hid (Hr1.out.alloc (.cells #[.int .i64 x, .slice none 0 0, .slice none 0 0, .slice none 0 0] 26))
  have HO2 := Lib.hid (only_alloc HO1.out (.cells #[.int .i64 x, .slice none 0 0, .slice none 0 0, .slice none 0 0] 26))
  have HX2 := Lib.hid ((hb2.block w.heap.size (by omega)).trans HX1.out)
  clear Hr1 HO1 HX1 hb2
  obtain ⟨gm, hgm⟩ : ∃ gm, gm = w1.heap.size := ⟨_, rfl⟩
  rw [← hgm] at HC2 ⊢
  have hgm1 : w.heap.size + 1 ≤ gm := by omega
  clear hgm z1
  generalize w1.alloc (.cells #[.int .i64 x, .slice none 0 0, .slice none 0 0, .slice none 0 0] 26) = w2 at *
  refine (pick_any 4 _ _ _ Hr2.out (by omega) (by omega) (by omega)).mono ?_
  rintro e w3 ⟨y, hy0, hy1, rfl, hr3, hg3⟩
  have Hr3 := Lib.hid hr3
  have HO3 := Lib.hid (only_drawn HO2.out hg3 (.inr rfl))
  have HX3 := Lib.hid (res_grown HX2.out hg3 (fun e => by have := Option.some.inj e; omega))
  have HC3 := Lib.hid (HC2.out.drawn hg3 (by omega))
  clear hr3 hg3 Hr2 HO2 HX2 HC2
  obtain ⟨zm, p0, -⟩ := HC3.out.cells
  go_wp2_with fail
  refine (pick_any 15 _ _ _ Hr3.out (by omega) (by omega) (by omega)).mono ?_
  rintro e w4 ⟨k0, hk0, hk1, rfl, hr4, hg4⟩
  have Hr4 := Lib.hid hr4
  have HO4 := Lib.hid (only_drawn HO3.out hg4 (.inr rfl))
  have HX4 := Lib.hid (res_grown HX3.out hg4 (fun e => by have := Option.some.inj e; omega))
  have HC4 := Lib.hid (HC3.out.drawn hg4 (by omega))
  clear hr4 hg4 Hr3 HO3 HX3 HC3 zm p0
  go_wp2_with fail
  go_loopw [7, 8] (fun m k wr => ∃ (M K : Int) (gs : List (Int × Int)) (vG : Value), m = .int .i64 M ∧ k = .int .i64 K ∧ 0 ≤ K ∧ gs.length + K ≤ 14 ∧ 1 ≤ M ∧ M ≤ 8 + gs.length ∧ Hid (∀ q ∈ gs, LitS q.1 ∧ LitS q.2) ∧ Hid (CB gm ⟨x, [], gs, []⟩ (.slice none 0 0) vG (.slice none 0 0) wr) ∧ Hid (Rd wr R (P + 100 + 10 * gs.length)) ∧ Hid (Only (· = R) w wr) ∧ Hid (wr.heap[w.heap.size]? = some (.cells #[.int .i64 0, .slice none 0 0, .slice none 0 0, .slice none 0 0] 26 (0, 0)))) (fun _ k _ => (intOf k).toNat)
  case atStart => exact ⟨_, k0, [], _, rfl, rfl, hk0, by simp; omega, by omega, by simp; omega, Lib.hid (by simp), HC4, Lib.hid (Hr4.out.more (by omega)), HO4, HX4⟩
  case round =>
    obtain ⟨M, K, gs, vG, rfl, rfl, hK, hKl, hM, hM2, Hl, HC, Hr, HO, HX⟩ := hrel
    clear HC4 Hr4 HO4 HX4
    by_cases hpos : 0 < K
    · go_wp2_with fail
      refine (pick_any (2 * M) _ _ _ Hr.out (by omega) (by omega) (by omega)).mono ?_
      rintro e w5 ⟨a, ha0, ha1, rfl, hr5, hg5⟩
      have Hr5 := Lib.hid hr5
      have HO5 := Lib.hid (only_drawn HO.out hg5 (.inr rfl))
      have HX5 := Lib.hid (res_grown HX.out hg5 (fun e => by have := Option.some.inj e; omega))
      have HC5 := Lib.hid (HC.out.drawn hg5 (by omega))
      clear hr5 hg5 Hr HO HX HC
      go_wp2_with fail
      refine (pick_any (2 * M) _ _ _ Hr5.out (by omega) (by omega) (by omega)).mono ?_
      rintro e w6 ⟨b, hb0, hb1, rfl, hr6, hg6⟩
      have Hr6 := Lib.hid hr6
      have HO6 := Lib.hid (only_drawn HO5.out hg6 (.inr rfl))
      have HX6 := Lib.hid (res_grown HX5.out hg6 (fun e => by have := Option.some.inj e; omega))
      have HC6 := Lib.hid (HC5.out.drawn hg6 (by omega))
      clear hr6 hg6 Hr5 HO5 HX5 HC5
      go_wp2_with fail
      refine (pick_any 3 _ _ _ Hr6.out (by omega) (by omega) (by omega)).mono ?_
      rintro e w7 ⟨z, hz0, hz1, rfl, hr7, hg7⟩
      have Hr7 := Lib.hid hr7
      have HO7 := Lib.hid (only_drawn HO6.out hg7 (.inr rfl))
      have HX7 := Lib.hid (res_grown HX6.out hg7 (fun e => by have := Option.some.inj e; omega))
      have HC7 := Lib.hid (HC6.out.drawn hg7 (by omega))
      clear hr7 hg7 Hr6 HO6 HX6 HC6
      by_cases hz : 0 < z
      · by_cases h6 : 2 * M < 6
        · go_wp2_with fail
          refine (pick_any (2 * M) _ _ _ Hr7.out (by omega) (by omega) (by omega)).mono ?_
          rintro e w8 ⟨u, hu0, hu1, rfl, hr8, hg8⟩
          have Hr8 := Lib.hid hr8
          have HO8 := Lib.hid (only_drawn HO7.out hg8 (.inr rfl))
          have HX8 := Lib.hid (res_grown HX7.out hg8 (fun e => by have := Option.some.inj e; omega))
          have HC8 := Lib.hid (HC7.out.drawn hg8 (by omega))
          clear hr8 hg8 Hr7 HO7 HX7 HC7
          have hne8 : vG.ownBlock ≠ some gm := fun e => by have := (HC8.out.g.lt gm e).1; omega
          obtain ⟨zm, p0, p1, p2, p3⟩ := HC8.out.cells
          have Hlit := Lib.hid (Row.of_own (World.ownsRow_lit (base := w8.heap.size) (e := 64) (size := 2) w8 #[.int .i64 (2 * M - 1 - u), .int .i64 b] 1 (Nat.le_refl _) (by unfold maxLen; omega) rfl))
          have z8 := zm
          go_wp2_with (
            at_builtin
            refine append_gates rfl (.tmp 50) (.tmp 54) rfl (gm + 1) _ gs.length _ rfl (HC8.out.g.alloc _) _ 1 [.int .i64 (2 * M - 1 - u), .int .i64 b] rfl Hlit.out (by simp [Value.oneCell']) (by omega) (by simp; omega) ?_
            intro v9 w9 hown9 hg9 hat9
            obtain ⟨A9, c9, e9⟩ := slice_of_own hown9
            subst e9
            have Ho9 := Lib.hid hown9
            have HE9 := Lib.hid (app_only hg9)
            have Hr9 := Lib.hid (app_rd Hr8.out hg9 HC8.out.g (by omega))
            have Hat9 := Lib.hid (app_at hat9)
            have hbx := (HE9.out.block gm (blk_lt HC8.out.box) hne8).trans HC8.out.box
            have q2 := blk_cell hbx 2
            have q2f := blk_free hbx 2
            have zq := blk_lt hbx
            simp at q2
            clear hown9 hg9 hat9 hbx)
          go_roundw
          case rel =>
            refine ⟨M + 1, K - 1, gs ++ [((2 * M - 1 - u), b)], .slice A9 (gs.length + 1) c9, by go_num, by go_num, by omega, by simp; omega, by omega, by simp; omega, Lib.hid fun q hq => ?_, Lib.hid ?_, Lib.hid ?_, Lib.hid ?_, Lib.hid ?_⟩
            · rcases List.mem_append.1 hq with h | h
              · exact Hl.out q h
              · rw [List.mem_singleton.1 h]
                unfold LitS
                simp only
                omega
            · refine HC8.out.addG (xs := gs ++ [((2 * M - 1 - u), b)]) HE9.out (fun g _ hn => hn) ?_ Hat9.out
              rw [List.length_append, cubes_append]
              exact Ho9.out
            · exact (rd_set Hr9.out (by omega)).more (by simp; omega)
            · exact only_set (HO8.out.aft HE9.out fun g hg => .inl (by have := (HC8.out.g.lt g hg).1; omega)) (by omega)
            · exact res_set ((HE9.out.block _ (blk_lt HX8.out) (fun e => by have := (HC8.out.g.lt _ e).1; omega)).trans HX8.out) (by omega)
          case measure => simp [intOf]; omega
        · go_wp2_with fail
          refine (pick_any 6 _ _ _ Hr7.out (by omega) (by omega) (by omega)).mono ?_
          rintro e w8 ⟨u, hu0, hu1, rfl, hr8, hg8⟩
          have Hr8 := Lib.hid hr8
          have HO8 := Lib.hid (only_drawn HO7.out hg8 (.inr rfl))
          have HX8 := Lib.hid (res_grown HX7.out hg8 (fun e => by have := Option.some.inj e; omega))
          have HC8 := Lib.hid (HC7.out.drawn hg8 (by omega))
          clear hr8 hg8 Hr7 HO7 HX7 HC7
          have hne8 : vG.ownBlock ≠ some gm := fun e => by have := (HC8.out.g.lt gm e).1; omega
          obtain ⟨zm, p0, p1, p2, p3⟩ := HC8.out.cells
          have Hlit := Lib.hid (Row.of_own (World.ownsRow_lit (base := w8.heap.size) (e := 64) (size := 2) w8 #[.int .i64 (2 * M - 1 - u), .int .i64 b] 1 (Nat.le_refl _) (by unfold maxLen; omega) rfl))
          have z8 := zm
          go_wp2_with (
            at_builtin
            refine append_gates rfl (.tmp 50) (.tmp 54) rfl (gm + 1) _ gs.length _ rfl (HC8.out.g.alloc _) _ 1 [.int .i64 (2 * M - 1 - u), .int .i64 b] rfl Hlit.out (by simp [Value.oneCell']) (by omega) (by simp; omega) ?_
            intro v9 w9 hown9 hg9 hat9
            obtain ⟨A9, c9, e9⟩ := slice_of_own hown9
            subst e9
            have Ho9 := Lib.hid hown9
            have HE9 := Lib.hid (app_only hg9)
            have Hr9 := Lib.hid (app_rd Hr8.out hg9 HC8.out.g (by omega))
            have Hat9 := Lib.hid (app_at hat9)
            have hbx := (HE9.out.block gm (blk_lt HC8.out.box) hne8).trans HC8.out.box
            have q2 := blk_cell hbx 2
            have q2f := blk_free hbx 2
            have zq := blk_lt hbx
            simp at q2
            clear hown9 hg9 hat9 hbx)
          go_roundw
          case rel =>
            refine ⟨M + 1, K - 1, gs ++ [((2 * M - 1 - u), b)], .slice A9 (gs.length + 1) c9, by go_num, by go_num, by omega, by simp; omega, by omega, by simp; omega, Lib.hid fun q hq => ?_, Lib.hid ?_, Lib.hid ?_, Lib.hid ?_, Lib.hid ?_⟩
            · rcases List.mem_append.1 hq with h | h
              · exact Hl.out q h
              · rw [List.mem_singleton.1 h]
                unfold LitS
                simp only
                omega
            · refine HC8.out.addG (xs := gs ++ [((2 * M - 1 - u), b)]) HE9.out (fun g _ hn => hn) ?_ Hat9.out
              rw [List.length_append, cubes_append]
              exact Ho9.out
            · exact (rd_set Hr9.out (by omega)).more (by simp; omega)
            · exact only_set (HO8.out.aft HE9.out fun g hg => .inl (by have := (HC8.out.g.lt g hg).1; omega)) (by omega)
            · exact res_set ((HE9.out.block _ (blk_lt HX8.out) (fun e => by have := (HC8.out.g.lt _ e).1; omega)).trans HX8.out) (by omega)
          case measure => simp [intOf]; omega
      · have hz' : z = 0 := by omega
        subst hz'
        have hne7 : vG.ownBlock ≠ some gm := fun e => by have := (HC7.out.g.lt gm e).1; omega
        obtain ⟨zm, p0, p1, p2, p3⟩ := HC7.out.cells
        have Hlit := Lib.hid (Row.of_own (World.ownsRow_lit (base := w7.heap.size) (e := 64) (size := 2) w7 #[.int .i64 (a), .int .i64 b] 1 (Nat.le_refl _) (by unfold maxLen; omega) rfl))
        have z7 := zm
        go_wp2_with (
          at_builtin
          refine append_gates rfl (.tmp 50) (.tmp 54) rfl (gm + 1) _ gs.length _ rfl (HC7.out.g.alloc _) _ 1 [.int .i64 (a), .int .i64 b] rfl Hlit.out (by simp [Value.oneCell']) (by omega) (by simp; omega) ?_
          intro v9 w9 hown9 hg9 hat9
          obtain ⟨A9, c9, e9⟩ := slice_of_own hown9
          subst e9
          have Ho9 := Lib.hid hown9
          have HE9 := Lib.hid (app_only hg9)
          have Hr9 := Lib.hid (app_rd Hr7.out hg9 HC7.out.g (by omega))
          have Hat9 := Lib.hid (app_at hat9)
          have hbx := (HE9.out.block gm (blk_lt HC7.out.box) hne7).trans HC7.out.box
          have q2 := blk_cell hbx 2
          have q2f := blk_free hbx 2
          have zq := blk_lt hbx
          simp at q2
          clear hown9 hg9 hat9 hbx)
        go_roundw
        case rel =>
          refine ⟨M + 1, K - 1, gs ++ [((a), b)], .slice A9 (gs.length + 1) c9, by go_num, by go_num, by omega, by simp; omega, by omega, by simp; omega, Lib.hid fun q hq => ?_, Lib.hid ?_, Lib.hid ?_, Lib.hid ?_, Lib.hid ?_⟩
          · rcases List.mem_append.1 hq with h | h
            · exact Hl.out q h
            · rw [List.mem_singleton.1 h]
              unfold LitS
              simp only
              omega
          · refine HC7.out.addG (xs := gs ++ [((a), b)]) HE9.out (fun g _ hn => hn) ?_ Hat9.out
            rw [List.length_append, cubes_append]
            exact Ho9.out
          · exact (rd_set Hr9.out (by omega)).more (by simp; omega)
          · exact only_set (HO7.out.aft HE9.out fun g hg => .inl (by have := (HC7.out.g.lt g hg).1; omega)) (by omega)
          · exact res_set ((HE9.out.block _ (blk_lt HX7.out) (fun e => by have := (HC7.out.g.lt _ e).1; omega)).trans HX7.out) (by omega)
        case measure => simp [intOf]; omega
    · obtain rfl : K = 0 := by omega
      have Hr1 := Lib.hid (Hr.out.more (show P + 100 + 10 * gs.length ≤ P + 300 by omega))
      have HC1 := Lib.hid HC.out
      clear Hr HC
      obtain ⟨W1, hW1⟩ : ∃ W1, W1 = wr := ⟨_, rfl⟩
      subst hW1
      go_wp2_with fail
      go_loopw [11] (fun j wr => ∃ (ns : List Int) (vN : Value), j = .int .i64 (ns.length : Nat) ∧ ns.length ≤ y ∧ Hid (∀ q ∈ ns, LitS q) ∧ Hid (CB gm ⟨x, ns, gs, []⟩ vN vG (.slice none 0 0) wr) ∧ Hid (Rd wr R (P + 300 + 400 * ns.length)) ∧ Hid (Only (· = R) w wr) ∧ Hid (wr.heap[w.heap.size]? = some (.cells #[.int .i64 0, .slice none 0 0, .slice none 0 0, .slice none 0 0] 26 (0, 0)))) (fun j _ => (y - intOf j).toNat)
      case atStart => exact ⟨[], _, rfl, by simp; omega, Lib.hid (by simp), HC1, Lib.hid (Hr1.out.more (by omega)), HO, HX⟩
      case round =>
        obtain ⟨ns, vN, rfl, hnl, Hn, HC, Hr, HO, HX⟩ := hrel
        clear Hr1 HC1
        by_cases hlt : (ns.length : Int) < y
        · go_wp2_with fail
          have hO := fun ops a => rdRS_ok (Pg := Try.prog) (ops := ops) (P := P + 300 + 400 * ns.length) (a := a) (G := GInt (-100) 1000) (d := 7) Hr.out.lt (show R < gm + 1 by omega) HC.out.n
          obtain ⟨zm, p0, p1, p2, p3⟩ := HC.out.cells
          have hneN : ¬ (gm = R ∨ vN.ownBlock = some gm) := fun e => by
            rcases e with e | e
            · omega
            · have := (HC.out.n.lt gm e).1; omega
          refine wp_region_rsl (rdRS Try.prog _ R (P + 300 + 400 * ns.length) wr _ (gm + 1) 3 vN ns.length (ints ns) (GInt (-100) 1000) 7) (hO _ _) (by kernel_rfl) (by kernel_rfl) (by kernel_rfl) 9 _ rfl rfl (by kernel_rfl) (show (7 : Nat) < 9 by decide) Hr.out HC.out.n ?_
          obtain ⟨i0, hi0, hz0, hz1, hz2⟩ := info_parts info_int
          apply rs_eq (hO _ _) (.inl (Nat.ne_of_beq_eq_false rfl))
          · intro ρ w' ho hK
            obtain ⟨h0, -⟩ := hK
            have h0' : ρ (.tmp 5) = .pointer (some ⟨gm, 0, none⟩) := h0
            go_simp
            try exact rfl
          apply rs_eq (hO _ _) (.inl (Nat.ne_of_beq_eq_false rfl))
          · intro ρ w' ho hK
            obtain ⟨h0, -⟩ := hK
            have h0' : ρ (.tmp 64) = .pointer (some ⟨gm, 1, none⟩) := h0
            have q1 := cell_on ho hneN zm p1
            go_simp
            try exact rfl
          refine rs_old (hO _ _) (.inl (Nat.ne_of_beq_eq_false rfl)) _ (.inl rfl) _ rfl rfl ?_
          refine rs_old (hO _ _) (.inl (Nat.ne_of_beq_eq_false rfl)) _ (.inl rfl) _ rfl rfl ?_
          apply rs_eq (hO _ _) (.inl (Nat.ne_of_beq_eq_false rfl))
          · intro ρ w' ho hK
            obtain ⟨h0, h1, -⟩ := hK
            have h0' : ρ (.const (.int .i64 2)) = .int .i64 2 := h0
            have h1' : ρ (.tmp 67) = .int .i64 M := h1
            have hwr := IntWalk.i64_in (2 * M) (by omega)
            go_simp
            try exact rfl
          refine rs_pick (hO _ _) (.inl (Nat.ne_of_beq_eq_false rfl)) 36 _ _ _ R (P + 300 + 400 * ns.length) 43 rfl rfl fn_draw (fun ρ w hK => ⟨hK.1, hK.2.1, 2 * M, hK.2.2.1, by omega, by omega⟩) (fun n k w hk h1n hn hr => pick_upto n 43 _ _ w hr (by have hk' : k < 10 := hk; omega) h1n hn (by omega)) ?_
          refine rs_build (hO _ _) (.inl (Nat.ne_of_beq_eq_false rfl)) 1 (GInt (-100) 1000) 3 (fun ρ w hK => by
            obtain ⟨⟨q, hq, hq0, hq1⟩, -⟩ := hK
            have h' : ρ (.tmp 69) = .int .i64 q := hq
            refine ⟨#[.int .i64 q], rfl, ?_, ?_⟩
            · go_simp
            · intro c hc
              simp at hc
              exact ⟨q, hc, by omega, by omega⟩) ?_
          refine rs_appendV rfl (gm + 1) 3 23 vN ns.length (ints ns) (GInt (-100) 1000) rfl R (P + 300 + 400 * ns.length) rfl (fun g hg => .inr hg) (show R < gm + 1 by omega) zm _ _ rfl _ _ rfl rfl rfl rfl i0 _ 8 Try.underlying23 hi0 hz0 hz1 hz2 rfl (by omega) (by decide) (fun u hu => by obtain ⟨q, rfl, -⟩ := hu; rfl) ?_
          apply rs_eq (hO _ _) (.inl (Nat.ne_of_beq_eq_false rfl))
          · intro ρ w' ho hK
            obtain ⟨h0, -⟩ := hK
            have h0' : ρ (.tmp 5) = .pointer (some ⟨gm, 0, none⟩) := h0
            go_simp
            try exact rfl
          intro f w9 k9 hk9 hI9 ht9 hcp9
          have E0 : f 0 = _ := ht9 0 (Nat.le_of_ble_eq_true rfl)
          have E1 : f 1 = _ := ht9 1 (Nat.le_of_ble_eq_true rfl)
          have E2 : f 2 = _ := ht9 2 (Nat.le_of_ble_eq_true rfl)
          have E3 : f 3 = _ := ht9 3 (Nat.le_of_ble_eq_true rfl)
          have E4 : f 4 = _ := ht9 4 (Nat.le_of_ble_eq_true rfl)
          have E8 : f 8 = _ := ht9 8 (Nat.le_of_ble_eq_true rfl)
          have Hr9 : Rd w9 R (P + 300 + 400 * ns.length + 40 * k9) := hI9.1
          have HE9 : Only (fun g => g = R ∨ vN.ownBlock = some g) wr w9 := hI9.2.1
          have HJ9 : (∃ u, GInt (-100) 1000 u ∧ w9.ownsRow (gm + 1) 3 1 (f 7) (ns.length + 1) (ints ns ++ [u])) ∧ ∀ g, (f 7).ownBlock = some g → vN.ownBlock = some g ∨ wr.heap.size ≤ g := hI9.2.2
          have hk9' : k9 ≤ 10 := hk9
          simp only [putAll, E0, E1, E2, E3, E4, E8, Nat.zero_add, Nat.reduceAdd, Act.put, List.take, List.setIfInBounds_toArray, List.set_cons_succ, List.set_cons_zero]
          clear E0 E1 E2 E3 E4 E8 hI9 ht9 hcp9 hk9 hO
          generalize f 5 = r5, f 6 = r6 at *
          generalize f 7 = v9 at *
          simp only [List.getElem_toArray, List.getElem_cons_succ, List.getElem_cons_zero]
          obtain ⟨⟨uu, ⟨q, rfl, hq0, hq1⟩, hown9⟩, hat9⟩ := HJ9
          obtain ⟨A9, c9, e9⟩ := slice_of_own hown9
          subst e9
          have Ho9 := Lib.hid hown9
          have Hat9 := Lib.hid hat9
          have HE9' := Lib.hid HE9
          have Hr9' := Lib.hid (Hr9.more (show P + 300 + 400 * ns.length + 40 * k9 ≤ P + 300 + 400 * (ns.length + 1) by omega))
          have hbx := (HE9.block gm zm hneN).trans HC.out.box
          have q1 := blk_cell hbx 1
          have q1f := blk_free hbx 1
          have zq := blk_lt hbx
          simp at q1
          clear hown9 hat9 HE9 Hr9 hbx p0 p1 p2 p3 hk9' hi0 hz0 hz1 hz2
          go_wp2_with fail
          go_roundw
          case rel =>
            refine ⟨ns ++ [q], .slice A9 (ns.length + 1) c9, by simp, by simp; omega, Lib.hid fun q' hq => ?_, Lib.hid ?_, Lib.hid ?_, Lib.hid ?_, Lib.hid ?_⟩
            · rcases List.mem_append.1 hq with h | h
              · exact Hn.out q' h
              · rw [List.mem_singleton.1 h]
                exact ⟨hq0, hq1⟩
            · refine HC.out.addN (xs := ns ++ [q]) HE9'.out (fun g hg hn => ?_) ?_ Hat9.out
              · rintro (e | e)
                · omega
                · exact hn e
              · rw [List.length_append, ints_snoc]
                exact Ho9.out
            · exact (rd_set Hr9'.out (by omega)).more (by simp)
            · exact only_set (HO.out.aft HE9'.out fun g hg => by
                rcases hg with h | h
                · exact .inr h
                · exact .inl (by have := (HC.out.n.lt g h).1; omega)) (by omega)
            · exact res_set ((HE9'.out.block _ (blk_lt HX.out) (fun e => by
                rcases e with h | h
                · omega
                · have := (HC.out.n.lt _ h).1; omega)).trans HX.out) (by omega)
          case measure => simp [intOf]; omega
        · have Hr1 := Lib.hid (Hr.out.more (show P + 300 + 400 * ns.length ≤ P + 2400 by omega))
          have HC1 := Lib.hid HC.out
          clear Hr HC
          obtain ⟨W2, hW2⟩ : ∃ W2, W2 = wr := ⟨_, rfl⟩
          subst hW2
          go_wp2_with fail
          refine (pick_any 4 _ _ _ Hr1.out (by omega) (by omega) (by omega)).mono ?_
          rintro e w5 ⟨k1, hk10, hk11, rfl, hr5, hg5⟩
          have Hr5 := Lib.hid (hr5.more (show P + 2400 + 1 ≤ P + 2500 by omega))
          have HO5 := Lib.hid (only_drawn HO.out hg5 (.inr rfl))
          have HX5 := Lib.hid (res_grown HX.out hg5 (fun e => by have := Option.some.inj e; omega))
          have HC5 := Lib.hid (HC1.out.drawn hg5 (by omega))
          clear hr5 hg5 Hr1 HO HX HC1
          go_wp2_with fail
          go_loopw [12] (fun j wr => ∃ (K : Int) (os : List Int) (vO : Value), j = .int .i64 K ∧ 0 ≤ K ∧ os.length + K ≤ 3 ∧ Hid (∀ q ∈ os, LitS q) ∧ Hid (CB gm ⟨x, ns, gs, os⟩ vN vG vO wr) ∧ Hid (Rd wr R (P + 2500 + 1000 * os.length)) ∧ Hid (Only (· = R) w wr) ∧ Hid (wr.heap[w.heap.size]? = some (.cells #[.int .i64 0, .slice none 0 0, .slice none 0 0, .slice none 0 0] 26 (0, 0)))) (fun j _ => (intOf j).toNat)
          case atStart => exact ⟨k1, [], _, rfl, hk10, by simp; omega, Lib.hid (by simp), HC5, Lib.hid (Hr5.out.more (by omega)), HO5, HX5⟩
          case round =>
            obtain ⟨K, os, vO, rfl, hK0, hKl2, Hos, HC, Hr, HO, HX⟩ := hrel
            clear Hr5 HC5 HO5 HX5
            by_cases hpos : 0 < K
            · go_wp2_with fail
              have hO := fun ops a => rdRS_ok (Pg := Try.prog) (ops := ops) (P := P + 2500 + 1000 * os.length) (a := a) (G := GInt (-100) 1000) (d := 21) Hr.out.lt (show R < gm + 1 by omega) HC.out.o
              obtain ⟨zm, p0, p1, p2, p3⟩ := HC.out.cells
              have hneO : ¬ (gm = R ∨ vO.ownBlock = some gm) := fun e => by
                rcases e with e | e
                · omega
                · have := (HC.out.o.lt gm e).1; omega
              refine wp_region_rsl (rdRS Try.prog _ R (P + 2500 + 1000 * os.length) wr _ (gm + 1) 3 vO os.length (ints os) (GInt (-100) 1000) 21) (hO _ _) (by kernel_rfl) (by kernel_rfl) (by kernel_rfl) 23 _ rfl rfl (by kernel_rfl) (show (21 : Nat) < 23 by decide) Hr.out HC.out.o ?_
              obtain ⟨i0, hi0, hz0, hz1, hz2⟩ := info_parts info_int
              apply rs_eq (hO _ _) (.inl (Nat.ne_of_beq_eq_false rfl))
              · intro ρ w' ho hK
                obtain ⟨h0, -⟩ := hK
                have h0' : ρ (.tmp 5) = .pointer (some ⟨gm, 0, none⟩) := h0
                go_simp
                try exact rfl
              apply rs_eq (hO _ _) (.inl (Nat.ne_of_beq_eq_false rfl))
              · intro ρ w' ho hK
                obtain ⟨h0, -⟩ := hK
                have h0' : ρ (.tmp 79) = .pointer (some ⟨gm, 3, none⟩) := h0
                have q1 := cell_on ho hneO zm p3
                go_simp
                try exact rfl
              refine rs_old (hO _ _) (.inl (Nat.ne_of_beq_eq_false rfl)) _ (.inl rfl) _ rfl rfl ?_
              apply rs_eq (hO _ _) (.inl (Nat.ne_of_beq_eq_false rfl))
              · intro ρ w' ho hK
                obtain ⟨h0, h1, -⟩ := hK
                have h0' : ρ (.const (.int .i64 2)) = .int .i64 2 := h0
                have h1' : ρ (.tmp 81) = .int .i64 M := h1
                have hwr := IntWalk.i64_in (2 * M) (by omega)
                go_simp
                try exact rfl
              apply rs_eq (hO _ _) (.inl (Nat.ne_of_beq_eq_false rfl))
              · intro ρ w' ho hK
                obtain ⟨h0, h1, -⟩ := hK
                have h1' : ρ (.const (.int .i64 1)) = .int .i64 1 := h1
                have h0' : ρ (.tmp 82) = .int .i64 (2 * M) := h0
                have hwr := IntWalk.i64_in (2 * M - 1) (by omega)
                go_simp
                try exact rfl
              refine rs_old (hO _ _) (.inl (Nat.ne_of_beq_eq_false rfl)) _ (.inl rfl) _ rfl rfl ?_
              refine rs_old (hO _ _) (.inl (Nat.ne_of_beq_eq_false rfl)) _ (.inl rfl) _ rfl rfl ?_
              apply rs_eq (hO _ _) (.inl (Nat.ne_of_beq_eq_false rfl))
              · intro ρ w' ho hK
                obtain ⟨h0, h1, -⟩ := hK
                have h0' : ρ (.const (.int .i64 2)) = .int .i64 2 := h0
                have h1' : ρ (.tmp 85) = .int .i64 M := h1
                have hwr := IntWalk.i64_in (2 * M) (by omega)
                go_simp
                try exact rfl
              refine rs_pure (hO _ _) (.inl (Nat.ne_of_beq_eq_false rfl)) (TInt 1 8) (stb_int _ _ _) (fun ρ w hK => by
                obtain ⟨h0, h1, -⟩ := hK
                have h0' : ρ (.const (.int .i64 8)) = .int .i64 8 := h0
                have h1' : ρ (.tmp 86) = .int .i64 (2 * M) := h1
                by_cases h8 : 2 * M < 8
                · refine ⟨.int .i64 (2 * M), ?_, 2 * M, rfl, by omega, by omega⟩
                  go_simp
                · refine ⟨.int .i64 8, ?_, 8, rfl, by omega, by omega⟩
                  go_simp) ?_
              refine rs_pick (hO _ _) (.inl (Nat.ne_of_beq_eq_false rfl)) 36 _ _ _ R (P + 2500 + 1000 * os.length) 7 rfl rfl fn_draw (fun ρ w hK => by
                obtain ⟨h0, h1, ⟨q, h2, h3, h4⟩, -⟩ := hK
                exact ⟨h0, h1, q, h2, h3, by omega⟩) (fun n k w hk h1n hn hr => pick_upto n 7 _ _ w hr (by have hk' : k < 24 := hk; omega) h1n hn (by omega)) ?_
              refine rs_pure (hO _ _) (.inl (Nat.ne_of_beq_eq_false rfl)) (TInt (-100) 1000) (stb_int _ _ _) (fun ρ w hK => by
                obtain ⟨h0, ⟨q, h1, h2, h3⟩, -⟩ := hK
                have h0' : ρ (.tmp 83) = .int .i64 (2 * M - 1) := h0
                have h1' : ρ (.tmp 88) = .int .i64 q := h1
                have h3' : q ≤ 7 := h3
                have hwr := IntWalk.i64_in (2 * M - 1 - q) (by omega)
                refine ⟨.int .i64 (2 * M - 1 - q), ?_, _, rfl, by omega, by omega⟩
                go_simp) ?_
              refine rs_old (hO _ _) (.inl (Nat.ne_of_beq_eq_false rfl)) _ (.inl rfl) _ rfl rfl ?_
              refine rs_old (hO _ _) (.inl (Nat.ne_of_beq_eq_false rfl)) _ (.inl rfl) _ rfl rfl ?_
              apply rs_eq (hO _ _) (.inl (Nat.ne_of_beq_eq_false rfl))
              · intro ρ w' ho hK
                obtain ⟨h0, h1, -⟩ := hK
                have h0' : ρ (.const (.int .i64 2)) = .int .i64 2 := h0
                have h1' : ρ (.tmp 91) = .int .i64 M := h1
                have hwr := IntWalk.i64_in (2 * M) (by omega)
                go_simp
                try exact rfl
              refine rs_pick (hO _ _) (.inl (Nat.ne_of_beq_eq_false rfl)) 36 _ _ _ R (P + 2500 + 1000 * os.length) 43 rfl rfl fn_draw (fun ρ w hK => ⟨hK.1, hK.2.1, 2 * M, hK.2.2.1, by omega, by omega⟩) (fun n k w hk h1n hn hr => pick_upto n 43 _ _ w hr (by have hk' : k < 24 := hk; omega) h1n hn (by omega)) ?_
              refine rs_build (hO _ _) (.inl (Nat.ne_of_beq_eq_false rfl)) 2 (GInt (-100) 1000) 3 (fun ρ w hK => by
                obtain ⟨⟨q, hq, hq0, hq1⟩, ⟨q2, hr, hr0, hr1⟩, -⟩ := hK
                have h' : ρ (.tmp 89) = .int .i64 q := hq
                have h2' : ρ (.tmp 93) = .int .i64 q2 := hr
                have hr1' : q2 ≤ 43 := hr1
                refine ⟨#[.int .i64 q, .int .i64 q2], rfl, ?_, ?_⟩
                · go_simp
                · intro c hc
                  simp at hc
                  rcases hc with rfl | rfl
                  · exact ⟨q, rfl, by omega, by omega⟩
                  · exact ⟨q2, rfl, by omega, by omega⟩) ?_
              refine rs_old (hO _ _) (.inl (Nat.ne_of_beq_eq_false rfl)) _ (.inl rfl) _ rfl rfl ?_
              refine rs_pick (hO _ _) (.inl (Nat.ne_of_beq_eq_false rfl)) 36 _ _ _ R (P + 2500 + 1000 * os.length) 1 rfl rfl fn_draw (fun ρ w hK => ⟨hK.1, hK.2.1, 2, hK.2.2.1, by omega, by omega⟩) (fun n k w hk h1n hn hr => pick_upto n 1 _ _ w hr (by have hk' : k < 24 := hk; omega) h1n hn (by omega)) ?_
              refine rs_index (hO _ _) (.inl (Nat.ne_of_beq_eq_false rfl)) 23 _ _ 2 (GInt (-100) 1000) 1 rfl _ _ rfl rfl rfl rfl (by omega) (by omega) ix_drawn ?_
              refine rs_load (hO _ _) (.inl (Nat.ne_of_beq_eq_false rfl)) 3 _ (GInt (-100) 1000) rfl _ rfl rfl ag_drawn ?_
              refine rs_build (hO _ _) (.inl (Nat.ne_of_beq_eq_false rfl)) 1 (GInt (-100) 1000) 3 (fun ρ w hK => by
                obtain ⟨⟨q, hq, hq0, hq1⟩, -⟩ := hK
                have h' : ρ (.tmp 98) = .int .i64 q := hq
                refine ⟨#[.int .i64 q], rfl, ?_, ?_⟩
                · go_simp
                · intro c hc
                  simp at hc
                  exact ⟨q, hc, by omega, by omega⟩) ?_
              refine rs_appendV rfl (gm + 1) 3 23 vO os.length (ints os) (GInt (-100) 1000) rfl R (P + 2500 + 1000 * os.length) rfl (fun g hg => .inr hg) (show R < gm + 1 by omega) zm _ _ rfl _ _ rfl rfl rfl rfl i0 _ 8 Try.underlying23 hi0 hz0 hz1 hz2 rfl (by omega) (by decide) (fun u hu => by obtain ⟨q, rfl, -⟩ := hu; rfl) ?_
              apply rs_eq (hO _ _) (.inl (Nat.ne_of_beq_eq_false rfl))
              · intro ρ w' ho hK
                obtain ⟨h0, -⟩ := hK
                have h0' : ρ (.tmp 5) = .pointer (some ⟨gm, 0, none⟩) := h0
                go_simp
                try exact rfl
              intro f w9 k9 hk9 hI9 ht9 hcp9
              have E0 : f 0 = _ := ht9 0 (Nat.le_of_ble_eq_true rfl)
              have E1 : f 1 = _ := ht9 1 (Nat.le_of_ble_eq_true rfl)
              have E2 : f 2 = _ := ht9 2 (Nat.le_of_ble_eq_true rfl)
              have E3 : f 3 = _ := ht9 3 (Nat.le_of_ble_eq_true rfl)
              have E4 : f 4 = _ := ht9 4 (Nat.le_of_ble_eq_true rfl)
              have E5 : f 5 = _ := ht9 5 (Nat.le_of_ble_eq_true rfl)
              have E6 : f 6 = _ := ht9 6 (Nat.le_of_ble_eq_true rfl)
              have E7 : f 7 = _ := ht9 7 (Nat.le_of_ble_eq_true rfl)
              have E11 : f 11 = _ := ht9 11 (Nat.le_of_ble_eq_true rfl)
              have E12 : f 12 = _ := ht9 12 (Nat.le_of_ble_eq_true rfl)
              have E13 : f 13 = _ := ht9 13 (Nat.le_of_ble_eq_true rfl)
              have E16 : f 16 = _ := ht9 16 (Nat.le_of_ble_eq_true rfl)
              have E22 : f 22 = _ := ht9 22 (Nat.le_of_ble_eq_true rfl)
              have Hr9 : Rd w9 R (P + 2500 + 1000 * os.length + 40 * k9) := hI9.1
              have HE9 : Only (fun g => g = R ∨ vO.ownBlock = some g) wr w9 := hI9.2.1
              have HJ9 : (∃ u, GInt (-100) 1000 u ∧ w9.ownsRow (gm + 1) 3 1 (f 21) (os.length + 1) (ints os ++ [u])) ∧ ∀ g, (f 21).ownBlock = some g → vO.ownBlock = some g ∨ wr.heap.size ≤ g := hI9.2.2
              have hk9' : k9 ≤ 24 := hk9
              simp only [putAll, E0, E1, E2, E3, E4, E5, E6, E7, E11, E12, E13, E16, E22, Nat.zero_add, Nat.reduceAdd, Act.put, List.take, List.setIfInBounds_toArray, List.set_cons_succ, List.set_cons_zero, List.getElem_toArray, List.getElem_cons_succ, List.getElem_cons_zero]
              clear E0 E1 E2 E3 E4 E5 E6 E7 E11 E12 E13 E16 E22 hI9 ht9 hcp9 hk9 hO
              generalize f 8 = r8, f 9 = r9, f 10 = r10, f 14 = r14, f 15 = r15, f 17 = r17, f 18 = r18, f 19 = r19, f 20 = r20 at *
              generalize f 21 = v9 at *
              obtain ⟨⟨uu, ⟨q, rfl, hq0, hq1⟩, hown9⟩, hat9⟩ := HJ9
              obtain ⟨A9, c9, e9⟩ := slice_of_own hown9
              subst e9
              have Ho9 := Lib.hid hown9
              have Hat9 := Lib.hid hat9
              have HE9' := Lib.hid HE9
              have Hr9' := Lib.hid (Hr9.more (show P + 2500 + 1000 * os.length + 40 * k9 ≤ P + 2500 + 1000 * (os.length + 1) by omega))
              have hbx := (HE9.block gm zm hneO).trans HC.out.box
              have q1 := blk_cell hbx 3
              have q1f := blk_free hbx 3
              have zq := blk_lt hbx
              simp at q1
              clear hown9 hat9 HE9 Hr9 hbx p0 p1 p2 p3 hk9' hi0 hz0 hz1 hz2
              go_wp2_with fail
              go_roundw
              case rel =>
                refine ⟨K - 1, os ++ [q], .slice A9 (os.length + 1) c9, by go_num, by omega, by simp; omega, Lib.hid fun q' hq => ?_, Lib.hid ?_, Lib.hid ?_, Lib.hid ?_, Lib.hid ?_⟩
                · rcases List.mem_append.1 hq with h | h
                  · exact Hos.out q' h
                  · rw [List.mem_singleton.1 h]
                    exact ⟨hq0, hq1⟩
                · refine HC.out.addO (xs := os ++ [q]) HE9'.out (fun g hg hn => ?_) ?_ Hat9.out
                  · rintro (e | e)
                    · omega
                    · exact hn e
                  · rw [List.length_append, ints_snoc]
                    exact Ho9.out
                · exact (rd_set Hr9'.out (by omega)).more (by simp)
                · exact only_set (HO.out.aft HE9'.out fun g hg => by
                    rcases hg with h | h
                    · exact .inr h
                    · exact .inl (by have := (HC.out.o.lt g h).1; omega)) (by omega)
                · exact res_set ((HE9'.out.block _ (blk_lt HX.out) (fun e => by
                    rcases e with h | h
                    · omega
                    · have := (HC.out.o.lt _ h).1; omega)).trans HX.out) (by omega)
              case measure => simp [intOf]; omega
            · obtain rfl : K = 0 := by omega
              have Hr1 := Lib.hid (Hr.out.more (show P + 2500 + 1000 * os.length ≤ P + 6000 by omega))
              have HC1 := Lib.hid HC.out
              clear Hr HC
              obtain ⟨W3, hW3⟩ : ∃ W3, W3 = wr := ⟨_, rfl⟩
              subst hW3
              go_wp2_with fail
              refine (odd_every n _ _ _ Hr1.out (by omega) h0 (by omega)).mono ?_
              rintro e w6 ⟨bb, rfl, hr6, hg6⟩
              have Hr6 := Lib.hid hr6
              have HO6 := Lib.hid (only_drawn HO.out hg6 (.inr rfl))
              have HX6 := Lib.hid (res_grown HX.out hg6 (fun e => by have := Option.some.inj e; omega))
              have HC6 := Lib.hid (HC1.out.drawn hg6 (by omega))
              clear hr6 hg6 Hr1 HO HX HC1
              obtain ⟨An, cn, en⟩ := slice_of_own HC6.out.n
              obtain ⟨Ag, cg, eg⟩ := slice_of_own HC6.out.g
              obtain ⟨Ao, co, eo⟩ := slice_of_own HC6.out.o
              simp only at en eg eo
              subst en eg eo
              cases bb
              · obtain ⟨zf, f0, f1, f2, f3⟩ := HC6.out.cells
                obtain ⟨ff0, ff1, ff2, ff3⟩ := HC6.out.free
                have o0 := blk_cell HX6.out 0
                have o1 := blk_cell HX6.out 1
                have o2 := blk_cell HX6.out 2
                have o3 := blk_cell HX6.out 3
                have b0 := blk_free HX6.out 0
                have b1 := blk_free HX6.out 1
                have b2 := blk_free HX6.out 2
                have b3 := blk_free HX6.out 3
                have zr := blk_lt HX6.out
                simp at o0 o1 o2 o3
                go_wp2_with fail
                refine bodyPost_ret (v := .agg #[.int .i64 x, .slice An ns.length cn, .slice Ag gs.length cg, .slice Ao os.length co]) (by simp [results, Try.results35, go_sem, o0, o1, o2, o3]) rfl (finC (c := ⟨x, ns, gs, os⟩) HC6.out HO6.out Hr6.out (by omega) zR (by omega) ⟨by simp only; omega, by simp only; omega, by simp only; omega, by simp only; omega, by simp only; omega, Hn.out, Hl.out, Hos.out⟩ _ _ _ _)
              · go_wp2_with fail
                refine (pick_any 6 _ _ _ Hr6.out (by omega) (by omega) (by omega)).mono ?_
                rintro e w7 ⟨z, hz0, hz1, rfl, hr7, hg7⟩
                have Hr7 := Lib.hid hr7
                have HO7 := Lib.hid (only_drawn HO6.out hg7 (.inr rfl))
                have HX7 := Lib.hid (res_grown HX6.out hg7 (fun e => by have := Option.some.inj e; omega))
                have HC7 := Lib.hid (HC6.out.drawn hg7 (by omega))
                clear hr7 hg7 Hr6 HO6 HX6 HC6
                obtain rfl | rfl | rfl | rfl | rfl | rfl : z = 0 ∨ z = 1 ∨ z = 2 ∨ z = 3 ∨ z = 4 ∨ z = 5 := by omega
                · go_wp2_with fail
                  refine (pick_any 2 _ _ _ (Hr7.out.alloc _) (by omega) (by omega) (by omega)).mono ?_
                  rintro e w8 ⟨u, hu0, hu1, rfl, hr8, hg8⟩
                  have hzr7 := Hr7.out.lt
                  obtain ⟨vv, hvv, hu0', hcell⟩ := lit_cell2 _ _ _ _ _ hg8 hzr7 u hu0 hu1
                  have zl := hg8.size
                  rw [World.size_alloc] at zl
                  have Hr8 := Lib.hid hr8
                  have HO8 := Lib.hid (only_drawn (only_alloc HO7.out _) hg8 (.inr rfl))
                  have HX8 := Lib.hid (res_grown (((bel_new w7 _).block _ (blk_lt HX7.out)).trans HX7.out) hg8 (fun e => by have := Option.some.inj e; omega))
                  have HC8 := Lib.hid ((HC7.out.below (bel_new w7 _)).drawn hg8 (by omega))
                  clear hr8 hg8 Hr7 HO7 HX7 HC7
                  obtain ⟨zf, f0, f1, f2, f3⟩ := HC8.out.cells
                  obtain ⟨ff0, ff1, ff2, ff3⟩ := HC8.out.free
                  have o0 := blk_cell HX8.out 0
                  have o1 := blk_cell HX8.out 1
                  have o2 := blk_cell HX8.out 2
                  have o3 := blk_cell HX8.out 3
                  have b0 := blk_free HX8.out 0
                  have b1 := blk_free HX8.out 1
                  have b2 := blk_free HX8.out 2
                  have b3 := blk_free HX8.out 3
                  have zr := blk_lt HX8.out
                  simp at o0 o1 o2 o3
                  go_wp2_with fail
                  refine bodyPost_ret (v := .agg #[.int .i64 vv, .slice An ns.length cn, .slice Ag gs.length cg, .slice Ao os.length co]) (by simp [results, Try.results35, go_sem, o0, o1, o2, o3]) rfl (finC (c := ⟨vv, ns, gs, os⟩) (HC8.out.setIns vv) (only_set HO8.out (by omega)) (rd_set Hr8.out (by omega)) (by omega) zR (by omega) ⟨by simp only; omega, by simp only; omega, by simp only; omega, by simp only; omega, by simp only; omega, Hn.out, Hl.out, Hos.out⟩ _ _ _ _)
                · go_wp2_with fail
                  have hO := fun ops a => rdRS_ok (Pg := Try.prog) (ops := ops) (P := P + 6000 + 1 + 1) (a := a) (G := GInt (-100) 1000) (d := 10) Hr7.out.lt (show R < gm + 1 by omega) HC7.out.o
                  obtain ⟨zm, p0, p1, p2, p3⟩ := HC7.out.cells
                  have hneO : ¬ (gm = R ∨ (Value.slice Ao os.length co).ownBlock = some gm) := fun e => by
                    rcases e with e | e
                    · omega
                    · have := (HC7.out.o.lt gm e).1; omega
                  refine wp_region_rsl (rdRS Try.prog _ R (P + 6000 + 1 + 1) w7 _ (gm + 1) 3 (.slice Ao os.length co) os.length (ints os) (GInt (-100) 1000) 10) (hO _ _) (by kernel_rfl) (by kernel_rfl) (by kernel_rfl) 12 _ rfl rfl (by kernel_rfl) (show (10 : Nat) < 12 by decide) Hr7.out HC7.out.o ?_
                  obtain ⟨i0, hi0, hz0, hz1, hz2⟩ := info_parts info_int
                  apply rs_eq (hO _ _) (.inl (Nat.ne_of_beq_eq_false rfl))
                  · intro ρ w' ho hK
                    obtain ⟨h0, -⟩ := hK
                    have h0' : ρ (.tmp 5) = .pointer (some ⟨gm, 0, none⟩) := h0
                    go_simp
                    try exact rfl
                  apply rs_eq (hO _ _) (.inl (Nat.ne_of_beq_eq_false rfl))
                  · intro ρ w' ho hK
                    obtain ⟨h0, -⟩ := hK
                    have h0' : ρ (.tmp 122) = .pointer (some ⟨gm, 3, none⟩) := h0
                    have q1 := cell_on ho hneO zm p3
                    go_simp
                    try exact rfl
                  refine rs_old (hO _ _) (.inl (Nat.ne_of_beq_eq_false rfl)) _ (.inl rfl) _ rfl rfl ?_
                  apply rs_eq (hO _ _) (.inl (Nat.ne_of_beq_eq_false rfl))
                  · intro ρ w' ho hK
                    obtain ⟨h0, h1, -⟩ := hK
                    have h0' : ρ (.const (.int .i64 2)) = .int .i64 2 := h0
                    have h1' : ρ (.tmp 124) = .int .i64 M := h1
                    have hwr := IntWalk.i64_in (2 * M) (by omega)
                    go_simp
                    try exact rfl
                  refine rs_build (hO _ _) (.inl (Nat.ne_of_beq_eq_false rfl)) 2 (GInt (-100) 1000) 3 (fun ρ w hK => by
                    obtain ⟨h1, h2, -⟩ := hK
                    have h1' : ρ (.const (.int .i64 (-1))) = .int .i64 (-1) := h1
                    have h2' : ρ (.tmp 125) = .int .i64 (2 * M) := h2
                    refine ⟨#[.int .i64 (-1), .int .i64 (2 * M)], rfl, ?_, ?_⟩
                    · go_simp
                    · intro c hc
                      simp at hc
                      rcases hc with rfl | rfl
                      · exact ⟨-1, rfl, by omega, by omega⟩
                      · exact ⟨2 * M, rfl, by omega, by omega⟩) ?_
                  refine rs_old (hO _ _) (.inl (Nat.ne_of_beq_eq_false rfl)) _ (.inl rfl) _ rfl rfl ?_
                  refine rs_pick (hO _ _) (.inl (Nat.ne_of_beq_eq_false rfl)) 36 _ _ _ R (P + 6000 + 1 + 1) 1 rfl rfl fn_draw (fun ρ w hK => ⟨hK.1, hK.2.1, 2, hK.2.2.1, by omega, by omega⟩) (fun n k w hk h1n hn hr => pick_upto n 1 _ _ w hr (by have hk' : k < 13 := hk; omega) h1n hn (by omega)) ?_
                  refine rs_index (hO _ _) (.inl (Nat.ne_of_beq_eq_false rfl)) 23 _ _ 2 (GInt (-100) 1000) 1 rfl _ _ rfl rfl rfl rfl (by omega) (by omega) ix_drawn ?_
                  refine rs_load (hO _ _) (.inl (Nat.ne_of_beq_eq_false rfl)) 3 _ (GInt (-100) 1000) rfl _ rfl rfl ag_drawn ?_
                  refine rs_build (hO _ _) (.inl (Nat.ne_of_beq_eq_false rfl)) 1 (GInt (-100) 1000) 3 (fun ρ w hK => by
                    obtain ⟨⟨q, hq, hq0, hq1⟩, -⟩ := hK
                    have h' : ρ (.tmp 130) = .int .i64 q := hq
                    refine ⟨#[.int .i64 q], rfl, ?_, ?_⟩
                    · go_simp
                    · intro c hc
                      simp at hc
                      exact ⟨q, hc, by omega, by omega⟩) ?_
                  refine rs_appendV rfl (gm + 1) 3 23 (.slice Ao os.length co) os.length (ints os) (GInt (-100) 1000) rfl R (P + 6000 + 1 + 1) rfl (fun g hg => .inr hg) (show R < gm + 1 by omega) zm _ _ rfl _ _ rfl rfl rfl rfl i0 _ 8 Try.underlying23 hi0 hz0 hz1 hz2 rfl (by omega) (by decide) (fun u hu => by obtain ⟨q, rfl, -⟩ := hu; rfl) ?_
                  apply rs_eq (hO _ _) (.inl (Nat.ne_of_beq_eq_false rfl))
                  · intro ρ w' ho hK
                    obtain ⟨h0, -⟩ := hK
                    have h0' : ρ (.tmp 5) = .pointer (some ⟨gm, 0, none⟩) := h0
                    go_simp
                    try exact rfl
                  intro f w9 k9 hk9 hI9 ht9 hcp9
                  have E0 : f 0 = _ := ht9 0 (Nat.le_of_ble_eq_true rfl)
                  have E1 : f 1 = _ := ht9 1 (Nat.le_of_ble_eq_true rfl)
                  have E2 : f 2 = _ := ht9 2 (Nat.le_of_ble_eq_true rfl)
                  have E3 : f 3 = _ := ht9 3 (Nat.le_of_ble_eq_true rfl)
                  have E5 : f 5 = _ := ht9 5 (Nat.le_of_ble_eq_true rfl)
                  have E11 : f 11 = _ := ht9 11 (Nat.le_of_ble_eq_true rfl)
                  have Hr9 : Rd w9 R (P + 6000 + 1 + 1 + 40 * k9) := hI9.1
                  have HE9 : Only (fun g => g = R ∨ (Value.slice Ao os.length co).ownBlock = some g) w7 w9 := hI9.2.1
                  have HJ9 : (∃ u, GInt (-100) 1000 u ∧ w9.ownsRow (gm + 1) 3 1 (f 10) (os.length + 1) (ints os ++ [u])) ∧ ∀ g, (f 10).ownBlock = some g → (Value.slice Ao os.length co).ownBlock = some g ∨ w7.heap.size ≤ g := hI9.2.2
                  have hk9' : k9 ≤ 13 := hk9
                  simp only [putAll, E0, E1, E2, E3, E5, E11, Nat.zero_add, Nat.reduceAdd, Act.put, List.take, List.setIfInBounds_toArray, List.set_cons_succ, List.set_cons_zero, List.getElem_toArray, List.getElem_cons_succ, List.getElem_cons_zero]
                  clear E0 E1 E2 E3 E5 E11 hI9 ht9 hcp9 hk9 hO
                  generalize f 4 = r4, f 6 = r6, f 7 = r7, f 8 = r8, f 9 = r9 at *
                  generalize f 10 = v9 at *
                  obtain ⟨⟨uu, ⟨q, rfl, hq0, hq1⟩, hown9⟩, hat9⟩ := HJ9
                  obtain ⟨A9, c9, e9⟩ := slice_of_own hown9
                  subst e9
                  have Ho9 := Lib.hid hown9
                  have Hat9 := Lib.hid hat9
                  have HE9' := Lib.hid HE9
                  have Hr9' := Lib.hid (Hr9.more (show P + 6000 + 1 + 1 + 40 * k9 ≤ P + 7000 by omega))
                  clear p0 p1 p2 p3
                  have hbx := (HE9.block gm zm hneO).trans HC7.out.box
                  have zf := blk_lt hbx
                  have f0 := blk_cell hbx 0
                  have f1 := blk_cell hbx 1
                  have f2 := blk_cell hbx 2
                  have f3 := blk_cell hbx 3
                  have ff3 := blk_free hbx 3
                  have HX9 := Lib.hid ((HE9.block _ (blk_lt HX7.out) (fun e => by
                    rcases e with h | h
                    · omega
                    · have := (HC7.out.o.lt _ h).1; omega)).trans HX7.out)
                  have o0 := blk_cell HX9.out 0
                  have o1 := blk_cell HX9.out 1
                  have o2 := blk_cell HX9.out 2
                  have o3 := blk_cell HX9.out 3
                  have b0 := blk_free HX9.out 0
                  have b1 := blk_free HX9.out 1
                  have b2 := blk_free HX9.out 2
                  have b3 := blk_free HX9.out 3
                  have zr := blk_lt HX9.out
                  simp at f0 f1 f2 f3 o0 o1 o2 o3
                  clear hown9 hat9 HE9 Hr9 hbx hk9' hi0 hz0 hz1 hz2
                  go_wp2_with fail
                  refine bodyPost_ret (v := .agg #[.int .i64 x, .slice An ns.length cn, .slice Ag gs.length cg, .slice A9 (os.length + 1) c9]) (by simp [results, Try.results35, go_sem, o0, o1, o2, o3]) rfl (finC (c := ⟨x, ns, gs, os ++ [q]⟩) (HC7.out.addO (xs := os ++ [q]) HE9'.out (fun g hg hn e => e.elim (fun e => by omega) hn) (by rw [List.length_append, ints_snoc]; exact Ho9.out) Hat9.out) (only_set (HO7.out.aft HE9'.out fun g hg => hg.elim .inr fun h => .inl (by have := (HC7.out.o.lt g h).1; omega)) (by omega)) (rd_set Hr9'.out (by omega)) (by omega) zR (by omega) ⟨by simp only; omega, by simp only; omega, by simp only; omega, by simp only; omega, by simp; omega, Hn.out, Hl.out, (fun q hq => by
                      rcases List.mem_append.1 hq with h | h
                      · exact Hos.out q h
                      · rw [List.mem_singleton.1 h]
                        exact ⟨hq0, hq1⟩)⟩ _ _ _ _)
                · have hneK : (Value.slice An ns.length cn).ownBlock ≠ some gm := fun e => by have := (HC7.out.n.lt gm e).1; omega
                  obtain ⟨zm, p0, p1, p2, p3⟩ := HC7.out.cells
                  have Hlit := Lib.hid (Row.of_own (World.ownsRow_lit (base := w7.heap.size) (e := 3) (size := 1) w7 #[.int .i64 (-1)] 1 (Nat.le_refl _) (by unfold maxLen; omega) rfl))
                  go_wp2_with (
                    at_builtin
                    refine append_ints rfl (.tmp 137) (.tmp 138) rfl (gm + 1) _ ns.length _ rfl (HC7.out.n.alloc _) _ 1 [.int .i64 (-1)] rfl Hlit.out (by simp [Value.oneCell']) (by omega) (by simp; omega) ?_
                    intro v9 w9 hown9 hg9 hat9
                    obtain ⟨A9, c9, e9⟩ := slice_of_own hown9
                    subst e9
                    have Ho9 := Lib.hid hown9
                    have HE9 := Lib.hid (app_only hg9)
                    have Hr9 := Lib.hid (app_rd Hr7.out hg9 HC7.out.n (by omega))
                    have Hat9 := Lib.hid (app_at hat9)
                    clear p0 p1 p2 p3
                    have hbx := (HE9.out.block gm zm hneK).trans HC7.out.box
                    have zf := blk_lt hbx
                    have f0 := blk_cell hbx 0
                    have f1 := blk_cell hbx 1
                    have f2 := blk_cell hbx 2
                    have f3 := blk_cell hbx 3
                    have ff1 := blk_free hbx 1
                    have HX9 := Lib.hid ((HE9.out.block _ (blk_lt HX7.out) (fun e => by have := (HC7.out.n.lt _ e).1; omega)).trans HX7.out)
                    have o0 := blk_cell HX9.out 0
                    have o1 := blk_cell HX9.out 1
                    have o2 := blk_cell HX9.out 2
                    have o3 := blk_cell HX9.out 3
                    have b0 := blk_free HX9.out 0
                    have b1 := blk_free HX9.out 1
                    have b2 := blk_free HX9.out 2
                    have b3 := blk_free HX9.out 3
                    have zr := blk_lt HX9.out
                    simp at f0 f1 f2 f3 o0 o1 o2 o3
                    clear hown9 hg9 hat9 hbx)
                  refine bodyPost_ret (v := .agg #[.int .i64 x, .slice A9 (ns.length + 1) c9, .slice Ag gs.length cg, .slice Ao os.length co]) (by simp [results, Try.results35, go_sem, o0, o1, o2, o3]) rfl (finC (c := ⟨x, ns ++ [-1], gs, os⟩) (HC7.out.addN (xs := ns ++ [-1]) HE9.out (fun g _ hn => hn) (by rw [List.length_append, ints_snoc]; exact Ho9.out) Hat9.out) (only_set (HO7.out.aft HE9.out fun g hg => .inl (by have := (HC7.out.n.lt g hg).1; omega)) (by omega)) (rd_set Hr9.out (by omega)) (by omega) zR (by omega) ⟨by simp only; omega, by simp only; omega, by simp; omega, by simp only; omega, by simp only; omega, (fun q hq => by
                      rcases List.mem_append.1 hq with h | h
                      · exact Hn.out q h
                      · rw [List.mem_singleton.1 h]
                        exact ⟨by omega, by omega⟩), Hl.out, Hos.out⟩ _ _ _ _)
                · have hneK : (Value.slice Ag gs.length cg).ownBlock ≠ some gm := fun e => by have := (HC7.out.g.lt gm e).1; omega
                  obtain ⟨zm, p0, p1, p2, p3⟩ := HC7.out.cells
                  have Hlit := Lib.hid (Row.of_own (World.ownsRow_lit (base := w7.heap.size) (e := 64) (size := 2) w7 #[.int .i64 (2 * M), .int .i64 0] 1 (Nat.le_refl _) (by unfold maxLen; omega) rfl))
                  go_wp2_with (
                    at_builtin
                    refine append_gates rfl (.tmp 144) (.tmp 148) rfl (gm + 1) _ gs.length _ rfl (HC7.out.g.alloc _) _ 1 [.int .i64 (2 * M), .int .i64 0] rfl Hlit.out (by simp [Value.oneCell']) (by omega) (by simp; omega) ?_
                    intro v9 w9 hown9 hg9 hat9
                    obtain ⟨A9, c9, e9⟩ := slice_of_own hown9
                    subst e9
                    have Ho9 := Lib.hid hown9
                    have HE9 := Lib.hid (app_only hg9)
                    have Hr9 := Lib.hid (app_rd Hr7.out hg9 HC7.out.g (by omega))
                    have Hat9 := Lib.hid (app_at hat9)
                    clear p0 p1 p2 p3
                    have hbx := (HE9.out.block gm zm hneK).trans HC7.out.box
                    have zf := blk_lt hbx
                    have f0 := blk_cell hbx 0
                    have f1 := blk_cell hbx 1
                    have f2 := blk_cell hbx 2
                    have f3 := blk_cell hbx 3
                    have ff2 := blk_free hbx 2
                    have HX9 := Lib.hid ((HE9.out.block _ (blk_lt HX7.out) (fun e => by have := (HC7.out.g.lt _ e).1; omega)).trans HX7.out)
                    have o0 := blk_cell HX9.out 0
                    have o1 := blk_cell HX9.out 1
                    have o2 := blk_cell HX9.out 2
                    have o3 := blk_cell HX9.out 3
                    have b0 := blk_free HX9.out 0
                    have b1 := blk_free HX9.out 1
                    have b2 := blk_free HX9.out 2
                    have b3 := blk_free HX9.out 3
                    have zr := blk_lt HX9.out
                    simp at f0 f1 f2 f3 o0 o1 o2 o3
                    clear hown9 hg9 hat9 hbx)
                  refine bodyPost_ret (v := .agg #[.int .i64 x, .slice An ns.length cn, .slice A9 (gs.length + 1) c9, .slice Ao os.length co]) (by simp [results, Try.results35, go_sem, o0, o1, o2, o3]) rfl (finC (c := ⟨x, ns, gs ++ [(2 * M, 0)], os⟩) (HC7.out.addG (xs := gs ++ [(2 * M, 0)]) HE9.out (fun g _ hn => hn) (by rw [List.length_append, cubes_append]; exact Ho9.out) Hat9.out) (only_set (HO7.out.aft HE9.out fun g hg => .inl (by have := (HC7.out.g.lt g hg).1; omega)) (by omega)) (rd_set Hr9.out (by omega)) (by omega) zR (by omega) ⟨by simp only; omega, by simp only; omega, by simp only; omega, by simp; omega, by simp only; omega, Hn.out, (fun q hq => by
                      rcases List.mem_append.1 hq with h | h
                      · exact Hl.out q h
                      · rw [List.mem_singleton.1 h]
                        exact ⟨⟨by simp only; omega, by simp only; omega⟩, by simp only; omega, by simp only; omega⟩), Hos.out⟩ _ _ _ _)
                · obtain ⟨W4, hW4⟩ : ∃ W4, W4 = w7 := ⟨_, rfl⟩
                  subst hW4
                  have Hr8 := Lib.hid (Hr7.out.more (show P + 6000 + 1 + 1 ≤ P + 7000 by omega))
                  go_wp2_with fail
                  go_loopw [] (fun wr => ∃ (hs : List (Int × Int)) (vH : Value), hs.length ≤ 15 ∧ Hid (∀ q ∈ hs, LitS q.1 ∧ LitS q.2) ∧ Hid (CB gm ⟨x, ns, hs, os⟩ (.slice An ns.length cn) vH (.slice Ao os.length co) wr) ∧ Hid (Rd wr R (P + 7000)) ∧ Hid (Only (· = R) w wr) ∧ Hid (wr.heap[w.heap.size]? = some (.cells #[.int .i64 0, .slice none 0 0, .slice none 0 0, .slice none 0 0] 26 (0, 0)))) (fun wr => 16 - gsLen gm wr)
                  case atStart => exact ⟨gs, _, by omega, Hl, HC7, Hr8, HO7, HX7⟩
                  case round =>
                    obtain ⟨hs, vH, hhl, Hhs, HC8, Hr9, HO8, HX8⟩ := hrel
                    clear HC7 Hr7 Hr8 HO7 HX7
                    obtain ⟨Ah, ch, eh⟩ := slice_of_own HC8.out.g
                    simp only at eh
                    subst eh
                    by_cases hl14 : (hs.length : Int) ≤ 14
                    · have hneK : (Value.slice Ah hs.length ch).ownBlock ≠ some gm := fun e => by have := (HC8.out.g.lt gm e).1; omega
                      obtain ⟨zm, p0, p1, p2, p3⟩ := HC8.out.cells
                      have hgl := gsLen_is HC8.out
                      simp only at hgl
                      have Hlit := Lib.hid (Row.of_own (World.ownsRow_lit (base := wr.heap.size) (e := 64) (size := 2) wr #[.int .i64 0, .int .i64 0] 1 (Nat.le_refl _) (by unfold maxLen; omega) rfl))
                      go_wp2_with (
                        at_builtin
                        refine append_gates rfl (.tmp 158) (.tmp 160) rfl (gm + 1) _ hs.length _ rfl (HC8.out.g.alloc _) _ 1 [.int .i64 0, .int .i64 0] rfl Hlit.out (by simp [Value.oneCell']) (by omega) (by simp; omega) ?_
                        intro v9 w9 hown9 hg9 hat9
                        obtain ⟨A9, c9, e9⟩ := slice_of_own hown9
                        subst e9
                        have Ho9 := Lib.hid hown9
                        have HE9 := Lib.hid (app_only hg9)
                        have Hr10 := Lib.hid (app_rd Hr9.out hg9 HC8.out.g (by omega))
                        have Hat9 := Lib.hid (app_at hat9)
                        clear p0 p1 p2 p3
                        have hbx := (HE9.out.block gm zm hneK).trans HC8.out.box
                        have q2 := blk_cell hbx 2
                        have q2f := blk_free hbx 2
                        have zq := blk_lt hbx
                        simp at q2
                        clear hown9 hg9 hat9 hbx)
                      have HCn := Lib.hid (HC8.out.addG (xs := hs ++ [(0, 0)]) HE9.out (fun g _ hn => hn) (by rw [List.length_append, cubes_append]; exact Ho9.out) Hat9.out)
                      go_roundw
                      case rel =>
                        refine ⟨hs ++ [(0, 0)], .slice A9 (hs.length + 1) c9, by simp; omega, Lib.hid fun q hq => ?_, HCn, Lib.hid ?_, Lib.hid ?_, Lib.hid ?_⟩
                        · rcases List.mem_append.1 hq with h | h
                          · exact Hhs.out q h
                          · rw [List.mem_singleton.1 h]
                            exact ⟨⟨by simp only; omega, by simp only; omega⟩, by simp only; omega, by simp only; omega⟩
                        · exact rd_set Hr10.out (by omega)
                        · exact only_set (HO8.out.aft HE9.out fun g hg => .inl (by have := (HC8.out.g.lt g hg).1; omega)) (by omega)
                        · exact res_set ((HE9.out.block _ (blk_lt HX8.out) (fun e => by have := (HC8.out.g.lt _ e).1; omega)).trans HX8.out) (by omega)
                      case measure =>
                        have h1 := gsLen_is HCn.out
                        have h2 := gsLen_is HC8.out
                        simp only [List.length_append, List.length_cons, List.length_nil] at h1 h2
                        rw [h1, h2]
                        omega
                    · obtain ⟨zf, f0, f1, f2, f3⟩ := HC8.out.cells
                      obtain ⟨ff0, ff1, ff2, ff3⟩ := HC8.out.free
                      have o0 := blk_cell HX8.out 0
                      have o1 := blk_cell HX8.out 1
                      have o2 := blk_cell HX8.out 2
                      have o3 := blk_cell HX8.out 3
                      have b0 := blk_free HX8.out 0
                      have b1 := blk_free HX8.out 1
                      have b2 := blk_free HX8.out 2
                      have b3 := blk_free HX8.out 3
                      have zr := blk_lt HX8.out
                      simp at o0 o1 o2 o3
                      go_wp2_with fail
                      refine bodyPost_ret (v := .agg #[.int .i64 x, .slice An ns.length cn, .slice Ah hs.length ch, .slice Ao os.length co]) (by simp [results, Try.results35, go_sem, o0, o1, o2, o3]) rfl (finC (c := ⟨x, ns, hs, os⟩) HC8.out HO8.out Hr9.out (by omega) zR (by omega) ⟨by simp only; omega, by simp only; omega, by simp only; omega, by simp only; omega, by simp only; omega, Hn.out, Hhs.out, Hos.out⟩ _ _ _ _)
                · have hneK : (Value.slice Ao os.length co).ownBlock ≠ some gm := fun e => by have := (HC7.out.o.lt gm e).1; omega
                  obtain ⟨zm, p0, p1, p2, p3⟩ := HC7.out.cells
                  have Hlit := Lib.hid (Row.of_own (World.ownsRow_lit (base := w7.heap.size) (e := 3) (size := 1) w7 #[.int .i64 0, .int .i64 0, .int .i64 0, .int .i64 0] 4 (Nat.le_refl _) (by unfold maxLen; omega) rfl))
                  go_wp2_with (
                    at_builtin
                    refine append_ints rfl (.tmp 108) (.tmp 109) rfl (gm + 1) _ os.length _ rfl (HC7.out.o.alloc _) _ 4 [.int .i64 0, .int .i64 0, .int .i64 0, .int .i64 0] rfl Hlit.out (by simp [Value.oneCell']) (by omega) (by simp; omega) ?_
                    intro v9 w9 hown9 hg9 hat9
                    obtain ⟨A9, c9, e9⟩ := slice_of_own hown9
                    subst e9
                    have Ho9 := Lib.hid hown9
                    have HE9 := Lib.hid (app_only hg9)
                    have Hr9 := Lib.hid (app_rd Hr7.out hg9 HC7.out.o (by omega))
                    have Hat9 := Lib.hid (app_at hat9)
                    clear p0 p1 p2 p3
                    have hbx := (HE9.out.block gm zm hneK).trans HC7.out.box
                    have zf := blk_lt hbx
                    have f0 := blk_cell hbx 0
                    have f1 := blk_cell hbx 1
                    have f2 := blk_cell hbx 2
                    have f3 := blk_cell hbx 3
                    have ff3 := blk_free hbx 3
                    have HX9 := Lib.hid ((HE9.out.block _ (blk_lt HX7.out) (fun e => by have := (HC7.out.o.lt _ e).1; omega)).trans HX7.out)
                    have o0 := blk_cell HX9.out 0
                    have o1 := blk_cell HX9.out 1
                    have o2 := blk_cell HX9.out 2
                    have o3 := blk_cell HX9.out 3
                    have b0 := blk_free HX9.out 0
                    have b1 := blk_free HX9.out 1
                    have b2 := blk_free HX9.out 2
                    have b3 := blk_free HX9.out 3
                    have zr := blk_lt HX9.out
                    simp at f0 f1 f2 f3 o0 o1 o2 o3
                    clear hown9 hg9 hat9 hbx)
                  refine bodyPost_ret (v := .agg #[.int .i64 x, .slice An ns.length cn, .slice Ag gs.length cg, .slice A9 (os.length + 4) c9]) (by simp [results, Try.results35, go_sem, o0, o1, o2, o3]) rfl (finC (c := ⟨x, ns, gs, os ++ [0, 0, 0, 0]⟩) (HC7.out.addO (xs := os ++ [0, 0, 0, 0]) HE9.out (fun g _ hn => hn) (by rw [List.length_append, ints_app4]; exact Ho9.out) Hat9.out) (only_set (HO7.out.aft HE9.out fun g hg => .inl (by have := (HC7.out.o.lt g hg).1; omega)) (by omega)) (rd_set Hr9.out (by omega)) (by omega) zR (by omega) ⟨by simp only; omega, by simp only; omega, by simp only; omega, by simp only; omega, by simp; omega, Hn.out, Hl.out, (fun q hq => by
                      rcases List.mem_append.1 hq with h | h
                      · exact Hos.out q h
                      · simp at h
                        subst h
                        exact ⟨by omega, by omega⟩)⟩ _ _ _ _)
end Go.Proofs.Ytkkkjbinfdohpaa

namespace Go.Proofs.Ytkkkjbinfdohpaa
open Go.RowKit
set_option maxRecDepth 100000
/-! Drawn circuits, as laws draw them. -/
/-- A result that is stored into its block, cell by cell. -/
def setR (w : World) (k : Nat) (a b c d : Value) : World := (((w.setCell ⟨k, 0, none⟩ a).setCell ⟨k, 1, none⟩ b).setCell ⟨k, 2, none⟩ c).setCell ⟨k, 3, none⟩ d
theorem own_setR {w : World} {k base n size : Nat} {e : TypeId} {v a b c d : Value} {xs : List Value} (h : w.ownsRow base e size v n xs) (hk : k < base) : (setR w k a b c d).ownsRow base e size v n xs :=
  own_set' (own_set' (own_set' (own_set' h hk) hk) hk) hk
theorem OwnC.setR {B k : Nat} {v a b d e : Value} {c : Cz} {w : World} (h : OwnC B v c w) (hk : k < B) : OwnC B v c (setR w k a b d e) := by
  obtain ⟨vN, vG, vO, rfl, h1, h2, h3, h4⟩ := h
  exact ⟨vN, vG, vO, rfl, own_setR h1 hk, own_setR h2 hk, own_setR h3 hk, h4⟩
theorem OwnC.only {E : Nat → Prop} {B : Nat} {v : Value} {c : Cz} {w w' : World} (h : OwnC B v c w) (ho : Only E w w') (hE : ∀ g, B ≤ g → ¬ E g) : OwnC B v c w' := by
  obtain ⟨vN, vG, vO, rfl, h1, h2, h3, h4⟩ := h
  exact ⟨vN, vG, vO, rfl, own_only h1 ho (fun g hg => hE g (h1.lt g hg).1), own_only h2 ho (fun g hg => hE g (h2.lt g hg).1), own_only h3 ho (fun g hg => hE g (h3.lt g hg).1), h4⟩
theorem OwnC.shape {B : Nat} {v : Value} {c : Cz} {w : World} (h : OwnC B v c w) : ∃ An cn Ag cg Ao co, v = .agg #[.int .i64 c.ins, .slice An c.next.length cn, .slice Ag c.gates.length cg, .slice Ao c.outs.length co] := by
  obtain ⟨vN, vG, vO, rfl, h1, h2, h3, -⟩ := h
  obtain ⟨An, cn, rfl⟩ := slice_of_own h1
  obtain ⟨Ag, cg, rfl⟩ := slice_of_own h2
  obtain ⟨Ao, co, rfl⟩ := slice_of_own h3
  exact ⟨An, cn, Ag, cg, Ao, co, rfl⟩
theorem OwnC.mono {B B' : Nat} {v : Value} {c : Cz} {w : World} (h : OwnC B v c w) (hB : B' ≤ B) : OwnC B' v c w := by
  obtain ⟨vN, vG, vO, rfl, h1, h2, h3, h4⟩ := h
  exact ⟨vN, vG, vO, rfl, own_mono h1 hB, own_mono h2 hB, own_mono h3 hB, h4⟩
theorem below_setR {B k : Nat} {w0 w : World} {a b c d : Value} (h : Below B w0 w) (hk : B ≤ k) : Below B w0 (setR w k a b c d) :=
  (((h.setCell (by exact hk) _).setCell (by exact hk) _).setCell (by exact hk) _).setCell (by exact hk) _
/-- What a law is given by a draw of a circuit. -/
def Drawn (w : World) (e : Ending) (w' : World) : Prop := ∃ v c, e = .returned v ∧ OwnC w.heap.size v c w' ∧ Small c ∧ Below w.heap.size w w'
end Go.Proofs.Ytkkkjbinfdohpaa

namespace Go.Proofs.Ytkkkjbinfdohpaa
open Go.RowKit
set_option maxRecDepth 100000
/-! Draws that end in a region which loads a circuit, draws more and stores the result. -/
@[reducible] def rdStepRS (Pg : Program) (ops : Array Oper) (R P : Nat) (w : World) (a : Act) (k : Nat) (R0 R1 : World → Prop) (d : Nat) : RS :=
  { P := Pg, ops := ops, E := fun g => g = R ∨ g = k, F := (· = R), rd := some (R, P), w0 := w, J := JStep R0 R1, d := d, a0 := a }
theorem rdStepRS_ok {Pg : Program} {ops : Array Oper} {R P : Nat} {w : World} {a : Act} {k : Nat} {R0 R1 : World → Prop} {d : Nat} (hR : R < w.heap.size) (hk : k < w.heap.size) (h0 : ∀ w1 w2, R0 w1 → Only (· = R) w1 w2 → R0 w2) (h1 : ∀ w1 w2, R1 w1 → Only (· = R) w1 w2 → R1 w2) : (rdStepRS Pg ops R P w a k R0 R1 d).Ok :=
  ⟨fun _ h => .inl h, fun ov w1 w2 hj ho => by
    cases ov with
    | none => exact h0 _ _ hj ho
    | some v => exact h1 _ _ hj ho,
    fun _ _ e => by cases e; exact ⟨rfl, hR⟩, fun g hg => by
      rcases hg with rfl | rfl
      · exact hR
      · exact hk⟩
section
variable {S : RS} {Fin : List Ty → Prop} {o : Oper} {l : List Oper} {i : Nat} {τs : List Ty}
theorem rs_doR (hd : i = S.d) {R0 R1 : World → Prop} (hJ : S.J = JStep R0 R1) (R P : Nat) (hrd : S.rd = some (R, P))
    (h : ∀ ρ w, Only S.E S.w0 w → R0 w → Known S.ops (tys τs) S.a0 ρ w i o.op.operands.toList → ∃ w', (execOp ρ o).run S.P w = .ok .skip w' ∧ R1 w' ∧ Only S.E w w' ∧ ∀ Q, Rd w R Q → Rd w' R Q)
    (rest : RSeq S Fin l (i + 1) (TAny :: τs)) : RSeq S Fin (o :: l) i τs := by
  intro _
  refine ⟨TAny, stb_any _, fun k ov ρ w hk hI hov hK => ?_, rest⟩
  obtain rfl := hov (by rw [hd]; exact ancB_self _ _ _)
  have h0 : R0 w := by have := hI.2.2; rw [hJ] at this; exact this
  obtain ⟨w', hrun, h1, hon, hrr⟩ := h ρ w hI.2.1 h0 hK
  unfold Good
  rw [hrun]
  refine ⟨trivial, ⟨?_, hI.2.1.trans hon, ?_⟩, hon⟩
  · have hr' := hI.1
    rw [hrd] at hr' ⊢
    have hr'' : Rd w R (P + 40 * k) := hr'
    exact (hrr _ hr'').more (by omega)
  · rw [if_pos hd, hJ]
    exact h1
/-- A call that draws. -/
theorem rs_drawcall (hO : S.Ok) (hid : i ≠ S.d ∨ ∀ ov w, S.J ov w) (T : Ty) (hT : Stb S.E T) (f : FuncId) (args : Array Operand) (at_ : Array TypeId) (ho : o.op = .call { callee := .value (.func f), args := args, argTypes := at_ }) (R P : Nat) (hrd : S.rd = some (R, P))
    (h : ∀ k ρ w, k < S.ops.size → Rd w R (P + 40 * k) → Only S.E S.w0 w → Known S.ops (tys τs) S.a0 ρ w i (.func f :: args.toList) → ∃ vs, (execOp ρ o).run S.P w = .ok (.enter f vs) w ∧ Calls S.P f vs w fun e w' => ∃ v, e = .returned v ∧ T w' v ∧ Rd w' R (P + 40 * k + 40) ∧ w.grownBy w' (some R))
    (rest : RSeq S Fin l (i + 1) (T :: τs)) : RSeq S Fin (o :: l) i τs := by
  refine rs_plain hO hid T hT (fun k ρ w hk hr hon hK => ?_) rest
  have he : o.op.operands.toList = .func f :: args.toList := by rw [ho]; simp [Op.operands, Call.operands]
  rw [he] at hK
  rw [hrd] at hr
  obtain ⟨vs, h1, h2⟩ := h k ρ w hk hr hon hK
  unfold Good
  rw [h1]
  refine h2.mono ?_
  rintro e w' ⟨v, rfl, h3, h4, h5⟩
  refine ⟨h3, by rw [hrd]; exact h4.more (by omega), Only.grown h5 fun q hq => ?_⟩
  cases hq
  exact (hO.reader R P hrd).1
end
theorem blk_only {E : Nat → Prop} {w w' : World} {k : Nat} {o : Obj} (h : w.heap[k]? = some o) (ho : Only E w w') (hE : ¬ E k) : w'.heap[k]? = some o := (ho.block k (blk_lt h) hE).trans h
theorem setR_box {w : World} {k : Nat} {x0 x1 x2 x3 a b c d : Value} {t : TypeId} (h : w.heap[k]? = some (.cells #[x0, x1, x2, x3] t (0, 0))) : (setR w k a b c d).heap[k]? = some (.cells #[a, b, c, d] t (0, 0)) := by
  have h1 := heap_setCell_same w k 0 _ _ a h
  have h2 := heap_setCell_same _ k 1 _ _ b h1
  have h3 := heap_setCell_same _ k 2 _ _ c h2
  exact heap_setCell_same _ k 3 _ _ d h3
theorem setR_only {E : Nat → Prop} {w : World} {k : Nat} {a b c d : Value} (hE : E k) : Only E w (setR w k a b c d) :=
  (((Only.grown (set_grown w k 0 a) fun _ h => (Option.some.inj h) ▸ hE).trans (Only.grown (set_grown _ k 1 b) fun _ h => (Option.some.inj h) ▸ hE)).trans (Only.grown (set_grown _ k 2 c) fun _ h => (Option.some.inj h) ▸ hE)).trans (Only.grown (set_grown _ k 3 d) fun _ h => (Option.some.inj h) ▸ hE)
theorem rd_only_k {w w' : World} {R Q k : Nat} (h : Rd w R Q) (hne : ∀ o x, w.cell? ⟨k, o, none⟩ ≠ some (.int .u8 x)) (hk : k ≠ R) (ho : Only (· = k) w w') : Rd w' R Q := by
  obtain ⟨A, c, p, bs, hh, hp, h1, h2, h3, h4⟩ := h
  refine ⟨A, c, p, bs, (ho.block R (blk_lt hh) (fun e => hk e.symm)).trans hh, hp, h1, h2, h3, fun h0 => ?_⟩
  obtain ⟨b, o, rfl, hb, hc⟩ := h4 h0
  have hbk : b ≠ k := by
    rintro rfl
    obtain ⟨x, hx⟩ : ∃ x, bs[0]? = some x := ⟨bs[0], List.getElem?_eq_getElem h0⟩
    exact hne _ _ (hc 0 x hx).1
  refine ⟨b, o, rfl, hb, fun i' x hx => ?_⟩
  obtain ⟨hc1, hc2⟩ := hc i' x hx
  exact ⟨(World.cell?_of_block (a := ⟨b, o + i', none⟩) (ho.block b (Nat.lt_trans hb (blk_lt hh)) hbk)).trans hc1, hc2⟩
theorem zero_no {w : World} {k : Nat} {t : TypeId} (h : w.heap[k]? = some (.cells #[.int .i64 0, .slice none 0 0, .slice none 0 0, .slice none 0 0] t (0, 0))) : ∀ o x, w.cell? ⟨k, o, none⟩ ≠ some (.int .u8 x) := fun o x e => by
  rw [blk_cell h] at e
  match o, e with
  | 0, e => simp at e
  | 1, e => simp at e
  | 2, e => simp at e
  | 3, e => simp at e
  | o + 4, e => simp at e
def DrawnFindViolation (w : World) (e : Ending) (w' : World) : Prop := ∃ v c, ∃ o : Int, e = .returned (.tuple #[v, .int .i64 o]) ∧ OwnC w.heap.size v c w' ∧ Small c ∧ -1 ≤ o ∧ o ≤ 7 ∧ Below w.heap.size w w'
end Go.Proofs.Ytkkkjbinfdohpaa

namespace Go.Proofs.Ytkkkjbinfdohpaa
open Go.RowKit
/-! Drawn regions with an append of a drawn pair, and the place of the new row. -/
def GAggQ (G : Int × Int → Prop) (v : Value) : Prop := ∃ x : Int × Int, v = .agg #[.int .i64 x.1, .int .i64 x.2] ∧ G x
def TLitQ (E : Nat → Prop) (n : Nat) (G : Int × Int → Prop) : Ty := fun w v => ∃ g, v = .slice (some ⟨g, 0, none⟩) n n ∧ ¬ E g ∧ g < w.heap.size ∧ ∀ i, i < n → ∃ x : Int × Int, w.cell? ⟨g, i * 2, none⟩ = some (.int .i64 x.1) ∧ w.cell? ⟨g, i * 2 + 1, none⟩ = some (.int .i64 x.2) ∧ G x
section
variable (E : Nat → Prop)
theorem stb_litQ (n : Nat) (G : Int × Int → Prop) : Stb E (TLitQ E n G) := by
  rintro v w w' ⟨g, hv, hn, hl, hc⟩ hg
  refine ⟨g, hv, hn, Nat.lt_of_lt_of_le hl hg.size, fun i hi => ?_⟩
  obtain ⟨x, hx, hy, hb⟩ := hc i hi
  exact ⟨x, cell_on hg hn hl hx, cell_on hg hn hl hy, hb⟩
end
def JRowQ (T B : Nat) (e : TypeId) (v : Value) (ks : List (Int × Int)) (G : Int × Int → Prop) : Option Value → World → Prop
  | none, w => w.ownsRow B e 2 v ks.length (cubes ks)
  | some v', w => (∃ x, G x ∧ w.ownsRow B e 2 v' (ks.length + 1) (cubes (ks ++ [x]))) ∧ ∀ g, v'.ownBlock = some g → v.ownBlock = some g ∨ T ≤ g
@[reducible] def rowRSQ (Pg : Program) (ops : Array Oper) (R P : Nat) (w : World) (a : Act) (B : Nat) (e : TypeId) (v : Value) (ks : List (Int × Int)) (G : Int × Int → Prop) (d : Nat) : RS :=
  { P := Pg, ops := ops, E := fun g => g = R ∨ v.ownBlock = some g, F := (· = R), rd := some (R, P), w0 := w, J := JRowQ w.heap.size B e v ks G, d := d, a0 := a }
theorem rowRSQ_ok {Pg : Program} {ops : Array Oper} {R P : Nat} {w : World} {a : Act} {B : Nat} {e : TypeId} {v : Value} {ks : List (Int × Int)} {G : Int × Int → Prop} {d : Nat} (h : R < w.heap.size) (hB : R < B) (hown : w.ownsRow B e 2 v ks.length (cubes ks)) : (rowRSQ Pg ops R P w a B e v ks G d).Ok :=
  ⟨fun _ h => .inl h, fun ov w1 w2 hj ho => by
    have hg : w1.grownBy w2 (some R) := ho.grownBy
    cases ov with
    | none =>
      have hj' : w1.ownsRow B e 2 v ks.length (cubes ks) := hj
      refine World.ownsRow.kept hj' hg ?_
      cases hv : v.ownBlock with
      | none => exact .inl rfl
      | some g => exact .inr fun e => by have h1 := (hj'.lt g hv).1; have h2 := Option.some.inj e; omega
    | some v' =>
      obtain ⟨⟨x, hx, hj'⟩, hl⟩ := hj
      refine ⟨⟨x, hx, World.ownsRow.kept hj' hg ?_⟩, hl⟩
      cases hv : v'.ownBlock with
      | none => exact .inl rfl
      | some g => exact .inr fun e => by have h1 := (hj'.lt g hv).1; have h2 := Option.some.inj e; omega,
    fun _ _ e => by cases e; exact ⟨rfl, h⟩, fun g hg => by
      rcases hg with rfl | hg
      · exact h
      · exact (hown.lt g hg).2⟩
section
variable {S : RS} {Fin : List Ty → Prop} {o : Oper} {l : List Oper} {i : Nat} {τs : List Ty}
theorem rs_buildQ (hO : S.Ok) (hid : i ≠ S.d ∨ ∀ ov w, S.J ov w) (n : Nat) (G : Int × Int → Prop) (e : TypeId)
    (h : ∀ ρ w, Known S.ops (tys τs) S.a0 ρ w i o.op.operands.toList → ∃ (ks : List (Int × Int)) (cs : Array Value), ks.length = n ∧ cs = (cubes ks).toArray ∧ (execOp ρ o).run S.P w = .ok (.value (.slice (some ⟨w.heap.size, 0, none⟩) n n)) (w.alloc (.cells cs e)) ∧ ∀ c ∈ ks, G c)
    (rest : RSeq S Fin l (i + 1) (TLitQ S.E n G :: τs)) : RSeq S Fin (o :: l) i τs := by
  refine rs_plain hO hid _ (stb_litQ _ _ _) (fun k ρ w hk hr hon hK => ?_) rest
  obtain ⟨ks, cs, h0, h1, h2, h3⟩ := h ρ w hK
  subst h0 h1
  unfold Good
  rw [h2]
  have hb : Below w.heap.size w (w.alloc (.cells (cubes ks).toArray e)) := (Below.refl _ _).alloc (Nat.le_refl _) _
  refine ⟨⟨w.heap.size, rfl, fun hE => ?_, by simp, fun j hj => ?_⟩, ?_, Only.of_below _ hb⟩
  · have h4 := hO.low _ hE
    have h5 := hon.size
    omega
  · obtain ⟨x, hx⟩ := at_some hj
    obtain ⟨h4, h5⟩ := cubes_get hx
    exact ⟨x, by rw [World.cell?_alloc_new, List.getElem?_toArray]; exact h4, by rw [World.cell?_alloc_new, List.getElem?_toArray]; exact h5, h3 x (List.mem_of_getElem? hx)⟩
  · have hr' := rdO_more hr
    cases hrd : S.rd with
    | none => trivial
    | some x =>
      rw [hrd] at hr'
      exact Rd.alloc hr' _
theorem rs_appendQ (hd : i = S.d) (B : Nat) (e t : TypeId) (v : Value) (ks : List (Int × Int)) (G : Int × Int → Prop) (hJ : S.J = JRowQ S.w0.heap.size B e v ks G) (R P : Nat) (hrd : S.rd = some (R, P)) (hE : ∀ g, v.ownBlock = some g → S.E g) (hRB : R < B) (hB : B ≤ S.w0.heap.size)
    (x y : Nat) (ho : o.op = .call { callee := .builtin .append, args := #[.tmp x, .tmp y], argTypes := #[t, t] }) (jx jy : Nat) (hx : writer S.ops i x = some jx) (hy : writer S.ops i y = some jy) (hTx : tys τs jx = TEq v) (hTy : tys τs jy = TLitQ S.E 1 G)
    (inf : TypeInfo) (z : Value) (bytes : Nat) (ht : S.P.underlying t = some (.slice e)) (hi : S.P.info? e = some inf) (hz : inf.zero = some z) (hsize : inf.size = 2) (hby : inf.bytes = bytes) (hzs : z.cells.size = 2) (h63 : ks.length ≤ 1000000) (hbb : bytes ≤ 1000)
    (rest : RSeq S Fin l (i + 1) (TAny :: τs)) : RSeq S Fin (o :: l) i τs := by
  intro _
  refine ⟨TAny, stb_any _, fun k ov ρ w hk hI hov hK => ?_, rest⟩
  obtain rfl := hov (by rw [hd]; exact ancB_self _ _ _)
  rw [ho] at hK
  have h1 := hK.1
  have h2 := hK.2.1
  rw [hx] at h1
  rw [hy] at h2
  simp only [hTx] at h1
  simp only [hTy] at h2
  have h1' : ρ (.tmp x) = v := h1
  obtain ⟨g, hv, hg, hl, hc⟩ := h2
  obtain ⟨q, hq0, hq1, hG⟩ := hc 0 (by omega)
  have hown : w.ownsRow B e 2 v ks.length (cubes ks) := by have := hI.2.2; rw [hJ] at this; exact this
  have hr : Row w 2 (.slice (some ⟨g, 0, none⟩) 1 1) 1 (cubes [q]) := ⟨rfl, _, 1, rfl, Nat.le_refl _, by unfold maxLen; omega, fun _ => ⟨g, 0, rfl, hl, fun j u hu => by
    match j, hu with
    | 0, hu => have := Option.some.inj hu; subst this; exact hq0
    | 1, hu => have := Option.some.inj hu; subst this; exact hq1
    | j + 2, hu => simp [cubes] at hu⟩⟩
  obtain ⟨v', w', hrun, hown', hgr, hat⟩ := run_append_row_at (P := S.P) w B t o.type e inf z 2 bytes ht hi hz hsize hby hzs (by decide) v ks.length (cubes ks) hown _ 1 (cubes [q]) hr (by simp [cubes, Value.oneCell']) (by unfold maxLen; omega) (Nat.le_trans (Nat.mul_le_mul (show ks.length + 1 ≤ 1000001 by omega) hbb) (by decide)) (Nat.le_trans hB hI.2.1.size)
  have hre : (execOp ρ o).run S.P w = .ok (.value v') w' := by
    unfold execOp
    simp only [ho, resolve, invoke, builtin, Sem.run_bind, Sem.run_pure, Result.andThen_ok, List.map_toArray, List.map_cons, List.map_nil, h1', hv, hrun]
  unfold Good
  rw [hre]
  have hon : Only S.E w w' := Only.grown hgr hE
  refine ⟨trivial, ⟨?_, hI.2.1.trans hon, ?_⟩, hon⟩
  · have hr' := hI.1
    rw [hrd] at hr' ⊢
    have hr'' : Rd w R (P + 40 * k) := hr'
    exact (hr''.grown hgr fun q hq => by have := (hown.lt q hq).1; omega).more (by omega)
  · rw [if_pos hd, hJ]
    refine ⟨⟨q, hG, by rw [cubes_append]; exact hown'⟩, fun g hg => ?_⟩
    rcases hat with h | h
    · exact .inl (h.symm.trans hg)
    · have := Option.some.inj (h.symm.trans hg)
      have h5 := hI.2.1.size
      exact .inr (by omega)
end
end Go.Proofs.Ytkkkjbinfdohpaa

namespace Go.Proofs.Ytkkkjbinfdohpaa
open Go.RowKit
set_option maxRecDepth 100000
/-! A drawn small circuit. -/
set_option maxHeartbeats 16000000 in
theorem l20Small_any (R P : Nat) (n : Int) (w : World) (h : Rd w R P) (hP : P ≤ 80000) (h0 : 0 ≤ n) (h1 : n ≤ 1000) :
    Calls Try.prog 57 #[.pointer (some ⟨R, 0, none⟩), .int .i64 n] w (DrewC R (P + 20000) w) := by
  have Hr := Lib.hid h
  have zR := h.lt
  clear h
  go_enter Try.func57, Try.ntmps57
  go_wp2_with fail
  have hsz : (w.alloc (.cells #[.int .i64 0, .slice none 0 0, .slice none 0 0, .slice none 0 0] 26)).heap.size = w.heap.size + 1 := by simp
  refine (l20Circuit_any R P n _ (Hr.out.alloc _) (by omega) h0 h1).mono ?_
  rintro e w1 ⟨v1, c0, rfl, hOc, hSc, hr1, hg1⟩
  rw [hsz] at hOc
  clear hsz
  have Hr1 := Lib.hid hr1
  have HO1 := Lib.hid (only_drawn (only_alloc (Only.refl (· = R) w) _) hg1 (.inr rfl))
  have HX1 := Lib.hid (res_grown (heap_alloc_new w _) hg1 (fun e => by have := Option.some.inj e; omega))
  obtain ⟨An, cn, Ag, cg, Ao, co, rfl⟩ := hOc.shape
  have HOc := Lib.hid hOc
  have HSc := Lib.hid hSc
  clear hr1 hg1 Hr hOc hSc
  go_wp2_with fail
  have hb2 := bel_new w1 (.cells #[.int .i64 c0.ins, .slice An c0.next.length cn, .slice Ag c0.gates.length cg, .slice Ao c0.outs.length co] 26)
  have HCc2 := Lib.hid (HOc.out.only (E := fun _ => False) (Only.of_below _ hb2) fun _ _ e => e)
  have PCc2 := Lib.hid (PCells.boxed w1 c0.ins (.slice An c0.next.length cn) (.slice Ag c0.gates.length cg) (.slice Ao c0.outs.length co) 26)
  have Hr2 := Lib.hid (Hr1.out.alloc (.cells #[.int .i64 c0.ins, .slice An c0.next.length cn, .slice Ag c0.gates.length cg, .slice Ao c0.outs.length co] 26))
  have HO2 := Lib.hid (only_alloc HO1.out (.cells #[.int .i64 c0.ins, .slice An c0.next.length cn, .slice Ag c0.gates.length cg, .slice Ao c0.outs.length co] 26))
  have HX2 := Lib.hid ((hb2.block w.heap.size (blk_lt HX1.out)).trans HX1.out)
  have hgb1 : w.heap.size + 1 ≤ w1.heap.size := blk_lt HX1.out
  clear Hr1 HO1 HX1 hb2 HOc
  obtain ⟨gb, hgb⟩ : ∃ gb, w1.heap.size = gb := ⟨_, rfl⟩
  rw [hgb] at PCc2 hgb1 ⊢
  clear hgb
  generalize w1.alloc (.cells #[.int .i64 c0.ins, .slice An c0.next.length cn, .slice Ag c0.gates.length cg, .slice Ao c0.outs.length co] 26) = w2 at *
  refine (odd_every n _ _ _ Hr2.out (by omega) h0 (by omega)).mono ?_
  rintro e w3 ⟨b, rfl, hr3, hg3⟩
  have Hr3 := Lib.hid (hr3.more (show P + 10000 + 1 ≤ P + 10010 by omega))
  have HO3 := Lib.hid (only_drawn HO2.out hg3 (.inr rfl))
  have HX3 := Lib.hid (res_grown HX2.out hg3 (fun e => by have := Option.some.inj e; omega))
  have HCc3 := Lib.hid (HCc2.out.only (Only.grown (E := (· = R)) hg3 fun k hk => (Option.some.inj hk).symm) (fun g hg e => by omega))
  have PCc3 := Lib.hid (PCc2.out.grown hg3 (fun e => by have := Option.some.inj e; omega))
  have HCb3 : Hid True := Lib.hid trivial
  clear hr3 hg3 Hr2 HO2 HX2 HCc2 PCc2
  cases b
  · obtain ⟨z, p0, p1, p2, p3⟩ := PCc3.out
    go_wp2_with fail
    refine (specValid_any _ c0 _ HCc3.out.at).mono ?_
    rintro e w4 ⟨rfl, hb4⟩
    have Hr4 := Lib.hid (Rd.below Hr3.out hb4 Hr3.out.lt)
    have HO4 := Lib.hid (HO3.out.trans (Only.of_below _ hb4))
    have HX4 := Lib.hid ((hb4.block w.heap.size (blk_lt HX3.out)).trans HX3.out)
    have HCc4 := Lib.hid (HCc3.out.only (E := fun _ => False) (Only.of_below _ hb4) fun _ _ e => e)
    have PCc4 := Lib.hid (PCc3.out.below hb4)
    have HCb4 : Hid True := Lib.hid trivial
    clear hb4 Hr3 HO3 HX3 HCc3 PCc3 z p0 p1 p2 p3 HCb3
    cases hv : Cir.valid c0
    · clear hv
      obtain ⟨z, p0, p1, p2, p3⟩ := PCc4.out
      have o0 := blk_cell HX4.out 0
      have o1 := blk_cell HX4.out 1
      have o2 := blk_cell HX4.out 2
      have o3 := blk_cell HX4.out 3
      have f0 := blk_free HX4.out 0
      have f1 := blk_free HX4.out 1
      have f2 := blk_free HX4.out 2
      have f3 := blk_free HX4.out 3
      have zr := blk_lt HX4.out
      simp at o0 o1 o2 o3
      clear HCb4
      go_wp2_with fail
      refine bodyPost_ret (v := .agg #[.int .i64 c0.ins, .slice An c0.next.length cn, .slice Ag c0.gates.length cg, .slice Ao c0.outs.length co]) (by simp [results, Try.results57, go_sem, o0, o1, o2, o3]) rfl ⟨_, c0, rfl, ?_, HSc.out, ?_, ?_⟩
      · exact ((HCc4.out.setR (k := w.heap.size) (by omega)).mono (by omega))
      · exact (rd_set (rd_set (rd_set (rd_set Hr4.out zR) zR) zR) zR).more (by omega)
      · exact (only_set (only_set (only_set (only_set HO4.out (Nat.le_refl _)) (Nat.le_refl _)) (Nat.le_refl _)) (Nat.le_refl _)).grownBy
    · clear hv HCb4 HCc4 PCc4
      go_wp2_with fail
      refine (pick_any 3 _ _ _ Hr4.out (by omega) (by omega) (by omega)).mono ?_
      rintro e w5 ⟨x, x0, x1, rfl, hr5, hg5⟩
      have Hr5 := Lib.hid hr5
      have HO5 := Lib.hid (only_drawn HO4.out hg5 (.inr rfl))
      have HX5 := Lib.hid (res_grown HX4.out hg5 (fun e => by have := Option.some.inj e; omega))
      clear hr5 hg5 Hr4 HO4 HX4
      go_wp2_with fail
      have hb6 := bel_new w5 (.cells #[.int .i64 x, .slice none 0 0, .slice none 0 0, .slice none 0 0] 26)
      have HC6 := Lib.hid (CB.start (ins := x) (w := w5) trivial)
      have Hr6 := Lib.hid (Hr5.out.alloc (.cells #[.int .i64 x, .slice none 0 0, .slice none 0 0, .slice none 0 0] 26))
      have HO6 := Lib.hid (only_alloc HO5.out (.cells #[.int .i64 x, .slice none 0 0, .slice none 0 0, .slice none 0 0] 26))
      have HX6 := Lib.hid ((hb6.block w.heap.size (blk_lt HX5.out)).trans HX5.out)
      have hgm1 : w.heap.size + 1 ≤ w5.heap.size := blk_lt HX5.out
      clear Hr5 HO5 HX5 hb6
      obtain ⟨gm, hgm⟩ : ∃ gm, w5.heap.size = gm := ⟨_, rfl⟩
      rw [hgm] at HC6 hgm1 ⊢
      clear hgm
      generalize w5.alloc (.cells #[.int .i64 x, .slice none 0 0, .slice none 0 0, .slice none 0 0] 26) = w6 at *
      refine (pick_any 2 _ _ _ Hr6.out (by omega) (by omega) (by omega)).mono ?_
      rintro e w7 ⟨y, y0, y1, rfl, hr7, hg7⟩
      have Hr7 := Lib.hid hr7
      have HO7 := Lib.hid (only_drawn HO6.out hg7 (.inr rfl))
      have HX7 := Lib.hid (res_grown HX6.out hg7 (fun e => by have := Option.some.inj e; omega))
      have HC7 := Lib.hid (HC6.out.drawn hg7 (by omega))
      clear hr7 hg7 Hr6 HO6 HX6 HC6
      obtain ⟨zm, p0, -⟩ := HC7.out.cells
      have hwy := IntWalk.i64_in (1 + y) (by omega)
      have hwv := IntWalk.i64_in (x + (1 + y)) (by omega)
      have hwv2 := IntWalk.i64_in (x + (1 + y) + 1) (by omega)
      go_wp2_with fail
      clear zm p0
      refine (pick_any 9 _ _ _ Hr7.out (by omega) (by omega) (by omega)).mono ?_
      rintro e w8 ⟨k, k0, k1, rfl, hr8, hg8⟩
      have Hr8 := Lib.hid hr8
      have HO8 := Lib.hid (only_drawn HO7.out hg8 (.inr rfl))
      have HX8 := Lib.hid (res_grown HX7.out hg8 (fun e => by have := Option.some.inj e; omega))
      have HC8 := Lib.hid (HC7.out.drawn hg8 (by omega))
      clear hr8 hg8 Hr7 HO7 HX7 HC7
      go_wp2_with fail
      go_loopw [8, 9] (fun m k wr => ∃ (M K : Int) (gs : List (Int × Int)) (vG : Value), m = .int .i64 M ∧ k = .int .i64 K ∧ 0 ≤ K ∧ gs.length + K ≤ 8 ∧ 1 ≤ M ∧ M ≤ 5 + gs.length ∧ Hid (∀ q ∈ gs, LitS q.1 ∧ LitS q.2) ∧ Hid (CB gm ⟨x, [], gs, []⟩ (.slice none 0 0) vG (.slice none 0 0) wr) ∧ Hid (Rd wr R (P + 12000 + 1000 * gs.length)) ∧ Hid (Only (· = R) w wr) ∧ Hid (wr.heap[w.heap.size]? = some (.cells #[.int .i64 0, .slice none 0 0, .slice none 0 0, .slice none 0 0] 26 (0, 0)))) (fun _ k _ => (intOf k).toNat)
      case atStart => exact ⟨_, k, [], _, rfl, rfl, k0, by simp <;> omega, by omega, by simp <;> omega, Lib.hid (by simp), HC8, Lib.hid (Hr8.out.more (by simp <;> omega)), HO8, HX8⟩
      case round =>
        obtain ⟨M, K, gs, vG, rfl, rfl, hK, hKl, hM, hM2, Hn, HC, Hr, HO, HX⟩ := hrel
        clear HC8 Hr8 HO8 HX8
        by_cases hpos : 0 < K
        · go_wp2_with fail
          have hO := fun ops a => rowRSQ_ok (Pg := Try.prog) (ops := ops) (P := P + 12000 + 1000 * gs.length) (a := a) (G := fun q => LitS q.1 ∧ LitS q.2) (d := 12) Hr.out.lt (show R < gm + 1 by omega) HC.out.g
          obtain ⟨zm, p0, p1, p2, p3⟩ := HC.out.cells
          have hneN : ¬ (gm = R ∨ vG.ownBlock = some gm) := fun e => by
            rcases e with e | e
            · omega
            · have := (HC.out.g.lt gm e).1; omega
          refine wp_region_rsl (rowRSQ Try.prog _ R (P + 12000 + 1000 * gs.length) wr _ (gm + 1) 64 vG gs (fun q => LitS q.1 ∧ LitS q.2) 12) (hO _ _) (by kernel_rfl) (by kernel_rfl) (by kernel_rfl) 14 _ rfl rfl (by kernel_rfl) (show (12 : Nat) < 14 by decide) Hr.out HC.out.g ?_
          obtain ⟨i0, hi0, hz0, hz1, hz2⟩ := info_parts info_gate'
          apply rs_eq (hO _ _) (.inl (Nat.ne_of_beq_eq_false rfl))
          · intro ρ w' ho hK
            obtain ⟨h0, -⟩ := hK
            have h0' : ρ (.tmp 6) = .pointer (some ⟨gm, 0, none⟩) := h0
            go_simp
            try exact rfl
          apply rs_eq (hO _ _) (.inl (Nat.ne_of_beq_eq_false rfl))
          · intro ρ w' ho hK
            obtain ⟨h0, -⟩ := hK
            have h0' : ρ (.tmp 41) = .pointer (some ⟨gm, 2, none⟩) := h0
            have q2 := cell_on ho hneN zm p2
            go_simp
            try exact rfl
          refine rs_old (hO _ _) (.inl (Nat.ne_of_beq_eq_false rfl)) _ (.inl rfl) _ rfl rfl ?_
          refine rs_old (hO _ _) (.inl (Nat.ne_of_beq_eq_false rfl)) _ (.inl rfl) _ rfl rfl ?_
          apply rs_eq (hO _ _) (.inl (Nat.ne_of_beq_eq_false rfl))
          · intro ρ w' ho hK
            obtain ⟨h0, h1, -⟩ := hK
            have h0' : ρ (.const (.int .i64 2)) = .int .i64 2 := h0
            have h1' : ρ (.tmp 44) = .int .i64 M := h1
            have hwr := IntWalk.i64_in (2 * M) (by omega)
            go_simp
            try exact rfl
          refine rs_pick (hO _ _) (.inl (Nat.ne_of_beq_eq_false rfl)) 36 _ _ _ R (P + 12000 + 1000 * gs.length) 43 rfl rfl fn_draw (fun ρ w hK => ⟨hK.1, hK.2.1, 2 * M, hK.2.2.1, by omega, by omega⟩) (fun n k w hk h1n hn hr => pick_upto n 43 _ _ w hr (by have hk' : k < 15 := hk; omega) h1n hn (by omega)) ?_
          refine rs_old (hO _ _) (.inl (Nat.ne_of_beq_eq_false rfl)) _ (.inl rfl) _ rfl rfl ?_
          refine rs_old (hO _ _) (.inl (Nat.ne_of_beq_eq_false rfl)) _ (.inl rfl) _ rfl rfl ?_
          apply rs_eq (hO _ _) (.inl (Nat.ne_of_beq_eq_false rfl))
          · intro ρ w' ho hK
            obtain ⟨h0, h1, -⟩ := hK
            have h0' : ρ (.const (.int .i64 2)) = .int .i64 2 := h0
            have h1' : ρ (.tmp 48) = .int .i64 M := h1
            have hwr := IntWalk.i64_in (2 * M) (by omega)
            go_simp
            try exact rfl
          refine rs_pick (hO _ _) (.inl (Nat.ne_of_beq_eq_false rfl)) 36 _ _ _ R (P + 12000 + 1000 * gs.length) 43 rfl rfl fn_draw (fun ρ w hK => ⟨hK.1, hK.2.1, 2 * M, hK.2.2.1, by omega, by omega⟩) (fun n k w hk h1n hn hr => pick_upto n 43 _ _ w hr (by have hk' : k < 15 := hk; omega) h1n hn (by omega)) ?_
          refine rs_pure (hO _ _) (.inl (Nat.ne_of_beq_eq_false rfl)) (TOf (GAggQ fun q => LitS q.1 ∧ LitS q.2)) (stb_of _ _) (fun ρ w hK => by
            obtain ⟨⟨a, h0, h1, h2⟩, ⟨b, h3, h4, h5⟩, -⟩ := hK
            have h0' : ρ (.tmp 46) = .int .i64 a := h0
            have h3' : ρ (.tmp 50) = .int .i64 b := h3
            refine ⟨.agg #[.int .i64 a, .int .i64 b], ?_, (a, b), rfl, ⟨by omega, by omega⟩, by simp only; omega, by simp only; omega⟩
            go_simp) ?_
          refine rs_buildQ (hO _ _) (.inl (Nat.ne_of_beq_eq_false rfl)) 1 (fun q => LitS q.1 ∧ LitS q.2) 64 (fun ρ w hK => by
            obtain ⟨⟨x, hx, hG⟩, -⟩ := hK
            have h' : ρ (.tmp 51) = .agg #[.int .i64 x.1, .int .i64 x.2] := hx
            refine ⟨[x], #[.int .i64 x.1, .int .i64 x.2], rfl, rfl, ?_, ?_⟩
            · go_simp
            · intro c hc
              rw [List.mem_singleton.1 hc]
              exact hG) ?_
          refine rs_appendQ rfl (gm + 1) 64 24 vG gs (fun q => LitS q.1 ∧ LitS q.2) rfl R (P + 12000 + 1000 * gs.length) rfl (fun g hg => .inr hg) (show R < gm + 1 by omega) zm _ _ rfl _ _ rfl rfl rfl rfl i0 _ 16 Try.underlying24 hi0 hz0 hz1 hz2 rfl (by omega) (by decide) ?_
          apply rs_eq (hO _ _) (.inl (Nat.ne_of_beq_eq_false rfl))
          · intro ρ w' ho hK
            obtain ⟨h0, -⟩ := hK
            have h0' : ρ (.tmp 6) = .pointer (some ⟨gm, 0, none⟩) := h0
            go_simp
            try exact rfl
          intro f w9 k9 hk9 hI9 ht9 hcp9
          have E0 : f 0 = _ := ht9 0 (Nat.le_of_ble_eq_true rfl)
          have E1 : f 1 = _ := ht9 1 (Nat.le_of_ble_eq_true rfl)
          have E2 : f 2 = _ := ht9 2 (Nat.le_of_ble_eq_true rfl)
          have E3 : f 3 = _ := ht9 3 (Nat.le_of_ble_eq_true rfl)
          have E4 : f 4 = _ := ht9 4 (Nat.le_of_ble_eq_true rfl)
          have E6 : f 6 = _ := ht9 6 (Nat.le_of_ble_eq_true rfl)
          have E7 : f 7 = _ := ht9 7 (Nat.le_of_ble_eq_true rfl)
          have E8 : f 8 = _ := ht9 8 (Nat.le_of_ble_eq_true rfl)
          have E13 : f 13 = _ := ht9 13 (Nat.le_of_ble_eq_true rfl)
          have Hr9 : Rd w9 R (P + 12000 + 1000 * gs.length + 40 * k9) := hI9.1
          have HE9 : Only (fun g => g = R ∨ vG.ownBlock = some g) wr w9 := hI9.2.1
          have HJ9 : (∃ u : Int × Int, (LitS u.1 ∧ LitS u.2) ∧ w9.ownsRow (gm + 1) 64 2 (f 12) (gs.length + 1) (cubes (gs ++ [u]))) ∧ ∀ g, (f 12).ownBlock = some g → vG.ownBlock = some g ∨ wr.heap.size ≤ g := hI9.2.2
          have hk9' : k9 ≤ 15 := hk9
          simp only [putAll, E0, E1, E2, E3, E4, E6, E7, E8, E13, Nat.zero_add, Nat.reduceAdd, Act.put, List.take, List.setIfInBounds_toArray, List.set_cons_succ, List.set_cons_zero]
          clear E0 E1 E2 E3 E4 E6 E7 E8 E13 hI9 ht9 hcp9 hk9 hO
          generalize f 5 = r5, f 9 = r9, f 10 = r10, f 11 = r11 at *
          generalize f 12 = v9 at *
          simp only [List.getElem_toArray, List.getElem_cons_succ, List.getElem_cons_zero]
          obtain ⟨⟨uu, hq0, hown9⟩, hat9⟩ := HJ9
          obtain ⟨A9, c9, e9⟩ := slice_of_own hown9
          subst e9
          have Ho9 := Lib.hid hown9
          have Hat9 := Lib.hid hat9
          have HE9' := Lib.hid HE9
          have Hr9' := Lib.hid (Hr9.more (show P + 12000 + 1000 * gs.length + 40 * k9 ≤ P + 12000 + 1000 * gs.length + 700 by omega))
          have hbx := (HE9.block gm zm hneN).trans HC.out.box
          have q2 := blk_cell hbx 2
          have q2f := blk_free hbx 2
          have zq := blk_lt hbx
          simp at q2
          clear hown9 hat9 HE9 Hr9 hbx p0 p1 p2 p3 hk9' hi0 hz0 hz1 hz2
          go_wp2_with fail
          go_roundw
          case rel =>
            refine ⟨M + 1, K - 1, gs ++ [uu], .slice A9 (gs.length + 1) c9, by go_num, by go_num, by omega, by simp <;> omega, by omega, by simp <;> omega, Lib.hid fun q' hq => ?_, Lib.hid ?_, Lib.hid ?_, Lib.hid ?_, Lib.hid ?_⟩
            · rcases List.mem_append.1 hq with h | h
              · exact Hn.out q' h
              · rw [List.mem_singleton.1 h]
                exact hq0
            · refine HC.out.addG (xs := gs ++ [uu]) HE9'.out (fun g hg hn => ?_) ?_ Hat9.out
              · rintro (e | e)
                · omega
                · exact hn e
              · rw [List.length_append]
                exact Ho9.out
            · exact (rd_set Hr9'.out (by omega)).more (by simp <;> omega)
            · exact only_set (HO.out.aft HE9'.out fun g hg => by
                rcases hg with h | h
                · exact .inr h
                · exact .inl (by have := (HC.out.g.lt g h).1; omega)) (by omega)
            · exact res_set ((HE9'.out.block _ (blk_lt HX.out) (fun e => by
                rcases e with h | h
                · omega
                · have := (HC.out.g.lt _ h).1; omega)).trans HX.out) (by omega)
          case measure => simp [intOf]; omega
        · obtain rfl : K = 0 := by omega
          have Hr1 := Lib.hid (Hr.out.more (show P + 12000 + 1000 * gs.length ≤ P + 21000 by omega))
          have HC1 := Lib.hid HC.out
          clear Hr HC
          obtain ⟨W1, hW1⟩ : ∃ W1, W1 = wr := ⟨_, rfl⟩
          subst hW1
          go_wp2_with fail
          go_loopw [10] (fun j wr => ∃ (ns : List Int) (vN : Value), j = .int .i64 (ns.length : Nat) ∧ ns.length ≤ 1 + y ∧ Hid (∀ q ∈ ns, LitS q) ∧ Hid (CB gm ⟨x, ns, gs, []⟩ vN vG (.slice none 0 0) wr) ∧ Hid (Rd wr R (P + 21500 + 1000 * ns.length)) ∧ Hid (Only (· = R) w wr) ∧ Hid (wr.heap[w.heap.size]? = some (.cells #[.int .i64 0, .slice none 0 0, .slice none 0 0, .slice none 0 0] 26 (0, 0)))) (fun j _ => (1 + y).toNat - (intOf j).toNat)
          case atStart => exact ⟨[], _, rfl, by simp <;> omega, Lib.hid (by simp), HC1, Lib.hid (Hr1.out.more (by simp <;> omega)), HO, HX⟩
          case round =>
            obtain ⟨ns, vN, rfl, hnl, Hn2, HC, Hr, HO, HX⟩ := hrel
            have HnG := Hn
            clear Hr1 HC1
            by_cases hlt : (ns.length : Int) < 1 + y
            · go_wp2_with fail
              have hO := fun ops a => rdRS_ok (Pg := Try.prog) (ops := ops) (P := P + 21500 + 1000 * ns.length) (a := a) (G := GInt (-100) 1000) (d := 7) Hr.out.lt (show R < gm + 1 by omega) HC.out.n
              obtain ⟨zm, p0, p1, p2, p3⟩ := HC.out.cells
              have hneN : ¬ (gm = R ∨ vN.ownBlock = some gm) := fun e => by
                rcases e with e | e
                · omega
                · have := (HC.out.n.lt gm e).1; omega
              refine wp_region_rsl (rdRS Try.prog _ R (P + 21500 + 1000 * ns.length) wr _ (gm + 1) 3 vN ns.length (ints ns) (GInt (-100) 1000) 7) (hO _ _) (by kernel_rfl) (by kernel_rfl) (by kernel_rfl) 9 _ rfl rfl (by kernel_rfl) (show (7 : Nat) < 9 by decide) Hr.out HC.out.n ?_
              obtain ⟨i0, hi0, hz0, hz1, hz2⟩ := info_parts info_int
              apply rs_eq (hO _ _) (.inl (Nat.ne_of_beq_eq_false rfl))
              · intro ρ w' ho hK
                obtain ⟨h0, -⟩ := hK
                have h0' : ρ (.tmp 6) = .pointer (some ⟨gm, 0, none⟩) := h0
                go_simp
                try exact rfl
              apply rs_eq (hO _ _) (.inl (Nat.ne_of_beq_eq_false rfl))
              · intro ρ w' ho hK
                obtain ⟨h0, -⟩ := hK
                have h0' : ρ (.tmp 62) = .pointer (some ⟨gm, 1, none⟩) := h0
                have q1 := cell_on ho hneN zm p1
                go_simp
                try exact rfl
              refine rs_old (hO _ _) (.inl (Nat.ne_of_beq_eq_false rfl)) _ (.inl rfl) _ rfl rfl ?_
              refine rs_old (hO _ _) (.inl (Nat.ne_of_beq_eq_false rfl)) _ (.inl rfl) _ rfl rfl ?_
              apply rs_eq (hO _ _) (.inl (Nat.ne_of_beq_eq_false rfl))
              · intro ρ w' ho hK
                obtain ⟨h0, h1, -⟩ := hK
                have h0' : ρ (.const (.int .i64 2)) = .int .i64 2 := h0
                have h1' : ρ (.tmp 65) = .int .i64 M := h1
                have hwr := IntWalk.i64_in (2 * M) (by omega)
                go_simp
                try exact rfl
              refine rs_pick (hO _ _) (.inl (Nat.ne_of_beq_eq_false rfl)) 36 _ _ _ R (P + 21500 + 1000 * ns.length) 43 rfl rfl fn_draw (fun ρ w hK => ⟨hK.1, hK.2.1, 2 * M, hK.2.2.1, by omega, by omega⟩) (fun n k w hk h1n hn hr => pick_upto n 43 _ _ w hr (by have hk' : k < 10 := hk; omega) h1n hn (by omega)) ?_
              refine rs_build (hO _ _) (.inl (Nat.ne_of_beq_eq_false rfl)) 1 (GInt (-100) 1000) 3 (fun ρ w hK => by
                obtain ⟨⟨q, hq, hq0, hq1⟩, -⟩ := hK
                have h' : ρ (.tmp 67) = .int .i64 q := hq
                refine ⟨#[.int .i64 q], rfl, ?_, ?_⟩
                · go_simp
                · intro c hc
                  simp at hc
                  exact ⟨q, hc, by omega, by omega⟩) ?_
              refine rs_appendV rfl (gm + 1) 3 23 vN ns.length (ints ns) (GInt (-100) 1000) rfl R (P + 21500 + 1000 * ns.length) rfl (fun g hg => .inr hg) (show R < gm + 1 by omega) zm _ _ rfl _ _ rfl rfl rfl rfl i0 _ 8 Try.underlying23 hi0 hz0 hz1 hz2 rfl (by omega) (by decide) (fun u hu => by obtain ⟨q, rfl, -⟩ := hu; rfl) ?_
              apply rs_eq (hO _ _) (.inl (Nat.ne_of_beq_eq_false rfl))
              · intro ρ w' ho hK
                obtain ⟨h0, -⟩ := hK
                have h0' : ρ (.tmp 6) = .pointer (some ⟨gm, 0, none⟩) := h0
                go_simp
                try exact rfl
              intro f w9 k9 hk9 hI9 ht9 hcp9
              have E0 : f 0 = _ := ht9 0 (Nat.le_of_ble_eq_true rfl)
              have E1 : f 1 = _ := ht9 1 (Nat.le_of_ble_eq_true rfl)
              have E2 : f 2 = _ := ht9 2 (Nat.le_of_ble_eq_true rfl)
              have E3 : f 3 = _ := ht9 3 (Nat.le_of_ble_eq_true rfl)
              have E4 : f 4 = _ := ht9 4 (Nat.le_of_ble_eq_true rfl)
              have E8 : f 8 = _ := ht9 8 (Nat.le_of_ble_eq_true rfl)
              have Hr9 : Rd w9 R (P + 21500 + 1000 * ns.length + 40 * k9) := hI9.1
              have HE9 : Only (fun g => g = R ∨ vN.ownBlock = some g) wr w9 := hI9.2.1
              have HJ9 : (∃ u, GInt (-100) 1000 u ∧ w9.ownsRow (gm + 1) 3 1 (f 7) (ns.length + 1) (ints ns ++ [u])) ∧ ∀ g, (f 7).ownBlock = some g → vN.ownBlock = some g ∨ wr.heap.size ≤ g := hI9.2.2
              have hk9' : k9 ≤ 10 := hk9
              simp only [putAll, E0, E1, E2, E3, E4, E8, Nat.zero_add, Nat.reduceAdd, Act.put, List.take, List.setIfInBounds_toArray, List.set_cons_succ, List.set_cons_zero]
              clear E0 E1 E2 E3 E4 E8 hI9 ht9 hcp9 hk9 hO
              generalize f 5 = r5, f 6 = r6 at *
              generalize f 7 = v9 at *
              simp only [List.getElem_toArray, List.getElem_cons_succ, List.getElem_cons_zero]
              obtain ⟨⟨uu, ⟨q, rfl, hq0, hq1⟩, hown9⟩, hat9⟩ := HJ9
              obtain ⟨A9, c9, e9⟩ := slice_of_own hown9
              subst e9
              have Ho9 := Lib.hid hown9
              have Hat9 := Lib.hid hat9
              have HE9' := Lib.hid HE9
              have Hr9' := Lib.hid (Hr9.more (show P + 21500 + 1000 * ns.length + 40 * k9 ≤ P + 21500 + 1000 * ns.length + 500 by omega))
              have hbx := (HE9.block gm zm hneN).trans HC.out.box
              have q1 := blk_cell hbx 1
              have q1f := blk_free hbx 1
              have zq := blk_lt hbx
              simp at q1
              clear hown9 hat9 HE9 Hr9 hbx p0 p1 p2 p3 hk9' hi0 hz0 hz1 hz2
              go_wp2_with fail
              go_roundw
              case rel =>
                refine ⟨ns ++ [q], .slice A9 (ns.length + 1) c9, by simp, by simp <;> omega, Lib.hid fun q' hq => ?_, Lib.hid ?_, Lib.hid ?_, Lib.hid ?_, Lib.hid ?_⟩
                · rcases List.mem_append.1 hq with h | h
                  · exact Hn2.out q' h
                  · rw [List.mem_singleton.1 h]
                    exact ⟨hq0, hq1⟩
                · refine HC.out.addN (xs := ns ++ [q]) HE9'.out (fun g hg hn => ?_) ?_ Hat9.out
                  · rintro (e | e)
                    · omega
                    · exact hn e
                  · rw [List.length_append, ints_snoc]
                    exact Ho9.out
                · exact (rd_set Hr9'.out (by omega)).more (by simp <;> omega)
                · exact only_set (HO.out.aft HE9'.out fun g hg => by
                    rcases hg with h | h
                    · exact .inr h
                    · exact .inl (by have := (HC.out.n.lt g h).1; omega)) (by omega)
                · exact res_set ((HE9'.out.block _ (blk_lt HX.out) (fun e => by
                    rcases e with h | h
                    · omega
                    · have := (HC.out.n.lt _ h).1; omega)).trans HX.out) (by omega)
              case measure => simp [intOf]; omega
            · have Hr1 := Lib.hid (Hr.out.more (show P + 21500 + 1000 * ns.length ≤ P + 24600 by omega))
              have HC1 := Lib.hid HC.out
              clear Hr HC
              obtain ⟨W2, hW2⟩ : ∃ W2, W2 = wr := ⟨_, rfl⟩
              subst hW2
              go_wp2_with fail
              refine (pick_any 3 _ _ _ Hr1.out (by omega) (by omega) (by omega)).mono ?_
              rintro e w9 ⟨k1, k10, k11, rfl, hr9, hg9⟩
              have Hr9 := Lib.hid (hr9.more (show P + 24600 + 1 ≤ P + 25000 by omega))
              have HO9 := Lib.hid (only_drawn HO.out hg9 (.inr rfl))
              have HX9 := Lib.hid (res_grown HX.out hg9 (fun e => by have := Option.some.inj e; omega))
              have HC9 := Lib.hid (HC1.out.drawn hg9 (by omega))
              clear hr9 hg9 Hr1 HO HX HC1
              go_wp2_with fail
              go_loopw [11] (fun j wr => ∃ (K : Int) (os : List Int) (vO : Value), j = .int .i64 K ∧ 0 ≤ K ∧ os.length + K ≤ 2 ∧ Hid (∀ q ∈ os, LitS q) ∧ Hid (CB gm ⟨x, ns, gs, os⟩ vN vG vO wr) ∧ Hid (Rd wr R (P + 25000 + 1000 * os.length)) ∧ Hid (Only (· = R) w wr) ∧ Hid (wr.heap[w.heap.size]? = some (.cells #[.int .i64 0, .slice none 0 0, .slice none 0 0, .slice none 0 0] 26 (0, 0)))) (fun j _ => (intOf j).toNat)
              case atStart => exact ⟨k1, [], _, rfl, k10, by simp <;> omega, Lib.hid (by simp), HC9, Lib.hid (Hr9.out.more (by simp)), HO9, HX9⟩
              case round =>
                obtain ⟨K, os, vO, rfl, hK0, hKl2, Hn3, HC, Hr, HO, HX⟩ := hrel
                clear Hr9 HC9 HO9 HX9
                by_cases hpos : 0 < K
                · go_wp2_with fail
                  have hO := fun ops a => rdRS_ok (Pg := Try.prog) (ops := ops) (P := P + 25000 + 1000 * os.length) (a := a) (G := GInt (-100) 1000) (d := 7) Hr.out.lt (show R < gm + 1 by omega) HC.out.o
                  obtain ⟨zm, p0, p1, p2, p3⟩ := HC.out.cells
                  have hneN : ¬ (gm = R ∨ vO.ownBlock = some gm) := fun e => by
                    rcases e with e | e
                    · omega
                    · have := (HC.out.o.lt gm e).1; omega
                  refine wp_region_rsl (rdRS Try.prog _ R (P + 25000 + 1000 * os.length) wr _ (gm + 1) 3 vO os.length (ints os) (GInt (-100) 1000) 7) (hO _ _) (by kernel_rfl) (by kernel_rfl) (by kernel_rfl) 9 _ rfl rfl (by kernel_rfl) (show (7 : Nat) < 9 by decide) Hr.out HC.out.o ?_
                  obtain ⟨i0, hi0, hz0, hz1, hz2⟩ := info_parts info_int
                  apply rs_eq (hO _ _) (.inl (Nat.ne_of_beq_eq_false rfl))
                  · intro ρ w' ho hK
                    obtain ⟨h0, -⟩ := hK
                    have h0' : ρ (.tmp 6) = .pointer (some ⟨gm, 0, none⟩) := h0
                    go_simp
                    try exact rfl
                  apply rs_eq (hO _ _) (.inl (Nat.ne_of_beq_eq_false rfl))
                  · intro ρ w' ho hK
                    obtain ⟨h0, -⟩ := hK
                    have h0' : ρ (.tmp 77) = .pointer (some ⟨gm, 3, none⟩) := h0
                    have q3 := cell_on ho hneN zm p3
                    go_simp
                    try exact rfl
                  refine rs_old (hO _ _) (.inl (Nat.ne_of_beq_eq_false rfl)) _ (.inl rfl) _ rfl rfl ?_
                  refine rs_old (hO _ _) (.inl (Nat.ne_of_beq_eq_false rfl)) _ (.inl rfl) _ rfl rfl ?_
                  apply rs_eq (hO _ _) (.inl (Nat.ne_of_beq_eq_false rfl))
                  · intro ρ w' ho hK
                    obtain ⟨h0, h1, -⟩ := hK
                    have h0' : ρ (.const (.int .i64 2)) = .int .i64 2 := h0
                    have h1' : ρ (.tmp 80) = .int .i64 M := h1
                    have hwr := IntWalk.i64_in (2 * M) (by omega)
                    go_simp
                    try exact rfl
                  refine rs_pick (hO _ _) (.inl (Nat.ne_of_beq_eq_false rfl)) 36 _ _ _ R (P + 25000 + 1000 * os.length) 43 rfl rfl fn_draw (fun ρ w hK => ⟨hK.1, hK.2.1, 2 * M, hK.2.2.1, by omega, by omega⟩) (fun n k w hk h1n hn hr => pick_upto n 43 _ _ w hr (by have hk' : k < 10 := hk; omega) h1n hn (by omega)) ?_
                  refine rs_build (hO _ _) (.inl (Nat.ne_of_beq_eq_false rfl)) 1 (GInt (-100) 1000) 3 (fun ρ w hK => by
                    obtain ⟨⟨q, hq, hq0, hq1⟩, -⟩ := hK
                    have h' : ρ (.tmp 82) = .int .i64 q := hq
                    refine ⟨#[.int .i64 q], rfl, ?_, ?_⟩
                    · go_simp
                    · intro c hc
                      simp at hc
                      exact ⟨q, hc, by omega, by omega⟩) ?_
                  refine rs_appendV rfl (gm + 1) 3 23 vO os.length (ints os) (GInt (-100) 1000) rfl R (P + 25000 + 1000 * os.length) rfl (fun g hg => .inr hg) (show R < gm + 1 by omega) zm _ _ rfl _ _ rfl rfl rfl rfl i0 _ 8 Try.underlying23 hi0 hz0 hz1 hz2 rfl (by omega) (by decide) (fun u hu => by obtain ⟨q, rfl, -⟩ := hu; rfl) ?_
                  apply rs_eq (hO _ _) (.inl (Nat.ne_of_beq_eq_false rfl))
                  · intro ρ w' ho hK
                    obtain ⟨h0, -⟩ := hK
                    have h0' : ρ (.tmp 6) = .pointer (some ⟨gm, 0, none⟩) := h0
                    go_simp
                    try exact rfl
                  intro f w9 k9 hk9 hI9 ht9 hcp9
                  have E0 : f 0 = _ := ht9 0 (Nat.le_of_ble_eq_true rfl)
                  have E1 : f 1 = _ := ht9 1 (Nat.le_of_ble_eq_true rfl)
                  have E2 : f 2 = _ := ht9 2 (Nat.le_of_ble_eq_true rfl)
                  have E3 : f 3 = _ := ht9 3 (Nat.le_of_ble_eq_true rfl)
                  have E4 : f 4 = _ := ht9 4 (Nat.le_of_ble_eq_true rfl)
                  have E8 : f 8 = _ := ht9 8 (Nat.le_of_ble_eq_true rfl)
                  have Hr9 : Rd w9 R (P + 25000 + 1000 * os.length + 40 * k9) := hI9.1
                  have HE9 : Only (fun g => g = R ∨ vO.ownBlock = some g) wr w9 := hI9.2.1
                  have HJ9 : (∃ u, GInt (-100) 1000 u ∧ w9.ownsRow (gm + 1) 3 1 (f 7) (os.length + 1) (ints os ++ [u])) ∧ ∀ g, (f 7).ownBlock = some g → vO.ownBlock = some g ∨ wr.heap.size ≤ g := hI9.2.2
                  have hk9' : k9 ≤ 10 := hk9
                  simp only [putAll, E0, E1, E2, E3, E4, E8, Nat.zero_add, Nat.reduceAdd, Act.put, List.take, List.setIfInBounds_toArray, List.set_cons_succ, List.set_cons_zero]
                  clear E0 E1 E2 E3 E4 E8 hI9 ht9 hcp9 hk9 hO
                  generalize f 5 = r5, f 6 = r6 at *
                  generalize f 7 = v9 at *
                  simp only [List.getElem_toArray, List.getElem_cons_succ, List.getElem_cons_zero]
                  obtain ⟨⟨uu, ⟨q, rfl, hq0, hq1⟩, hown9⟩, hat9⟩ := HJ9
                  obtain ⟨A9, c9, e9⟩ := slice_of_own hown9
                  subst e9
                  have Ho9 := Lib.hid hown9
                  have Hat9 := Lib.hid hat9
                  have HE9' := Lib.hid HE9
                  have Hr9' := Lib.hid (Hr9.more (show P + 25000 + 1000 * os.length + 40 * k9 ≤ P + 25000 + 1000 * os.length + 500 by omega))
                  have hbx := (HE9.block gm zm hneN).trans HC.out.box
                  have q3 := blk_cell hbx 3
                  have q3f := blk_free hbx 3
                  have zq := blk_lt hbx
                  simp at q3
                  clear hown9 hat9 HE9 Hr9 hbx p0 p1 p2 p3 hk9' hi0 hz0 hz1 hz2
                  go_wp2_with fail
                  go_roundw
                  case rel =>
                    refine ⟨K - 1, os ++ [q], .slice A9 (os.length + 1) c9, by go_num, by omega, by simp <;> omega, Lib.hid fun q' hq => ?_, Lib.hid ?_, Lib.hid ?_, Lib.hid ?_, Lib.hid ?_⟩
                    · rcases List.mem_append.1 hq with h | h
                      · exact Hn3.out q' h
                      · rw [List.mem_singleton.1 h]
                        exact ⟨hq0, hq1⟩
                    · refine HC.out.addO (xs := os ++ [q]) HE9'.out (fun g hg hn => ?_) ?_ Hat9.out
                      · rintro (e | e)
                        · omega
                        · exact hn e
                      · rw [List.length_append, ints_snoc]
                        exact Ho9.out
                    · exact (rd_set Hr9'.out (by omega)).more (by simp <;> omega)
                    · exact only_set (HO.out.aft HE9'.out fun g hg => by
                        rcases hg with h | h
                        · exact .inr h
                        · exact .inl (by have := (HC.out.o.lt g h).1; omega)) (by omega)
                    · exact res_set ((HE9'.out.block _ (blk_lt HX.out) (fun e => by
                        rcases e with h | h
                        · omega
                        · have := (HC.out.o.lt _ h).1; omega)).trans HX.out) (by omega)
                  case measure => simp [intOf]; omega
                · obtain rfl : K = 0 := by omega
                  have hq := HC.out
                  have HSm : Hid (Small ⟨x, ns, gs, os⟩) := Lib.hid ⟨by simp only; omega, by simp only; omega, by simp only; omega, by simp only; omega, by simp only; omega, Hn2.out, HnG.out, Hn3.out⟩
                  obtain ⟨zm, p0, p1, p2, p3⟩ := hq.cells
                  obtain ⟨AN, cN, eN⟩ := slice_of_own hq.n
                  obtain ⟨AG, cG, eG⟩ := slice_of_own hq.g
                  obtain ⟨AO, cO, eO⟩ := slice_of_own hq.o
                  subst eN eG eO
                  have o0 := blk_cell HX.out 0
                  have o1 := blk_cell HX.out 1
                  have o2 := blk_cell HX.out 2
                  have o3 := blk_cell HX.out 3
                  have f0 := blk_free HX.out 0
                  have f1 := blk_free HX.out 1
                  have f2 := blk_free HX.out 2
                  have f3 := blk_free HX.out 3
                  have zr := blk_lt HX.out
                  simp at o0 o1 o2 o3
                  have hkg : w.heap.size < gm := by omega
                  clear hq
                  go_wp2_with fail
                  refine bodyPost_ret (v := .agg #[.int .i64 x, .slice AN ns.length cN, .slice AG gs.length cG, .slice AO os.length cO]) (by simp [results, Try.results57, go_sem, o0, o1, o2, o3]) rfl ?_
                  exact finC (P := P + 20000) HC.out HO.out Hr.out hkg zR (by omega) HSm.out _ _ _ _
  · obtain ⟨z, p0, p1, p2, p3⟩ := PCc3.out
    have o0 := blk_cell HX3.out 0
    have o1 := blk_cell HX3.out 1
    have o2 := blk_cell HX3.out 2
    have o3 := blk_cell HX3.out 3
    have f0 := blk_free HX3.out 0
    have f1 := blk_free HX3.out 1
    have f2 := blk_free HX3.out 2
    have f3 := blk_free HX3.out 3
    have zr := blk_lt HX3.out
    simp at o0 o1 o2 o3
    clear HCb3
    go_wp2_with fail
    refine bodyPost_ret (v := .agg #[.int .i64 c0.ins, .slice An c0.next.length cn, .slice Ag c0.gates.length cg, .slice Ao c0.outs.length co]) (by simp [results, Try.results57, go_sem, o0, o1, o2, o3]) rfl ⟨_, c0, rfl, ?_, HSc.out, ?_, ?_⟩
    · exact ((HCc3.out.setR (k := w.heap.size) (by omega)).mono (by omega))
    · exact (rd_set (rd_set (rd_set (rd_set Hr3.out zR) zR) zR) zR).more (by omega)
    · exact (only_set (only_set (only_set (only_set HO3.out (Nat.le_refl _)) (Nat.le_refl _)) (Nat.le_refl _)) (Nat.le_refl _)).grownBy
end Go.Proofs.Ytkkkjbinfdohpaa

namespace Go.Proofs.Ytkkkjbinfdohpaa
open Go.RowKit
set_option maxRecDepth 100000
/-! DrawInductive. -/
def DrawnInductive (w : World) (e : Ending) (w' : World) : Prop := ∃ v c, ∃ o k : Int, e = .returned (.tuple #[v, .int .i64 o, .int .i64 k]) ∧ OwnC w.heap.size v c w' ∧ -1 ≤ o ∧ o ≤ 7 ∧ 0 ≤ k ∧ k ≤ 4 ∧ Below w.heap.size w w'
set_option maxHeartbeats 8000000 in
theorem drawInductive_any (v : Value) (bs : List Int) (w : World) (h : Row w 1 v bs.length (bs.map (Value.int .u8))) (hb : ∀ x ∈ bs, (Lit.int .u8 x).wf = true) (hl : bs.length ≤ 1048576) :
    Calls Try.prog 18 #[v] w (DrawnInductive w) := by
  have H := Lib.hid h
  clear h
  have hX := heap_alloc_new w (.cells #[.int .i64 0, .slice none 0 0, .slice none 0 0, .slice none 0 0] 26)
  have HB0 := Lib.hid (bel_new w (.cells #[.int .i64 0, .slice none 0 0, .slice none 0 0, .slice none 0 0] 26))
  have hs : (w.alloc (.cells #[.int .i64 0, .slice none 0 0, .slice none 0 0, .slice none 0 0] 26)).heap.size = w.heap.size + 1 := by simp
  have HX := Lib.hid hX
  clear hX
  go_enter Try.func18, Try.ntmps18
  go_wp2_with fail
  have H0 := Lib.hid (H.out.alloc (.cells #[.int .i64 0, .slice none 0 0, .slice none 0 0, .slice none 0 0] 26))
  generalize w.alloc (.cells #[.int .i64 0, .slice none 0 0, .slice none 0 0, .slice none 0 0] 26) = W at *
  refine (open_any _ bs _ H0.out hb hl).mono ?_
  rintro e w1 ⟨rfl, hr1, hb1⟩
  rw [hs] at hr1
  have HZ1 := Lib.hid hr1.lt
  have Hr1 := Lib.hid hr1
  have Hb1 := Lib.hid (HB0.out.trans (hb1.mono HB0.out.size))
  have HX1 := Lib.hid ((hb1.block _ (by omega)).trans HX.out)
  clear hr1 hb1 HX HB0 H H0 hb hl
  go_wp2_with fail
  refine (l20Small_any _ 0 12 _ Hr1.out (by omega) (by omega) (by omega)).mono ?_
  rintro e w2 ⟨v2, c, rfl, hO, hS, hr2, hg2⟩
  have HX2 := Lib.hid (res_grown HX1.out hg2 (fun e => by have := Option.some.inj e; omega))
  have Hb2 := Lib.hid (Hb1.out.grown hg2 Hb1.out.size (fun k hk => by have := Option.some.inj hk; omega))
  have HO := Lib.hid hO
  obtain ⟨An, cn, Ag, cg, Ao, co, rfl⟩ := hO.shape
  obtain ⟨s1, s2, s3, s4, s5, -⟩ := hS
  have Hr2 := Lib.hid hr2
  have HZ2 := Lib.hid hg2.size
  clear hr2 hg2 hO HX1 Hb1 Hr1
  have hb3 := bel_new w2 (.cells #[.int .i64 c.ins, .slice An c.next.length cn, .slice Ag c.gates.length cg, .slice Ao c.outs.length co] 26)
  have HO3 := Lib.hid (HO.out.only (E := fun _ => False) (Only.of_below _ hb3) fun _ _ e => e)
  have HX3 := Lib.hid ((hb3.block _ (blk_lt HX2.out)).trans HX2.out)
  have Hr3 := Lib.hid (Hr2.out.alloc (.cells #[.int .i64 c.ins, .slice An c.next.length cn, .slice Ag c.gates.length cg, .slice Ao c.outs.length co] 26))
  have Hb3 := Lib.hid (Hb2.out.trans (hb3.mono Hb2.out.size))
  have HM3 := Lib.hid (heap_alloc_new w2 (.cells #[.int .i64 c.ins, .slice An c.next.length cn, .slice Ag c.gates.length cg, .slice Ao c.outs.length co] 26))
  have z3 : w2.heap.size < (w2.alloc (.cells #[.int .i64 c.ins, .slice An c.next.length cn, .slice Ag c.gates.length cg, .slice Ao c.outs.length co] 26)).heap.size := by simp
  obtain ⟨w3, hw3⟩ : ∃ w3, w2.alloc (.cells #[.int .i64 c.ins, .slice An c.next.length cn, .slice Ag c.gates.length cg, .slice Ao c.outs.length co] 26) = w3 := ⟨_, rfl⟩
  rw [hw3] at HO3 HX3 Hr3 Hb3 HM3 z3
  obtain ⟨gm, hgm⟩ : ∃ gm, w2.heap.size = gm := ⟨_, rfl⟩
  rw [hgm] at HM3 HZ2 z3
  clear HO HX2 Hr2 Hb2 hb3
  have hgm2 : w.heap.size + 1 < gm := Nat.lt_of_lt_of_le HZ1.out HZ2.out
  have hneM : ¬ (gm = w.heap.size + 1 ∨ gm = w.heap.size) := by omega
  have f0 := blk_cell HM3.out 0
  have f1 := blk_cell HM3.out 1
  have f2 := blk_cell HM3.out 2
  have f3 := blk_cell HM3.out 3
  simp at f0 f1 f2 f3
  by_cases h2 : c.ins ≤ 2
  · have hdc : decide ((2 : Int) < c.ins) = false := decide_eq_false (by omega)
    go_wp2_with fail
    clear hw3 hgm hdc
    have hO := fun ops a => rdStepRS_ok (Pg := Try.prog) (ops := ops) (P := (0 + 20000 + 10000)) (a := a) (R0 := fun w' => w'.heap[w.heap.size]? = some (.cells #[.int .i64 0, .slice none 0 0, .slice none 0 0, .slice none 0 0] 26 (0, 0))) (R1 := fun w' => w'.heap[w.heap.size]? = some (.cells #[.int .i64 c.ins, .slice An c.next.length cn, .slice Ag c.gates.length cg, .slice Ao c.outs.length co] 26 (0, 0))) (d := 10) Hr3.out.lt (blk_lt HX3.out) (fun w1 w2 h ho => blk_only h ho (by omega)) (fun w1 w2 h ho => blk_only h ho (by omega))
    refine wp_region_rs (rdStepRS Try.prog _ (w.heap.size + 1) (0 + 20000 + 10000) w3 _ w.heap.size _ _ 10) (hO _ _) (by kernel_rfl) (by kernel_rfl) (by kernel_rfl) (Nat.le_of_ble_eq_true rfl) Hr3.out HX3.out ?_
    apply rs_eq (hO _ _) (.inl (Nat.ne_of_beq_eq_false rfl))
    · intro ρ w' ho hK
      obtain ⟨h0, -⟩ := hK
      have h0' : ρ (.tmp 6) = .pointer (some ⟨gm, 0, none⟩) := h0
      have q0 := cell_on ho hneM z3 f0
      have q1 := cell_on ho hneM z3 f1
      have q2 := cell_on ho hneM z3 f2
      have q3 := cell_on ho hneM z3 f3
      go_simp
      try exact rfl
    refine rs_old (hO _ _) (.inl (Nat.ne_of_beq_eq_false rfl)) _ (.inl rfl) _ rfl rfl ?_
    apply rs_eq (hO _ _) (.inl (Nat.ne_of_beq_eq_false rfl))
    · intro ρ w' ho hK
      obtain ⟨h0, -⟩ := hK
      have h0' : ρ (.tmp 6) = .pointer (some ⟨gm, 0, none⟩) := h0
      go_simp
      try exact rfl
    apply rs_eq (hO _ _) (.inl (Nat.ne_of_beq_eq_false rfl))
    · intro ρ w' ho hK
      obtain ⟨h0, -⟩ := hK
      have h0' : ρ (.tmp 18) = .pointer (some ⟨gm, 3, none⟩) := h0
      have q3 := cell_on ho hneM z3 f3
      go_simp
      try exact rfl
    apply rs_eq (hO _ _) (.inl (Nat.ne_of_beq_eq_false rfl))
    · intro ρ w' ho hK
      obtain ⟨h0, -⟩ := hK
      have h0' : ρ (.tmp 19) = .slice Ao c.outs.length co := h0
      go_simp
      try exact rfl
    apply rs_eq (hO _ _) (.inl (Nat.ne_of_beq_eq_false rfl))
    · intro ρ w' ho hK
      obtain ⟨h0, h1, -⟩ := hK
      have h0' : ρ (.tmp 20) = .int .i64 c.outs.length := h0
      have h1' : ρ (.const (.int .i64 2)) = .int .i64 2 := h1
      have hwr := IntWalk.i64_in ((c.outs.length : Int) + 2) (by omega)
      go_simp
      try exact rfl
    refine rs_pick (hO _ _) (.inl (Nat.ne_of_beq_eq_false rfl)) 36 _ _ _ (w.heap.size + 1) (0 + 20000 + 10000) 8 rfl rfl fn_draw (fun ρ w hK => ⟨hK.1, hK.2.1, (c.outs.length : Int) + 2, hK.2.2.1, by omega, by omega⟩) (fun n k w hk h1n hn hr => pick_upto n 8 _ _ w hr (by have hk' : k < 13 := hk; omega) h1n hn (by omega)) ?_
    refine rs_pure (hO _ _) (.inl (Nat.ne_of_beq_eq_false rfl)) (TInt (-1) 7) (stb_int _ _ _) (fun ρ w hK => by
      obtain ⟨⟨q, h0, h1, h2⟩, h3, -⟩ := hK
      have h0' : ρ (.tmp 22) = .int .i64 q := h0
      have h2' : q ≤ 8 := h2
      have h3' : ρ (.const (.int .i64 1)) = .int .i64 1 := h3
      have hwr := IntWalk.i64_in (q - 1) (by omega)
      refine ⟨.int .i64 (q - 1), ?_, _, rfl, by omega, by omega⟩
      go_simp) ?_
    refine rs_old (hO _ _) (.inl (Nat.ne_of_beq_eq_false rfl)) _ (.inl rfl) _ rfl rfl ?_
    refine rs_pick (hO _ _) (.inl (Nat.ne_of_beq_eq_false rfl)) 36 _ _ _ (w.heap.size + 1) (0 + 20000 + 10000) 4 rfl rfl fn_draw (fun ρ w hK => ⟨hK.1, hK.2.1, 5, hK.2.2.1, by omega, by omega⟩) (fun n k w hk h1n hn hr => pick_upto n 4 _ _ w hr (by have hk' : k < 13 := hk; omega) h1n hn (by omega)) ?_
    refine rs_doR rfl rfl (w.heap.size + 1) (0 + 20000 + 10000) rfl (fun ρ w' ho h0 hK => by
      obtain ⟨h1, h2, -⟩ := hK
      have h1' : ρ (.tmp 2) = .pointer (some ⟨w.heap.size, 0, none⟩) := h1
      have h2' : ρ (.tmp 16) = .agg #[.int .i64 c.ins, .slice An c.next.length cn, .slice Ag c.gates.length cg, .slice Ao c.outs.length co] := h2
      have h0' : w'.heap[w.heap.size]? = some (.cells #[.int .i64 0, .slice none 0 0, .slice none 0 0, .slice none 0 0] 26 (0, 0)) := h0
      have o0 := blk_cell h0' 0
      have o1 := blk_cell h0' 1
      have o2 := blk_cell h0' 2
      have o3 := blk_cell h0' 3
      have b0 := blk_free h0' 0
      have b1 := blk_free h0' 1
      have b2 := blk_free h0' 2
      have b3 := blk_free h0' 3
      have zr := blk_lt h0'
      simp at o0 o1 o2 o3
      refine ⟨setR w' w.heap.size (.int .i64 c.ins) (.slice An c.next.length cn) (.slice Ag c.gates.length cg) (.slice Ao c.outs.length co), ?_, setR_box h0', setR_only (.inr rfl), fun Q hQ => rd_only_k hQ (zero_no h0') (by omega) (setR_only rfl)⟩
      unfold setR
      go_simp) ?_
    refine rs_same (hO _ _) (.inl (Nat.ne_of_beq_eq_false rfl)) 23 7 (.inr rfl) rfl _ rfl ?_
    refine rs_same (hO _ _) (.inl (Nat.ne_of_beq_eq_false rfl)) 25 9 (.inr rfl) rfl _ rfl ?_
    intro f w9 k9 hk9 hI9 ht9 hcp9
    have E0 : f 0 = _ := ht9 0 (Nat.le_of_ble_eq_true rfl)
    have E1 : f 1 = _ := ht9 1 (Nat.le_of_ble_eq_true rfl)
    have E2 : f 2 = _ := ht9 2 (Nat.le_of_ble_eq_true rfl)
    have E3 : f 3 = _ := ht9 3 (Nat.le_of_ble_eq_true rfl)
    have E4 : f 4 = _ := ht9 4 (Nat.le_of_ble_eq_true rfl)
    have E5 : f 5 = _ := ht9 5 (Nat.le_of_ble_eq_true rfl)
    have E8 : f 8 = _ := ht9 8 (Nat.le_of_ble_eq_true rfl)
    obtain ⟨x, hx, hx1, hx2⟩ : (TInt (-1) 7) w9 (f 7) := ht9 7 (Nat.le_of_ble_eq_true rfl)
    obtain ⟨y, hy, hy1, hy2⟩ : (TInt 0 4) w9 (f 9) := ht9 9 (Nat.le_of_ble_eq_true rfl)
    have C11 : f 11 = f 7 := (hcp9 11 _ 23 7 rfl rfl rfl rfl).2
    have C12 : f 12 = f 9 := (hcp9 12 _ 25 9 rfl rfl rfl rfl).2
    have HE9 : Only (fun g => g = w.heap.size + 1 ∨ g = w.heap.size) w3 w9 := hI9.2.1
    have HR9 : w9.heap[w.heap.size]? = some (.cells #[.int .i64 c.ins, .slice An c.next.length cn, .slice Ag c.gates.length cg, .slice Ao c.outs.length co] 26 (0, 0)) := hI9.2.2
    simp only [putAll, E0, E1, E2, E3, E4, E5, E8, C11, C12, hx, hy, Nat.zero_add, Nat.reduceAdd, Act.put, List.setIfInBounds_toArray, List.set_cons_succ, List.set_cons_zero]
    clear E0 E1 E2 E3 E4 E5 E8 hI9 ht9 hcp9 hk9 hO
    clear C11 C12 hx hy
    generalize f 6 = r6, f 10 = r10 at *
    have o0 := blk_cell HR9 0
    have o1 := blk_cell HR9 1
    have o2 := blk_cell HR9 2
    have o3 := blk_cell HR9 3
    have zr := blk_lt HR9
    simp at o0 o1 o2 o3
    have HOF := Lib.hid ((HO3.out.only HE9 (fun g hg => by have := HZ1.out; omega)).mono (show w.heap.size ≤ w1.heap.size by have := HZ1.out; omega))
    have HBF := Lib.hid (Only.below Hb3.out HE9 (Nat.le_trans Hb3.out.size (Nat.le_refl _)) (fun g hg => by omega))
    clear HE9 HR9 HO3 HX3 Hr3 Hb3 HM3 f0 f1 f2 f3
    go_wp2_with fail
    refine bodyPost_ret (v := .tuple #[.agg #[.int .i64 c.ins, .slice An c.next.length cn, .slice Ag c.gates.length cg, .slice Ao c.outs.length co], .int .i64 x, .int .i64 y]) (by simp [results, Try.results18, go_sem, o0, o1, o2, o3]) rfl ⟨_, c, x, y, rfl, HOF.out, by omega, by omega, by omega, by omega, HBF.out⟩
  · have hdc : decide ((2 : Int) < c.ins) = true := decide_eq_true (by omega)
    go_wp2_with fail
    clear hw3 hgm hdc h2
    refine (l20Small_any _ (0 + 20000 + 10000) 0 _ Hr3.out (by omega) (by omega) (by omega)).mono ?_
    rintro e w4 ⟨v4, c2, rfl, hO, hS, hr4, hg4⟩
    have HX4 := Lib.hid (res_grown HX3.out hg4 (fun e => by have := Option.some.inj e; omega))
    have HM4 := Lib.hid (res_grown HM3.out hg4 (fun e => by have := Option.some.inj e; omega))
    have Hb4 := Lib.hid (Hb3.out.grown hg4 Hb3.out.size (fun k hk => by have := Option.some.inj hk; omega))
    have HO4 := Lib.hid hO
    have Hr4 := Lib.hid hr4
    have hz4 := hg4.size
    clear f0 f1 f2 f3 HO3 HM3 HX3 Hr3 Hb3 s1 s2 s3 s4 s5
    obtain ⟨Bn, bn, Bg, bg, Bo, bo, rfl⟩ := hO.shape
    obtain ⟨s1, s2, s3, s4, s5, -⟩ := hS
    clear hr4 hg4 hO
    have o0 := blk_cell HM4.out 0
    have o1 := blk_cell HM4.out 1
    have o2 := blk_cell HM4.out 2
    have o3 := blk_cell HM4.out 3
    have e0 := blk_free HM4.out 0
    have e1 := blk_free HM4.out 1
    have e2 := blk_free HM4.out 2
    have e3 := blk_free HM4.out 3
    have zq := blk_lt HM4.out
    simp at o0 o1 o2 o3
    have HO5 := Lib.hid (HO4.out.setR (k := gm) (a := .int .i64 c2.ins) (b := .slice Bn c2.next.length bn) (d := .slice Bg c2.gates.length bg) (e := .slice Bo c2.outs.length bo) z3)
    have HM5 := Lib.hid (setR_box (a := .int .i64 c2.ins) (b := .slice Bn c2.next.length bn) (c := .slice Bg c2.gates.length bg) (d := .slice Bo c2.outs.length bo) HM4.out)
    have HE5 := setR_only (E := (· = gm)) (w := w4) (k := gm) (a := .int .i64 c2.ins) (b := .slice Bn c2.next.length bn) (c := .slice Bg c2.gates.length bg) (d := .slice Bo c2.outs.length bo) rfl
    have HX5 := Lib.hid (blk_only HX4.out HE5 (by omega))
    have Hr5 := Lib.hid (show Rd (setR w4 gm (.int .i64 c2.ins) (.slice Bn c2.next.length bn) (.slice Bg c2.gates.length bg) (.slice Bo c2.outs.length bo)) (w.heap.size + 1) (0 + 20000 + 10000 + 20000 + 10000) from rd_set (rd_set (rd_set (rd_set Hr4.out (by omega)) (by omega)) (by omega)) (by omega))
    have Hb5 := Lib.hid (below_setR (a := .int .i64 c2.ins) (b := .slice Bn c2.next.length bn) (c := .slice Bg c2.gates.length bg) (d := .slice Bo c2.outs.length bo) Hb4.out (show w.heap.size ≤ gm by omega))
    have zs5 : gm < (setR w4 gm (.int .i64 c2.ins) (.slice Bn c2.next.length bn) (.slice Bg c2.gates.length bg) (.slice Bo c2.outs.length bo)).heap.size := blk_lt HM5.out
    have f0 := blk_cell HM5.out 0
    have f1 := blk_cell HM5.out 1
    have f2 := blk_cell HM5.out 2
    have f3 := blk_cell HM5.out 3
    simp at f0 f1 f2 f3
    clear HX4 HM4 Hb4 HO4 Hr4 HE5
    go_wp2_with fail
    rw [show (((w4.setCell ⟨gm, 0, none⟩ (.int .i64 c2.ins)).setCell ⟨gm, 1, none⟩ (.slice Bn c2.next.length bn)).setCell ⟨gm, 2, none⟩ (.slice Bg c2.gates.length bg)).setCell ⟨gm, 3, none⟩ (.slice Bo c2.outs.length bo) = setR w4 gm (.int .i64 c2.ins) (.slice Bn c2.next.length bn) (.slice Bg c2.gates.length bg) (.slice Bo c2.outs.length bo) from rfl]
    generalize setR w4 gm (.int .i64 c2.ins) (.slice Bn c2.next.length bn) (.slice Bg c2.gates.length bg) (.slice Bo c2.outs.length bo) = w5 at *
    clear o0 o1 o2 o3 e0 e1 e2 e3 zq
    have hO := fun ops a => rdStepRS_ok (Pg := Try.prog) (ops := ops) (P := (0 + 20000 + 10000 + 20000 + 10000)) (a := a) (R0 := fun w' => w'.heap[w.heap.size]? = some (.cells #[.int .i64 0, .slice none 0 0, .slice none 0 0, .slice none 0 0] 26 (0, 0))) (R1 := fun w' => w'.heap[w.heap.size]? = some (.cells #[.int .i64 c2.ins, .slice Bn c2.next.length bn, .slice Bg c2.gates.length bg, .slice Bo c2.outs.length bo] 26 (0, 0))) (d := 10) Hr5.out.lt (blk_lt HX5.out) (fun w1 w2 h ho => blk_only h ho (by omega)) (fun w1 w2 h ho => blk_only h ho (by omega))
    refine wp_region_rs (rdStepRS Try.prog _ (w.heap.size + 1) (0 + 20000 + 10000 + 20000 + 10000) w5 _ w.heap.size _ _ 10) (hO _ _) (by kernel_rfl) (by kernel_rfl) (by kernel_rfl) (Nat.le_of_ble_eq_true rfl) Hr5.out HX5.out ?_
    apply rs_eq (hO _ _) (.inl (Nat.ne_of_beq_eq_false rfl))
    · intro ρ w' ho hK
      obtain ⟨h0, -⟩ := hK
      have h0' : ρ (.tmp 6) = .pointer (some ⟨gm, 0, none⟩) := h0
      have q0 := cell_on ho hneM zs5 f0
      have q1 := cell_on ho hneM zs5 f1
      have q2 := cell_on ho hneM zs5 f2
      have q3 := cell_on ho hneM zs5 f3
      go_simp
      try exact rfl
    refine rs_old (hO _ _) (.inl (Nat.ne_of_beq_eq_false rfl)) _ (.inl rfl) _ rfl rfl ?_
    apply rs_eq (hO _ _) (.inl (Nat.ne_of_beq_eq_false rfl))
    · intro ρ w' ho hK
      obtain ⟨h0, -⟩ := hK
      have h0' : ρ (.tmp 6) = .pointer (some ⟨gm, 0, none⟩) := h0
      go_simp
      try exact rfl
    apply rs_eq (hO _ _) (.inl (Nat.ne_of_beq_eq_false rfl))
    · intro ρ w' ho hK
      obtain ⟨h0, -⟩ := hK
      have h0' : ρ (.tmp 18) = .pointer (some ⟨gm, 3, none⟩) := h0
      have q3 := cell_on ho hneM zs5 f3
      go_simp
      try exact rfl
    apply rs_eq (hO _ _) (.inl (Nat.ne_of_beq_eq_false rfl))
    · intro ρ w' ho hK
      obtain ⟨h0, -⟩ := hK
      have h0' : ρ (.tmp 19) = .slice Bo c2.outs.length bo := h0
      go_simp
      try exact rfl
    apply rs_eq (hO _ _) (.inl (Nat.ne_of_beq_eq_false rfl))
    · intro ρ w' ho hK
      obtain ⟨h0, h1, -⟩ := hK
      have h0' : ρ (.tmp 20) = .int .i64 c2.outs.length := h0
      have h1' : ρ (.const (.int .i64 2)) = .int .i64 2 := h1
      have hwr := IntWalk.i64_in ((c2.outs.length : Int) + 2) (by omega)
      go_simp
      try exact rfl
    refine rs_pick (hO _ _) (.inl (Nat.ne_of_beq_eq_false rfl)) 36 _ _ _ (w.heap.size + 1) (0 + 20000 + 10000 + 20000 + 10000) 8 rfl rfl fn_draw (fun ρ w hK => ⟨hK.1, hK.2.1, (c2.outs.length : Int) + 2, hK.2.2.1, by omega, by omega⟩) (fun n k w hk h1n hn hr => pick_upto n 8 _ _ w hr (by have hk' : k < 13 := hk; omega) h1n hn (by omega)) ?_
    refine rs_pure (hO _ _) (.inl (Nat.ne_of_beq_eq_false rfl)) (TInt (-1) 7) (stb_int _ _ _) (fun ρ w hK => by
      obtain ⟨⟨q, h0, h1, h2⟩, h3, -⟩ := hK
      have h0' : ρ (.tmp 22) = .int .i64 q := h0
      have h2' : q ≤ 8 := h2
      have h3' : ρ (.const (.int .i64 1)) = .int .i64 1 := h3
      have hwr := IntWalk.i64_in (q - 1) (by omega)
      refine ⟨.int .i64 (q - 1), ?_, _, rfl, by omega, by omega⟩
      go_simp) ?_
    refine rs_old (hO _ _) (.inl (Nat.ne_of_beq_eq_false rfl)) _ (.inl rfl) _ rfl rfl ?_
    refine rs_pick (hO _ _) (.inl (Nat.ne_of_beq_eq_false rfl)) 36 _ _ _ (w.heap.size + 1) (0 + 20000 + 10000 + 20000 + 10000) 4 rfl rfl fn_draw (fun ρ w hK => ⟨hK.1, hK.2.1, 5, hK.2.2.1, by omega, by omega⟩) (fun n k w hk h1n hn hr => pick_upto n 4 _ _ w hr (by have hk' : k < 13 := hk; omega) h1n hn (by omega)) ?_
    refine rs_doR rfl rfl (w.heap.size + 1) (0 + 20000 + 10000 + 20000 + 10000) rfl (fun ρ w' ho h0 hK => by
      obtain ⟨h1, h2, -⟩ := hK
      have h1' : ρ (.tmp 2) = .pointer (some ⟨w.heap.size, 0, none⟩) := h1
      have h2' : ρ (.tmp 16) = .agg #[.int .i64 c2.ins, .slice Bn c2.next.length bn, .slice Bg c2.gates.length bg, .slice Bo c2.outs.length bo] := h2
      have h0' : w'.heap[w.heap.size]? = some (.cells #[.int .i64 0, .slice none 0 0, .slice none 0 0, .slice none 0 0] 26 (0, 0)) := h0
      have o0 := blk_cell h0' 0
      have o1 := blk_cell h0' 1
      have o2 := blk_cell h0' 2
      have o3 := blk_cell h0' 3
      have b0 := blk_free h0' 0
      have b1 := blk_free h0' 1
      have b2 := blk_free h0' 2
      have b3 := blk_free h0' 3
      have zr := blk_lt h0'
      simp at o0 o1 o2 o3
      refine ⟨setR w' w.heap.size (.int .i64 c2.ins) (.slice Bn c2.next.length bn) (.slice Bg c2.gates.length bg) (.slice Bo c2.outs.length bo), ?_, setR_box h0', setR_only (.inr rfl), fun Q hQ => rd_only_k hQ (zero_no h0') (by omega) (setR_only rfl)⟩
      unfold setR
      go_simp) ?_
    refine rs_same (hO _ _) (.inl (Nat.ne_of_beq_eq_false rfl)) 23 7 (.inr rfl) rfl _ rfl ?_
    refine rs_same (hO _ _) (.inl (Nat.ne_of_beq_eq_false rfl)) 25 9 (.inr rfl) rfl _ rfl ?_
    intro f w9 k9 hk9 hI9 ht9 hcp9
    have E0 : f 0 = _ := ht9 0 (Nat.le_of_ble_eq_true rfl)
    have E1 : f 1 = _ := ht9 1 (Nat.le_of_ble_eq_true rfl)
    have E2 : f 2 = _ := ht9 2 (Nat.le_of_ble_eq_true rfl)
    have E3 : f 3 = _ := ht9 3 (Nat.le_of_ble_eq_true rfl)
    have E4 : f 4 = _ := ht9 4 (Nat.le_of_ble_eq_true rfl)
    have E5 : f 5 = _ := ht9 5 (Nat.le_of_ble_eq_true rfl)
    have E8 : f 8 = _ := ht9 8 (Nat.le_of_ble_eq_true rfl)
    obtain ⟨x, hx, hx1, hx2⟩ : (TInt (-1) 7) w9 (f 7) := ht9 7 (Nat.le_of_ble_eq_true rfl)
    obtain ⟨y, hy, hy1, hy2⟩ : (TInt 0 4) w9 (f 9) := ht9 9 (Nat.le_of_ble_eq_true rfl)
    have C11 : f 11 = f 7 := (hcp9 11 _ 23 7 rfl rfl rfl rfl).2
    have C12 : f 12 = f 9 := (hcp9 12 _ 25 9 rfl rfl rfl rfl).2
    have HE9 : Only (fun g => g = w.heap.size + 1 ∨ g = w.heap.size) w5 w9 := hI9.2.1
    have HR9 : w9.heap[w.heap.size]? = some (.cells #[.int .i64 c2.ins, .slice Bn c2.next.length bn, .slice Bg c2.gates.length bg, .slice Bo c2.outs.length bo] 26 (0, 0)) := hI9.2.2
    simp only [putAll, E0, E1, E2, E3, E4, E5, E8, C11, C12, hx, hy, Nat.zero_add, Nat.reduceAdd, Act.put, List.setIfInBounds_toArray, List.set_cons_succ, List.set_cons_zero]
    clear E0 E1 E2 E3 E4 E5 E8 hI9 ht9 hcp9 hk9 hO
    clear C11 C12 hx hy
    generalize f 6 = r6, f 10 = r10 at *
    have o0 := blk_cell HR9 0
    have o1 := blk_cell HR9 1
    have o2 := blk_cell HR9 2
    have o3 := blk_cell HR9 3
    have zr := blk_lt HR9
    simp at o0 o1 o2 o3
    have HOF := Lib.hid ((HO5.out.only HE9 (fun g hg => by have := HZ1.out; omega)).mono (show w.heap.size ≤ w3.heap.size by have := HZ1.out; omega))
    have HBF := Lib.hid (Only.below Hb5.out HE9 (Nat.le_trans Hb5.out.size (Nat.le_refl _)) (fun g hg => by omega))
    clear HE9 HR9 HO5 HX5 Hr5 Hb5 HM5 f0 f1 f2 f3
    go_wp2_with fail
    refine bodyPost_ret (v := .tuple #[.agg #[.int .i64 c2.ins, .slice Bn c2.next.length bn, .slice Bg c2.gates.length bg, .slice Bo c2.outs.length bo], .int .i64 x, .int .i64 y]) (by simp [results, Try.results18, go_sem, o0, o1, o2, o3]) rfl ⟨_, c2, x, y, rfl, HOF.out, by omega, by omega, by omega, by omega, HBF.out⟩
end Go.Proofs.Ytkkkjbinfdohpaa

namespace Go.Proofs.Ytkkkjbinfdohpaa
/-! Reachable states, plainly. -/
namespace Cir
/-- Membership, as a Bool that the simplifier leaves alone. -/
def memB (l : List Nat) (n : Nat) : Bool := l.contains n
theorem memB_iff {l : List Nat} {n : Nat} : memB l n = true ↔ n ∈ l := by unfold memB; simp
def push (l : List Nat) (n : Nat) : List Nat := if l.contains n then l else l ++ [n]
/-- The next states for the first j inputs are added. -/
def pushes (c : Ci) (s j : Nat) (l : List Nat) : List Nat := ((List.range j).map (nextOf c s)).foldl push l
def bfs (c : Ci) : Nat → Nat → List Nat → List Nat
  | 0, _, l => l
  | f + 1, k, l => match l[k]? with
    | none => l
    | some s => bfs c f (k + 1) (pushes c s (2 ^ c.ins) l)
def reach (c : Ci) : List Nat := bfs c 9 0 [0]
/-- Different states of the circuit. -/
structure Sts (c : Ci) (l : List Nat) : Prop where
  nodup : l.Nodup
  lt : ∀ x ∈ l, x < 2 ^ c.next.length
theorem nodup_lt : ∀ (N : Nat) (l : List Nat), l.Nodup → (∀ x ∈ l, x < N) → l.length ≤ N
  | 0, l, _, h => by
    cases l with
    | nil => simp
    | cons a l => exact absurd (h a (by simp)) (by omega)
  | N + 1, l, hn, h => by
    by_cases hm : N ∈ l
    · have h1 := nodup_lt N (l.erase N) (hn.erase N) (fun x hx => by
        have h2 := (List.Nodup.mem_erase_iff hn).1 hx
        have h3 := h x h2.2
        have h4 := h2.1
        omega)
      rw [List.length_erase_of_mem hm] at h1
      omega
    · have := nodup_lt N l hn (fun x hx => by
        have h3 := h x hx
        have h4 : x ≠ N := fun e => hm (e ▸ hx)
        omega)
      omega
theorem Sts.len {c : Ci} {l : List Nat} (h : Sts c l) (hc : Ok c) : l.length ≤ 8 := by
  have h1 := nodup_lt _ l h.nodup h.lt
  have h2 : 2 ^ c.next.length ≤ 2 ^ 3 := Nat.pow_le_pow_right (show 0 < 2 by decide) hc.nexts
  omega
theorem Sts.zero (c : Ci) : Sts c [0] := ⟨by simp, fun x hx => by simp at hx; subst hx; exact Nat.pow_pos (by decide)⟩
theorem Sts.push {c : Ci} {l : List Nat} (h : Sts c l) {n : Nat} (hn : n < 2 ^ c.next.length) : Sts c (Cir.push l n) := by
  unfold Cir.push
  cases hc : l.contains n
  · refine ⟨?_, fun x hx => ?_⟩
    · simp only [Bool.false_eq_true, if_false]
      rw [List.nodup_append]
      refine ⟨h.nodup, by simp, fun a ha b hb => ?_⟩
      simp at hb
      subst hb
      rintro rfl
      have : l.contains a = true := by simpa using ha
      rw [hc] at this
      cases this
    · simp at hx
      rcases hx with hx | rfl
      · exact h.lt x hx
      · exact hn
  · simpa using h
theorem push_no {l : List Nat} {n : Nat} (h : memB l n = false) : push l n = l ++ [n] := by unfold memB at h; unfold push; rw [h]; rfl
theorem push_yes {l : List Nat} {n : Nat} (h : memB l n = true) : push l n = l := by unfold memB at h; unfold push; rw [h]; rfl
theorem memB_snoc (l : List Nat) (n x : Nat) : memB (l ++ [n]) x = (memB l x || x == n) := by unfold memB; rw [Bool.eq_iff_iff]; simp
theorem memB_zero (x : Nat) : memB [0] x = (x == 0) := by unfold memB; rw [Bool.eq_iff_iff]; simp
theorem pushes_zero (c : Ci) (s : Nat) (l : List Nat) : pushes c s 0 l = l := rfl
theorem pushes_succ (c : Ci) (s j : Nat) (l : List Nat) : pushes c s (j + 1) l = push (pushes c s j l) (nextOf c s j) := by
  unfold pushes
  rw [List.range_succ, List.map_append, List.foldl_append]
  rfl
theorem Sts.pushes {c : Ci} {l : List Nat} (h : Sts c l) (s : Nat) : ∀ j, Sts c (Cir.pushes c s j l)
  | 0 => h
  | j + 1 => by
    rw [pushes_succ]
    exact (Sts.pushes h s j).push (nextOf_lt _ _ _)
theorem pushes_prefix (c : Ci) (s : Nat) (l : List Nat) : ∀ j, ∃ m, Cir.pushes c s j l = l ++ m
  | 0 => ⟨[], by simp [pushes_zero]⟩
  | j + 1 => by
    obtain ⟨m, hm⟩ := pushes_prefix c s l j
    rw [pushes_succ, hm]
    unfold push
    split
    · exact ⟨m, rfl⟩
    · exact ⟨m ++ [nextOf c s j], by rw [List.append_assoc]⟩
theorem pushes_get {c : Ci} {s : Nat} {l : List Nat} {j k x : Nat} (h : l[k]? = some x) : (Cir.pushes c s j l)[k]? = some x := by
  obtain ⟨m, hm⟩ := pushes_prefix c s l j
  obtain ⟨hk, _⟩ := List.getElem?_eq_some_iff.1 h
  rw [hm, List.getElem?_append_left hk, h]
theorem bfs_step {c : Ci} {f k : Nat} {l : List Nat} {s : Nat} (h : l[k]? = some s) : bfs c (f + 1) k l = bfs c f (k + 1) (pushes c s (2 ^ c.ins) l) := by
  rw [bfs, h]
theorem bfs_end {c : Ci} {f : Nat} {l : List Nat} : bfs c f l.length l = l := by
  cases f with
  | zero => rfl
  | succ f => rw [bfs, List.getElem?_eq_none (Nat.le_refl _)]
theorem Sts.bfs {c : Ci} : ∀ (f k : Nat) {l : List Nat}, Sts c l → Sts c (Cir.bfs c f k l)
  | 0, _, _, h => h
  | f + 1, k, l, h => by
    rw [Cir.bfs]
    split
    · exact h
    · exact Sts.bfs f (k + 1) (h.pushes _ _)
theorem reach_sts (c : Ci) : Sts c (reach c) := Sts.bfs _ _ (Sts.zero c)
end Cir
end Go.Proofs.Ytkkkjbinfdohpaa

namespace Go.Proofs.Ytkkkjbinfdohpaa
namespace Cir
/-! Violations of invariants, plainly. -/
/-- Output o is 1 in state s for input number x. -/
def bad (c : Ci) (o s x : Nat) : Bool := (outsOf c s x).getD o false
def vsts (l : List (Nat × List Nat)) : List Nat := l.map (·.1)
def vpush (l : List (Nat × List Nat)) (n : Nat) (p : List Nat) : List (Nat × List Nat) := if memB (vsts l) n then l else l ++ [(n, p)]
def vpushes (c : Ci) (s : Nat) (p : List Nat) : Nat → List (Nat × List Nat) → List (Nat × List Nat)
  | 0, l => l
  | j + 1, l => vpush (vpushes c s p j l) (nextOf c s j) (p ++ [j])
def vfind (c : Ci) (o s M : Nat) : Option Nat := (List.range M).find? (bad c o s)
def vbfs (c : Ci) (o : Nat) : Nat → Nat → List (Nat × List Nat) → Option (List Nat)
  | 0, _, _ => none
  | f + 1, k, l => match l[k]? with
    | none => none
    | some (s, p) => match vfind c o s (2 ^ c.ins) with
      | some x => some (p ++ [x])
      | none => vbfs c o f (k + 1) (vpushes c s p (2 ^ c.ins) l)
def viol (c : Ci) (o : Nat) : Option (List Nat) := vbfs c o 9 0 [(0, [])]
theorem vsts_vpush (l : List (Nat × List Nat)) (n : Nat) (p : List Nat) : vsts (vpush l n p) = push (vsts l) n := by
  unfold vpush push memB
  split
  · rfl
  · unfold vsts; simp
theorem vsts_vpushes (c : Ci) (s : Nat) (p : List Nat) (l : List (Nat × List Nat)) : ∀ j, vsts (vpushes c s p j l) = pushes c s j (vsts l)
  | 0 => by rw [pushes_zero]; rfl
  | j + 1 => by rw [pushes_succ, ← vsts_vpushes c s p l j, ← vsts_vpush]; rfl
theorem vsts_get {l : List (Nat × List Nat)} {k s : Nat} {p : List Nat} (h : l[k]? = some (s, p)) : (vsts l)[k]? = some s := by
  unfold vsts; rw [List.getElem?_map, h]; rfl
theorem vsts_length (l : List (Nat × List Nat)) : (vsts l).length = l.length := by unfold vsts; simp
theorem vpush_prefix (l : List (Nat × List Nat)) (n : Nat) (p : List Nat) : ∃ m, vpush l n p = l ++ m := by
  unfold vpush
  split
  · exact ⟨[], by simp⟩
  · exact ⟨_, rfl⟩
theorem vpushes_prefix (c : Ci) (s : Nat) (p : List Nat) (l : List (Nat × List Nat)) : ∀ j, ∃ m, vpushes c s p j l = l ++ m
  | 0 => ⟨[], by simp [vpushes]⟩
  | j + 1 => by
    obtain ⟨m, hm⟩ := vpushes_prefix c s p l j
    obtain ⟨m', hm'⟩ := vpush_prefix (vpushes c s p j l) (nextOf c s j) (p ++ [j])
    exact ⟨m ++ m', by rw [vpushes, hm', hm, List.append_assoc]⟩
theorem vpushes_get {c : Ci} {s : Nat} {p : List Nat} {l : List (Nat × List Nat)} {j k : Nat} {x : Nat × List Nat} (h : l[k]? = some x) : (vpushes c s p j l)[k]? = some x := by
  obtain ⟨m, hm⟩ := vpushes_prefix c s p l j
  rw [hm, List.getElem?_append_left (List.getElem?_eq_some_iff.1 h).1, h]
/-- Lists of states with the inputs that lead there. -/
structure Vs (c : Ci) (l : List (Nat × List Nat)) : Prop where
  sts : Sts c (vsts l)
  len : ∀ (k s : Nat) (p : List Nat), l[k]? = some (s, p) → p.length ≤ k
  inp : ∀ (k s : Nat) (p : List Nat), l[k]? = some (s, p) → ∀ x ∈ p, x < 2 ^ c.ins
theorem Vs.zero (c : Ci) : Vs c [(0, [])] := by
  refine ⟨Sts.zero c, fun k s p h => ?_, fun k s p h => ?_⟩
  · cases k with
    | zero => simp at h; obtain ⟨_, rfl⟩ := h; simp
    | succ k => simp at h
  · cases k with
    | zero => simp at h; obtain ⟨_, rfl⟩ := h; simp
    | succ k => simp at h
theorem Vs.push {c : Ci} {l : List (Nat × List Nat)} (h : Vs c l) {k s : Nat} {p : List Nat} (hk : l[k]? = some (s, p)) {n x : Nat} (hn : n < 2 ^ c.next.length) (hx : x < 2 ^ c.ins) : Vs c (vpush l n (p ++ [x])) := by
  refine ⟨by rw [vsts_vpush]; exact h.sts.push hn, fun k' s' p' h' => ?_, fun k' s' p' h' => ?_⟩
  all_goals
    unfold vpush at h'
    split at h'
    · first | exact h.len _ _ _ h' | exact h.inp _ _ _ h'
    · rcases Nat.lt_or_ge k' l.length with hl | hl
      · rw [List.getElem?_append_left hl] at h'
        first | exact h.len _ _ _ h' | exact h.inp _ _ _ h'
      · rw [List.getElem?_append_right hl] at h'
        have hz : k' - l.length = 0 := by
          rcases Nat.eq_zero_or_pos (k' - l.length) with hz | hz
          · exact hz
          · rw [List.getElem?_eq_none (by simp; omega)] at h'; cases h'
        rw [hz] at h'
        simp at h'
        obtain ⟨rfl, rfl⟩ := h'
        first
        | (have := h.len _ _ _ hk
           have h2 := (List.getElem?_eq_some_iff.1 hk).1
           simp
           omega)
        | (intro y hy
           rcases List.mem_append.1 hy with hy | hy
           · exact h.inp _ _ _ hk y hy
           · obtain rfl := List.mem_singleton.1 hy
             exact hx)
theorem Vs.pushes {c : Ci} {l : List (Nat × List Nat)} (h : Vs c l) {k s : Nat} {p : List Nat} (hk : l[k]? = some (s, p)) : ∀ j, j ≤ 2 ^ c.ins → Vs c (vpushes c s p j l)
  | 0, _ => h
  | j + 1, hj => (Vs.pushes h hk j (by omega)).push (vpushes_get hk) (nextOf_lt c s j) (by omega)
theorem Vs.size {c : Ci} {l : List (Nat × List Nat)} (h : Vs c l) (hc : Ok c) : l.length ≤ 8 := by
  have := h.sts.len hc
  rwa [vsts_length] at this
theorem vfind_none {c : Ci} {o s M : Nat} (h : ∀ x, x < M → bad c o s x = false) : vfind c o s M = none := by
  unfold vfind
  rw [List.find?_eq_none]
  intro x hx
  rw [h x (List.mem_range.1 hx)]
  simp
theorem find_range (p : Nat → Bool) : ∀ (M x : Nat), x < M → p x = true → (∀ y, y < x → p y = false) → (List.range M).find? p = some x
  | 0, x, h, _, _ => by omega
  | M + 1, x, h, hp, hl => by
    rw [List.range_succ, List.find?_append]
    rcases Nat.lt_or_ge x M with hx | hx
    · rw [find_range p M x hx hp hl]; rfl
    · obtain rfl : x = M := by omega
      rw [List.find?_eq_none.2 (fun y hy => by rw [hl y (List.mem_range.1 hy)]; simp)]
      simp [hp]
theorem vfind_some {c : Ci} {o s M x : Nat} (hx : x < M) (hb : bad c o s x = true) (h : ∀ y, y < x → bad c o s y = false) : vfind c o s M = some x := find_range _ M x hx hb h
theorem vbfs_hit {c : Ci} {o f k s x : Nat} {p : List Nat} {l : List (Nat × List Nat)} (hk : l[k]? = some (s, p)) (h : vfind c o s (2 ^ c.ins) = some x) : vbfs c o (f + 1) k l = some (p ++ [x]) := by
  rw [vbfs, hk]; simp only [h]
theorem vbfs_step {c : Ci} {o f k s : Nat} {p : List Nat} {l : List (Nat × List Nat)} (hk : l[k]? = some (s, p)) (h : vfind c o s (2 ^ c.ins) = none) : vbfs c o (f + 1) k l = vbfs c o f (k + 1) (vpushes c s p (2 ^ c.ins) l) := by
  rw [vbfs, hk]; simp only [h]
theorem vbfs_end {c : Ci} {o f : Nat} {l : List (Nat × List Nat)} : vbfs c o f l.length l = none := by
  cases f with
  | zero => rfl
  | succ f => rw [vbfs, List.getElem?_eq_none (Nat.le_refl _)]
theorem vpush_no {l : List (Nat × List Nat)} {n : Nat} {p : List Nat} (h : memB (vsts l) n = false) : vpush l n p = l ++ [(n, p)] := by
  unfold vpush; rw [h]; rfl
theorem vpush_yes {l : List (Nat × List Nat)} {n : Nat} {p : List Nat} (h : memB (vsts l) n = true) : vpush l n p = l := by
  unfold vpush; rw [h]; rfl
theorem vpushes_succ (c : Ci) (s : Nat) (p : List Nat) (j : Nat) (l : List (Nat × List Nat)) : vpushes c s p (j + 1) l = vpush (vpushes c s p j l) (nextOf c s j) (p ++ [j]) := rfl
/-- The way back: from which place, and by which input. -/
structure Back (l : List (Nat × List Nat)) (from_ how : List Nat) : Prop where
  l1 : from_.length = l.length
  l2 : how.length = l.length
  zero : ∃ s, l[0]? = some (s, [])
  step : ∀ (k s : Nat) (p : List Nat), l[k]? = some (s, p) → 0 < k → ∃ i x s' p', from_[k]? = some i ∧ i < k ∧ how[k]? = some x ∧ l[i]? = some (s', p') ∧ p = p' ++ [x]
theorem Back.start : Back [(0, [])] [0] [0] := ⟨rfl, rfl, ⟨0, rfl⟩, fun k s p h hk => by
  cases k with
  | zero => omega
  | succ k => simp at h⟩
theorem Back.snoc {l : List (Nat × List Nat)} {from_ how : List Nat} (h : Back l from_ how) {k s n x : Nat} {p : List Nat} (hk : l[k]? = some (s, p)) : Back (l ++ [(n, p ++ [x])]) (from_ ++ [k]) (how ++ [x]) := by
  have hkl := (List.getElem?_eq_some_iff.1 hk).1
  refine ⟨by simp [h.l1], by simp [h.l2], ?_, fun k' s' p' h' hpos => ?_⟩
  · obtain ⟨s0, h0⟩ := h.zero
    exact ⟨s0, by rw [List.getElem?_append_left (List.getElem?_eq_some_iff.1 h0).1, h0]⟩
  · rcases Nat.lt_or_ge k' l.length with hl | hl
    · rw [List.getElem?_append_left hl] at h'
      obtain ⟨i, y, s1, p1, h1, h2, h3, h4, h5⟩ := h.step k' s' p' h' hpos
      exact ⟨i, y, s1, p1, by rw [List.getElem?_append_left (by rw [h.l1]; exact hl), h1], h2, by rw [List.getElem?_append_left (by rw [h.l2]; exact hl), h3], by rw [List.getElem?_append_left (by omega), h4], h5⟩
    · have hz : k' = l.length := by
        rcases Nat.lt_or_ge l.length k' with hz | hz
        · rw [List.getElem?_eq_none (by simp; omega)] at h'; cases h'
        · omega
      subst hz
      rw [List.getElem?_append_right (Nat.le_refl _), Nat.sub_self] at h'
      simp at h'
      obtain ⟨rfl, rfl⟩ := h'
      exact ⟨k, x, s, p, by rw [List.getElem?_append_right (by rw [h.l1]; exact Nat.le_refl _), h.l1]; simp, hkl, by rw [List.getElem?_append_right (by rw [h.l2]; exact Nat.le_refl _), h.l2]; simp, by rw [List.getElem?_append_left hkl, hk], rfl⟩
end Cir
end Go.Proofs.Ytkkkjbinfdohpaa
