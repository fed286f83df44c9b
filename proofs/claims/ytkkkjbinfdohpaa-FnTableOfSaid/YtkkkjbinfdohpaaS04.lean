import Derived.Test.YtkkkjbinfdohpaaS03
import Derived.Test.YtkkkjbinfdohpaaS02
import Derived.Test.YtkkkjbinfdohpaaS01
import Derived.Test.YtkkkjbinfdohpaaProg
set_option linter.unusedVariables false
set_option linter.unusedSimpArgs false
namespace Go.Proofs.Ytkkkjbinfdohpaa
open Go.RowKit
set_option maxRecDepth 100000
/-! A drawn circuit: the walk. -/
set_option maxHeartbeats 16000000 in
theorem l20Circuit_any (R P : Nat) (n : Int) (w : World) (h : Rd w R P) (hP : P ≤ 100000) (h0 : 0 ≤ n) (h1 : n ≤ 1000) :
    Calls Try.prog 35 #[.pointer (some ⟨R, 0, none⟩), .int .i64 n] w (DrewC R P w) := by
  have Hr := Lib.hid h
  have zR := h.lt
  clear h
  go_enter Try.func35, Try.ntmps35
  go_wp2_with fail
  refine (pick_any 5 _ P _ (Hr.out.alloc _) (by omega) (by omega) (by omega)).mono ?_
  rintro e w1 ⟨x, hx0, hx1, rfl, hr1, hg1⟩
  have Hr1 := Lib.hid hr1
  have HO1 := Lib.hid (only_drawn (only_alloc (Only.refl (· = R) w) _) hg1 (.inr rfl))
  have HX1 := Lib.hid (res_grown (heap_alloc_new w _) hg1 (fun e => by have := Option.some.inj e; omega))
  have z1 := hg1.size
  rw [World.size_alloc] at z1
  clear hr1 hg1 Hr
  go_wp2_with fail
  have hb2 := bel_new w1 (.cells #[.int .i64 x, .slice none 0 0, .slice none 0 0, .slice none 0 0] 26)
  have HC2 := Lib.hid (CB.start (ins := x) (w := w1) trivial)
  have Hr2 := Lib.hid (Hr1.out.alloc (.cells #[.int .i64 x, .slice none 0 0, .slice none 0 0, .slice none 0 0] 26))
  have HO2 := Lib.hid (only_alloc HO1.out (.cells #[.int .i64 x, .slice none 0 0, .slice none 0 0, .slice none 0 0] 26))
  have HX2 := Lib.hid ((hb2.block w.heap.size (by omega)).trans HX1.out)
  clear Hr1 HO1 HX1 hb2
  obtain ⟨gm, hgm⟩ : ∃ gm, gm = w1.heap.size := ⟨_, rfl⟩
  rw [← hgm] at HC2 ⊢
  have hgm1 : w.heap.size + 1 ≤ gm := by omega
  clear hgm z1
  generalize w1.alloc (.cells #[.int .i64 x, .slice none 0 0, .slice none 0 0, .slice none 0 0] 26) = w2 at *
  refine (pick_any 4 _ _ _ Hr2.out (by omega) (by omega) (by omega)).mono ?_
  rintro e w3 ⟨y, hy0, hy1, rfl, hr3, hg3⟩
  have Hr3 := Lib.hid hr3
  have HO3 := Lib.hid (only_drawn HO2.out hg3 (.inr rfl))
  have HX3 := Lib.hid (res_grown HX2.out hg3 (fun e => by have := Option.some.inj e; omega))
  have HC3 := Lib.hid (HC2.out.drawn hg3 (by omega))
  clear hr3 hg3 Hr2 HO2 HX2 HC2
  obtain ⟨zm, p0, -⟩ := HC3.out.cells
  go_wp2_with fail
  refine (pick_any 15 _ _ _ Hr3.out (by omega) (by omega) (by omega)).mono ?_
  rintro e w4 ⟨k0, hk0, hk1, rfl, hr4, hg4⟩
  have Hr4 := Lib.hid hr4
  have HO4 := Lib.hid (only_drawn HO3.out hg4 (.inr rfl))
  have HX4 := Lib.hid (res_grown HX3.out hg4 (fun e => by have := Option.some.inj e; omega))
  have HC4 := Lib.hid (HC3.out.drawn hg4 (by omega))
  clear hr4 hg4 Hr3 HO3 HX3 HC3 zm p0
  go_wp2_with fail
  go_loopw [7, 8] (fun m k wr => ∃ (M K : Int) (gs : List (Int × Int)) (vG : Value), m = .int .i64 M ∧ k = .int .i64 K ∧ 0 ≤ K ∧ gs.length + K ≤ 14 ∧ 1 ≤ M ∧ M ≤ 8 + gs.length ∧ Hid (∀ q ∈ gs, LitS q.1 ∧ LitS q.2) ∧ Hid (CB gm ⟨x, [], gs, []⟩ (.slice none 0 0) vG (.slice none 0 0) wr) ∧ Hid (Rd wr R (P + 100 + 10 * gs.length)) ∧ Hid (Only (· = R) w wr) ∧ Hid (wr.heap[w.heap.size]? = some (.cells #[.int .i64 0, .slice none 0 0, .slice none 0 0, .slice none 0 0] 26 (0, 0)))) (fun _ k _ => (intOf k).toNat)
  case atStart => exact ⟨_, k0, [], _, rfl, rfl, hk0, by simp; omega, by omega, by simp; omega, Lib.hid (by simp), HC4, Lib.hid (Hr4.out.more (by omega)), HO4, HX4⟩
  case round =>
    obtain ⟨M, K, gs, vG, rfl, rfl, hK, hKl, hM, hM2, Hl, HC, Hr, HO, HX⟩ := hrel
    clear HC4 Hr4 HO4 HX4
    by_cases hpos : 0 < K
    · go_wp2_with fail
      refine (pick_any (2 * M) _ _ _ Hr.out (by omega) (by omega) (by omega)).mono ?_
      rintro e w5 ⟨a, ha0, ha1, rfl, hr5, hg5⟩
      have Hr5 := Lib.hid hr5
      have HO5 := Lib.hid (only_drawn HO.out hg5 (.inr rfl))
      have HX5 := Lib.hid (res_grown HX.out hg5 (fun e => by have := Option.some.inj e; omega))
      have HC5 := Lib.hid (HC.out.drawn hg5 (by omega))
      clear hr5 hg5 Hr HO HX HC
      go_wp2_with fail
      refine (pick_any (2 * M) _ _ _ Hr5.out (by omega) (by omega) (by omega)).mono ?_
      rintro e w6 ⟨b, hb0, hb1, rfl, hr6, hg6⟩
      have Hr6 := Lib.hid hr6
      have HO6 := Lib.hid (only_drawn HO5.out hg6 (.inr rfl))
      have HX6 := Lib.hid (res_grown HX5.out hg6 (fun e => by have := Option.some.inj e; omega))
      have HC6 := Lib.hid (HC5.out.drawn hg6 (by omega))
      clear hr6 hg6 Hr5 HO5 HX5 HC5
      go_wp2_with fail
      refine (pick_any 3 _ _ _ Hr6.out (by omega) (by omega) (by omega)).mono ?_
      rintro e w7 ⟨z, hz0, hz1, rfl, hr7, hg7⟩
      have Hr7 := Lib.hid hr7
      have HO7 := Lib.hid (only_drawn HO6.out hg7 (.inr rfl))
      have HX7 := Lib.hid (res_grown HX6.out hg7 (fun e => by have := Option.some.inj e; omega))
      have HC7 := Lib.hid (HC6.out.drawn hg7 (by omega))
      clear hr7 hg7 Hr6 HO6 HX6 HC6
      by_cases hz : 0 < z
      · by_cases h6 : 2 * M < 6
        · go_wp2_with fail
          refine (pick_any (2 * M) _ _ _ Hr7.out (by omega) (by omega) (by omega)).mono ?_
          rintro e w8 ⟨u, hu0, hu1, rfl, hr8, hg8⟩
          have Hr8 := Lib.hid hr8
          have HO8 := Lib.hid (only_drawn HO7.out hg8 (.inr rfl))
          have HX8 := Lib.hid (res_grown HX7.out hg8 (fun e => by have := Option.some.inj e; omega))
          have HC8 := Lib.hid (HC7.out.drawn hg8 (by omega))
          clear hr8 hg8 Hr7 HO7 HX7 HC7
          have hne8 : vG.ownBlock ≠ some gm := fun e => by have := (HC8.out.g.lt gm e).1; omega
          obtain ⟨zm, p0, p1, p2, p3⟩ := HC8.out.cells
          have Hlit := Lib.hid (Row.of_own (World.ownsRow_lit (base := w8.heap.size) (e := 64) (size := 2) w8 #[.int .i64 (2 * M - 1 - u), .int .i64 b] 1 (Nat.le_refl _) (by unfold maxLen; omega) rfl))
          have z8 := zm
          go_wp2_with (
            at_builtin
            refine append_gates rfl (.tmp 50) (.tmp 54) rfl (gm + 1) _ gs.length _ rfl (HC8.out.g.alloc _) _ 1 [.int .i64 (2 * M - 1 - u), .int .i64 b] rfl Hlit.out (by simp [Value.oneCell']) (by omega) (by simp; omega) ?_
            intro v9 w9 hown9 hg9 hat9
            obtain ⟨A9, c9, e9⟩ := slice_of_own hown9
            subst e9
            have Ho9 := Lib.hid hown9
            have HE9 := Lib.hid (app_only hg9)
            have Hr9 := Lib.hid (app_rd Hr8.out hg9 HC8.out.g (by omega))
            have Hat9 := Lib.hid (app_at hat9)
            have hbx := (HE9.out.block gm (blk_lt HC8.out.box) hne8).trans HC8.out.box
            have q2 := blk_cell hbx 2
            have q2f := blk_free hbx 2
            have zq := blk_lt hbx
            simp at q2
            clear hown9 hg9 hat9 hbx)
          go_roundw
          case rel =>
            refine ⟨M + 1, K - 1, gs ++ [((2 * M - 1 - u), b)], .slice A9 (gs.length + 1) c9, by go_num, by go_num, by omega, by simp; omega, by omega, by simp; omega, Lib.hid fun q hq => ?_, Lib.hid ?_, Lib.hid ?_, Lib.hid ?_, Lib.hid ?_⟩
            · rcases List.mem_append.1 hq with h | h
              · exact Hl.out q h
              · rw [List.mem_singleton.1 h]
                unfold LitS
                simp only
                omega
            · refine HC8.out.addG (xs := gs ++ [((2 * M - 1 - u), b)]) HE9.out (fun g _ hn => hn) ?_ Hat9.out
              rw [List.length_append, cubes_append]
              exact Ho9.out
            · exact (rd_set Hr9.out (by omega)).more (by simp; omega)
            · exact only_set (HO8.out.aft HE9.out fun g hg => .inl (by have := (HC8.out.g.lt g hg).1; omega)) (by omega)
            · exact res_set ((HE9.out.block _ (blk_lt HX8.out) (fun e => by have := (HC8.out.g.lt _ e).1; omega)).trans HX8.out) (by omega)
          case measure => simp [intOf]; omega
        · go_wp2_with fail
          refine (pick_any 6 _ _ _ Hr7.out (by omega) (by omega) (by omega)).mono ?_
          rintro e w8 ⟨u, hu0, hu1, rfl, hr8, hg8⟩
          have Hr8 := Lib.hid hr8
          have HO8 := Lib.hid (only_drawn HO7.out hg8 (.inr rfl))
          have HX8 := Lib.hid (res_grown HX7.out hg8 (fun e => by have := Option.some.inj e; omega))
          have HC8 := Lib.hid (HC7.out.drawn hg8 (by omega))
          clear hr8 hg8 Hr7 HO7 HX7 HC7
          have hne8 : vG.ownBlock ≠ some gm := fun e => by have := (HC8.out.g.lt gm e).1; omega
          obtain ⟨zm, p0, p1, p2, p3⟩ := HC8.out.cells
          have Hlit := Lib.hid (Row.of_own (World.ownsRow_lit (base := w8.heap.size) (e := 64) (size := 2) w8 #[.int .i64 (2 * M - 1 - u), .int .i64 b] 1 (Nat.le_refl _) (by unfold maxLen; omega) rfl))
          have z8 := zm
          go_wp2_with (
            at_builtin
            refine append_gates rfl (.tmp 50) (.tmp 54) rfl (gm + 1) _ gs.length _ rfl (HC8.out.g.alloc _) _ 1 [.int .i64 (2 * M - 1 - u), .int .i64 b] rfl Hlit.out (by simp [Value.oneCell']) (by omega) (by simp; omega) ?_
            intro v9 w9 hown9 hg9 hat9
            obtain ⟨A9, c9, e9⟩ := slice_of_own hown9
            subst e9
            have Ho9 := Lib.hid hown9
            have HE9 := Lib.hid (app_only hg9)
            have Hr9 := Lib.hid (app_rd Hr8.out hg9 HC8.out.g (by omega))
            have Hat9 := Lib.hid (app_at hat9)
            have hbx := (HE9.out.block gm (blk_lt HC8.out.box) hne8).trans HC8.out.box
            have q2 := blk_cell hbx 2
            have q2f := blk_free hbx 2
            have zq := blk_lt hbx
            simp at q2
            clear hown9 hg9 hat9 hbx)
          go_roundw
          case rel =>
            refine ⟨M + 1, K - 1, gs ++ [((2 * M - 1 - u), b)], .slice A9 (gs.length + 1) c9, by go_num, by go_num, by omega, by simp; omega, by omega, by simp; omega, Lib.hid fun q hq => ?_, Lib.hid ?_, Lib.hid ?_, Lib.hid ?_, Lib.hid ?_⟩
            · rcases List.mem_append.1 hq with h | h
              · exact Hl.out q h
              · rw [List.mem_singleton.1 h]
                unfold LitS
                simp only
                omega
            · refine HC8.out.addG (xs := gs ++ [((2 * M - 1 - u), b)]) HE9.out (fun g _ hn => hn) ?_ Hat9.out
              rw [List.length_append, cubes_append]
              exact Ho9.out
            · exact (rd_set Hr9.out (by omega)).more (by simp; omega)
            · exact only_set (HO8.out.aft HE9.out fun g hg => .inl (by have := (HC8.out.g.lt g hg).1; omega)) (by omega)
            · exact res_set ((HE9.out.block _ (blk_lt HX8.out) (fun e => by have := (HC8.out.g.lt _ e).1; omega)).trans HX8.out) (by omega)
          case measure => simp [intOf]; omega
      · have hz' : z = 0 := by omega
        subst hz'
        have hne7 : vG.ownBlock ≠ some gm := fun e => by have := (HC7.out.g.lt gm e).1; omega
        obtain ⟨zm, p0, p1, p2, p3⟩ := HC7.out.cells
        have Hlit := Lib.hid (Row.of_own (World.ownsRow_lit (base := w7.heap.size) (e := 64) (size := 2) w7 #[.int .i64 (a), .int .i64 b] 1 (Nat.le_refl _) (by unfold maxLen; omega) rfl))
        have z7 := zm
        go_wp2_with (
          at_builtin
          refine append_gates rfl (.tmp 50) (.tmp 54) rfl (gm + 1) _ gs.length _ rfl (HC7.out.g.alloc _) _ 1 [.int .i64 (a), .int .i64 b] rfl Hlit.out (by simp [Value.oneCell']) (by omega) (by simp; omega) ?_
          intro v9 w9 hown9 hg9 hat9
          obtain ⟨A9, c9, e9⟩ := slice_of_own hown9
          subst e9
          have Ho9 := Lib.hid hown9
          have HE9 := Lib.hid (app_only hg9)
          have Hr9 := Lib.hid (app_rd Hr7.out hg9 HC7.out.g (by omega))
          have Hat9 := Lib.hid (app_at hat9)
          have hbx := (HE9.out.block gm (blk_lt HC7.out.box) hne7).trans HC7.out.box
          have q2 := blk_cell hbx 2
          have q2f := blk_free hbx 2
          have zq := blk_lt hbx
          simp at q2
          clear hown9 hg9 hat9 hbx)
        go_roundw
        case rel =>
          refine ⟨M + 1, K - 1, gs ++ [((a), b)], .slice A9 (gs.length + 1) c9, by go_num, by go_num, by omega, by simp; omega, by omega, by simp; omega, Lib.hid fun q hq => ?_, Lib.hid ?_, Lib.hid ?_, Lib.hid ?_, Lib.hid ?_⟩
          · rcases List.mem_append.1 hq with h | h
            · exact Hl.out q h
            · rw [List.mem_singleton.1 h]
              unfold LitS
              simp only
              omega
          · refine HC7.out.addG (xs := gs ++ [((a), b)]) HE9.out (fun g _ hn => hn) ?_ Hat9.out
            rw [List.length_append, cubes_append]
            exact Ho9.out
          · exact (rd_set Hr9.out (by omega)).more (by simp; omega)
          · exact only_set (HO7.out.aft HE9.out fun g hg => .inl (by have := (HC7.out.g.lt g hg).1; omega)) (by omega)
          · exact res_set ((HE9.out.block _ (blk_lt HX7.out) (fun e => by have := (HC7.out.g.lt _ e).1; omega)).trans HX7.out) (by omega)
        case measure => simp [intOf]; omega
    · obtain rfl : K = 0 := by omega
      have Hr1 := Lib.hid (Hr.out.more (show P + 100 + 10 * gs.length ≤ P + 300 by omega))
      have HC1 := Lib.hid HC.out
      clear Hr HC
      obtain ⟨W1, hW1⟩ : ∃ W1, W1 = wr := ⟨_, rfl⟩
      subst hW1
      go_wp2_with fail
      go_loopw [11] (fun j wr => ∃ (ns : List Int) (vN : Value), j = .int .i64 (ns.length : Nat) ∧ ns.length ≤ y ∧ Hid (∀ q ∈ ns, LitS q) ∧ Hid (CB gm ⟨x, ns, gs, []⟩ vN vG (.slice none 0 0) wr) ∧ Hid (Rd wr R (P + 300 + 400 * ns.length)) ∧ Hid (Only (· = R) w wr) ∧ Hid (wr.heap[w.heap.size]? = some (.cells #[.int .i64 0, .slice none 0 0, .slice none 0 0, .slice none 0 0] 26 (0, 0)))) (fun j _ => (y - intOf j).toNat)
      case atStart => exact ⟨[], _, rfl, by simp; omega, Lib.hid (by simp), HC1, Lib.hid (Hr1.out.more (by omega)), HO, HX⟩
      case round =>
        obtain ⟨ns, vN, rfl, hnl, Hn, HC, Hr, HO, HX⟩ := hrel
        clear Hr1 HC1
        by_cases hlt : (ns.length : Int) < y
        · go_wp2_with fail
          have hO := fun ops a => rdRS_ok (Pg := Try.prog) (ops := ops) (P := P + 300 + 400 * ns.length) (a := a) (G := GInt (-100) 1000) (d := 7) Hr.out.lt (show R < gm + 1 by omega) HC.out.n
          obtain ⟨zm, p0, p1, p2, p3⟩ := HC.out.cells
          have hneN : ¬ (gm = R ∨ vN.ownBlock = some gm) := fun e => by
            rcases e with e | e
            · omega
            · have := (HC.out.n.lt gm e).1; omega
          refine wp_region_rsl (rdRS Try.prog _ R (P + 300 + 400 * ns.length) wr _ (gm + 1) 3 vN ns.length (ints ns) (GInt (-100) 1000) 7) (hO _ _) (by kernel_rfl) (by kernel_rfl) (by kernel_rfl) 9 _ rfl rfl (by kernel_rfl) (show (7 : Nat) < 9 by decide) Hr.out HC.out.n ?_
          obtain ⟨i0, hi0, hz0, hz1, hz2⟩ := info_parts info_int
          apply rs_eq (hO _ _) (.inl (Nat.ne_of_beq_eq_false rfl))
          · intro ρ w' ho hK
            obtain ⟨h0, -⟩ := hK
            have h0' : ρ (.tmp 5) = .pointer (some ⟨gm, 0, none⟩) := h0
            go_simp
            try exact rfl
          apply rs_eq (hO _ _) (.inl (Nat.ne_of_beq_eq_false rfl))
          · intro ρ w' ho hK
            obtain ⟨h0, -⟩ := hK
            have h0' : ρ (.tmp 64) = .pointer (some ⟨gm, 1, none⟩) := h0
            have q1 := cell_on ho hneN zm p1
            go_simp
            try exact rfl
          refine rs_old (hO _ _) (.inl (Nat.ne_of_beq_eq_false rfl)) _ (.inl rfl) _ rfl rfl ?_
          refine rs_old (hO _ _) (.inl (Nat.ne_of_beq_eq_false rfl)) _ (.inl rfl) _ rfl rfl ?_
          apply rs_eq (hO _ _) (.inl (Nat.ne_of_beq_eq_false rfl))
          · intro ρ w' ho hK
            obtain ⟨h0, h1, -⟩ := hK
            have h0' : ρ (.const (.int .i64 2)) = .int .i64 2 := h0
            have h1' : ρ (.tmp 67) = .int .i64 M := h1
            have hwr := IntWalk.i64_in (2 * M) (by omega)
            go_simp
            try exact rfl
          refine rs_pick (hO _ _) (.inl (Nat.ne_of_beq_eq_false rfl)) 36 _ _ _ R (P + 300 + 400 * ns.length) 43 rfl rfl fn_draw (fun ρ w hK => ⟨hK.1, hK.2.1, 2 * M, hK.2.2.1, by omega, by omega⟩) (fun n k w hk h1n hn hr => pick_upto n 43 _ _ w hr (by have hk' : k < 10 := hk; omega) h1n hn (by omega)) ?_
          refine rs_build (hO _ _) (.inl (Nat.ne_of_beq_eq_false rfl)) 1 (GInt (-100) 1000) 3 (fun ρ w hK => by
            obtain ⟨⟨q, hq, hq0, hq1⟩, -⟩ := hK
            have h' : ρ (.tmp 69) = .int .i64 q := hq
            refine ⟨#[.int .i64 q], rfl, ?_, ?_⟩
            · go_simp
            · intro c hc
              simp at hc
              exact ⟨q, hc, by omega, by omega⟩) ?_
          refine rs_appendV rfl (gm + 1) 3 23 vN ns.length (ints ns) (GInt (-100) 1000) rfl R (P + 300 + 400 * ns.length) rfl (fun g hg => .inr hg) (show R < gm + 1 by omega) zm _ _ rfl _ _ rfl rfl rfl rfl i0 _ 8 Try.underlying23 hi0 hz0 hz1 hz2 rfl (by omega) (by decide) (fun u hu => by obtain ⟨q, rfl, -⟩ := hu; rfl) ?_
          apply rs_eq (hO _ _) (.inl (Nat.ne_of_beq_eq_false rfl))
          · intro ρ w' ho hK
            obtain ⟨h0, -⟩ := hK
            have h0' : ρ (.tmp 5) = .pointer (some ⟨gm, 0, none⟩) := h0
            go_simp
            try exact rfl
          intro f w9 k9 hk9 hI9 ht9 hcp9
          have E0 : f 0 = _ := ht9 0 (Nat.le_of_ble_eq_true rfl)
          have E1 : f 1 = _ := ht9 1 (Nat.le_of_ble_eq_true rfl)
          have E2 : f 2 = _ := ht9 2 (Nat.le_of_ble_eq_true rfl)
          have E3 : f 3 = _ := ht9 3 (Nat.le_of_ble_eq_true rfl)
          have E4 : f 4 = _ := ht9 4 (Nat.le_of_ble_eq_true rfl)
          have E8 : f 8 = _ := ht9 8 (Nat.le_of_ble_eq_true rfl)
          have Hr9 : Rd w9 R (P + 300 + 400 * ns.length + 40 * k9) := hI9.1
          have HE9 : Only (fun g => g = R ∨ vN.ownBlock = some g) wr w9 := hI9.2.1
          have HJ9 : (∃ u, GInt (-100) 1000 u ∧ w9.ownsRow (gm + 1) 3 1 (f 7) (ns.length + 1) (ints ns ++ [u])) ∧ ∀ g, (f 7).ownBlock = some g → vN.ownBlock = some g ∨ wr.heap.size ≤ g := hI9.2.2
          have hk9' : k9 ≤ 10 := hk9
          simp only [putAll, E0, E1, E2, E3, E4, E8, Nat.zero_add, Nat.reduceAdd, Act.put, List.take, List.setIfInBounds_toArray, List.set_cons_succ, List.set_cons_zero]
          clear E0 E1 E2 E3 E4 E8 hI9 ht9 hcp9 hk9 hO
          generalize f 5 = r5, f 6 = r6 at *
          generalize f 7 = v9 at *
          simp only [List.getElem_toArray, List.getElem_cons_succ, List.getElem_cons_zero]
          obtain ⟨⟨uu, ⟨q, rfl, hq0, hq1⟩, hown9⟩, hat9⟩ := HJ9
          obtain ⟨A9, c9, e9⟩ := slice_of_own hown9
          subst e9
          have Ho9 := Lib.hid hown9
          have Hat9 := Lib.hid hat9
          have HE9' := Lib.hid HE9
          have Hr9' := Lib.hid (Hr9.more (show P + 300 + 400 * ns.length + 40 * k9 ≤ P + 300 + 400 * (ns.length + 1) by omega))
          have hbx := (HE9.block gm zm hneN).trans HC.out.box
          have q1 := blk_cell hbx 1
          have q1f := blk_free hbx 1
          have zq := blk_lt hbx
          simp at q1
          clear hown9 hat9 HE9 Hr9 hbx p0 p1 p2 p3 hk9' hi0 hz0 hz1 hz2
          go_wp2_with fail
          go_roundw
          case rel =>
            refine ⟨ns ++ [q], .slice A9 (ns.length + 1) c9, by simp, by simp; omega, Lib.hid fun q' hq => ?_, Lib.hid ?_, Lib.hid ?_, Lib.hid ?_, Lib.hid ?_⟩
            · rcases List.mem_append.1 hq with h | h
              · exact Hn.out q' h
              · rw [List.mem_singleton.1 h]
                exact ⟨hq0, hq1⟩
            · refine HC.out.addN (xs := ns ++ [q]) HE9'.out (fun g hg hn => ?_) ?_ Hat9.out
              · rintro (e | e)
                · omega
                · exact hn e
              · rw [List.length_append, ints_snoc]
                exact Ho9.out
            · exact (rd_set Hr9'.out (by omega)).more (by simp)
            · exact only_set (HO.out.aft HE9'.out fun g hg => by
                rcases hg with h | h
                · exact .inr h
                · exact .inl (by have := (HC.out.n.lt g h).1; omega)) (by omega)
            · exact res_set ((HE9'.out.block _ (blk_lt HX.out) (fun e => by
                rcases e with h | h
                · omega
                · have := (HC.out.n.lt _ h).1; omega)).trans HX.out) (by omega)
          case measure => simp [intOf]; omega
        · have Hr1 := Lib.hid (Hr.out.more (show P + 300 + 400 * ns.length ≤ P + 2400 by omega))
          have HC1 := Lib.hid HC.out
          clear Hr HC
          obtain ⟨W2, hW2⟩ : ∃ W2, W2 = wr := ⟨_, rfl⟩
          subst hW2
          go_wp2_with fail
          refine (pick_any 4 _ _ _ Hr1.out (by omega) (by omega) (by omega)).mono ?_
          rintro e w5 ⟨k1, hk10, hk11, rfl, hr5, hg5⟩
          have Hr5 := Lib.hid (hr5.more (show P + 2400 + 1 ≤ P + 2500 by omega))
          have HO5 := Lib.hid (only_drawn HO.out hg5 (.inr rfl))
          have HX5 := Lib.hid (res_grown HX.out hg5 (fun e => by have := Option.some.inj e; omega))
          have HC5 := Lib.hid (HC1.out.drawn hg5 (by omega))
          clear hr5 hg5 Hr1 HO HX HC1
          go_wp2_with fail
          go_loopw [12] (fun j wr => ∃ (K : Int) (os : List Int) (vO : Value), j = .int .i64 K ∧ 0 ≤ K ∧ os.length + K ≤ 3 ∧ Hid (∀ q ∈ os, LitS q) ∧ Hid (CB gm ⟨x, ns, gs, os⟩ vN vG vO wr) ∧ Hid (Rd wr R (P + 2500 + 1000 * os.length)) ∧ Hid (Only (· = R) w wr) ∧ Hid (wr.heap[w.heap.size]? = some (.cells #[.int .i64 0, .slice none 0 0, .slice none 0 0, .slice none 0 0] 26 (0, 0)))) (fun j _ => (intOf j).toNat)
          case atStart => exact ⟨k1, [], _, rfl, hk10, by simp; omega, Lib.hid (by simp), HC5, Lib.hid (Hr5.out.more (by omega)), HO5, HX5⟩
          case round =>
            obtain ⟨K, os, vO, rfl, hK0, hKl2, Hos, HC, Hr, HO, HX⟩ := hrel
            clear Hr5 HC5 HO5 HX5
            by_cases hpos : 0 < K
            · go_wp2_with fail
              have hO := fun ops a => rdRS_ok (Pg := Try.prog) (ops := ops) (P := P + 2500 + 1000 * os.length) (a := a) (G := GInt (-100) 1000) (d := 21) Hr.out.lt (show R < gm + 1 by omega) HC.out.o
              obtain ⟨zm, p0, p1, p2, p3⟩ := HC.out.cells
              have hneO : ¬ (gm = R ∨ vO.ownBlock = some gm) := fun e => by
                rcases e with e | e
                · omega
                · have := (HC.out.o.lt gm e).1; omega
              refine wp_region_rsl (rdRS Try.prog _ R (P + 2500 + 1000 * os.length) wr _ (gm + 1) 3 vO os.length (ints os) (GInt (-100) 1000) 21) (hO _ _) (by kernel_rfl) (by kernel_rfl) (by kernel_rfl) 23 _ rfl rfl (by kernel_rfl) (show (21 : Nat) < 23 by decide) Hr.out HC.out.o ?_
              obtain ⟨i0, hi0, hz0, hz1, hz2⟩ := info_parts info_int
              apply rs_eq (hO _ _) (.inl (Nat.ne_of_beq_eq_false rfl))
              · intro ρ w' ho hK
                obtain ⟨h0, -⟩ := hK
                have h0' : ρ (.tmp 5) = .pointer (some ⟨gm, 0, none⟩) := h0
                go_simp
                try exact rfl
              apply rs_eq (hO _ _) (.inl (Nat.ne_of_beq_eq_false rfl))
              · intro ρ w' ho hK
                obtain ⟨h0, -⟩ := hK
                have h0' : ρ (.tmp 79) = .pointer (some ⟨gm, 3, none⟩) := h0
                have q1 := cell_on ho hneO zm p3
                go_simp
                try exact rfl
              refine rs_old (hO _ _) (.inl (Nat.ne_of_beq_eq_false rfl)) _ (.inl rfl) _ rfl rfl ?_
              apply rs_eq (hO _ _) (.inl (Nat.ne_of_beq_eq_false rfl))
              · intro ρ w' ho hK
                obtain ⟨h0, h1, -⟩ := hK
                have h0' : ρ (.const (.int .i64 2)) = .int .i64 2 := h0
                have h1' : ρ (.tmp 81) = .int .i64 M := h1
                have hwr := IntWalk.i64_in (2 * M) (by omega)
                go_simp
                try exact rfl
              apply rs_eq (hO _ _) (.inl (Nat.ne_of_beq_eq_false rfl))
              · intro ρ w' ho hK
                obtain ⟨h0, h1, -⟩ := hK
                have h1' : ρ (.const (.int .i64 1)) = .int .i64 1 := h1
                have h0' : ρ (.tmp 82) = .int .i64 (2 * M) := h0
                have hwr := IntWalk.i64_in (2 * M - 1) (by omega)
                go_simp
                try exact rfl
              refine rs_old (hO _ _) (.inl (Nat.ne_of_beq_eq_false rfl)) _ (.inl rfl) _ rfl rfl ?_
              refine rs_old (hO _ _) (.inl (Nat.ne_of_beq_eq_false rfl)) _ (.inl rfl) _ rfl rfl ?_
              apply rs_eq (hO _ _) (.inl (Nat.ne_of_beq_eq_false rfl))
              · intro ρ w' ho hK
                obtain ⟨h0, h1, -⟩ := hK
                have h0' : ρ (.const (.int .i64 2)) = .int .i64 2 := h0
                have h1' : ρ (.tmp 85) = .int .i64 M := h1
                have hwr := IntWalk.i64_in (2 * M) (by omega)
                go_simp
                try exact rfl
              refine rs_pure (hO _ _) (.inl (Nat.ne_of_beq_eq_false rfl)) (TInt 1 8) (stb_int _ _ _) (fun ρ w hK => by
                obtain ⟨h0, h1, -⟩ := hK
                have h0' : ρ (.const (.int .i64 8)) = .int .i64 8 := h0
                have h1' : ρ (.tmp 86) = .int .i64 (2 * M) := h1
                by_cases h8 : 2 * M < 8
                · refine ⟨.int .i64 (2 * M), ?_, 2 * M, rfl, by omega, by omega⟩
                  go_simp
                · refine ⟨.int .i64 8, ?_, 8, rfl, by omega, by omega⟩
                  go_simp) ?_
              refine rs_pick (hO _ _) (.inl (Nat.ne_of_beq_eq_false rfl)) 36 _ _ _ R (P + 2500 + 1000 * os.length) 7 rfl rfl fn_draw (fun ρ w hK => by
                obtain ⟨h0, h1, ⟨q, h2, h3, h4⟩, -⟩ := hK
                exact ⟨h0, h1, q, h2, h3, by omega⟩) (fun n k w hk h1n hn hr => pick_upto n 7 _ _ w hr (by have hk' : k < 24 := hk; omega) h1n hn (by omega)) ?_
              refine rs_pure (hO _ _) (.inl (Nat.ne_of_beq_eq_false rfl)) (TInt (-100) 1000) (stb_int _ _ _) (fun ρ w hK => by
                obtain ⟨h0, ⟨q, h1, h2, h3⟩, -⟩ := hK
                have h0' : ρ (.tmp 83) = .int .i64 (2 * M - 1) := h0
                have h1' : ρ (.tmp 88) = .int .i64 q := h1
                have h3' : q ≤ 7 := h3
                have hwr := IntWalk.i64_in (2 * M - 1 - q) (by omega)
                refine ⟨.int .i64 (2 * M - 1 - q), ?_, _, rfl, by omega, by omega⟩
                go_simp) ?_
              refine rs_old (hO _ _) (.inl (Nat.ne_of_beq_eq_false rfl)) _ (.inl rfl) _ rfl rfl ?_
              refine rs_old (hO _ _) (.inl (Nat.ne_of_beq_eq_false rfl)) _ (.inl rfl) _ rfl rfl ?_
              apply rs_eq (hO _ _) (.inl (Nat.ne_of_beq_eq_false rfl))
              · intro ρ w' ho hK
                obtain ⟨h0, h1, -⟩ := hK
                have h0' : ρ (.const (.int .i64 2)) = .int .i64 2 := h0
                have h1' : ρ (.tmp 91) = .int .i64 M := h1
                have hwr := IntWalk.i64_in (2 * M) (by omega)
                go_simp
                try exact rfl
              refine rs_pick (hO _ _) (.inl (Nat.ne_of_beq_eq_false rfl)) 36 _ _ _ R (P + 2500 + 1000 * os.length) 43 rfl rfl fn_draw (fun ρ w hK => ⟨hK.1, hK.2.1, 2 * M, hK.2.2.1, by omega, by omega⟩) (fun n k w hk h1n hn hr => pick_upto n 43 _ _ w hr (by have hk' : k < 24 := hk; omega) h1n hn (by omega)) ?_
              refine rs_build (hO _ _) (.inl (Nat.ne_of_beq_eq_false rfl)) 2 (GInt (-100) 1000) 3 (fun ρ w hK => by
                obtain ⟨⟨q, hq, hq0, hq1⟩, ⟨q2, hr, hr0, hr1⟩, -⟩ := hK
                have h' : ρ (.tmp 89) = .int .i64 q := hq
                have h2' : ρ (.tmp 93) = .int .i64 q2 := hr
                have hr1' : q2 ≤ 43 := hr1
                refine ⟨#[.int .i64 q, .int .i64 q2], rfl, ?_, ?_⟩
                · go_simp
                · intro c hc
                  simp at hc
                  rcases hc with rfl | rfl
                  · exact ⟨q, rfl, by omega, by omega⟩
                  · exact ⟨q2, rfl, by omega, by omega⟩) ?_
              refine rs_old (hO _ _) (.inl (Nat.ne_of_beq_eq_false rfl)) _ (.inl rfl) _ rfl rfl ?_
              refine rs_pick (hO _ _) (.inl (Nat.ne_of_beq_eq_false rfl)) 36 _ _ _ R (P + 2500 + 1000 * os.length) 1 rfl rfl fn_draw (fun ρ w hK => ⟨hK.1, hK.2.1, 2, hK.2.2.1, by omega, by omega⟩) (fun n k w hk h1n hn hr => pick_upto n 1 _ _ w hr (by have hk' : k < 24 := hk; omega) h1n hn (by omega)) ?_
              refine rs_index (hO _ _) (.inl (Nat.ne_of_beq_eq_false rfl)) 23 _ _ 2 (GInt (-100) 1000) 1 rfl _ _ rfl rfl rfl rfl (by omega) (by omega) ix_drawn ?_
              refine rs_load (hO _ _) (.inl (Nat.ne_of_beq_eq_false rfl)) 3 _ (GInt (-100) 1000) rfl _ rfl rfl ag_drawn ?_
              refine rs_build (hO _ _) (.inl (Nat.ne_of_beq_eq_false rfl)) 1 (GInt (-100) 1000) 3 (fun ρ w hK => by
                obtain ⟨⟨q, hq, hq0, hq1⟩, -⟩ := hK
                have h' : ρ (.tmp 98) = .int .i64 q := hq
                refine ⟨#[.int .i64 q], rfl, ?_, ?_⟩
                · go_simp
                · intro c hc
                  simp at hc
                  exact ⟨q, hc, by omega, by omega⟩) ?_
              refine rs_appendV rfl (gm + 1) 3 23 vO os.length (ints os) (GInt (-100) 1000) rfl R (P + 2500 + 1000 * os.length) rfl (fun g hg => .inr hg) (show R < gm + 1 by omega) zm _ _ rfl _ _ rfl rfl rfl rfl i0 _ 8 Try.underlying23 hi0 hz0 hz1 hz2 rfl (by omega) (by decide) (fun u hu => by obtain ⟨q, rfl, -⟩ := hu; rfl) ?_
              apply rs_eq (hO _ _) (.inl (Nat.ne_of_beq_eq_false rfl))
              · intro ρ w' ho hK
                obtain ⟨h0, -⟩ := hK
                have h0' : ρ (.tmp 5) = .pointer (some ⟨gm, 0, none⟩) := h0
                go_simp
                try exact rfl
              intro f w9 k9 hk9 hI9 ht9 hcp9
              have E0 : f 0 = _ := ht9 0 (Nat.le_of_ble_eq_true rfl)
              have E1 : f 1 = _ := ht9 1 (Nat.le_of_ble_eq_true rfl)
              have E2 : f 2 = _ := ht9 2 (Nat.le_of_ble_eq_true rfl)
              have E3 : f 3 = _ := ht9 3 (Nat.le_of_ble_eq_true rfl)
              have E4 : f 4 = _ := ht9 4 (Nat.le_of_ble_eq_true rfl)
              have E5 : f 5 = _ := ht9 5 (Nat.le_of_ble_eq_true rfl)
              have E6 : f 6 = _ := ht9 6 (Nat.le_of_ble_eq_true rfl)
              have E7 : f 7 = _ := ht9 7 (Nat.le_of_ble_eq_true rfl)
              have E11 : f 11 = _ := ht9 11 (Nat.le_of_ble_eq_true rfl)
              have E12 : f 12 = _ := ht9 12 (Nat.le_of_ble_eq_true rfl)
              have E13 : f 13 = _ := ht9 13 (Nat.le_of_ble_eq_true rfl)
              have E16 : f 16 = _ := ht9 16 (Nat.le_of_ble_eq_true rfl)
              have E22 : f 22 = _ := ht9 22 (Nat.le_of_ble_eq_true rfl)
              have Hr9 : Rd w9 R (P + 2500 + 1000 * os.length + 40 * k9) := hI9.1
              have HE9 : Only (fun g => g = R ∨ vO.ownBlock = some g) wr w9 := hI9.2.1
              have HJ9 : (∃ u, GInt (-100) 1000 u ∧ w9.ownsRow (gm + 1) 3 1 (f 21) (os.length + 1) (ints os ++ [u])) ∧ ∀ g, (f 21).ownBlock = some g → vO.ownBlock = some g ∨ wr.heap.size ≤ g := hI9.2.2
              have hk9' : k9 ≤ 24 := hk9
              simp only [putAll, E0, E1, E2, E3, E4, E5, E6, E7, E11, E12, E13, E16, E22, Nat.zero_add, Nat.reduceAdd, Act.put, List.take, List.setIfInBounds_toArray, List.set_cons_succ, List.set_cons_zero, List.getElem_toArray, List.getElem_cons_succ, List.getElem_cons_zero]
              clear E0 E1 E2 E3 E4 E5 E6 E7 E11 E12 E13 E16 E22 hI9 ht9 hcp9 hk9 hO
              generalize f 8 = r8, f 9 = r9, f 10 = r10, f 14 = r14, f 15 = r15, f 17 = r17, f 18 = r18, f 19 = r19, f 20 = r20 at *
              generalize f 21 = v9 at *
              obtain ⟨⟨uu, ⟨q, rfl, hq0, hq1⟩, hown9⟩, hat9⟩ := HJ9
              obtain ⟨A9, c9, e9⟩ := slice_of_own hown9
              subst e9
              have Ho9 := Lib.hid hown9
              have Hat9 := Lib.hid hat9
              have HE9' := Lib.hid HE9
              have Hr9' := Lib.hid (Hr9.more (show P + 2500 + 1000 * os.length + 40 * k9 ≤ P + 2500 + 1000 * (os.length + 1) by omega))
              have hbx := (HE9.block gm zm hneO).trans HC.out.box
              have q1 := blk_cell hbx 3
              have q1f := blk_free hbx 3
              have zq := blk_lt hbx
              simp at q1
              clear hown9 hat9 HE9 Hr9 hbx p0 p1 p2 p3 hk9' hi0 hz0 hz1 hz2
              go_wp2_with fail
              go_roundw
              case rel =>
                refine ⟨K - 1, os ++ [q], .slice A9 (os.length + 1) c9, by go_num, by omega, by simp; omega, Lib.hid fun q' hq => ?_, Lib.hid ?_, Lib.hid ?_, Lib.hid ?_, Lib.hid ?_⟩
                · rcases List.mem_append.1 hq with h | h
                  · exact Hos.out q' h
                  · rw [List.mem_singleton.1 h]
                    exact ⟨hq0, hq1⟩
                · refine HC.out.addO (xs := os ++ [q]) HE9'.out (fun g hg hn => ?_) ?_ Hat9.out
                  · rintro (e | e)
                    · omega
                    · exact hn e
                  · rw [List.length_append, ints_snoc]
                    exact Ho9.out
                · exact (rd_set Hr9'.out (by omega)).more (by simp)
                · exact only_set (HO.out.aft HE9'.out fun g hg => by
                    rcases hg with h | h
                    · exact .inr h
                    · exact .inl (by have := (HC.out.o.lt g h).1; omega)) (by omega)
                · exact res_set ((HE9'.out.block _ (blk_lt HX.out) (fun e => by
                    rcases e with h | h
                    · omega
                    · have := (HC.out.o.lt _ h).1; omega)).trans HX.out) (by omega)
              case measure => simp [intOf]; omega
            · obtain rfl : K = 0 := by omega
              have Hr1 := Lib.hid (Hr.out.more (show P + 2500 + 1000 * os.length ≤ P + 6000 by omega))
              have HC1 := Lib.hid HC.out
              clear Hr HC
              obtain ⟨W3, hW3⟩ : ∃ W3, W3 = wr := ⟨_, rfl⟩
              subst hW3
              go_wp2_with fail
              refine (odd_every n _ _ _ Hr1.out (by omega) h0 (by omega)).mono ?_
              rintro e w6 ⟨bb, rfl, hr6, hg6⟩
              have Hr6 := Lib.hid hr6
              have HO6 := Lib.hid (only_drawn HO.out hg6 (.inr rfl))
              have HX6 := Lib.hid (res_grown HX.out hg6 (fun e => by have := Option.some.inj e; omega))
              have HC6 := Lib.hid (HC1.out.drawn hg6 (by omega))
              clear hr6 hg6 Hr1 HO HX HC1
              obtain ⟨An, cn, en⟩ := slice_of_own HC6.out.n
              obtain ⟨Ag, cg, eg⟩ := slice_of_own HC6.out.g
              obtain ⟨Ao, co, eo⟩ := slice_of_own HC6.out.o
              simp only at en eg eo
              subst en eg eo
              cases bb
              · obtain ⟨zf, f0, f1, f2, f3⟩ := HC6.out.cells
                obtain ⟨ff0, ff1, ff2, ff3⟩ := HC6.out.free
                have o0 := blk_cell HX6.out 0
                have o1 := blk_cell HX6.out 1
                have o2 := blk_cell HX6.out 2
                have o3 := blk_cell HX6.out 3
                have b0 := blk_free HX6.out 0
                have b1 := blk_free HX6.out 1
                have b2 := blk_free HX6.out 2
                have b3 := blk_free HX6.out 3
                have zr := blk_lt HX6.out
                simp at o0 o1 o2 o3
                go_wp2_with fail
                refine bodyPost_ret (v := .agg #[.int .i64 x, .slice An ns.length cn, .slice Ag gs.length cg, .slice Ao os.length co]) (by simp [results, Try.results35, go_sem, o0, o1, o2, o3]) rfl (finC (c := ⟨x, ns, gs, os⟩) HC6.out HO6.out Hr6.out (by omega) zR (by omega) ⟨by simp only; omega, by simp only; omega, by simp only; omega, by simp only; omega, by simp only; omega, Hn.out, Hl.out, Hos.out⟩ _ _ _ _)
              · go_wp2_with fail
                refine (pick_any 6 _ _ _ Hr6.out (by omega) (by omega) (by omega)).mono ?_
                rintro e w7 ⟨z, hz0, hz1, rfl, hr7, hg7⟩
                have Hr7 := Lib.hid hr7
                have HO7 := Lib.hid (only_drawn HO6.out hg7 (.inr rfl))
                have HX7 := Lib.hid (res_grown HX6.out hg7 (fun e => by have := Option.some.inj e; omega))
                have HC7 := Lib.hid (HC6.out.drawn hg7 (by omega))
                clear hr7 hg7 Hr6 HO6 HX6 HC6
                obtain rfl | rfl | rfl | rfl | rfl | rfl : z = 0 ∨ z = 1 ∨ z = 2 ∨ z = 3 ∨ z = 4 ∨ z = 5 := by omega
                · go_wp2_with fail
                  refine (pick_any 2 _ _ _ (Hr7.out.alloc _) (by omega) (by omega) (by omega)).mono ?_
                  rintro e w8 ⟨u, hu0, hu1, rfl, hr8, hg8⟩
                  have hzr7 := Hr7.out.lt
                  obtain ⟨vv, hvv, hu0', hcell⟩ := lit_cell2 _ _ _ _ _ hg8 hzr7 u hu0 hu1
                  have zl := hg8.size
                  rw [World.size_alloc] at zl
                  have Hr8 := Lib.hid hr8
                  have HO8 := Lib.hid (only_drawn (only_alloc HO7.out _) hg8 (.inr rfl))
                  have HX8 := Lib.hid (res_grown (((bel_new w7 _).block _ (blk_lt HX7.out)).trans HX7.out) hg8 (fun e => by have := Option.some.inj e; omega))
                  have HC8 := Lib.hid ((HC7.out.below (bel_new w7 _)).drawn hg8 (by omega))
                  clear hr8 hg8 Hr7 HO7 HX7 HC7
                  obtain ⟨zf, f0, f1, f2, f3⟩ := HC8.out.cells
                  obtain ⟨ff0, ff1, ff2, ff3⟩ := HC8.out.free
                  have o0 := blk_cell HX8.out 0
                  have o1 := blk_cell HX8.out 1
                  have o2 := blk_cell HX8.out 2
                  have o3 := blk_cell HX8.out 3
                  have b0 := blk_free HX8.out 0
                  have b1 := blk_free HX8.out 1
                  have b2 := blk_free HX8.out 2
                  have b3 := blk_free HX8.out 3
                  have zr := blk_lt HX8.out
                  simp at o0 o1 o2 o3
                  go_wp2_with fail
                  refine bodyPost_ret (v := .agg #[.int .i64 vv, .slice An ns.length cn, .slice Ag gs.length cg, .slice Ao os.length co]) (by simp [results, Try.results35, go_sem, o0, o1, o2, o3]) rfl (finC (c := ⟨vv, ns, gs, os⟩) (HC8.out.setIns vv) (only_set HO8.out (by omega)) (rd_set Hr8.out (by omega)) (by omega) zR (by omega) ⟨by simp only; omega, by simp only; omega, by simp only; omega, by simp only; omega, by simp only; omega, Hn.out, Hl.out, Hos.out⟩ _ _ _ _)
                · go_wp2_with fail
                  have hO := fun ops a => rdRS_ok (Pg := Try.prog) (ops := ops) (P := P + 6000 + 1 + 1) (a := a) (G := GInt (-100) 1000) (d := 10) Hr7.out.lt (show R < gm + 1 by omega) HC7.out.o
                  obtain ⟨zm, p0, p1, p2, p3⟩ := HC7.out.cells
                  have hneO : ¬ (gm = R ∨ (Value.slice Ao os.length co).ownBlock = some gm) := fun e => by
                    rcases e with e | e
                    · omega
                    · have := (HC7.out.o.lt gm e).1; omega
                  refine wp_region_rsl (rdRS Try.prog _ R (P + 6000 + 1 + 1) w7 _ (gm + 1) 3 (.slice Ao os.length co) os.length (ints os) (GInt (-100) 1000) 10) (hO _ _) (by kernel_rfl) (by kernel_rfl) (by kernel_rfl) 12 _ rfl rfl (by kernel_rfl) (show (10 : Nat) < 12 by decide) Hr7.out HC7.out.o ?_
                  obtain ⟨i0, hi0, hz0, hz1, hz2⟩ := info_parts info_int
                  apply rs_eq (hO _ _) (.inl (Nat.ne_of_beq_eq_false rfl))
                  · intro ρ w' ho hK
                    obtain ⟨h0, -⟩ := hK
                    have h0' : ρ (.tmp 5) = .pointer (some ⟨gm, 0, none⟩) := h0
                    go_simp
                    try exact rfl
                  apply rs_eq (hO _ _) (.inl (Nat.ne_of_beq_eq_false rfl))
                  · intro ρ w' ho hK
                    obtain ⟨h0, -⟩ := hK
                    have h0' : ρ (.tmp 122) = .pointer (some ⟨gm, 3, none⟩) := h0
                    have q1 := cell_on ho hneO zm p3
                    go_simp
                    try exact rfl
                  refine rs_old (hO _ _) (.inl (Nat.ne_of_beq_eq_false rfl)) _ (.inl rfl) _ rfl rfl ?_
                  apply rs_eq (hO _ _) (.inl (Nat.ne_of_beq_eq_false rfl))
                  · intro ρ w' ho hK
                    obtain ⟨h0, h1, -⟩ := hK
                    have h0' : ρ (.const (.int .i64 2)) = .int .i64 2 := h0
                    have h1' : ρ (.tmp 124) = .int .i64 M := h1
                    have hwr := IntWalk.i64_in (2 * M) (by omega)
                    go_simp
                    try exact rfl
                  refine rs_build (hO _ _) (.inl (Nat.ne_of_beq_eq_false rfl)) 2 (GInt (-100) 1000) 3 (fun ρ w hK => by
                    obtain ⟨h1, h2, -⟩ := hK
                    have h1' : ρ (.const (.int .i64 (-1))) = .int .i64 (-1) := h1
                    have h2' : ρ (.tmp 125) = .int .i64 (2 * M) := h2
                    refine ⟨#[.int .i64 (-1), .int .i64 (2 * M)], rfl, ?_, ?_⟩
                    · go_simp
                    · intro c hc
                      simp at hc
                      rcases hc with rfl | rfl
                      · exact ⟨-1, rfl, by omega, by omega⟩
                      · exact ⟨2 * M, rfl, by omega, by omega⟩) ?_
                  refine rs_old (hO _ _) (.inl (Nat.ne_of_beq_eq_false rfl)) _ (.inl rfl) _ rfl rfl ?_
                  refine rs_pick (hO _ _) (.inl (Nat.ne_of_beq_eq_false rfl)) 36 _ _ _ R (P + 6000 + 1 + 1) 1 rfl rfl fn_draw (fun ρ w hK => ⟨hK.1, hK.2.1, 2, hK.2.2.1, by omega, by omega⟩) (fun n k w hk h1n hn hr => pick_upto n 1 _ _ w hr (by have hk' : k < 13 := hk; omega) h1n hn (by omega)) ?_
                  refine rs_index (hO _ _) (.inl (Nat.ne_of_beq_eq_false rfl)) 23 _ _ 2 (GInt (-100) 1000) 1 rfl _ _ rfl rfl rfl rfl (by omega) (by omega) ix_drawn ?_
                  refine rs_load (hO _ _) (.inl (Nat.ne_of_beq_eq_false rfl)) 3 _ (GInt (-100) 1000) rfl _ rfl rfl ag_drawn ?_
                  refine rs_build (hO _ _) (.inl (Nat.ne_of_beq_eq_false rfl)) 1 (GInt (-100) 1000) 3 (fun ρ w hK => by
                    obtain ⟨⟨q, hq, hq0, hq1⟩, -⟩ := hK
                    have h' : ρ (.tmp 130) = .int .i64 q := hq
                    refine ⟨#[.int .i64 q], rfl, ?_, ?_⟩
                    · go_simp
                    · intro c hc
                      simp at hc
                      exact ⟨q, hc, by omega, by omega⟩) ?_
                  refine rs_appendV rfl (gm + 1) 3 23 (.slice Ao os.length co) os.length (ints os) (GInt (-100) 1000) rfl R (P + 6000 + 1 + 1) rfl (fun g hg => .inr hg) (show R < gm + 1 by omega) zm _ _ rfl _ _ rfl rfl rfl rfl i0 _ 8 Try.underlying23 hi0 hz0 hz1 hz2 rfl (by omega) (by decide) (fun u hu => by obtain ⟨q, rfl, -⟩ := hu; rfl) ?_
                  apply rs_eq (hO _ _) (.inl (Nat.ne_of_beq_eq_false rfl))
                  · intro ρ w' ho hK
                    obtain ⟨h0, -⟩ := hK
                    have h0' : ρ (.tmp 5) = .pointer (some ⟨gm, 0, none⟩) := h0
                    go_simp
                    try exact rfl
                  intro f w9 k9 hk9 hI9 ht9 hcp9
                  have E0 : f 0 = _ := ht9 0 (Nat.le_of_ble_eq_true rfl)
                  have E1 : f 1 = _ := ht9 1 (Nat.le_of_ble_eq_true rfl)
                  have E2 : f 2 = _ := ht9 2 (Nat.le_of_ble_eq_true rfl)
                  have E3 : f 3 = _ := ht9 3 (Nat.le_of_ble_eq_true rfl)
                  have E5 : f 5 = _ := ht9 5 (Nat.le_of_ble_eq_true rfl)
                  have E11 : f 11 = _ := ht9 11 (Nat.le_of_ble_eq_true rfl)
                  have Hr9 : Rd w9 R (P + 6000 + 1 + 1 + 40 * k9) := hI9.1
                  have HE9 : Only (fun g => g = R ∨ (Value.slice Ao os.length co).ownBlock = some g) w7 w9 := hI9.2.1
                  have HJ9 : (∃ u, GInt (-100) 1000 u ∧ w9.ownsRow (gm + 1) 3 1 (f 10) (os.length + 1) (ints os ++ [u])) ∧ ∀ g, (f 10).ownBlock = some g → (Value.slice Ao os.length co).ownBlock = some g ∨ w7.heap.size ≤ g := hI9.2.2
                  have hk9' : k9 ≤ 13 := hk9
                  simp only [putAll, E0, E1, E2, E3, E5, E11, Nat.zero_add, Nat.reduceAdd, Act.put, List.take, List.setIfInBounds_toArray, List.set_cons_succ, List.set_cons_zero, List.getElem_toArray, List.getElem_cons_succ, List.getElem_cons_zero]
                  clear E0 E1 E2 E3 E5 E11 hI9 ht9 hcp9 hk9 hO
                  generalize f 4 = r4, f 6 = r6, f 7 = r7, f 8 = r8, f 9 = r9 at *
                  generalize f 10 = v9 at *
                  obtain ⟨⟨uu, ⟨q, rfl, hq0, hq1⟩, hown9⟩, hat9⟩ := HJ9
                  obtain ⟨A9, c9, e9⟩ := slice_of_own hown9
                  subst e9
                  have Ho9 := Lib.hid hown9
                  have Hat9 := Lib.hid hat9
                  have HE9' := Lib.hid HE9
                  have Hr9' := Lib.hid (Hr9.more (show P + 6000 + 1 + 1 + 40 * k9 ≤ P + 7000 by omega))
                  clear p0 p1 p2 p3
                  have hbx := (HE9.block gm zm hneO).trans HC7.out.box
                  have zf := blk_lt hbx
                  have f0 := blk_cell hbx 0
                  have f1 := blk_cell hbx 1
                  have f2 := blk_cell hbx 2
                  have f3 := blk_cell hbx 3
                  have ff3 := blk_free hbx 3
                  have HX9 := Lib.hid ((HE9.block _ (blk_lt HX7.out) (fun e => by
                    rcases e with h | h
                    · omega
                    · have := (HC7.out.o.lt _ h).1; omega)).trans HX7.out)
                  have o0 := blk_cell HX9.out 0
                  have o1 := blk_cell HX9.out 1
                  have o2 := blk_cell HX9.out 2
                  have o3 := blk_cell HX9.out 3
                  have b0 := blk_free HX9.out 0
                  have b1 := blk_free HX9.out 1
                  have b2 := blk_free HX9.out 2
                  have b3 := blk_free HX9.out 3
                  have zr := blk_lt HX9.out
                  simp at f0 f1 f2 f3 o0 o1 o2 o3
                  clear hown9 hat9 HE9 Hr9 hbx hk9' hi0 hz0 hz1 hz2
                  go_wp2_with fail
                  refine bodyPost_ret (v := .agg #[.int .i64 x, .slice An ns.length cn, .slice Ag gs.length cg, .slice A9 (os.length + 1) c9]) (by simp [results, Try.results35, go_sem, o0, o1, o2, o3]) rfl (finC (c := ⟨x, ns, gs, os ++ [q]⟩) (HC7.out.addO (xs := os ++ [q]) HE9'.out (fun g hg hn e => e.elim (fun e => by omega) hn) (by rw [List.length_append, ints_snoc]; exact Ho9.out) Hat9.out) (only_set (HO7.out.aft HE9'.out fun g hg => hg.elim .inr fun h => .inl (by have := (HC7.out.o.lt g h).1; omega)) (by omega)) (rd_set Hr9'.out (by omega)) (by omega) zR (by omega) ⟨by simp only; omega, by simp only; omega, by simp only; omega, by simp only; omega, by simp; omega, Hn.out, Hl.out, (fun q hq => by
                      rcases List.mem_append.1 hq with h | h
                      · exact Hos.out q h
                      · rw [List.mem_singleton.1 h]
                        exact ⟨hq0, hq1⟩)⟩ _ _ _ _)
                · have hneK : (Value.slice An ns.length cn).ownBlock ≠ some gm := fun e => by have := (HC7.out.n.lt gm e).1; omega
                  obtain ⟨zm, p0, p1, p2, p3⟩ := HC7.out.cells
                  have Hlit := Lib.hid (Row.of_own (World.ownsRow_lit (base := w7.heap.size) (e := 3) (size := 1) w7 #[.int .i64 (-1)] 1 (Nat.le_refl _) (by unfold maxLen; omega) rfl))
                  go_wp2_with (
                    at_builtin
                    refine append_ints rfl (.tmp 137) (.tmp 138) rfl (gm + 1) _ ns.length _ rfl (HC7.out.n.alloc _) _ 1 [.int .i64 (-1)] rfl Hlit.out (by simp [Value.oneCell']) (by omega) (by simp; omega) ?_
                    intro v9 w9 hown9 hg9 hat9
                    obtain ⟨A9, c9, e9⟩ := slice_of_own hown9
                    subst e9
                    have Ho9 := Lib.hid hown9
                    have HE9 := Lib.hid (app_only hg9)
                    have Hr9 := Lib.hid (app_rd Hr7.out hg9 HC7.out.n (by omega))
                    have Hat9 := Lib.hid (app_at hat9)
                    clear p0 p1 p2 p3
                    have hbx := (HE9.out.block gm zm hneK).trans HC7.out.box
                    have zf := blk_lt hbx
                    have f0 := blk_cell hbx 0
                    have f1 := blk_cell hbx 1
                    have f2 := blk_cell hbx 2
                    have f3 := blk_cell hbx 3
                    have ff1 := blk_free hbx 1
                    have HX9 := Lib.hid ((HE9.out.block _ (blk_lt HX7.out) (fun e => by have := (HC7.out.n.lt _ e).1; omega)).trans HX7.out)
                    have o0 := blk_cell HX9.out 0
                    have o1 := blk_cell HX9.out 1
                    have o2 := blk_cell HX9.out 2
                    have o3 := blk_cell HX9.out 3
                    have b0 := blk_free HX9.out 0
                    have b1 := blk_free HX9.out 1
                    have b2 := blk_free HX9.out 2
                    have b3 := blk_free HX9.out 3
                    have zr := blk_lt HX9.out
                    simp at f0 f1 f2 f3 o0 o1 o2 o3
                    clear hown9 hg9 hat9 hbx)
                  refine bodyPost_ret (v := .agg #[.int .i64 x, .slice A9 (ns.length + 1) c9, .slice Ag gs.length cg, .slice Ao os.length co]) (by simp [results, Try.results35, go_sem, o0, o1, o2, o3]) rfl (finC (c := ⟨x, ns ++ [-1], gs, os⟩) (HC7.out.addN (xs := ns ++ [-1]) HE9.out (fun g _ hn => hn) (by rw [List.length_append, ints_snoc]; exact Ho9.out) Hat9.out) (only_set (HO7.out.aft HE9.out fun g hg => .inl (by have := (HC7.out.n.lt g hg).1; omega)) (by omega)) (rd_set Hr9.out (by omega)) (by omega) zR (by omega) ⟨by simp only; omega, by simp only; omega, by simp; omega, by simp only; omega, by simp only; omega, (fun q hq => by
                      rcases List.mem_append.1 hq with h | h
                      · exact Hn.out q h
                      · rw [List.mem_singleton.1 h]
                        exact ⟨by omega, by omega⟩), Hl.out, Hos.out⟩ _ _ _ _)
                · have hneK : (Value.slice Ag gs.length cg).ownBlock ≠ some gm := fun e => by have := (HC7.out.g.lt gm e).1; omega
                  obtain ⟨zm, p0, p1, p2, p3⟩ := HC7.out.cells
                  have Hlit := Lib.hid (Row.of_own (World.ownsRow_lit (base := w7.heap.size) (e := 64) (size := 2) w7 #[.int .i64 (2 * M), .int .i64 0] 1 (Nat.le_refl _) (by unfold maxLen; omega) rfl))
                  go_wp2_with (
                    at_builtin
                    refine append_gates rfl (.tmp 144) (.tmp 148) rfl (gm + 1) _ gs.length _ rfl (HC7.out.g.alloc _) _ 1 [.int .i64 (2 * M), .int .i64 0] rfl Hlit.out (by simp [Value.oneCell']) (by omega) (by simp; omega) ?_
                    intro v9 w9 hown9 hg9 hat9
                    obtain ⟨A9, c9, e9⟩ := slice_of_own hown9
                    subst e9
                    have Ho9 := Lib.hid hown9
                    have HE9 := Lib.hid (app_only hg9)
                    have Hr9 := Lib.hid (app_rd Hr7.out hg9 HC7.out.g (by omega))
                    have Hat9 := Lib.hid (app_at hat9)
                    clear p0 p1 p2 p3
                    have hbx := (HE9.out.block gm zm hneK).trans HC7.out.box
                    have zf := blk_lt hbx
                    have f0 := blk_cell hbx 0
                    have f1 := blk_cell hbx 1
                    have f2 := blk_cell hbx 2
                    have f3 := blk_cell hbx 3
                    have ff2 := blk_free hbx 2
                    have HX9 := Lib.hid ((HE9.out.block _ (blk_lt HX7.out) (fun e => by have := (HC7.out.g.lt _ e).1; omega)).trans HX7.out)
                    have o0 := blk_cell HX9.out 0
                    have o1 := blk_cell HX9.out 1
                    have o2 := blk_cell HX9.out 2
                    have o3 := blk_cell HX9.out 3
                    have b0 := blk_free HX9.out 0
                    have b1 := blk_free HX9.out 1
                    have b2 := blk_free HX9.out 2
                    have b3 := blk_free HX9.out 3
                    have zr := blk_lt HX9.out
                    simp at f0 f1 f2 f3 o0 o1 o2 o3
                    clear hown9 hg9 hat9 hbx)
                  refine bodyPost_ret (v := .agg #[.int .i64 x, .slice An ns.length cn, .slice A9 (gs.length + 1) c9, .slice Ao os.length co]) (by simp [results, Try.results35, go_sem, o0, o1, o2, o3]) rfl (finC (c := ⟨x, ns, gs ++ [(2 * M, 0)], os⟩) (HC7.out.addG (xs := gs ++ [(2 * M, 0)]) HE9.out (fun g _ hn => hn) (by rw [List.length_append, cubes_append]; exact Ho9.out) Hat9.out) (only_set (HO7.out.aft HE9.out fun g hg => .inl (by have := (HC7.out.g.lt g hg).1; omega)) (by omega)) (rd_set Hr9.out (by omega)) (by omega) zR (by omega) ⟨by simp only; omega, by simp only; omega, by simp only; omega, by simp; omega, by simp only; omega, Hn.out, (fun q hq => by
                      rcases List.mem_append.1 hq with h | h
                      · exact Hl.out q h
                      · rw [List.mem_singleton.1 h]
                        exact ⟨⟨by simp only; omega, by simp only; omega⟩, by simp only; omega, by simp only; omega⟩), Hos.out⟩ _ _ _ _)
                · obtain ⟨W4, hW4⟩ : ∃ W4, W4 = w7 := ⟨_, rfl⟩
                  subst hW4
                  have Hr8 := Lib.hid (Hr7.out.more (show P + 6000 + 1 + 1 ≤ P + 7000 by omega))
                  go_wp2_with fail
                  go_loopw [] (fun wr => ∃ (hs : List (Int × Int)) (vH : Value), hs.length ≤ 15 ∧ Hid (∀ q ∈ hs, LitS q.1 ∧ LitS q.2) ∧ Hid (CB gm ⟨x, ns, hs, os⟩ (.slice An ns.length cn) vH (.slice Ao os.length co) wr) ∧ Hid (Rd wr R (P + 7000)) ∧ Hid (Only (· = R) w wr) ∧ Hid (wr.heap[w.heap.size]? = some (.cells #[.int .i64 0, .slice none 0 0, .slice none 0 0, .slice none 0 0] 26 (0, 0)))) (fun wr => 16 - gsLen gm wr)
                  case atStart => exact ⟨gs, _, by omega, Hl, HC7, Hr8, HO7, HX7⟩
                  case round =>
                    obtain ⟨hs, vH, hhl, Hhs, HC8, Hr9, HO8, HX8⟩ := hrel
                    clear HC7 Hr7 Hr8 HO7 HX7
                    obtain ⟨Ah, ch, eh⟩ := slice_of_own HC8.out.g
                    simp only at eh
                    subst eh
                    by_cases hl14 : (hs.length : Int) ≤ 14
                    · have hneK : (Value.slice Ah hs.length ch).ownBlock ≠ some gm := fun e => by have := (HC8.out.g.lt gm e).1; omega
                      obtain ⟨zm, p0, p1, p2, p3⟩ := HC8.out.cells
                      have hgl := gsLen_is HC8.out
                      simp only at hgl
                      have Hlit := Lib.hid (Row.of_own (World.ownsRow_lit (base := wr.heap.size) (e := 64) (size := 2) wr #[.int .i64 0, .int .i64 0] 1 (Nat.le_refl _) (by unfold maxLen; omega) rfl))
                      go_wp2_with (
                        at_builtin
                        refine append_gates rfl (.tmp 158) (.tmp 160) rfl (gm + 1) _ hs.length _ rfl (HC8.out.g.alloc _) _ 1 [.int .i64 0, .int .i64 0] rfl Hlit.out (by simp [Value.oneCell']) (by omega) (by simp; omega) ?_
                        intro v9 w9 hown9 hg9 hat9
                        obtain ⟨A9, c9, e9⟩ := slice_of_own hown9
                        subst e9
                        have Ho9 := Lib.hid hown9
                        have HE9 := Lib.hid (app_only hg9)
                        have Hr10 := Lib.hid (app_rd Hr9.out hg9 HC8.out.g (by omega))
                        have Hat9 := Lib.hid (app_at hat9)
                        clear p0 p1 p2 p3
                        have hbx := (HE9.out.block gm zm hneK).trans HC8.out.box
                        have q2 := blk_cell hbx 2
                        have q2f := blk_free hbx 2
                        have zq := blk_lt hbx
                        simp at q2
                        clear hown9 hg9 hat9 hbx)
                      have HCn := Lib.hid (HC8.out.addG (xs := hs ++ [(0, 0)]) HE9.out (fun g _ hn => hn) (by rw [List.length_append, cubes_append]; exact Ho9.out) Hat9.out)
                      go_roundw
                      case rel =>
                        refine ⟨hs ++ [(0, 0)], .slice A9 (hs.length + 1) c9, by simp; omega, Lib.hid fun q hq => ?_, HCn, Lib.hid ?_, Lib.hid ?_, Lib.hid ?_⟩
                        · rcases List.mem_append.1 hq with h | h
                          · exact Hhs.out q h
                          · rw [List.mem_singleton.1 h]
                            exact ⟨⟨by simp only; omega, by simp only; omega⟩, by simp only; omega, by simp only; omega⟩
                        · exact rd_set Hr10.out (by omega)
                        · exact only_set (HO8.out.aft HE9.out fun g hg => .inl (by have := (HC8.out.g.lt g hg).1; omega)) (by omega)
                        · exact res_set ((HE9.out.block _ (blk_lt HX8.out) (fun e => by have := (HC8.out.g.lt _ e).1; omega)).trans HX8.out) (by omega)
                      case measure =>
                        have h1 := gsLen_is HCn.out
                        have h2 := gsLen_is HC8.out
                        simp only [List.length_append, List.length_cons, List.length_nil] at h1 h2
                        rw [h1, h2]
                        omega
                    · obtain ⟨zf, f0, f1, f2, f3⟩ := HC8.out.cells
                      obtain ⟨ff0, ff1, ff2, ff3⟩ := HC8.out.free
                      have o0 := blk_cell HX8.out 0
                      have o1 := blk_cell HX8.out 1
                      have o2 := blk_cell HX8.out 2
                      have o3 := blk_cell HX8.out 3
                      have b0 := blk_free HX8.out 0
                      have b1 := blk_free HX8.out 1
                      have b2 := blk_free HX8.out 2
                      have b3 := blk_free HX8.out 3
                      have zr := blk_lt HX8.out
                      simp at o0 o1 o2 o3
                      go_wp2_with fail
                      refine bodyPost_ret (v := .agg #[.int .i64 x, .slice An ns.length cn, .slice Ah hs.length ch, .slice Ao os.length co]) (by simp [results, Try.results35, go_sem, o0, o1, o2, o3]) rfl (finC (c := ⟨x, ns, hs, os⟩) HC8.out HO8.out Hr9.out (by omega) zR (by omega) ⟨by simp only; omega, by simp only; omega, by simp only; omega, by simp only; omega, by simp only; omega, Hn.out, Hhs.out, Hos.out⟩ _ _ _ _)
                · have hneK : (Value.slice Ao os.length co).ownBlock ≠ some gm := fun e => by have := (HC7.out.o.lt gm e).1; omega
                  obtain ⟨zm, p0, p1, p2, p3⟩ := HC7.out.cells
                  have Hlit := Lib.hid (Row.of_own (World.ownsRow_lit (base := w7.heap.size) (e := 3) (size := 1) w7 #[.int .i64 0, .int .i64 0, .int .i64 0, .int .i64 0] 4 (Nat.le_refl _) (by unfold maxLen; omega) rfl))
                  go_wp2_with (
                    at_builtin
                    refine append_ints rfl (.tmp 108) (.tmp 109) rfl (gm + 1) _ os.length _ rfl (HC7.out.o.alloc _) _ 4 [.int .i64 0, .int .i64 0, .int .i64 0, .int .i64 0] rfl Hlit.out (by simp [Value.oneCell']) (by omega) (by simp; omega) ?_
                    intro v9 w9 hown9 hg9 hat9
                    obtain ⟨A9, c9, e9⟩ := slice_of_own hown9
                    subst e9
                    have Ho9 := Lib.hid hown9
                    have HE9 := Lib.hid (app_only hg9)
                    have Hr9 := Lib.hid (app_rd Hr7.out hg9 HC7.out.o (by omega))
                    have Hat9 := Lib.hid (app_at hat9)
                    clear p0 p1 p2 p3
                    have hbx := (HE9.out.block gm zm hneK).trans HC7.out.box
                    have zf := blk_lt hbx
                    have f0 := blk_cell hbx 0
                    have f1 := blk_cell hbx 1
                    have f2 := blk_cell hbx 2
                    have f3 := blk_cell hbx 3
                    have ff3 := blk_free hbx 3
                    have HX9 := Lib.hid ((HE9.out.block _ (blk_lt HX7.out) (fun e => by have := (HC7.out.o.lt _ e).1; omega)).trans HX7.out)
                    have o0 := blk_cell HX9.out 0
                    have o1 := blk_cell HX9.out 1
                    have o2 := blk_cell HX9.out 2
                    have o3 := blk_cell HX9.out 3
                    have b0 := blk_free HX9.out 0
                    have b1 := blk_free HX9.out 1
                    have b2 := blk_free HX9.out 2
                    have b3 := blk_free HX9.out 3
                    have zr := blk_lt HX9.out
                    simp at f0 f1 f2 f3 o0 o1 o2 o3
                    clear hown9 hg9 hat9 hbx)
                  refine bodyPost_ret (v := .agg #[.int .i64 x, .slice An ns.length cn, .slice Ag gs.length cg, .slice A9 (os.length + 4) c9]) (by simp [results, Try.results35, go_sem, o0, o1, o2, o3]) rfl (finC (c := ⟨x, ns, gs, os ++ [0, 0, 0, 0]⟩) (HC7.out.addO (xs := os ++ [0, 0, 0, 0]) HE9.out (fun g _ hn => hn) (by rw [List.length_append, ints_app4]; exact Ho9.out) Hat9.out) (only_set (HO7.out.aft HE9.out fun g hg => .inl (by have := (HC7.out.o.lt g hg).1; omega)) (by omega)) (rd_set Hr9.out (by omega)) (by omega) zR (by omega) ⟨by simp only; omega, by simp only; omega, by simp only; omega, by simp only; omega, by simp; omega, Hn.out, Hl.out, (fun q hq => by
                      rcases List.mem_append.1 hq with h | h
                      · exact Hos.out q h
                      · simp at h
                        subst h
                        exact ⟨by omega, by omega⟩)⟩ _ _ _ _)
end Go.Proofs.Ytkkkjbinfdohpaa

namespace Go.Proofs.Ytkkkjbinfdohpaa
open Go.RowKit
set_option maxRecDepth 100000
/-! Drawn circuits, as laws draw them. -/
/-- A result that is stored into its block, cell by cell. -/
def setR (w : World) (k : Nat) (a b c d : Value) : World := (((w.setCell ⟨k, 0, none⟩ a).setCell ⟨k, 1, none⟩ b).setCell ⟨k, 2, none⟩ c).setCell ⟨k, 3, none⟩ d
theorem own_setR {w : World} {k base n size : Nat} {e : TypeId} {v a b c d : Value} {xs : List Value} (h : w.ownsRow base e size v n xs) (hk : k < base) : (setR w k a b c d).ownsRow base e size v n xs :=
  own_set' (own_set' (own_set' (own_set' h hk) hk) hk) hk
theorem OwnC.setR {B k : Nat} {v a b d e : Value} {c : Cz} {w : World} (h : OwnC B v c w) (hk : k < B) : OwnC B v c (setR w k a b d e) := by
  obtain ⟨vN, vG, vO, rfl, h1, h2, h3, h4⟩ := h
  exact ⟨vN, vG, vO, rfl, own_setR h1 hk, own_setR h2 hk, own_setR h3 hk, h4⟩
theorem OwnC.only {E : Nat → Prop} {B : Nat} {v : Value} {c : Cz} {w w' : World} (h : OwnC B v c w) (ho : Only E w w') (hE : ∀ g, B ≤ g → ¬ E g) : OwnC B v c w' := by
  obtain ⟨vN, vG, vO, rfl, h1, h2, h3, h4⟩ := h
  exact ⟨vN, vG, vO, rfl, own_only h1 ho (fun g hg => hE g (h1.lt g hg).1), own_only h2 ho (fun g hg => hE g (h2.lt g hg).1), own_only h3 ho (fun g hg => hE g (h3.lt g hg).1), h4⟩
theorem OwnC.shape {B : Nat} {v : Value} {c : Cz} {w : World} (h : OwnC B v c w) : ∃ An cn Ag cg Ao co, v = .agg #[.int .i64 c.ins, .slice An c.next.length cn, .slice Ag c.gates.length cg, .slice Ao c.outs.length co] := by
  obtain ⟨vN, vG, vO, rfl, h1, h2, h3, -⟩ := h
  obtain ⟨An, cn, rfl⟩ := slice_of_own h1
  obtain ⟨Ag, cg, rfl⟩ := slice_of_own h2
  obtain ⟨Ao, co, rfl⟩ := slice_of_own h3
  exact ⟨An, cn, Ag, cg, Ao, co, rfl⟩
theorem OwnC.mono {B B' : Nat} {v : Value} {c : Cz} {w : World} (h : OwnC B v c w) (hB : B' ≤ B) : OwnC B' v c w := by
  obtain ⟨vN, vG, vO, rfl, h1, h2, h3, h4⟩ := h
  exact ⟨vN, vG, vO, rfl, own_mono h1 hB, own_mono h2 hB, own_mono h3 hB, h4⟩
theorem below_setR {B k : Nat} {w0 w : World} {a b c d : Value} (h : Below B w0 w) (hk : B ≤ k) : Below B w0 (setR w k a b c d) :=
  (((h.setCell (by exact hk) _).setCell (by exact hk) _).setCell (by exact hk) _).setCell (by exact hk) _
/-- What a law is given by a draw of a circuit. -/
def Drawn (w : World) (e : Ending) (w' : World) : Prop := ∃ v c, e = .returned v ∧ OwnC w.heap.size v c w' ∧ Small c ∧ Below w.heap.size w w'
end Go.Proofs.Ytkkkjbinfdohpaa

namespace Go.Proofs.Ytkkkjbinfdohpaa
open Go.RowKit
set_option maxRecDepth 100000
/-! Draws that end in a region which loads a circuit, draws more and stores the result. -/
@[reducible] def rdStepRS (Pg : Program) (ops : Array Oper) (R P : Nat) (w : World) (a : Act) (k : Nat) (R0 R1 : World → Prop) (d : Nat) : RS :=
  { P := Pg, ops := ops, E := fun g => g = R ∨ g = k, F := (· = R), rd := some (R, P), w0 := w, J := JStep R0 R1, d := d, a0 := a }
theorem rdStepRS_ok {Pg : Program} {ops : Array Oper} {R P : Nat} {w : World} {a : Act} {k : Nat} {R0 R1 : World → Prop} {d : Nat} (hR : R < w.heap.size) (hk : k < w.heap.size) (h0 : ∀ w1 w2, R0 w1 → Only (· = R) w1 w2 → R0 w2) (h1 : ∀ w1 w2, R1 w1 → Only (· = R) w1 w2 → R1 w2) : (rdStepRS Pg ops R P w a k R0 R1 d).Ok :=
  ⟨fun _ h => .inl h, fun ov w1 w2 hj ho => by
    cases ov with
    | none => exact h0 _ _ hj ho
    | some v => exact h1 _ _ hj ho,
    fun _ _ e => by cases e; exact ⟨rfl, hR⟩, fun g hg => by
      rcases hg with rfl | rfl
      · exact hR
      · exact hk⟩
section
variable {S : RS} {Fin : List Ty → Prop} {o : Oper} {l : List Oper} {i : Nat} {τs : List Ty}
theorem rs_doR (hd : i = S.d) {R0 R1 : World → Prop} (hJ : S.J = JStep R0 R1) (R P : Nat) (hrd : S.rd = some (R, P))
    (h : ∀ ρ w, Only S.E S.w0 w → R0 w → Known S.ops (tys τs) S.a0 ρ w i o.op.operands.toList → ∃ w', (execOp ρ o).run S.P w = .ok .skip w' ∧ R1 w' ∧ Only S.E w w' ∧ ∀ Q, Rd w R Q → Rd w' R Q)
    (rest : RSeq S Fin l (i + 1) (TAny :: τs)) : RSeq S Fin (o :: l) i τs := by
  intro _
  refine ⟨TAny, stb_any _, fun k ov ρ w hk hI hov hK => ?_, rest⟩
  obtain rfl := hov (by rw [hd]; exact ancB_self _ _ _)
  have h0 : R0 w := by have := hI.2.2; rw [hJ] at this; exact this
  obtain ⟨w', hrun, h1, hon, hrr⟩ := h ρ w hI.2.1 h0 hK
  unfold Good
  rw [hrun]
  refine ⟨trivial, ⟨?_, hI.2.1.trans hon, ?_⟩, hon⟩
  · have hr' := hI.1
    rw [hrd] at hr' ⊢
    have hr'' : Rd w R (P + 40 * k) := hr'
    exact (hrr _ hr'').more (by omega)
  · rw [if_pos hd, hJ]
    exact h1
/-- A call that draws. -/
theorem rs_drawcall (hO : S.Ok) (hid : i ≠ S.d ∨ ∀ ov w, S.J ov w) (T : Ty) (hT : Stb S.E T) (f : FuncId) (args : Array Operand) (at_ : Array TypeId) (ho : o.op = .call { callee := .value (.func f), args := args, argTypes := at_ }) (R P : Nat) (hrd : S.rd = some (R, P))
    (h : ∀ k ρ w, k < S.ops.size → Rd w R (P + 40 * k) → Only S.E S.w0 w → Known S.ops (tys τs) S.a0 ρ w i (.func f :: args.toList) → ∃ vs, (execOp ρ o).run S.P w = .ok (.enter f vs) w ∧ Calls S.P f vs w fun e w' => ∃ v, e = .returned v ∧ T w' v ∧ Rd w' R (P + 40 * k + 40) ∧ w.grownBy w' (some R))
    (rest : RSeq S Fin l (i + 1) (T :: τs)) : RSeq S Fin (o :: l) i τs := by
  refine rs_plain hO hid T hT (fun k ρ w hk hr hon hK => ?_) rest
  have he : o.op.operands.toList = .func f :: args.toList := by rw [ho]; simp [Op.operands, Call.operands]
  rw [he] at hK
  rw [hrd] at hr
  obtain ⟨vs, h1, h2⟩ := h k ρ w hk hr hon hK
  unfold Good
  rw [h1]
  refine h2.mono ?_
  rintro e w' ⟨v, rfl, h3, h4, h5⟩
  refine ⟨h3, by rw [hrd]; exact h4.more (by omega), Only.grown h5 fun q hq => ?_⟩
  cases hq
  exact (hO.reader R P hrd).1
end
theorem blk_only {E : Nat → Prop} {w w' : World} {k : Nat} {o : Obj} (h : w.heap[k]? = some o) (ho : Only E w w') (hE : ¬ E k) : w'.heap[k]? = some o := (ho.block k (blk_lt h) hE).trans h
theorem setR_box {w : World} {k : Nat} {x0 x1 x2 x3 a b c d : Value} {t : TypeId} (h : w.heap[k]? = some (.cells #[x0, x1, x2, x3] t (0, 0))) : (setR w k a b c d).heap[k]? = some (.cells #[a, b, c, d] t (0, 0)) := by
  have h1 := heap_setCell_same w k 0 _ _ a h
  have h2 := heap_setCell_same _ k 1 _ _ b h1
  have h3 := heap_setCell_same _ k 2 _ _ c h2
  exact heap_setCell_same _ k 3 _ _ d h3
theorem setR_only {E : Nat → Prop} {w : World} {k : Nat} {a b c d : Value} (hE : E k) : Only E w (setR w k a b c d) :=
  (((Only.grown (set_grown w k 0 a) fun _ h => (Option.some.inj h) ▸ hE).trans (Only.grown (set_grown _ k 1 b) fun _ h => (Option.some.inj h) ▸ hE)).trans (Only.grown (set_grown _ k 2 c) fun _ h => (Option.some.inj h) ▸ hE)).trans (Only.grown (set_grown _ k 3 d) fun _ h => (Option.some.inj h) ▸ hE)
theorem rd_only_k {w w' : World} {R Q k : Nat} (h : Rd w R Q) (hne : ∀ o x, w.cell? ⟨k, o, none⟩ ≠ some (.int .u8 x)) (hk : k ≠ R) (ho : Only (· = k) w w') : Rd w' R Q := by
  obtain ⟨A, c, p, bs, hh, hp, h1, h2, h3, h4⟩ := h
  refine ⟨A, c, p, bs, (ho.block R (blk_lt hh) (fun e => hk e.symm)).trans hh, hp, h1, h2, h3, fun h0 => ?_⟩
  obtain ⟨b, o, rfl, hb, hc⟩ := h4 h0
  have hbk : b ≠ k := by
    rintro rfl
    obtain ⟨x, hx⟩ : ∃ x, bs[0]? = some x := ⟨bs[0], List.getElem?_eq_getElem h0⟩
    exact hne _ _ (hc 0 x hx).1
  refine ⟨b, o, rfl, hb, fun i' x hx => ?_⟩
  obtain ⟨hc1, hc2⟩ := hc i' x hx
  exact ⟨(World.cell?_of_block (a := ⟨b, o + i', none⟩) (ho.block b (Nat.lt_trans hb (blk_lt hh)) hbk)).trans hc1, hc2⟩
theorem zero_no {w : World} {k : Nat} {t : TypeId} (h : w.heap[k]? = some (.cells #[.int .i64 0, .slice none 0 0, .slice none 0 0, .slice none 0 0] t (0, 0))) : ∀ o x, w.cell? ⟨k, o, none⟩ ≠ some (.int .u8 x) := fun o x e => by
  rw [blk_cell h] at e
  match o, e with
  | 0, e => simp at e
  | 1, e => simp at e
  | 2, e => simp at e
  | 3, e => simp at e
  | o + 4, e => simp at e
def DrawnFindViolation (w : World) (e : Ending) (w' : World) : Prop := ∃ v c, ∃ o : Int, e = .returned (.tuple #[v, .int .i64 o]) ∧ OwnC w.heap.size v c w' ∧ Small c ∧ -1 ≤ o ∧ o ≤ 7 ∧ Below w.heap.size w w'
end Go.Proofs.Ytkkkjbinfdohpaa

namespace Go.Proofs.Ytkkkjbinfdohpaa
open Go.RowKit
/-- A value of an own row of booleans, as it lies in memory. -/
theorem bools_at_own {w : World} {B n : Nat} {v : Value} {xs : List Bool} (h : w.ownsRow B 4 1 v n (bools xs)) (hn : xs.length = n) : BoolsAt w v xs := by subst hn; exact Row.of_own h
theorem boolsAt_cell {w : World} {u : Value} {xs : List Bool} {i : Nat} {b : Bool} (h : BoolsAt w u xs) (hx : xs[i]? = some b) : ∃ bb oo c, u = .slice (some ⟨bb, oo, none⟩) xs.length c ∧ bb < w.heap.size ∧ w.cell? ⟨bb, oo + i, none⟩ = some (.bool b) := by
  have hi := (List.getElem?_eq_some_iff.1 hx).1
  obtain ⟨A, c, rfl, -, -⟩ := Row.shape h
  obtain ⟨b', o', x, hA, hbl, hxx, hcell⟩ := bools_open (w := w) (wr := w) h (Below.refl _ _) (i := i) rfl hi
  subst hA
  obtain rfl : x = b := Option.some.inj (hxx.out.symm.trans hx)
  exact ⟨b', o', c, rfl, hbl, hcell⟩
end Go.Proofs.Ytkkkjbinfdohpaa

namespace Go.Proofs.Ytkkkjbinfdohpaa
open Go.RowKit
set_option maxRecDepth 100000
set_option maxHeartbeats 8000000
/-! A drawn literal. -/
theorem pick_zero (R P : Nat) (w : World) (h : Rd w R P) (hP : P ≤ 1000000) :
    Calls Try.prog 36 #[.pointer (some ⟨R, 0, none⟩), .int .i64 0] w fun e w' => e = .returned (.int .i64 0) ∧ Rd w' R (P + 1) ∧ w.grownBy w' (some R) := by
  obtain ⟨A, c, p, bs, hh, hp, hl, hc, hcm, hrow⟩ := h
  have c0 : w.cell? ⟨R, 0, none⟩ = some (.slice A bs.length c) := by simp [World.cell?, hh]
  have c1 : w.cell? ⟨R, 1, none⟩ = some (.int .i64 p) := by simp [World.cell?, hh]
  have f1 : w.frozen? ⟨R, 1, none⟩ = false := by simp [World.frozen?, hh]
  have H := Lib.hid (Rd.stored hh hp hl hc hcm hrow)
  clear hh hrow
  go_enter Try.func36, Try.ntmps36
  go_wp2_with fail
  go_ret
  exact ⟨rfl, H.out⟩
/-- A draw below any bound, none included. -/
theorem pick_most (n : Int) (hi : Nat) (R P : Nat) (w : World) (h : Rd w R P) (hP : P ≤ 1000000) (h1 : 0 ≤ n) (h2 : n ≤ hi + 1) (h3 : hi ≤ 999999) :
    Calls Try.prog 36 #[.pointer (some ⟨R, 0, none⟩), .int .i64 n] w fun e w' => ∃ x : Int, 0 ≤ x ∧ x ≤ hi ∧ e = .returned (.int .i64 x) ∧ Rd w' R (P + 1) ∧ w.grownBy w' (some R) := by
  by_cases hn : n = 0
  · subst hn
    exact (pick_zero R P w h hP).mono fun _ _ ⟨h4, h5⟩ => ⟨0, by omega, by omega, h4, h5⟩
  · exact pick_upto n hi R P w h hP (by omega) h2 h3
theorem l1First_val (i : Int) (An : Option Addr) (nn cn : Nat) (vg vo : Value) (w : World) (h1 : -10 ≤ i) (h2 : i ≤ 100) (h3 : nn ≤ 100) :
    Calls Try.prog 43 #[.agg #[.int .i64 i, .slice An nn cn, vg, vo]] w fun e w' => e = .returned (.int .i64 (i + nn + 1)) ∧ Below w.heap.size w w' := by
  go_enter Try.func43, Try.ntmps43
  go_wp2_with fail
  go_ret
  exact ⟨rfl, (Below.refl _ _).alloc (Nat.le_refl _) _⟩
def DrewLit (R P : Nat) (w : World) (e : Ending) (w' : World) : Prop := ∃ x : Int, e = .returned (.int .i64 x) ∧ -100 ≤ x ∧ x ≤ 1000 ∧ Rd w' R (P + 40) ∧ w.grownBy w' (some R)
theorem l20Lit_any (R P : Nat) (i n : Int) (An Ag Ao : Option Addr) (nn cn ng cg no co : Nat) (w : World) (h : Rd w R P) (hP : P ≤ 900000) (h1 : -1 ≤ i) (h2 : i ≤ 5) (h3 : nn ≤ 4) (h4 : ng ≤ 15) (n0 : 1 ≤ n) (n1 : n ≤ 1000) :
    Calls Try.prog 37 #[.pointer (some ⟨R, 0, none⟩), .agg #[.int .i64 i, .slice An nn cn, .slice Ag ng cg, .slice Ao no co], .int .i64 n] w (DrewLit R P w) := by
  have hb1 := bel_new w (.cells #[.int .i64 i, .slice An nn cn, .slice Ag ng cg, .slice Ao no co] 26)
  have hP1 := PCells.boxed w i (.slice An nn cn) (.slice Ag ng cg) (.slice Ao no co) 26
  have hr1 := h.alloc (.cells #[.int .i64 i, .slice An nn cn, .slice Ag ng cg, .slice Ao no co] 26)
  have hg1 : Only (· = R) w (w.alloc (.cells #[.int .i64 i, .slice An nn cn, .slice Ag ng cg, .slice Ao no co] 26)) := only_alloc (Only.refl _ w) _
  have hx1 := heap_alloc_new w (.cells #[.int .i64 i, .slice An nn cn, .slice Ag ng cg, .slice Ao no co] 26)
  have hzR := h.lt
  obtain ⟨W1, hW1⟩ : ∃ W1, w.alloc (.cells #[.int .i64 i, .slice An nn cn, .slice Ag ng cg, .slice Ao no co] 26) = W1 := ⟨_, rfl⟩
  obtain ⟨gC, hgC⟩ : ∃ g, w.heap.size = g := ⟨_, rfl⟩
  rw [hW1] at hb1 hP1 hr1 hg1 hx1
  rw [hgC] at hP1 hzR hx1
  have Hr1 := Lib.hid hr1
  have HO1 := Lib.hid hg1
  have HX1 := Lib.hid hx1
  obtain ⟨z, p0, p1, p2, p3⟩ := hP1
  obtain ⟨T, hT⟩ : ∃ T : Int, T = 2 * (i + nn + 1 + ng) := ⟨_, rfl⟩
  have hT0 : 0 ≤ T := by omega
  have hT1 : T ≤ 50 := by omega
  have hTT := Lib.hid hT
  clear h hb1 hr1 hg1 hx1 hT
  go_enter Try.func37, Try.ntmps37
  go_wp2_with fail
  try rw [hgC]
  clear hgC hW1
  refine wp_region_rs (quietRS Try.prog _ W1 _) quietRS_ok (by kernel_rfl) (by kernel_rfl) (by kernel_rfl) (Nat.le_of_ble_eq_true rfl) trivial trivial ?_
  apply rs_eq quietRS_ok quiet_any
  · intro ρ w' ho hK
    have ho : Only _ W1 w' := ho
    obtain ⟨h0, -⟩ := hK
    have h0' : ρ (.tmp 4) = _ := h0
    have hb := only_below ho
    have q0 := (hb.cell (p := ⟨gC, 0, none⟩) z).trans p0
    have q1 := (hb.cell (p := ⟨gC, 1, none⟩) z).trans p1
    have q2 := (hb.cell (p := ⟨gC, 2, none⟩) z).trans p2
    have q3 := (hb.cell (p := ⟨gC, 3, none⟩) z).trans p3
    go_simp
    try exact rfl
  refine rs_call quietRS_ok quiet_any (TEq (.int .i64 (i + nn + 1))) (stb_eq _ _) 43 _ _ rfl (fun ρ w' ho hK => by
    have ho : Only _ W1 w' := ho
    obtain ⟨h0, h1, -⟩ := hK
    have h0' : ρ (.func 43) = .func (.func 43) #[] #[] := h0
    have h1' : ρ (.tmp 8) = _ := h1
    refine ⟨#[ρ (.tmp 8)], ?_, ?_⟩
    · go_simp
    · rw [h1']
      refine (l1First_val i An nn cn _ _ w' (by omega) (by omega) (by omega)).mono ?_
      rintro e w2 ⟨rfl, hb⟩
      exact ⟨_, rfl, rfl, hb⟩) ?_
  apply rs_eq quietRS_ok quiet_any
  · intro ρ w' ho hK
    have ho : Only _ W1 w' := ho
    obtain ⟨h0, -⟩ := hK
    have h0' : ρ (.tmp 4) = _ := h0
    go_simp
    try exact rfl
  apply rs_eq quietRS_ok quiet_any
  · intro ρ w' ho hK
    have ho : Only _ W1 w' := ho
    obtain ⟨h0, -⟩ := hK
    have h0' : ρ (.tmp 10) = _ := h0
    have hb := only_below ho
    have q0 := (hb.cell (p := ⟨gC, 0, none⟩) z).trans p0
    have q1 := (hb.cell (p := ⟨gC, 1, none⟩) z).trans p1
    have q2 := (hb.cell (p := ⟨gC, 2, none⟩) z).trans p2
    have q3 := (hb.cell (p := ⟨gC, 3, none⟩) z).trans p3
    go_simp
    try exact rfl
  apply rs_eq quietRS_ok quiet_any
  · intro ρ w' ho hK
    have ho : Only _ W1 w' := ho
    obtain ⟨h0, -⟩ := hK
    have h0' : ρ (.tmp 11) = _ := h0
    go_simp
    try exact rfl
  apply rs_eq quietRS_ok quiet_any
  · intro ρ w' ho hK
    have ho : Only _ W1 w' := ho
    obtain ⟨h0, h1, -⟩ := hK
    have h0' : ρ (.tmp 9) = _ := h0
    have h1' : ρ (.tmp 12) = _ := h1
    have hw1 := IntWalk.i64_in (i + nn + 1 + ng) (by omega)
    go_simp
    try exact rfl
  apply rs_eq quietRS_ok quiet_any
  · intro ρ w' ho hK
    have ho : Only _ W1 w' := ho
    obtain ⟨h0, h1, -⟩ := hK
    have h0' : ρ (.const (Value.int IntKind.i64 2)) = (Value.int IntKind.i64 2) := h0
    have h1' : ρ (.tmp 13) = _ := h1
    have hw1 := IntWalk.i64_in (2 * (i + nn + 1 + ng)) (by omega)
    have hw2 := IntWalk.i64_in (i + nn + 1 + ng) (by omega)
    rw [← hTT.out] at hw1
    go_simp
    try exact rfl
  refine rs_same quietRS_ok quiet_any 14 6 (.inr rfl) rfl _ rfl ?_
  intro f w9 k9 hk9 hI9 ht9 hcp9
  have E0 : f 0 = _ := ht9 0 (Nat.le_of_ble_eq_true rfl)
  have E1 : f 1 = _ := ht9 1 (Nat.le_of_ble_eq_true rfl)
  have E2 : f 2 = _ := ht9 2 (Nat.le_of_ble_eq_true rfl)
  have E3 : f 3 = _ := ht9 3 (Nat.le_of_ble_eq_true rfl)
  have E4 : f 4 = _ := ht9 4 (Nat.le_of_ble_eq_true rfl)
  have E5 : f 5 = _ := ht9 5 (Nat.le_of_ble_eq_true rfl)
  have E6 : f 6 = _ := ht9 6 (Nat.le_of_ble_eq_true rfl)
  have E7 : f 7 = _ := ht9 7 (Nat.le_of_ble_eq_true rfl)
  have Ho9 : Only _ W1 w9 := hI9.2.1
  simp only [putAll, E0, E1, E2, E3, E4, E5, E6, E7, Nat.zero_add, Nat.reduceAdd, Act.put, List.setIfInBounds_toArray, List.set_cons_succ, List.set_cons_zero]
  clear E0 E1 E2 E3 E4 E5 E6 E7
  clear hI9 ht9 hcp9 hk9
  have hw1 : IntKind.i64.wrap (2 * (i + nn + 1 + ng)) = T := by rw [IntWalk.i64_in _ (by omega)]; exact hTT.out.symm
  rw [hw1]
  have hb9 := only_below Ho9
  have Hr9 := Lib.hid (Hr1.out.below hb9 (by omega))
  have HX9 := Lib.hid ((hb9.block _ (blk_lt HX1.out)).trans HX1.out)
  have HO9 := Lib.hid (HO1.out.trans (Ho9.mono fun _ h => False.elim h))
  have hTn : 0 < ng → 2 ≤ T := by have := hTT.out; omega
  clear hb9 Ho9 Hr1 HX1 HO1 hw1 z p0 p1 p2 p3 hTT
  go_wp2_with fail
  refine (odd_any n R P _ Hr9.out (by omega) n0 (by omega)).mono ?_
  rintro e w2 ⟨bb, rfl, hr, hg⟩
  have Hr2 := Lib.hid hr
  have HX2 := Lib.hid (res_grown HX9.out hg (fun e => by have := Option.some.inj e; omega))
  have HO2 := Lib.hid (only_drawn HO9.out hg (.inr rfl))
  clear hr hg Hr9 HX9 HO9
  have z := blk_lt HX2.out
  have p2 := blk_cell HX2.out 2
  simp at p2
  cases bb
  · by_cases hng : 0 < ng
    · have h2T := hTn hng
      have d1 : decide ((ng : Int) > 0) = true := decide_eq_true (by omega)
      clear hTn
      go_wp2_with fail
      refine (pick_any 2 R (P + 1) _ Hr2.out (by omega) (by omega) (by omega)).mono ?_
      rintro e w3 ⟨x, hx0, hx1, rfl, hr, hg⟩
      clear z p2
      have Hr3 := Lib.hid hr
      have HX3 := Lib.hid (res_grown HX2.out hg (fun e => by have := Option.some.inj e; omega))
      have HO3 := Lib.hid (only_drawn HO2.out hg (.inr rfl))
      clear hr hg Hr2 HX2 HO2
      by_cases hx : x = 0
      · subst hx
        by_cases h8 : T < 8
        · have d2 : decide (T < 8) = true := decide_eq_true h8
          go_wp2_with fail
          refine (pick_most T 49 R (P + 1 + 1) _ Hr3.out (by omega) (by omega) (by omega) (by omega)).mono ?_
          rintro e w4 ⟨y, hy0, hy1, rfl, hr, hg⟩
          have Hr4 := Lib.hid hr
          have HX4 := Lib.hid (res_grown HX3.out hg (fun e => by have := Option.some.inj e; omega))
          have HO4 := Lib.hid (only_drawn HO3.out hg (.inr rfl))
          clear hr hg Hr3 HX3 HO3
          have hw1 : IntKind.i64.wrap (T - 1) = T - 1 := IntWalk.i64_in _ (by omega)
          have hw2 : IntKind.i64.wrap (T - 1 - y) = T - 1 - y := IntWalk.i64_in _ (by omega)
          go_wp2_with fail
          go_ret
          exact ⟨_, rfl, by omega, by omega, Hr4.out.more (by omega), HO4.out.grownBy⟩
        · have d2 : decide (T < 8) = false := decide_eq_false h8
          go_wp2_with fail
          refine (pick_upto 8 49 R (P + 1 + 1) _ Hr3.out (by omega) (by omega) (by omega) (by omega)).mono ?_
          rintro e w4 ⟨y, hy0, hy1, rfl, hr, hg⟩
          have Hr4 := Lib.hid hr
          have HX4 := Lib.hid (res_grown HX3.out hg (fun e => by have := Option.some.inj e; omega))
          have HO4 := Lib.hid (only_drawn HO3.out hg (.inr rfl))
          clear hr hg Hr3 HX3 HO3
          have hw1 : IntKind.i64.wrap (T - 1) = T - 1 := IntWalk.i64_in _ (by omega)
          have hw2 : IntKind.i64.wrap (T - 1 - y) = T - 1 - y := IntWalk.i64_in _ (by omega)
          go_wp2_with fail
          go_ret
          exact ⟨_, rfl, by omega, by omega, Hr4.out.more (by omega), HO4.out.grownBy⟩
      · have d2 : (x == 0) = false := by simpa using hx
        go_wp2_with fail
        refine (pick_most T 49 R (P + 1 + 1) _ Hr3.out (by omega) (by omega) (by omega) (by omega)).mono ?_
        rintro e w4 ⟨y, hy0, hy1, rfl, hr, hg⟩
        have Hr4 := Lib.hid hr
        have HX4 := Lib.hid (res_grown HX3.out hg (fun e => by have := Option.some.inj e; omega))
        have HO4 := Lib.hid (only_drawn HO3.out hg (.inr rfl))
        clear hr hg Hr3 HX3 HO3
        go_wp2_with fail
        go_ret
        exact ⟨_, rfl, by omega, by omega, Hr4.out.more (by omega), HO4.out.grownBy⟩
    · have d1 : decide ((ng : Int) > 0) = false := decide_eq_false (by omega)
      clear hTn
      go_wp2_with fail
      refine (pick_most T 49 R (P + 1) _ Hr2.out (by omega) (by omega) (by omega) (by omega)).mono ?_
      rintro e w3 ⟨y, hy0, hy1, rfl, hr, hg⟩
      clear z p2
      have Hr3 := Lib.hid hr
      have HX3 := Lib.hid (res_grown HX2.out hg (fun e => by have := Option.some.inj e; omega))
      have HO3 := Lib.hid (only_drawn HO2.out hg (.inr rfl))
      clear hr hg Hr2 HX2 HO2
      go_wp2_with fail
      go_ret
      exact ⟨_, rfl, by omega, by omega, Hr3.out.more (by omega), HO3.out.grownBy⟩
  · clear hTn
    have HX3 := Lib.hid (res_grown HX2.out (World.grownBy_alloc w2 (.cells #[.int .i64 (-1), .int .i64 T] 3) none) (by simp))
    have HO3 := Lib.hid (only_alloc HO2.out (.cells #[.int .i64 (-1), .int .i64 T] 3))
    have Hr3 := Lib.hid (Hr2.out.alloc (.cells #[.int .i64 (-1), .int .i64 T] 3))
    have HA := Lib.hid (heap_alloc_new w2 (.cells #[.int .i64 (-1), .int .i64 T] 3))
    have hRz := Hr2.out.lt
    clear HX2 HO2 Hr2 p2 z
    go_wp2_with fail
    generalize w2.alloc (.cells #[.int .i64 (-1), .int .i64 T] 3) = w3 at *
    obtain ⟨gA, hgA⟩ : ∃ g, w2.heap.size = g := ⟨_, rfl⟩
    rw [hgA] at HA hRz
    try rw [hgA]
    clear hgA
    refine (pick_any 2 R (P + 1) _ Hr3.out (by omega) (by omega) (by omega)).mono ?_
    rintro e w4 ⟨x, hx0, hx1, rfl, hr, hg⟩
    have HA4 := Lib.hid (res_grown HA.out hg (fun e => by have := Option.some.inj e; omega))
    clear HA
    have Hr4 := Lib.hid hr
    have HX4 := Lib.hid (res_grown HX3.out hg (fun e => by have := Option.some.inj e; omega))
    have HO4 := Lib.hid (only_drawn HO3.out hg (.inr rfl))
    clear hr hg Hr3 HX3 HO3
    have a0 := blk_cell HA4.out 0
    have a1 := blk_cell HA4.out 1
    simp at a0 a1
    rcases (show x = 0 ∨ x = 1 by omega) with rfl | rfl
    · go_wp2_with fail
      go_ret
      exact ⟨_, rfl, by omega, by omega, Hr4.out.more (by omega), HO4.out.grownBy⟩
    · go_wp2_with fail
      go_ret
      exact ⟨_, rfl, by omega, by omega, Hr4.out.more (by omega), HO4.out.grownBy⟩
end Go.Proofs.Ytkkkjbinfdohpaa

namespace Go.Proofs.Ytkkkjbinfdohpaa
open Go.RowKit
/-! Drawn regions with draws and one append of one element of two drawn cells. -/
def JV2 (T B : Nat) (e : TypeId) (v : Value) (n : Nat) (cs : List Value) (G : Value → Prop) : Option Value → World → Prop
  | none, w => w.ownsRow B e 2 v n cs
  | some v', w => (∃ a b, G a ∧ G b ∧ w.ownsRow B e 2 v' (n + 1) (cs ++ [a, b])) ∧ ∀ g, v'.ownBlock = some g → v.ownBlock = some g ∨ T ≤ g
@[reducible] def rdRS2 (Pg : Program) (ops : Array Oper) (R P : Nat) (w : World) (a : Act) (B : Nat) (e : TypeId) (v : Value) (n : Nat) (cs : List Value) (G : Value → Prop) (d : Nat) : RS :=
  { P := Pg, ops := ops, E := fun g => g = R ∨ v.ownBlock = some g, F := (· = R), rd := some (R, P), w0 := w, J := JV2 w.heap.size B e v n cs G, d := d, a0 := a }
theorem rdRS2_ok {Pg : Program} {ops : Array Oper} {R P : Nat} {w : World} {a : Act} {B : Nat} {e : TypeId} {v : Value} {n : Nat} {cs : List Value} {G : Value → Prop} {d : Nat} (h : R < w.heap.size) (hB : R < B) (hown : w.ownsRow B e 2 v n cs) : (rdRS2 Pg ops R P w a B e v n cs G d).Ok :=
  ⟨fun _ h => .inl h, fun ov w1 w2 hj ho => by
    have hg : w1.grownBy w2 (some R) := ho.grownBy
    cases ov with
    | none =>
      have hj' : w1.ownsRow B e 2 v n cs := hj
      exact own_kept hj' hg fun g hv e => by have h1 := (hj'.lt g hv).1; have h2 := Option.some.inj e; omega
    | some v' =>
      obtain ⟨⟨x, y, hx, hy, hj'⟩, hp⟩ := hj
      exact ⟨⟨x, y, hx, hy, own_kept hj' hg fun g hv e => by have h1 := (hj'.lt g hv).1; have h2 := Option.some.inj e; omega⟩, hp⟩,
    fun _ _ e => by cases e; exact ⟨rfl, h⟩, fun g hg => by
      rcases hg with rfl | hg
      · exact h
      · exact (hown.lt g hg).2⟩
/-- A literal of one element of two cells. -/
def TLit2 (E : Nat → Prop) (G : Value → Prop) : Ty := fun w v => ∃ g a b, v = .slice (some ⟨g, 0, none⟩) 1 1 ∧ ¬ E g ∧ g < w.heap.size ∧ w.cell? ⟨g, 0, none⟩ = some a ∧ w.cell? ⟨g, 1, none⟩ = some b ∧ G a ∧ G b
theorem stb_lit2 (E : Nat → Prop) (G : Value → Prop) : Stb E (TLit2 E G) := by
  rintro v w w' ⟨g, a, b, rfl, hE, hl, ha, hb, h1, h2⟩ ho
  exact ⟨g, a, b, rfl, hE, Nat.lt_of_lt_of_le hl ho.size, cell_on ho hE hl ha, cell_on ho hE hl hb, h1, h2⟩
section
variable {S : RS} {Fin : List Ty → Prop} {o : Oper} {l : List Oper} {i : Nat} {τs : List Ty}
theorem rs_build2 (hO : S.Ok) (hid : i ≠ S.d ∨ ∀ ov w, S.J ov w) (G : Value → Prop) (e : TypeId)
    (h : ∀ ρ w, Known S.ops (tys τs) S.a0 ρ w i o.op.operands.toList → ∃ a b : Value, (execOp ρ o).run S.P w = .ok (.value (.slice (some ⟨w.heap.size, 0, none⟩) 1 1)) (w.alloc (.cells #[a, b] e)) ∧ G a ∧ G b)
    (rest : RSeq S Fin l (i + 1) (TLit2 S.E G :: τs)) : RSeq S Fin (o :: l) i τs := by
  refine rs_plain hO hid _ (stb_lit2 _ _) (fun k ρ w hk hr hon hK => ?_) rest
  obtain ⟨a, b, h2, h3, h4⟩ := h ρ w hK
  unfold Good
  rw [h2]
  have hb : Below w.heap.size w (w.alloc (.cells #[a, b] e)) := (Below.refl _ _).alloc (Nat.le_refl _) _
  refine ⟨⟨w.heap.size, a, b, rfl, fun hE => ?_, by simp, by rw [World.cell?_alloc_new]; rfl, by rw [World.cell?_alloc_new]; rfl, h3, h4⟩, ?_, Only.of_below _ hb⟩
  · have h4 := hO.low _ hE
    have h5 := hon.size
    omega
  · have hr' := rdO_more hr
    cases hrd : S.rd with
    | none => trivial
    | some x =>
      rw [hrd] at hr'
      exact Rd.alloc hr' _
/-- The append. -/
theorem rs_appendV2 (hd : i = S.d) (B : Nat) (e t : TypeId) (v : Value) (n : Nat) (cs : List Value) (G : Value → Prop) (hJ : S.J = JV2 S.w0.heap.size B e v n cs G) (R P : Nat) (hrd : S.rd = some (R, P)) (hE : ∀ g, v.ownBlock = some g → S.E g) (hRB : R < B) (hB : B ≤ S.w0.heap.size)
    (x y : Nat) (ho : o.op = .call { callee := .builtin .append, args := #[.tmp x, .tmp y], argTypes := #[t, t] }) (jx jy : Nat) (hx : writer S.ops i x = some jx) (hy : writer S.ops i y = some jy) (hTx : tys τs jx = TEq v) (hTy : tys τs jy = TLit2 S.E G)
    (inf : TypeInfo) (z : Value) (bytes : Nat) (ht : S.P.underlying t = some (.slice e)) (hi : S.P.info? e = some inf) (hz : inf.zero = some z) (hsize : inf.size = 2) (hby : inf.bytes = bytes) (hzs : z.cells.size = 2) (h63 : n ≤ 1000000) (hbb : bytes ≤ 1000) (hone : ∀ u, G u → u.oneCell' = true)
    (rest : RSeq S Fin l (i + 1) (TAny :: τs)) : RSeq S Fin (o :: l) i τs := by
  intro _
  refine ⟨TAny, stb_any _, fun k ov ρ w hk hI hov hK => ?_, rest⟩
  obtain rfl := hov (by rw [hd]; exact ancB_self _ _ _)
  rw [ho] at hK
  have h1 := hK.1
  have h2 := hK.2.1
  rw [hx] at h1
  rw [hy] at h2
  simp only [hTx] at h1
  simp only [hTy] at h2
  have h1' : ρ (.tmp x) = v := h1
  obtain ⟨g, a, b, hv, hg, hl, hqa, hqb, hGa, hGb⟩ := h2
  have hown : w.ownsRow B e 2 v n cs := by have := hI.2.2; rw [hJ] at this; exact this
  have hr : Row w 2 (.slice (some ⟨g, 0, none⟩) 1 1) 1 [a, b] := ⟨rfl, _, 1, rfl, Nat.le_refl _, by unfold maxLen; omega, fun _ => ⟨g, 0, rfl, hl, fun j u hu => by
    match j, hu with
    | 0, hu => have := Option.some.inj hu; subst this; exact hqa
    | 1, hu => have := Option.some.inj hu; subst this; exact hqb
    | j + 2, hu => simp at hu⟩⟩
  obtain ⟨v', w', hrun, hown', hgr, hat⟩ := run_append_row_at (P := S.P) w B t o.type e inf z 2 bytes ht hi hz hsize hby hzs (by decide) v n cs hown _ 1 [a, b] hr (by
    intro u hu
    rcases List.mem_cons.1 hu with rfl | hu
    · exact hone _ hGa
    · rw [List.mem_singleton.1 hu]; exact hone _ hGb) (by unfold maxLen; omega) (Nat.le_trans (Nat.mul_le_mul (show n + 1 ≤ 1000001 by omega) hbb) (by decide)) (Nat.le_trans hB hI.2.1.size)
  have hre : (execOp ρ o).run S.P w = .ok (.value v') w' := by
    unfold execOp
    simp only [ho, resolve, invoke, builtin, Sem.run_bind, Sem.run_pure, Result.andThen_ok, List.map_toArray, List.map_cons, List.map_nil, h1', hv, hrun]
  unfold Good
  rw [hre]
  have hon : Only S.E w w' := Only.grown hgr hE
  refine ⟨trivial, ⟨?_, hI.2.1.trans hon, ?_⟩, hon⟩
  · have hr' := hI.1
    rw [hrd] at hr' ⊢
    have hr'' : Rd w R (P + 40 * k) := hr'
    exact (hr''.grown hgr fun q hq => by have := (hown.lt q hq).1; omega).more (by omega)
  · rw [if_pos hd, hJ]
    refine ⟨⟨a, b, hGa, hGb, hown'⟩, fun g hg => ?_⟩
    rcases hat with h | h
    · exact .inl (h.symm.trans hg)
    · have := Option.some.inj (h.symm.trans hg)
      have h5 := hI.2.1.size
      exact .inr (by omega)
end
end Go.Proofs.Ytkkkjbinfdohpaa

namespace Go.Proofs.Ytkkkjbinfdohpaa
open Go.RowKit
set_option maxRecDepth 100000
/-! DrawTableOf. -/
def DrawnTableOf (w : World) (e : Ending) (w' : World) : Prop := ∃ v c, ∃ o : Int, e = .returned (.tuple #[v, .int .i64 o]) ∧ OwnC w.heap.size v c w' ∧ Small c ∧ -100 ≤ o ∧ o ≤ 1000 ∧ Below w.heap.size w w'
/-- The circuit under construction: its box, its gates. -/
structure CG (gm : Nat) (i : Int) (vO : Value) (gs : List (Int × Int)) (vG : Value) (w : World) : Prop where
  box : w.heap[gm]? = some (.cells #[.int .i64 i, .slice none 0 0, vG, vO] 26 (0, 0))
  g : w.ownsRow (gm + 1) 64 2 vG gs.length (cubes gs)
theorem set4 {w : World} {k : Nat} {x0 x1 x2 x3 u : Value} {t : TypeId} (h : w.heap[k]? = some (.cells #[x0, x1, x2, x3] t (0, 0))) : (w.setCell ⟨k, 1, none⟩ u).heap[k]? = some (.cells #[x0, u, x2, x3] t (0, 0)) ∧ (w.setCell ⟨k, 2, none⟩ u).heap[k]? = some (.cells #[x0, x1, u, x3] t (0, 0)) ∧ (w.setCell ⟨k, 3, none⟩ u).heap[k]? = some (.cells #[x0, x1, x2, u] t (0, 0)) := by
  refine ⟨?_, ?_, ?_⟩
  · rw [heap_setCell_same w k 1 _ _ _ h]; simp
  · rw [heap_setCell_same w k 2 _ _ _ h]; simp
  · rw [heap_setCell_same w k 3 _ _ _ h]; simp
set_option maxHeartbeats 16000000 in
/-- The end: a literal is drawn, and the circuit is stored. -/
theorem drawTableOf_any (v : Value) (bs : List Int) (w : World) (h : Row w 1 v bs.length (bs.map (Value.int .u8))) (hb : ∀ x ∈ bs, (Lit.int .u8 x).wf = true) (hl : bs.length ≤ 1048576) :
    Calls Try.prog 7 #[v] w (DrawnTableOf w) := by
  have H := Lib.hid h
  clear h
  have hX := heap_alloc_new w (.cells #[.int .i64 0, .slice none 0 0, .slice none 0 0, .slice none 0 0] 26)
  have HB0 := Lib.hid (bel_new w (.cells #[.int .i64 0, .slice none 0 0, .slice none 0 0, .slice none 0 0] 26))
  have hs : (w.alloc (.cells #[.int .i64 0, .slice none 0 0, .slice none 0 0, .slice none 0 0] 26)).heap.size = w.heap.size + 1 := by simp
  have HX := Lib.hid hX
  clear hX
  go_enter Try.func7, Try.ntmps7
  go_wp2_with fail
  have H0 := Lib.hid (H.out.alloc (.cells #[.int .i64 0, .slice none 0 0, .slice none 0 0, .slice none 0 0] 26))
  generalize w.alloc (.cells #[.int .i64 0, .slice none 0 0, .slice none 0 0, .slice none 0 0] 26) = W at *
  refine (open_any _ bs _ H0.out hb hl).mono ?_
  rintro e w1 ⟨rfl, hr1, hb1⟩
  rw [hs] at hr1
  have HZ1 := Lib.hid hr1.lt
  have Hr1 := Lib.hid hr1
  have Hb1 := Lib.hid (HB0.out.trans (hb1.mono HB0.out.size))
  have HX1 := Lib.hid ((hb1.block _ (by omega)).trans HX.out)
  clear hr1 hb1 HX HB0 H H0 hb hl
  go_wp2_with fail
  refine (l20Circuit_any _ 0 12 _ Hr1.out (by omega) (by omega) (by omega)).mono ?_
  rintro e w2 ⟨v2, c, rfl, hO, hS, hr2, hg2⟩
  have HX2 := Lib.hid (res_grown HX1.out hg2 (fun e => by have := Option.some.inj e; omega))
  have Hb2 := Lib.hid (Hb1.out.grown hg2 Hb1.out.size (fun k hk => by have := Option.some.inj hk; omega))
  have HO := Lib.hid hO
  have HS := Lib.hid hS
  obtain ⟨An, cn, Ag, cg, Ao, co, rfl⟩ := hO.shape
  obtain ⟨s1, s2, s3, s4, s5, -⟩ := hS
  have Hr2 := Lib.hid hr2
  have HZ2 := Lib.hid hg2.size
  clear hr2 hg2 hO HX1 Hb1 Hr1
  go_wp2_with fail
  have hb3 := bel_new w2 (.cells #[.int .i64 c.ins, .slice An c.next.length cn, .slice Ag c.gates.length cg, .slice Ao c.outs.length co] 26)
  have HO3 := Lib.hid (HO.out.only (E := fun _ => False) (Only.of_below _ hb3) fun _ _ e => e)
  have HX3 := Lib.hid ((hb3.block _ (blk_lt HX2.out)).trans HX2.out)
  have Hr3 := Lib.hid (Hr2.out.alloc (.cells #[.int .i64 c.ins, .slice An c.next.length cn, .slice Ag c.gates.length cg, .slice Ao c.outs.length co] 26))
  have Hb3 := Lib.hid (Hb2.out.trans (hb3.mono Hb2.out.size))
  have HM3 := Lib.hid (heap_alloc_new w2 (.cells #[.int .i64 c.ins, .slice An c.next.length cn, .slice Ag c.gates.length cg, .slice Ao c.outs.length co] 26))
  obtain ⟨gm, hgm⟩ : ∃ gm, w2.heap.size = gm := ⟨_, rfl⟩
  rw [hgm] at HM3 HZ2
  try rw [hgm]
  clear HO HX2 Hr2 Hb2 hb3 hgm
  generalize w2.alloc (.cells #[.int .i64 c.ins, .slice An c.next.length cn, .slice Ag c.gates.length cg, .slice Ao c.outs.length co] 26) = w3 at *
  have hgm2 : w.heap.size + 1 < gm := Nat.lt_of_lt_of_le HZ1.out HZ2.out
  refine (pick_any 5 _ _ _ Hr3.out (by omega) (by omega) (by omega)).mono ?_
  rintro e w4 ⟨x, hx0, hx1, rfl, hr4, hg4⟩
  have Hr4 := Lib.hid hr4
  have HX4 := Lib.hid (res_grown HX3.out hg4 (fun e => by have := Option.some.inj e; omega))
  have HM4 := Lib.hid (res_grown HM3.out hg4 (fun e => by have := Option.some.inj e; omega))
  have Hb4 := Lib.hid (Hb3.out.grown hg4 Hb3.out.size (fun k hk => by have := Option.some.inj hk; omega))
  have HO4 := Lib.hid (HO3.out.only (E := (· = w.heap.size + 1)) (Only.grown hg4 fun k hk => (Option.some.inj hk).symm) (fun g hg => by have := HZ1.out; omega))
  clear hr4 hg4 Hr3 HX3 HM3 Hb3 HO3
  by_cases hx : x > 0
  · have d1 : decide (x > 0) = true := decide_eq_true hx
    have b1 := blk_free HM4.out 1
    have b2 := blk_free HM4.out 2
    have zm := blk_lt HM4.out
    have c0 := blk_cell HM4.out 0
    have c1 := blk_cell HM4.out 1
    have c2 := blk_cell HM4.out 2
    simp at c0 c1 c2
    have hw0 : IntKind.i64.wrap (c.ins + 1) = c.ins + 1 := IntWalk.i64_in _ (by omega)
    clear hx
    go_wp2_with fail
    have hbx := (set4 (u := .slice none 0 0) (set4 (u := .slice none 0 0) HM4.out).1).2.1
    have Hr5 := Lib.hid (rd_set (i := 2) (v := .slice none 0 0) (rd_set (i := 1) (v := .slice none 0 0) Hr4.out (show w.heap.size + 1 < gm by omega)) (show w.heap.size + 1 < gm by omega))
    have HX5 := Lib.hid (res_set (i := 2) (v := .slice none 0 0) (res_set (i := 1) (v := .slice none 0 0) HX4.out (show w.heap.size ≠ gm by omega)) (show w.heap.size ≠ gm by omega))
    have Hb5 := Lib.hid ((Hb4.out.setCell (p := ⟨gm, 1, none⟩) (by simp only; omega) (.slice none 0 0)).setCell (p := ⟨gm, 2, none⟩) (by simp only; omega) (.slice none 0 0))
    have HC5 : Hid (CG gm c.ins (.slice Ao c.outs.length co) [] (.slice none 0 0) ((w4.setCell ⟨gm, 1, none⟩ (.slice none 0 0)).setCell ⟨gm, 2, none⟩ (.slice none 0 0))) := Lib.hid ⟨hbx, World.ownsRow_nil _ _ _ _⟩
    generalize (w4.setCell ⟨gm, 1, none⟩ (.slice none 0 0)).setCell ⟨gm, 2, none⟩ (.slice none 0 0) = w5 at *
    clear hbx b1 b2 zm c0 c1 c2 hw0 Hr4 HX4 HM4 Hb4 HO4 hx0 hx1
    refine (pick_any 8 _ _ _ Hr5.out (by omega) (by omega) (by omega)).mono ?_
    rintro e w6 ⟨K0, hk0, hk1, rfl, hr6, hg6⟩
    have Hr6 := Lib.hid hr6
    have HX6 := Lib.hid (res_grown HX5.out hg6 (fun e => by have := Option.some.inj e; omega))
    have Hb6 := Lib.hid (Hb5.out.grown hg6 Hb5.out.size (fun k hk => by have := Option.some.inj hk; omega))
    have HC6 : Hid (CG gm c.ins (.slice Ao c.outs.length co) [] (.slice none 0 0) w6) := Lib.hid ⟨res_grown HC5.out.box hg6 (fun e => by have := Option.some.inj e; omega), World.ownsRow_nil _ _ _ _⟩
    clear hr6 hg6 Hr5 HX5 Hb5 HC5
    go_wp2_with fail
    go_loopw [6, 7] (fun m k wr => ∃ (M K : Int) (gs : List (Int × Int)) (vG : Value), m = .int .i64 M ∧ k = .int .i64 K ∧ 0 ≤ K ∧ gs.length + K ≤ 7 ∧ 0 ≤ M ∧ M ≤ 6 + gs.length ∧ Hid (∀ q ∈ gs, LitS q.1 ∧ LitS q.2) ∧ Hid (CG gm c.ins (.slice Ao c.outs.length co) gs vG wr) ∧ Hid (Rd wr (w.heap.size + 1) (11000 + 700 * gs.length)) ∧ Hid (wr.heap[w.heap.size]? = some (.cells #[.int .i64 0, .slice none 0 0, .slice none 0 0, .slice none 0 0] 26 (0, 0))) ∧ Hid (Below w.heap.size w wr)) (fun _ k _ => (intOf k).toNat)
    case atStart => exact ⟨_, K0, [], _, rfl, rfl, hk0, by simp; omega, by omega, by simp; omega, Lib.hid (by simp), HC6, Lib.hid (Hr6.out.more (by simp)), HX6, Hb6⟩
    case round =>
      obtain ⟨M, K, gs, vG, rfl, rfl, hK, hKl, hM, hM2, Hl, HC, Hr, HX, Hb⟩ := hrel
      clear HC6 Hr6 HX6 Hb6
      by_cases hpos : K > 0
      · have d3 : decide (K > 0) = true := decide_eq_true hpos
        by_cases hmp : M > 0
        · have d4 : decide (M > 0) = true := decide_eq_true hmp
          go_wp2_with fail
          have hO := fun ops a => rdRS2_ok (Pg := Try.prog) (ops := ops) (P := 11000 + 700 * gs.length) (a := a) (G := GInt (-100) 1000) (d := 12) Hr.out.lt (show w.heap.size + 1 < gm + 1 by omega) HC.out.g
          have zm := blk_lt HC.out.box
          have p2 := blk_cell HC.out.box 2
          simp at p2
          have hneN : ¬ (gm = w.heap.size + 1 ∨ vG.ownBlock = some gm) := fun e => by
            rcases e with e | e
            · omega
            · have := (HC.out.g.lt gm e).1; omega
          refine wp_region_rsl (rdRS2 Try.prog _ (w.heap.size + 1) (11000 + 700 * gs.length) wr _ (gm + 1) 64 vG gs.length (cubes gs) (GInt (-100) 1000) 12) (hO _ _) (by kernel_rfl) (by kernel_rfl) (by kernel_rfl) 14 _ rfl rfl (by kernel_rfl) (show (12 : Nat) < 14 by decide) Hr.out HC.out.g ?_
          obtain ⟨i0, hi0, hz0, hz1, hz2⟩ := info_parts info_gate'
          apply rs_eq (hO _ _) (.inl (Nat.ne_of_beq_eq_false rfl))
          · intro ρ w' ho hK
            obtain ⟨h0, -⟩ := hK
            have h0' : ρ (.tmp 5) = .pointer (some ⟨gm, 0, none⟩) := h0
            go_simp
            try exact rfl
          apply rs_eq (hO _ _) (.inl (Nat.ne_of_beq_eq_false rfl))
          · intro ρ w' ho hK
            obtain ⟨h0, -⟩ := hK
            have h0' : ρ (.tmp 30) = .pointer (some ⟨gm, 2, none⟩) := h0
            have q2 := cell_on ho hneN zm p2
            go_simp
            try exact rfl
          refine rs_old (hO _ _) (.inl (Nat.ne_of_beq_eq_false rfl)) _ (.inl rfl) _ rfl rfl ?_
          refine rs_old (hO _ _) (.inl (Nat.ne_of_beq_eq_false rfl)) _ (.inl rfl) _ rfl rfl ?_
          apply rs_eq (hO _ _) (.inl (Nat.ne_of_beq_eq_false rfl))
          · intro ρ w' ho hK
            obtain ⟨h0, h1, -⟩ := hK
            have h0' : ρ (.const (.int .i64 2)) = .int .i64 2 := h0
            have h1' : ρ (.tmp 33) = .int .i64 M := h1
            have hwr := IntWalk.i64_in (2 * M) (by omega)
            go_simp
            try exact rfl
          refine rs_pick (hO _ _) (.inl (Nat.ne_of_beq_eq_false rfl)) 36 _ _ _ (w.heap.size + 1) (11000 + 700 * gs.length) 43 rfl rfl fn_draw (fun ρ w hK => ⟨hK.1, hK.2.1, 2 * M, hK.2.2.1, by omega, by omega⟩) (fun n k w hk h1n hn hr => pick_upto n 43 _ _ w hr (by have hk' : k < 15 := hk; omega) h1n hn (by omega)) ?_
          refine rs_old (hO _ _) (.inl (Nat.ne_of_beq_eq_false rfl)) _ (.inl rfl) _ rfl rfl ?_
          refine rs_old (hO _ _) (.inl (Nat.ne_of_beq_eq_false rfl)) _ (.inl rfl) _ rfl rfl ?_
          apply rs_eq (hO _ _) (.inl (Nat.ne_of_beq_eq_false rfl))
          · intro ρ w' ho hK
            obtain ⟨h0, h1, -⟩ := hK
            have h0' : ρ (.const (.int .i64 2)) = .int .i64 2 := h0
            have h1' : ρ (.tmp 37) = .int .i64 M := h1
            have hwr := IntWalk.i64_in (2 * M) (by omega)
            go_simp
            try exact rfl
          refine rs_pick (hO _ _) (.inl (Nat.ne_of_beq_eq_false rfl)) 36 _ _ _ (w.heap.size + 1) (11000 + 700 * gs.length) 43 rfl rfl fn_draw (fun ρ w hK => ⟨hK.1, hK.2.1, 2 * M, hK.2.2.1, by omega, by omega⟩) (fun n k w hk h1n hn hr => pick_upto n 43 _ _ w hr (by have hk' : k < 15 := hk; omega) h1n hn (by omega)) ?_
          refine rs_pure (hO _ _) (.inl (Nat.ne_of_beq_eq_false rfl)) (TOf fun v => ∃ a b : Int, v = .agg #[.int .i64 a, .int .i64 b] ∧ (0 ≤ a ∧ a ≤ 43) ∧ 0 ≤ b ∧ b ≤ 43) (stb_of _ _) (fun ρ w hK => by
            obtain ⟨⟨qa, ha, ha0, ha1⟩, ⟨qb, hb, hb0, hb1⟩, -⟩ := hK
            have ha' : ρ (.tmp 35) = .int .i64 qa := ha
            have hb' : ρ (.tmp 39) = .int .i64 qb := hb
            refine ⟨.agg #[.int .i64 qa, .int .i64 qb], ?_, qa, qb, rfl, ⟨ha0, ha1⟩, hb0, hb1⟩
            go_simp) ?_
          refine rs_build2 (hO _ _) (.inl (Nat.ne_of_beq_eq_false rfl)) (GInt (-100) 1000) 64 (fun ρ w hK => by
            obtain ⟨⟨qa, qb, hq, ⟨ha0, ha1⟩, hb0, hb1⟩, -⟩ := hK
            have h' : ρ (.tmp 40) = .agg #[.int .i64 qa, .int .i64 qb] := hq
            refine ⟨.int .i64 qa, .int .i64 qb, ?_, ⟨qa, rfl, by omega, by omega⟩, ⟨qb, rfl, by omega, by omega⟩⟩
            go_simp) ?_
          refine rs_appendV2 rfl (gm + 1) 64 24 vG gs.length (cubes gs) (GInt (-100) 1000) rfl (w.heap.size + 1) (11000 + 700 * gs.length) rfl (fun g hg => .inr hg) (show w.heap.size + 1 < gm + 1 by omega) zm _ _ rfl _ _ rfl rfl rfl rfl i0 _ 16 Try.underlying24 hi0 hz0 hz1 hz2 rfl (by omega) (by decide) (fun u hu => by obtain ⟨q, rfl, -⟩ := hu; rfl) ?_
          apply rs_eq (hO _ _) (.inl (Nat.ne_of_beq_eq_false rfl))
          · intro ρ w' ho hK
            obtain ⟨h0, -⟩ := hK
            have h0' : ρ (.tmp 5) = .pointer (some ⟨gm, 0, none⟩) := h0
            go_simp
            try exact rfl
          intro f w9 k9 hk9 hI9 ht9 hcp9
          have E0 : f 0 = _ := ht9 0 (Nat.le_of_ble_eq_true rfl)
          have E1 : f 1 = _ := ht9 1 (Nat.le_of_ble_eq_true rfl)
          have E2 : f 2 = _ := ht9 2 (Nat.le_of_ble_eq_true rfl)
          have E3 : f 3 = _ := ht9 3 (Nat.le_of_ble_eq_true rfl)
          have E4 : f 4 = _ := ht9 4 (Nat.le_of_ble_eq_true rfl)
          have E6 : f 6 = _ := ht9 6 (Nat.le_of_ble_eq_true rfl)
          have E7 : f 7 = _ := ht9 7 (Nat.le_of_ble_eq_true rfl)
          have E8 : f 8 = _ := ht9 8 (Nat.le_of_ble_eq_true rfl)
          have E13 : f 13 = _ := ht9 13 (Nat.le_of_ble_eq_true rfl)
          have Hr9 : Rd w9 (w.heap.size + 1) (11000 + 700 * gs.length + 40 * k9) := hI9.1
          have HE9 : Only (fun g => g = w.heap.size + 1 ∨ vG.ownBlock = some g) wr w9 := hI9.2.1
          have HJ9 : (∃ a b, GInt (-100) 1000 a ∧ GInt (-100) 1000 b ∧ w9.ownsRow (gm + 1) 64 2 (f 12) (gs.length + 1) (cubes gs ++ [a, b])) ∧ ∀ g, (f 12).ownBlock = some g → vG.ownBlock = some g ∨ wr.heap.size ≤ g := hI9.2.2
          have hk9' : k9 ≤ 15 := hk9
          simp only [putAll, E0, E1, E2, E3, E4, E6, E7, E8, E13, Nat.zero_add, Nat.reduceAdd, Act.put, List.take, List.setIfInBounds_toArray, List.set_cons_succ, List.set_cons_zero]
          clear E0 E1 E2 E3 E4 E6 E7 E8 E13 hI9 ht9 hcp9 hk9 hO
          generalize f 5 = r5, f 9 = r9, f 10 = r10, f 11 = r11 at *
          generalize f 12 = v9 at *
          simp only [List.getElem_toArray, List.getElem_cons_succ, List.getElem_cons_zero]
          obtain ⟨⟨ua, ub, ⟨qa, rfl, hqa0, hqa1⟩, ⟨qb, rfl, hqb0, hqb1⟩, hown9⟩, hat9⟩ := HJ9
          obtain ⟨A9, c9, e9⟩ := slice_of_own hown9
          subst e9
          have Hr9' := Lib.hid (Hr9.more (show 11000 + 700 * gs.length + 40 * k9 ≤ 11000 + 700 * (gs.length + 1) by omega))
          have hbx := (HE9.block gm zm hneN).trans HC.out.box
          have hX9 := (HE9.block _ (blk_lt HX.out) (fun e => by
            rcases e with h | h
            · omega
            · have := (HC.out.g.lt _ h).1; omega)).trans HX.out
          have HX9 := Lib.hid hX9
          have hB9 := Only.below Hb.out HE9 Hb.out.size (fun g hg => by
            rcases hg with h | h
            · omega
            · have := (HC.out.g.lt _ h).1; omega)
          have HB9 := Lib.hid hB9
          have HBx := Lib.hid hbx
          have Ho9 := Lib.hid hown9
          have q2 := blk_cell hbx 2
          have q2f := blk_free hbx 2
          have zq := blk_lt hbx
          simp at q2
          clear hown9 hat9 HE9 Hr9 hbx hX9 hB9 p2 hk9' hi0 hz0 hz1 hz2 zm hneN
          have hwM : IntKind.i64.wrap (M + 1) = M + 1 := IntWalk.i64_in _ (by omega)
          have hwK : IntKind.i64.wrap (K - 1) = K - 1 := IntWalk.i64_in _ (by omega)
          go_wp2_with fail
          go_roundw
          case rel =>
            refine ⟨M + 1, K - 1, gs ++ [(qa, qb)], .slice A9 (gs.length + 1) c9, rfl, rfl, by omega, by simp; omega, by omega, by simp; omega, Lib.hid fun q hq => ?_, Lib.hid ⟨?_, ?_⟩, Lib.hid ?_, Lib.hid ?_, Lib.hid ?_⟩
            · rcases List.mem_append.1 hq with h | h
              · exact Hl.out q h
              · rw [List.mem_singleton.1 h]
                exact ⟨⟨hqa0, hqa1⟩, hqb0, hqb1⟩
            · exact (set4 HBx.out).2.1
            · rw [List.length_append, cubes_append]
              exact own_set Ho9.out (by omega)
            · exact (rd_set Hr9'.out (by omega)).more (by simp)
            · exact res_set HX9.out (by omega)
            · exact HB9.out.setCell (by simp only; omega) _
          case measure => simp [intOf]; omega
        · have d4 : decide (M > 0) = false := decide_eq_false hmp
          obtain ⟨Ag', cg', eg⟩ := slice_of_own HC.out.g
          subst eg
          have b3 := blk_free HC.out.box 3
          have zm := blk_lt HC.out.box
          have c3 := blk_cell HC.out.box 3
          simp at c3
          go_wp2_with fail
          have HMf := Lib.hid (set4 (u := .slice none 0 0) HC.out.box).2.2
          have HXf := Lib.hid (res_set (i := 3) (v := .slice none 0 0) HX.out (show w.heap.size ≠ gm by omega))
          have Hrf := Lib.hid ((rd_set (i := 3) (v := .slice none 0 0) Hr.out (show w.heap.size + 1 < gm by omega)).more (show 11000 + 700 * gs.length ≤ 20000 by omega))
          have Hbf := Lib.hid (Hb.out.setCell (p := ⟨gm, 3, none⟩) (by simp only; omega) (.slice none 0 0))
          have HOf : Hid (OwnC (w.heap.size + 2) (.agg #[.int .i64 c.ins, .slice none 0 0, .slice Ag' gs.length cg', .slice none 0 0]) ⟨c.ins, [], gs, []⟩ (wr.setCell ⟨gm, 3, none⟩ (.slice none 0 0))) := Lib.hid ⟨_, _, _, rfl, World.ownsRow_nil _ _ _ _, own_mono (own_set HC.out.g (by omega)) (by omega), World.ownsRow_nil _ _ _ _, fun g h => by simp [Value.ownBlock] at h, fun g h => by simp [Value.ownBlock] at h, fun g _ h => by simp [Value.ownBlock] at h⟩
          have HSf : Hid (Small ⟨c.ins, [], gs, []⟩) := Lib.hid ⟨s1, s2, by simp, by show gs.length ≤ 15; omega, by simp, by simp, Hl.out, by simp⟩
          generalize wr.setCell ⟨gm, 3, none⟩ (.slice none 0 0) = wf at *
          clear HC HX Hr Hb b3 zm c3 Hl
          have hneM : ¬ (gm = w.heap.size + 1 ∨ gm = w.heap.size) := by omega
          have z3 := blk_lt HMf.out
          have f0 := blk_cell HMf.out 0
          have f1 := blk_cell HMf.out 1
          have f2 := blk_cell HMf.out 2
          have f3 := blk_cell HMf.out 3
          simp at f0 f1 f2 f3
          have hO := fun ops a => rdStepRS_ok (Pg := Try.prog) (ops := ops) (P := 20000) (a := a) (R0 := fun w' => w'.heap[w.heap.size]? = some (.cells #[.int .i64 0, .slice none 0 0, .slice none 0 0, .slice none 0 0] 26 (0, 0))) (R1 := fun w' => w'.heap[w.heap.size]? = some (.cells #[.int .i64 c.ins, .slice none 0 0, .slice Ag' gs.length cg', .slice none 0 0] 26 (0, 0))) (d := 4) Hrf.out.lt (blk_lt HXf.out) (fun w1 w2 h ho => blk_only h ho (by omega)) (fun w1 w2 h ho => blk_only h ho (by omega))
          refine wp_region_rs (rdStepRS Try.prog _ (w.heap.size + 1) (20000) wf _ w.heap.size _ _ 4) (hO _ _) (by kernel_rfl) (by kernel_rfl) (by kernel_rfl) (Nat.le_of_ble_eq_true rfl) Hrf.out HXf.out ?_
          apply rs_eq (hO _ _) (.inl (Nat.ne_of_beq_eq_false rfl))
          · intro ρ w' ho hK
            obtain ⟨h0, -⟩ := hK
            have h0' : ρ (.tmp 5) = .pointer (some ⟨gm, 0, none⟩) := h0
            have q0 := cell_on ho hneM z3 f0
            have q1 := cell_on ho hneM z3 f1
            have q2 := cell_on ho hneM z3 f2
            have q3 := cell_on ho hneM z3 f3
            go_simp
            try exact rfl
          refine rs_old (hO _ _) (.inl (Nat.ne_of_beq_eq_false rfl)) _ (.inl rfl) _ rfl rfl ?_
          apply rs_eq (hO _ _) (.inl (Nat.ne_of_beq_eq_false rfl))
          · intro ρ w' ho hK
            obtain ⟨h0, -⟩ := hK
            have h0' : ρ (.tmp 5) = .pointer (some ⟨gm, 0, none⟩) := h0
            have q0 := cell_on ho hneM z3 f0
            have q1 := cell_on ho hneM z3 f1
            have q2 := cell_on ho hneM z3 f2
            have q3 := cell_on ho hneM z3 f3
            go_simp
            try exact rfl
          refine rs_drawcall (hO _ _) (.inl (Nat.ne_of_beq_eq_false rfl)) (TInt (-100) 1000) (stb_int _ _ _) 37 _ _ rfl (w.heap.size + 1) (20000) rfl (fun k ρ w' hk hr ho hK => by
            obtain ⟨h0, h1, h2, h3, -⟩ := hK
            have h0' : ρ (.func 37) = .func (.func 37) #[] #[] := h0
            have h1' : ρ (.tmp 48) = .pointer (some ⟨w.heap.size + 1, 0, none⟩) := h1
            have h2' : ρ (.tmp 49) = .agg #[.int .i64 c.ins, .slice none 0 0, .slice Ag' gs.length cg', .slice none 0 0] := h2
            have h3' : ρ (.const (.int .i64 9)) = .int .i64 9 := h3
            have hk' : k < 6 := hk
            refine ⟨#[.pointer (some ⟨w.heap.size + 1, 0, none⟩), .agg #[.int .i64 c.ins, .slice none 0 0, .slice Ag' gs.length cg', .slice none 0 0], .int .i64 9], ?_, ?_⟩
            · go_simp
            · refine (l20Lit_any _ _ _ 9 _ _ _ _ _ _ _ _ _ w' hr (by omega) HSf.out.i1 HSf.out.i2 (by omega) (by omega) (by omega) (by omega)).mono ?_
              rintro e w4 ⟨x, rfl, hx1, hx2, hr4, hg4⟩
              exact ⟨_, rfl, ⟨x, rfl, hx1, hx2⟩, hr4, hg4⟩) ?_
          refine rs_doR rfl rfl (w.heap.size + 1) (20000) rfl (fun ρ w' ho h0 hK => by
            obtain ⟨h1, h2, -⟩ := hK
            have h1' : ρ (.tmp 2) = .pointer (some ⟨w.heap.size, 0, none⟩) := h1
            have h2' : ρ (.tmp 47) = .agg #[.int .i64 c.ins, .slice none 0 0, .slice Ag' gs.length cg', .slice none 0 0] := h2
            have h0' : w'.heap[w.heap.size]? = some (.cells #[.int .i64 0, .slice none 0 0, .slice none 0 0, .slice none 0 0] 26 (0, 0)) := h0
            have o0 := blk_cell h0' 0
            have o1 := blk_cell h0' 1
            have o2 := blk_cell h0' 2
            have o3 := blk_cell h0' 3
            have b0 := blk_free h0' 0
            have b1 := blk_free h0' 1
            have b2 := blk_free h0' 2
            have b3 := blk_free h0' 3
            have zr := blk_lt h0'
            simp at o0 o1 o2 o3
            refine ⟨setR w' w.heap.size (.int .i64 c.ins) (.slice none 0 0) (.slice Ag' gs.length cg') (.slice none 0 0), ?_, setR_box h0', setR_only (.inr rfl), fun Q hQ => rd_only_k hQ (zero_no h0') (by omega) (setR_only rfl)⟩
            unfold setR
            go_simp) ?_
          refine rs_same (hO _ _) (.inl (Nat.ne_of_beq_eq_false rfl)) 50 3 (.inr rfl) rfl _ rfl ?_
          intro f w9 k9 hk9 hI9 ht9 hcp9
          have E0 : f 0 = _ := ht9 0 (Nat.le_of_ble_eq_true rfl)
          have E1 : f 1 = _ := ht9 1 (Nat.le_of_ble_eq_true rfl)
          have E2 : f 2 = _ := ht9 2 (Nat.le_of_ble_eq_true rfl)
          obtain ⟨y, hy, hy1, hy2⟩ : (TInt (-100) 1000) w9 (f 3) := ht9 3 (Nat.le_of_ble_eq_true rfl)
          have C5 : f 5 = f 3 := (hcp9 5 _ 50 3 rfl rfl rfl rfl).2
          have HE9 : Only (fun g => g = w.heap.size + 1 ∨ g = w.heap.size) wf w9 := hI9.2.1
          have HR9 : w9.heap[w.heap.size]? = some (.cells #[.int .i64 c.ins, .slice none 0 0, .slice Ag' gs.length cg', .slice none 0 0] 26 (0, 0)) := hI9.2.2
          simp only [putAll, E0, E1, E2, C5, hy, Nat.zero_add, Nat.reduceAdd, Act.put, List.setIfInBounds_toArray, List.set_cons_succ, List.set_cons_zero]
          clear E0 E1 E2 hI9 ht9 hcp9 hk9 hO
          clear C5 hy
          generalize f 4 = r4 at *
          have o0 := blk_cell HR9 0
          have o1 := blk_cell HR9 1
          have o2 := blk_cell HR9 2
          have o3 := blk_cell HR9 3
          have zr := blk_lt HR9
          simp at o0 o1 o2 o3
          have HOF := Lib.hid ((HOf.out.only HE9 (fun g hg => by omega)).mono (show w.heap.size ≤ w.heap.size + 2 by omega))
          have HBF := Lib.hid (Only.below Hbf.out HE9 (Nat.le_trans Hbf.out.size (Nat.le_refl _)) (fun g hg => by omega))
          clear HE9 HR9 HOf HXf Hrf Hbf HMf f0 f1 f2 f3
          go_wp2_with fail
          refine bodyPost_ret (v := .tuple #[.agg #[.int .i64 c.ins, .slice none 0 0, .slice Ag' gs.length cg', .slice none 0 0], .int .i64 y]) (by simp [results, Try.results7, go_sem, o0, o1, o2, o3]) rfl ⟨_, ⟨c.ins, [], gs, []⟩, y, rfl, HOF.out, HSf.out, by omega, by omega, HBF.out⟩
      · have d3 : decide (K > 0) = false := decide_eq_false hpos
        obtain ⟨Ag', cg', eg⟩ := slice_of_own HC.out.g
        subst eg
        have b3 := blk_free HC.out.box 3
        have zm := blk_lt HC.out.box
        have c3 := blk_cell HC.out.box 3
        simp at c3
        go_wp2_with fail
        have HMf := Lib.hid (set4 (u := .slice none 0 0) HC.out.box).2.2
        have HXf := Lib.hid (res_set (i := 3) (v := .slice none 0 0) HX.out (show w.heap.size ≠ gm by omega))
        have Hrf := Lib.hid ((rd_set (i := 3) (v := .slice none 0 0) Hr.out (show w.heap.size + 1 < gm by omega)).more (show 11000 + 700 * gs.length ≤ 20000 by omega))
        have Hbf := Lib.hid (Hb.out.setCell (p := ⟨gm, 3, none⟩) (by simp only; omega) (.slice none 0 0))
        have HOf : Hid (OwnC (w.heap.size + 2) (.agg #[.int .i64 c.ins, .slice none 0 0, .slice Ag' gs.length cg', .slice none 0 0]) ⟨c.ins, [], gs, []⟩ (wr.setCell ⟨gm, 3, none⟩ (.slice none 0 0))) := Lib.hid ⟨_, _, _, rfl, World.ownsRow_nil _ _ _ _, own_mono (own_set HC.out.g (by omega)) (by omega), World.ownsRow_nil _ _ _ _, fun g h => by simp [Value.ownBlock] at h, fun g h => by simp [Value.ownBlock] at h, fun g _ h => by simp [Value.ownBlock] at h⟩
        have HSf : Hid (Small ⟨c.ins, [], gs, []⟩) := Lib.hid ⟨s1, s2, by simp, by show gs.length ≤ 15; omega, by simp, by simp, Hl.out, by simp⟩
        generalize wr.setCell ⟨gm, 3, none⟩ (.slice none 0 0) = wf at *
        clear HC HX Hr Hb b3 zm c3 Hl
        have hneM : ¬ (gm = w.heap.size + 1 ∨ gm = w.heap.size) := by omega
        have z3 := blk_lt HMf.out
        have f0 := blk_cell HMf.out 0
        have f1 := blk_cell HMf.out 1
        have f2 := blk_cell HMf.out 2
        have f3 := blk_cell HMf.out 3
        simp at f0 f1 f2 f3
        have hO := fun ops a => rdStepRS_ok (Pg := Try.prog) (ops := ops) (P := 20000) (a := a) (R0 := fun w' => w'.heap[w.heap.size]? = some (.cells #[.int .i64 0, .slice none 0 0, .slice none 0 0, .slice none 0 0] 26 (0, 0))) (R1 := fun w' => w'.heap[w.heap.size]? = some (.cells #[.int .i64 c.ins, .slice none 0 0, .slice Ag' gs.length cg', .slice none 0 0] 26 (0, 0))) (d := 4) Hrf.out.lt (blk_lt HXf.out) (fun w1 w2 h ho => blk_only h ho (by omega)) (fun w1 w2 h ho => blk_only h ho (by omega))
        refine wp_region_rs (rdStepRS Try.prog _ (w.heap.size + 1) (20000) wf _ w.heap.size _ _ 4) (hO _ _) (by kernel_rfl) (by kernel_rfl) (by kernel_rfl) (Nat.le_of_ble_eq_true rfl) Hrf.out HXf.out ?_
        apply rs_eq (hO _ _) (.inl (Nat.ne_of_beq_eq_false rfl))
        · intro ρ w' ho hK
          obtain ⟨h0, -⟩ := hK
          have h0' : ρ (.tmp 5) = .pointer (some ⟨gm, 0, none⟩) := h0
          have q0 := cell_on ho hneM z3 f0
          have q1 := cell_on ho hneM z3 f1
          have q2 := cell_on ho hneM z3 f2
          have q3 := cell_on ho hneM z3 f3
          go_simp
          try exact rfl
        refine rs_old (hO _ _) (.inl (Nat.ne_of_beq_eq_false rfl)) _ (.inl rfl) _ rfl rfl ?_
        apply rs_eq (hO _ _) (.inl (Nat.ne_of_beq_eq_false rfl))
        · intro ρ w' ho hK
          obtain ⟨h0, -⟩ := hK
          have h0' : ρ (.tmp 5) = .pointer (some ⟨gm, 0, none⟩) := h0
          have q0 := cell_on ho hneM z3 f0
          have q1 := cell_on ho hneM z3 f1
          have q2 := cell_on ho hneM z3 f2
          have q3 := cell_on ho hneM z3 f3
          go_simp
          try exact rfl
        refine rs_drawcall (hO _ _) (.inl (Nat.ne_of_beq_eq_false rfl)) (TInt (-100) 1000) (stb_int _ _ _) 37 _ _ rfl (w.heap.size + 1) (20000) rfl (fun k ρ w' hk hr ho hK => by
          obtain ⟨h0, h1, h2, h3, -⟩ := hK
          have h0' : ρ (.func 37) = .func (.func 37) #[] #[] := h0
          have h1' : ρ (.tmp 48) = .pointer (some ⟨w.heap.size + 1, 0, none⟩) := h1
          have h2' : ρ (.tmp 49) = .agg #[.int .i64 c.ins, .slice none 0 0, .slice Ag' gs.length cg', .slice none 0 0] := h2
          have h3' : ρ (.const (.int .i64 9)) = .int .i64 9 := h3
          have hk' : k < 6 := hk
          refine ⟨#[.pointer (some ⟨w.heap.size + 1, 0, none⟩), .agg #[.int .i64 c.ins, .slice none 0 0, .slice Ag' gs.length cg', .slice none 0 0], .int .i64 9], ?_, ?_⟩
          · go_simp
          · refine (l20Lit_any _ _ _ 9 _ _ _ _ _ _ _ _ _ w' hr (by omega) HSf.out.i1 HSf.out.i2 (by omega) (by omega) (by omega) (by omega)).mono ?_
            rintro e w4 ⟨x, rfl, hx1, hx2, hr4, hg4⟩
            exact ⟨_, rfl, ⟨x, rfl, hx1, hx2⟩, hr4, hg4⟩) ?_
        refine rs_doR rfl rfl (w.heap.size + 1) (20000) rfl (fun ρ w' ho h0 hK => by
          obtain ⟨h1, h2, -⟩ := hK
          have h1' : ρ (.tmp 2) = .pointer (some ⟨w.heap.size, 0, none⟩) := h1
          have h2' : ρ (.tmp 47) = .agg #[.int .i64 c.ins, .slice none 0 0, .slice Ag' gs.length cg', .slice none 0 0] := h2
          have h0' : w'.heap[w.heap.size]? = some (.cells #[.int .i64 0, .slice none 0 0, .slice none 0 0, .slice none 0 0] 26 (0, 0)) := h0
          have o0 := blk_cell h0' 0
          have o1 := blk_cell h0' 1
          have o2 := blk_cell h0' 2
          have o3 := blk_cell h0' 3
          have b0 := blk_free h0' 0
          have b1 := blk_free h0' 1
          have b2 := blk_free h0' 2
          have b3 := blk_free h0' 3
          have zr := blk_lt h0'
          simp at o0 o1 o2 o3
          refine ⟨setR w' w.heap.size (.int .i64 c.ins) (.slice none 0 0) (.slice Ag' gs.length cg') (.slice none 0 0), ?_, setR_box h0', setR_only (.inr rfl), fun Q hQ => rd_only_k hQ (zero_no h0') (by omega) (setR_only rfl)⟩
          unfold setR
          go_simp) ?_
        refine rs_same (hO _ _) (.inl (Nat.ne_of_beq_eq_false rfl)) 50 3 (.inr rfl) rfl _ rfl ?_
        intro f w9 k9 hk9 hI9 ht9 hcp9
        have E0 : f 0 = _ := ht9 0 (Nat.le_of_ble_eq_true rfl)
        have E1 : f 1 = _ := ht9 1 (Nat.le_of_ble_eq_true rfl)
        have E2 : f 2 = _ := ht9 2 (Nat.le_of_ble_eq_true rfl)
        obtain ⟨y, hy, hy1, hy2⟩ : (TInt (-100) 1000) w9 (f 3) := ht9 3 (Nat.le_of_ble_eq_true rfl)
        have C5 : f 5 = f 3 := (hcp9 5 _ 50 3 rfl rfl rfl rfl).2
        have HE9 : Only (fun g => g = w.heap.size + 1 ∨ g = w.heap.size) wf w9 := hI9.2.1
        have HR9 : w9.heap[w.heap.size]? = some (.cells #[.int .i64 c.ins, .slice none 0 0, .slice Ag' gs.length cg', .slice none 0 0] 26 (0, 0)) := hI9.2.2
        simp only [putAll, E0, E1, E2, C5, hy, Nat.zero_add, Nat.reduceAdd, Act.put, List.setIfInBounds_toArray, List.set_cons_succ, List.set_cons_zero]
        clear E0 E1 E2 hI9 ht9 hcp9 hk9 hO
        clear C5 hy
        generalize f 4 = r4 at *
        have o0 := blk_cell HR9 0
        have o1 := blk_cell HR9 1
        have o2 := blk_cell HR9 2
        have o3 := blk_cell HR9 3
        have zr := blk_lt HR9
        simp at o0 o1 o2 o3
        have HOF := Lib.hid ((HOf.out.only HE9 (fun g hg => by omega)).mono (show w.heap.size ≤ w.heap.size + 2 by omega))
        have HBF := Lib.hid (Only.below Hbf.out HE9 (Nat.le_trans Hbf.out.size (Nat.le_refl _)) (fun g hg => by omega))
        clear HE9 HR9 HOf HXf Hrf Hbf HMf f0 f1 f2 f3
        go_wp2_with fail
        refine bodyPost_ret (v := .tuple #[.agg #[.int .i64 c.ins, .slice none 0 0, .slice Ag' gs.length cg', .slice none 0 0], .int .i64 y]) (by simp [results, Try.results7, go_sem, o0, o1, o2, o3]) rfl ⟨_, ⟨c.ins, [], gs, []⟩, y, rfl, HOF.out, HSf.out, by omega, by omega, HBF.out⟩
  · have d1 : decide (x > 0) = false := decide_eq_false hx
    clear hx
    go_wp2_with fail
    have HMf := HM4
    have HXf := HX4
    have Hrf := Lib.hid (Hr4.out.more (show 0 + 10000 + 1 ≤ 20000 by omega))
    have Hbf := Hb4
    have HOf := Lib.hid (HO4.out.mono (show w.heap.size + 2 ≤ w1.heap.size by have := HZ1.out; omega))
    have HSf := HS
    clear HM4 HX4 Hr4 Hb4 HO4
    have hneM : ¬ (gm = w.heap.size + 1 ∨ gm = w.heap.size) := by omega
    have z3 := blk_lt HMf.out
    have f0 := blk_cell HMf.out 0
    have f1 := blk_cell HMf.out 1
    have f2 := blk_cell HMf.out 2
    have f3 := blk_cell HMf.out 3
    simp at f0 f1 f2 f3
    have hO := fun ops a => rdStepRS_ok (Pg := Try.prog) (ops := ops) (P := 20000) (a := a) (R0 := fun w' => w'.heap[w.heap.size]? = some (.cells #[.int .i64 0, .slice none 0 0, .slice none 0 0, .slice none 0 0] 26 (0, 0))) (R1 := fun w' => w'.heap[w.heap.size]? = some (.cells #[.int .i64 c.ins, .slice An c.next.length cn, .slice Ag c.gates.length cg, .slice Ao c.outs.length co] 26 (0, 0))) (d := 4) Hrf.out.lt (blk_lt HXf.out) (fun w1 w2 h ho => blk_only h ho (by omega)) (fun w1 w2 h ho => blk_only h ho (by omega))
    refine wp_region_rs (rdStepRS Try.prog _ (w.heap.size + 1) (20000) w4 _ w.heap.size _ _ 4) (hO _ _) (by kernel_rfl) (by kernel_rfl) (by kernel_rfl) (Nat.le_of_ble_eq_true rfl) Hrf.out HXf.out ?_
    apply rs_eq (hO _ _) (.inl (Nat.ne_of_beq_eq_false rfl))
    · intro ρ w' ho hK
      obtain ⟨h0, -⟩ := hK
      have h0' : ρ (.tmp 5) = .pointer (some ⟨gm, 0, none⟩) := h0
      have q0 := cell_on ho hneM z3 f0
      have q1 := cell_on ho hneM z3 f1
      have q2 := cell_on ho hneM z3 f2
      have q3 := cell_on ho hneM z3 f3
      go_simp
      try exact rfl
    refine rs_old (hO _ _) (.inl (Nat.ne_of_beq_eq_false rfl)) _ (.inl rfl) _ rfl rfl ?_
    apply rs_eq (hO _ _) (.inl (Nat.ne_of_beq_eq_false rfl))
    · intro ρ w' ho hK
      obtain ⟨h0, -⟩ := hK
      have h0' : ρ (.tmp 5) = .pointer (some ⟨gm, 0, none⟩) := h0
      have q0 := cell_on ho hneM z3 f0
      have q1 := cell_on ho hneM z3 f1
      have q2 := cell_on ho hneM z3 f2
      have q3 := cell_on ho hneM z3 f3
      go_simp
      try exact rfl
    refine rs_drawcall (hO _ _) (.inl (Nat.ne_of_beq_eq_false rfl)) (TInt (-100) 1000) (stb_int _ _ _) 37 _ _ rfl (w.heap.size + 1) (20000) rfl (fun k ρ w' hk hr ho hK => by
      obtain ⟨h0, h1, h2, h3, -⟩ := hK
      have h0' : ρ (.func 37) = .func (.func 37) #[] #[] := h0
      have h1' : ρ (.tmp 48) = .pointer (some ⟨w.heap.size + 1, 0, none⟩) := h1
      have h2' : ρ (.tmp 49) = .agg #[.int .i64 c.ins, .slice An c.next.length cn, .slice Ag c.gates.length cg, .slice Ao c.outs.length co] := h2
      have h3' : ρ (.const (.int .i64 9)) = .int .i64 9 := h3
      have hk' : k < 6 := hk
      refine ⟨#[.pointer (some ⟨w.heap.size + 1, 0, none⟩), .agg #[.int .i64 c.ins, .slice An c.next.length cn, .slice Ag c.gates.length cg, .slice Ao c.outs.length co], .int .i64 9], ?_, ?_⟩
      · go_simp
      · refine (l20Lit_any _ _ _ 9 _ _ _ _ _ _ _ _ _ w' hr (by omega) HSf.out.i1 HSf.out.i2 (s3) (s4) (by omega) (by omega)).mono ?_
        rintro e w4 ⟨x, rfl, hx1, hx2, hr4, hg4⟩
        exact ⟨_, rfl, ⟨x, rfl, hx1, hx2⟩, hr4, hg4⟩) ?_
    refine rs_doR rfl rfl (w.heap.size + 1) (20000) rfl (fun ρ w' ho h0 hK => by
      obtain ⟨h1, h2, -⟩ := hK
      have h1' : ρ (.tmp 2) = .pointer (some ⟨w.heap.size, 0, none⟩) := h1
      have h2' : ρ (.tmp 47) = .agg #[.int .i64 c.ins, .slice An c.next.length cn, .slice Ag c.gates.length cg, .slice Ao c.outs.length co] := h2
      have h0' : w'.heap[w.heap.size]? = some (.cells #[.int .i64 0, .slice none 0 0, .slice none 0 0, .slice none 0 0] 26 (0, 0)) := h0
      have o0 := blk_cell h0' 0
      have o1 := blk_cell h0' 1
      have o2 := blk_cell h0' 2
      have o3 := blk_cell h0' 3
      have b0 := blk_free h0' 0
      have b1 := blk_free h0' 1
      have b2 := blk_free h0' 2
      have b3 := blk_free h0' 3
      have zr := blk_lt h0'
      simp at o0 o1 o2 o3
      refine ⟨setR w' w.heap.size (.int .i64 c.ins) (.slice An c.next.length cn) (.slice Ag c.gates.length cg) (.slice Ao c.outs.length co), ?_, setR_box h0', setR_only (.inr rfl), fun Q hQ => rd_only_k hQ (zero_no h0') (by omega) (setR_only rfl)⟩
      unfold setR
      go_simp) ?_
    refine rs_same (hO _ _) (.inl (Nat.ne_of_beq_eq_false rfl)) 50 3 (.inr rfl) rfl _ rfl ?_
    intro f w9 k9 hk9 hI9 ht9 hcp9
    have E0 : f 0 = _ := ht9 0 (Nat.le_of_ble_eq_true rfl)
    have E1 : f 1 = _ := ht9 1 (Nat.le_of_ble_eq_true rfl)
    have E2 : f 2 = _ := ht9 2 (Nat.le_of_ble_eq_true rfl)
    obtain ⟨y, hy, hy1, hy2⟩ : (TInt (-100) 1000) w9 (f 3) := ht9 3 (Nat.le_of_ble_eq_true rfl)
    have C5 : f 5 = f 3 := (hcp9 5 _ 50 3 rfl rfl rfl rfl).2
    have HE9 : Only (fun g => g = w.heap.size + 1 ∨ g = w.heap.size) w4 w9 := hI9.2.1
    have HR9 : w9.heap[w.heap.size]? = some (.cells #[.int .i64 c.ins, .slice An c.next.length cn, .slice Ag c.gates.length cg, .slice Ao c.outs.length co] 26 (0, 0)) := hI9.2.2
    simp only [putAll, E0, E1, E2, C5, hy, Nat.zero_add, Nat.reduceAdd, Act.put, List.setIfInBounds_toArray, List.set_cons_succ, List.set_cons_zero]
    clear E0 E1 E2 hI9 ht9 hcp9 hk9 hO
    clear C5 hy
    generalize f 4 = r4 at *
    have o0 := blk_cell HR9 0
    have o1 := blk_cell HR9 1
    have o2 := blk_cell HR9 2
    have o3 := blk_cell HR9 3
    have zr := blk_lt HR9
    simp at o0 o1 o2 o3
    have HOF := Lib.hid ((HOf.out.only HE9 (fun g hg => by omega)).mono (show w.heap.size ≤ w.heap.size + 2 by omega))
    have HBF := Lib.hid (Only.below Hbf.out HE9 (Nat.le_trans Hbf.out.size (Nat.le_refl _)) (fun g hg => by omega))
    clear HE9 HR9 HOf HXf Hrf Hbf HMf f0 f1 f2 f3
    go_wp2_with fail
    refine bodyPost_ret (v := .tuple #[.agg #[.int .i64 c.ins, .slice An c.next.length cn, .slice Ag c.gates.length cg, .slice Ao c.outs.length co], .int .i64 y]) (by simp [results, Try.results7, go_sem, o0, o1, o2, o3]) rfl ⟨_, c, y, rfl, HOF.out, HSf.out, by omega, by omega, HBF.out⟩
end Go.Proofs.Ytkkkjbinfdohpaa

namespace Go.Proofs.Ytkkkjbinfdohpaa
namespace Two
/-! Plain two-level logic: cubes (care, value), truth tables as natural numbers. -/

/-- A cube is true for assignment x. -/
def has (k : Nat × Nat) (x : Nat) : Bool := x &&& k.1 == k.2
/-- The value's bits lie within the care's. -/
def fine (k : Nat × Nat) : Bool := k.2 &&& k.1 == k.2
theorem has_iff (k : Nat × Nat) (x : Nat) : has k x = true ↔ ∀ i, (x.testBit i && k.1.testBit i) = k.2.testBit i := by
  unfold has
  rw [beq_iff_eq]
  constructor
  · intro h i
    rw [← h, Nat.testBit_and]
  · intro h
    apply Nat.eq_of_testBit_eq
    intro i
    rw [Nat.testBit_and, h i]
theorem fine_iff (k : Nat × Nat) : fine k = true ↔ ∀ i, k.2.testBit i = true → k.1.testBit i = true := by
  unfold fine
  rw [beq_iff_eq]
  constructor
  · intro h i hi
    rw [← h, Nat.testBit_and] at hi
    exact (Bool.and_eq_true _ _ ▸ hi).2
  · intro h
    apply Nat.eq_of_testBit_eq
    intro i
    rw [Nat.testBit_and]
    cases hv : k.2.testBit i
    · simp
    · simp [h i hv]
theorem has_fine {k : Nat × Nat} {x : Nat} (h : has k x = true) : fine k = true := by
  rw [fine_iff]
  intro i hi
  have := (has_iff k x).1 h i
  rw [hi] at this
  exact (Bool.and_eq_true _ _ ▸ this).2

/-- A cube implies a table of n variables. -/
def within (k : Nat × Nat) (t n : Nat) : Bool := (List.range (2 ^ n)).all fun x => !has k x || t.testBit x
theorem within_iff (k : Nat × Nat) (t n : Nat) : within k t n = true ↔ ∀ x, x < 2 ^ n → has k x = true → t.testBit x = true := by
  unfold within
  rw [List.all_eq_true]
  constructor
  · intro h x hx hk
    have := h x (List.mem_range.2 hx)
    simpa [hk] using this
  · intro h x hx
    have := h x (List.mem_range.1 hx)
    cases hk : has k x
    · simp
    · simp [this hk]

/-- a implies b: every literal of b stands in a. -/
def gen (a b : Nat × Nat) : Bool := a.1 &&& b.1 == b.1 && a.2 &&& b.1 == b.2
theorem gen_iff (a b : Nat × Nat) : gen a b = true ↔ (∀ i, b.1.testBit i = true → a.1.testBit i = true) ∧ ∀ i, (a.2.testBit i && b.1.testBit i) = b.2.testBit i := by
  unfold gen
  rw [Bool.and_eq_true, beq_iff_eq, beq_iff_eq]
  constructor
  · rintro ⟨h1, h2⟩
    refine ⟨fun i hi => ?_, fun i => by rw [← h2, Nat.testBit_and]⟩
    rw [← h1, Nat.testBit_and] at hi
    exact (Bool.and_eq_true _ _ ▸ hi).1
  · rintro ⟨h1, h2⟩
    refine ⟨Nat.eq_of_testBit_eq fun i => ?_, Nat.eq_of_testBit_eq fun i => ?_⟩
    · rw [Nat.testBit_and]
      cases hb : b.1.testBit i
      · simp
      · simp [h1 i hb]
    · rw [Nat.testBit_and, h2 i]
theorem gen_refl {a : Nat × Nat} (h : fine a = true) : gen a a = true := by
  rw [gen_iff]
  refine ⟨fun _ h => h, fun i => ?_⟩
  have := (fine_iff a).1 h i
  cases hv : a.2.testBit i
  · simp
  · simp [this hv]
theorem gen_trans {a b c : Nat × Nat} (h : gen a b = true) (h' : gen b c = true) : gen a c = true := by
  rw [gen_iff] at *
  refine ⟨fun i hi => h.1 i (h'.1 i hi), fun i => ?_⟩
  rw [← h'.2 i, ← h.2 i]
  cases hc : c.1.testBit i
  · simp
  · simp [h'.1 i hc]
theorem gen_has {a b : Nat × Nat} (h : gen a b = true) {x : Nat} (hx : has a x = true) : has b x = true := by
  rw [gen_iff] at h
  rw [has_iff] at *
  intro i
  rw [← h.2 i, ← hx i]
  cases hb : b.1.testBit i
  · simp
  · simp [h.1 i hb]
theorem gen_fine {a b : Nat × Nat} (h : gen a b = true) : fine b = true := by
  rw [gen_iff] at h
  rw [fine_iff]
  intro i hi
  rw [← h.2 i] at hi
  exact (Bool.and_eq_true _ _ ▸ hi).2
/-- The more general cube has the smaller care; with the same care it is the same cube. -/
theorem gen_le {a b : Nat × Nat} (h : gen a b = true) : b.1 ≤ a.1 := by
  have h1 : a.1 &&& b.1 = b.1 := by
    unfold gen at h
    rw [Bool.and_eq_true, beq_iff_eq] at h
    exact h.1
  rw [← h1]
  exact Nat.and_le_left
theorem gen_eq {a b : Nat × Nat} (ha : fine a = true) (h : gen a b = true) (he : b.1 = a.1) : b = a := by
  have h2 : a.2 &&& b.1 = b.2 := by
    unfold gen at h
    rw [Bool.and_eq_true, beq_iff_eq, beq_iff_eq] at h
    exact h.2
  unfold fine at ha
  rw [beq_iff_eq] at ha
  rw [he, ha] at h2
  exact Prod.ext he h2.symm

/-! ### Tables -/
/-- The table t with the assignments below m that the cube has. -/
def addTo (k : Nat × Nat) (t : Nat) : Nat → Nat
  | 0 => t
  | m + 1 => if has k m then addTo k t m ||| 2 ^ m else addTo k t m
theorem addTo_bit (k : Nat × Nat) (t : Nat) : ∀ m x, (addTo k t m).testBit x = (t.testBit x || (decide (x < m) && has k x))
  | 0, x => by simp [addTo]
  | m + 1, x => by
    rw [addTo]
    split
    · rename_i h
      rw [Nat.testBit_or, addTo_bit k t m x, Nat.testBit_two_pow]
      by_cases e : m = x
      · subst e; simp [h]
      · simp only [e, decide_false, Bool.or_false]
        congr 2
        exact decide_eq_decide.2 ⟨fun h => by omega, fun h => by omega⟩
    · rename_i h
      rw [addTo_bit k t m x]
      by_cases e : m = x
      · subst e; simp [h]
      · congr 2
        exact decide_eq_decide.2 ⟨fun h => by omega, fun h => by omega⟩
/-- The table of a list of cubes, of n variables. -/
def tableOf (l : List (Nat × Nat)) (n : Nat) : Nat := l.foldl (fun t k => addTo k t (2 ^ n)) 0
theorem fold_bit (n x : Nat) : ∀ (l : List (Nat × Nat)) (t : Nat), (l.foldl (fun t k => addTo k t (2 ^ n)) t).testBit x = (t.testBit x || (decide (x < 2 ^ n) && l.any (has · x)))
  | [], t => by simp
  | k :: l, t => by
    rw [List.foldl_cons, fold_bit n x l, addTo_bit, List.any_cons]
    cases t.testBit x <;> cases decide (x < 2 ^ n) <;> simp
theorem tableOf_bit (l : List (Nat × Nat)) (n x : Nat) : (tableOf l n).testBit x = (decide (x < 2 ^ n) && l.any (has · x)) := by
  rw [tableOf, fold_bit]; simp
theorem tableOf_lt (l : List (Nat × Nat)) (n : Nat) : tableOf l n < 2 ^ 2 ^ n := by
  refine Nat.lt_pow_two_of_testBit _ fun i hi => ?_
  rw [tableOf_bit]
  simp [Nat.not_lt.2 hi]
theorem table_ext {a b n : Nat} (ha : a < 2 ^ 2 ^ n) (hb : b < 2 ^ 2 ^ n) (h : ∀ x, x < 2 ^ n → a.testBit x = b.testBit x) : a = b := by
  apply Nat.eq_of_testBit_eq
  intro i
  by_cases hi : i < 2 ^ n
  · exact h i hi
  · rw [Nat.testBit_lt_two_pow (Nat.lt_of_lt_of_le ha (Nat.pow_le_pow_right (by decide) (by omega))), Nat.testBit_lt_two_pow (Nat.lt_of_lt_of_le hb (Nat.pow_le_pow_right (by decide) (by omega)))]
end Two
end Go.Proofs.Ytkkkjbinfdohpaa

namespace Go.Proofs.Ytkkkjbinfdohpaa
open Go.RowKit

theorem ofInt_wrap (b : BitVec 64) : BitVec.ofInt 64 (IntKind.i64.wrap (b.toNat : Int)) = b := by
  apply BitVec.eq_of_toNat_eq
  rw [BitVec.toNat_ofInt, IntKind.wrap_i64]
  have := b.isLt
  omega
/-- What a cube has lies within its care. -/
theorem andNot_of_and {x c v : Int} (h : bits .and .i64 x c = v) : bits .andNot .i64 v c = 0 := by
  subst h
  show IntKind.i64.wrap (((BitVec.ofInt 64 (IntKind.i64.wrap ((BitVec.ofInt 64 x &&& BitVec.ofInt 64 c).toNat : Int)) &&& ~~~(BitVec.ofInt 64 c)).toNat : Nat) : Int) = 0
  rw [ofInt_wrap]
  have : BitVec.ofInt 64 x &&& BitVec.ofInt 64 c &&& ~~~(BitVec.ofInt 64 c) = 0#64 := by
    apply BitVec.eq_of_getLsbD_eq
    intro i hi
    simp
    intro _ h _
    exact h
  rw [this]
  rfl
/-- A cube is true for x. -/
def hasI (c v x : Int) : Bool := decide (0 ≤ x) && (bits .and .i64 x c == v)
def cubeV (c v : Int) : Value := .agg #[.int .i64 c, .int .i64 v]

theorem implHas_any (c v x : Int) (w : World) :
    Calls Try.prog 12 #[.agg #[.int .i64 c, .int .i64 v], .int .i64 x] w
      fun e w' => e = .returned (.bool (hasI c v x)) ∧ Below w.heap.size w w' := by
  by_cases hx : 0 ≤ x
  · cases hb : (bits .and .i64 x c == v)
    · cases hn : (bits .andNot .i64 v c == 0)
      all_goals
        go_enter Try.func12, Try.ntmps12
        go_wp2
        go_ret
        exact ⟨ret_bool (by simp [hasI, hx, hb]), (Below.refl _ _).alloc (Nat.le_refl _) _⟩
    · have hn : (bits .andNot .i64 v c == 0) = true := beq_iff_eq.2 (andNot_of_and (beq_iff_eq.1 hb))
      go_enter Try.func12, Try.ntmps12
      go_wp2
      go_ret
      exact ⟨ret_bool (by simp [hasI, hx, hb]), (Below.refl _ _).alloc (Nat.le_refl _) _⟩
  · go_enter Try.func12, Try.ntmps12
    go_wp2
    go_ret
    exact ⟨ret_bool (by simp [hasI]; intro h0; omega), (Below.refl _ _).alloc (Nat.le_refl _) _⟩
end Go.Proofs.Ytkkkjbinfdohpaa

namespace Go.Proofs.Ytkkkjbinfdohpaa
open Go.RowKit
/-! Slices of cubes, and the two CoverTables. -/

/-- A cube fits n variables. -/
def okI (N : Nat) (k : Int × Int) : Bool := decide (0 ≤ k.1 ∧ k.1 < (2 : Int) ^ N) && (bits .andNot .i64 k.2 k.1 == 0)
theorem andNot_iff {c v : Int} (h1 : -9223372036854775808 ≤ v) (h2 : v ≤ 9223372036854775807) : bits .andNot .i64 v c = 0 ↔ bits .and .i64 v c = v := by
  constructor
  · intro h
    have h : IntKind.i64.wrap ((BitVec.ofInt 64 v &&& ~~~(BitVec.ofInt 64 c)).toNat : Int) = 0 := h
    have hz : BitVec.ofInt 64 v &&& ~~~(BitVec.ofInt 64 c) = 0#64 := by
      rw [← ofInt_wrap (BitVec.ofInt 64 v &&& ~~~(BitVec.ofInt 64 c)), h]
      rfl
    have he : BitVec.ofInt 64 v &&& BitVec.ofInt 64 c = BitVec.ofInt 64 v := by
      apply BitVec.eq_of_getLsbD_eq
      intro i hi
      have := congrArg (fun b => b.getLsbD i) hz
      simp only [BitVec.getLsbD_and, BitVec.getLsbD_not, hi, decide_true, Bool.true_and, BitVec.getLsbD_zero] at this ⊢
      cases hv : (BitVec.ofInt 64 v).getLsbD i <;> cases hc : (BitVec.ofInt 64 c).getLsbD i <;> simp_all
    show IntKind.i64.wrap ((BitVec.ofInt 64 v &&& BitVec.ofInt 64 c).toNat : Int) = v
    rw [he, IntKind.wrap_i64, BitVec.toNat_ofInt]
    omega
  · exact andNot_of_and
/-- A cube that fits is one of natural numbers. -/
def natK (k : Int × Int) : Nat × Nat := (k.1.toNat, k.2.toNat)
def intK (k : Nat × Nat) : Int × Int := (k.1, k.2)
def WfK (k : Int × Int) : Prop := -9223372036854775808 ≤ k.2 ∧ k.2 ≤ 9223372036854775807
theorem and_nonneg {v : Int} {C : Nat} (h : bits .and .i64 v (C : Int) = v) (hC : C < 9223372036854775808) : 0 ≤ v ∧ v ≤ C := by
  have h : IntKind.i64.wrap ((BitVec.ofInt 64 v &&& BitVec.ofInt 64 (C : Int)).toNat : Int) = v := h
  have h1 : (BitVec.ofInt 64 v &&& BitVec.ofInt 64 (C : Int)).toNat ≤ C := by
    rw [BitVec.toNat_and, ofInt64 C (by omega)]
    exact Nat.and_le_right
  rw [IntKind.wrap_i64] at h
  omega
theorem okI_nat {N : Nat} {k : Int × Int} (hN : N ≤ 4) (hw : WfK k) (h : okI N k = true) :
    ∃ C V : Nat, k = ((C : Int), (V : Int)) ∧ C < 2 ^ N ∧ C < 16 ∧ V ≤ C ∧ Two.fine (C, V) = true := by
  obtain ⟨c, v⟩ := k
  unfold okI at h
  rw [Bool.and_eq_true, decide_eq_true_eq, beq_iff_eq] at h
  obtain ⟨⟨h1, h2⟩, h3⟩ := h
  simp only at h1 h2 h3
  obtain ⟨C, rfl⟩ := Int.eq_ofNat_of_zero_le h1
  rw [two_pow] at h2
  have hp : 2 ^ N ≤ 16 := by
    have := Nat.pow_le_pow_right (show 0 < 2 by decide) hN
    simpa using this
  have h4 := (andNot_iff hw.1 hw.2).1 h3
  simp only at h4
  obtain ⟨h5, h6⟩ := and_nonneg h4 (by omega)
  obtain ⟨V, rfl⟩ := Int.eq_ofNat_of_zero_le h5
  refine ⟨C, V, rfl, by omega, by omega, by omega, ?_⟩
  rw [i64_and_nat V C (by omega) (by omega)] at h4
  unfold Two.fine
  rw [beq_iff_eq]
  exact Int.ofNat.inj h4
theorem hasI_nat (C V X : Nat) (hC : C < 9223372036854775808) (hX : X < 9223372036854775808) : hasI (C : Int) (V : Int) (X : Int) = Two.has (C, V) X := by
  unfold hasI Two.has
  rw [i64_and_nat X C hX hC]
  have : decide (0 ≤ (X : Int)) = true := decide_eq_true (by omega)
  rw [this, Bool.true_and]
  rw [Bool.eq_iff_iff, beq_iff_eq, beq_iff_eq]
  constructor
  · intro h; exact Int.ofNat.inj h
  · intro h; rw [h]
theorem addTo_lt {k : Nat × Nat} {t : Nat} (ht : t < 65536) : ∀ {m : Nat}, m ≤ 16 → Two.addTo k t m < 65536
  | 0, _ => ht
  | m + 1, h => by
    rw [Two.addTo]
    have ih := addTo_lt (k := k) ht (m := m) (by omega)
    split
    · have : 2 ^ m < 65536 := Nat.lt_of_le_of_lt (Nat.pow_le_pow_right (by decide) (show m ≤ 15 by omega)) (by decide)
      exact Nat.or_lt_two_pow (n := 16) ih this
    · exact ih
/-- What is left of a cover's table. -/
def covFrom (N : Nat) (l : List (Int × Int)) (t : Nat) : Int := if l.all (okI N) then ((l.foldl (fun t k => Two.addTo (natK k) t (2 ^ N)) t : Nat) : Int) else -1
def coverI (n : Int) (ks : List (Int × Int)) : Int := if 0 ≤ n ∧ n ≤ 4 ∧ ks.length ≤ 100 then covFrom n.toNat ks 0 else -1
theorem covFrom_step {N : Nat} {ks : List (Int × Int)} {k : Nat} {x : Int × Int} (t : Nat) (h : ks[k]? = some x) (hx : okI N x = true) : covFrom N (ks.drop k) t = covFrom N (ks.drop (k + 1)) (Two.addTo (natK x) t (2 ^ N)) := by
  have e : ks.drop k = x :: ks.drop (k + 1) := by
    obtain ⟨hk, rfl⟩ := List.getElem?_eq_some_iff.1 h
    exact List.drop_eq_getElem_cons hk
  rw [e, covFrom, covFrom, List.all_cons, hx, Bool.true_and, List.foldl_cons]
theorem covFrom_bad {N : Nat} {ks : List (Int × Int)} {k : Nat} {x : Int × Int} (t : Nat) (h : ks[k]? = some x) (hx : okI N x = false) : covFrom N (ks.drop k) t = -1 := by
  have e : ks.drop k = x :: ks.drop (k + 1) := by
    obtain ⟨hk, rfl⟩ := List.getElem?_eq_some_iff.1 h
    exact List.drop_eq_getElem_cons hk
  rw [e, covFrom, List.all_cons, hx, Bool.false_and]
  simp
theorem covFrom_done {N : Nat} {ks : List (Int × Int)} {k : Nat} (t : Nat) (h : ks.length ≤ k) : covFrom N (ks.drop k) t = t := by
  rw [List.drop_eq_nil_of_le h]
  simp [covFrom]
theorem okI_cases {N : Nat} {k : Int × Int} (h : okI N k = false) : k.1 < 0 ∨ (0 ≤ k.1 ∧ (2 : Int) ^ N ≤ k.1) ∨ (0 ≤ k.1 ∧ k.1 < (2 : Int) ^ N ∧ (bits .andNot .i64 k.2 k.1 == 0) = false) := by
  unfold okI at h
  rw [Bool.and_eq_false_iff, decide_eq_false_iff_not] at h
  rcases h with h | h
  · omega
  · by_cases h0 : k.1 < 0
    · exact .inl h0
    · by_cases h1 : k.1 < 2 ^ N
      · exact .inr (.inr ⟨by omega, h1, h⟩)
      · exact .inr (.inl ⟨by omega, by omega⟩)
theorem okI_parts {N : Nat} {k : Int × Int} (h : okI N k = true) : 0 ≤ k.1 ∧ k.1 < (2 : Int) ^ N ∧ (bits .andNot .i64 k.2 k.1 == 0) = true := by
  unfold okI at h
  rw [Bool.and_eq_true, decide_eq_true_eq] at h
  exact ⟨h.1.1, h.1.2, h.2⟩
end Go.Proofs.Ytkkkjbinfdohpaa

namespace Go.Proofs.Ytkkkjbinfdohpaa
open Go.RowKit

theorem implCover_any (v : Value) (ks : List (Int × Int)) (n : Int) (w : World) (h : CubesAt w v ks) (hw : ∀ k ∈ ks, WfK k) :
    Calls Try.prog 50 #[v, .int .i64 n] w
      fun e w' => e = .returned (.int .i64 (coverI n ks)) ∧ Below w.heap.size w w' := by
  obtain ⟨A, c, hv, hc, hcm⟩ := h.shape
  subst hv
  unfold maxLen at hcm
  by_cases hn : 0 ≤ n ∧ n ≤ 4 ∧ ks.length ≤ 100
  · obtain ⟨h1, h2, h3⟩ := hn
    obtain ⟨N, rfl⟩ := Int.eq_ofNat_of_zero_le h1
    obtain ⟨M, hM, e, hp, hp0⟩ : ∃ M : Nat, Hid (2 ^ N = M) ∧ (2 : Int) ^ N = (M : Int) ∧ M ≤ 16 ∧ 1 ≤ M := ⟨2 ^ N, Lib.hid rfl, two_pow N, Nat.pow_le_pow_right (show 0 < 2 by decide) (show N ≤ 4 by omega), Nat.one_le_two_pow⟩
    have hst : Hid (coverI N ks = covFrom N (ks.drop 0) 0) := Lib.hid (by rw [coverI, if_pos ⟨h1, h2, h3⟩]; rfl)
    generalize coverI N ks = res at hst ⊢
    have h4 : N ≤ 4 := by omega
    go_enter Try.func50, Try.ntmps50
    go_wp2
    go_loopw [5, 22] (fun t i wr => ∃ k T : Nat, k ≤ ks.length ∧ i = .int .i64 k ∧ t = .int .i64 T ∧ T < 65536 ∧ Hid (res = covFrom N (ks.drop k) T) ∧ Below w.heap.size w wr) (fun _ i _ => ks.length - (intOf i).toNat)
    case atStart => exact ⟨0, 0, Nat.zero_le _, rfl, rfl, by omega, hst, Below.refl _ _⟩
    case round =>
      obtain ⟨k, T, hk, rfl, rfl, hT, hres, hb⟩ := hrel
      clear hst
      by_cases hlt : k < ks.length
      · obtain ⟨b, o, ⟨cc, cv⟩, rfl, hbl, hx, hs1, hs2⟩ := cubes_open h hb rfl hlt
        have hwf := hw _ (List.mem_of_getElem? hx.out)
        have Hb := Lib.hid hb
        clear h hb hw
        cases hok : okI N (cc, cv)
        · rw [covFrom_bad T hx.out hok] at hres
          rcases okI_cases hok with g | ⟨g0, g1⟩ | ⟨g0, g1, g2⟩
          · have d1 : decide (cc < 0) = true := decide_eq_true g
            clear hx hok
            go_wp2
            go_quiet (fail)
            go_wp2
            go_ret
            exact ⟨ret_int hres.out.symm, bel_drewN (Hb.out.alloc Hb.out.size _) _⟩
          · obtain ⟨C, rfl⟩ := Int.eq_ofNat_of_zero_le g0
            have d1 : decide ((C : Int) < 0) = false := decide_eq_false (by omega)
            have d2 : decide (M ≤ C) = true := decide_eq_true (by omega)
            have hz : IntKind.i64.wrap (M : Int) = M := IntWalk.i64_in _ (by omega)
            clear hx hok g1
            go_wp2
            go_quiet (fail)
            go_wp2
            go_ret
            exact ⟨ret_int hres.out.symm, bel_drewN (Hb.out.alloc Hb.out.size _) _⟩
          · obtain ⟨C, rfl⟩ := Int.eq_ofNat_of_zero_le g0
            have d1 : decide ((C : Int) < 0) = false := decide_eq_false (by omega)
            have d2 : decide (M ≤ C) = false := decide_eq_false (by omega)
            have d3 : (bits .andNot .i64 cv C != 0) = true := by simpa using g2
            have hz : IntKind.i64.wrap (M : Int) = M := IntWalk.i64_in _ (by omega)
            clear hx hok g1 g2
            go_wp2
            go_quiet (fail)
            go_wp2
            go_ret
            exact ⟨ret_int hres.out.symm, bel_drewN (Hb.out.alloc Hb.out.size _) _⟩
        · rw [covFrom_step T hx.out hok] at hres
          obtain ⟨g0, g1, g2⟩ := okI_parts hok
          obtain ⟨C, V, e1, g3, g4, g5, g6⟩ := okI_nat h4 hwf hok
          injection e1 with e1 e2
          subst e1 e2
          have d1 : decide ((C : Int) < 0) = false := decide_eq_false (by omega)
          have d2 : decide (M ≤ C) = false := decide_eq_false (by omega)
          have d3 : (bits .andNot .i64 (V : Int) C != 0) = false := by simpa using g2
          have hz : IntKind.i64.wrap (M : Int) = M := IntWalk.i64_in _ (by omega)
          clear g2 hx hok g3
          go_wp2
          go_quiet (fail)
          go_wp2
          have b1 := bel_drewN (Hb.out.alloc Hb.out.size (.cells #[.int .i64 C, .int .i64 V] 35)) nq
          have c0 : ((wr.alloc (.cells #[.int .i64 C, .int .i64 V] 35)).drewN nq).cell? ⟨wr.heap.size, 0, none⟩ = some (.int .i64 C) := World.cell?_alloc_new _ _ _ 0
          have c1 : ((wr.alloc (.cells #[.int .i64 C, .int .i64 V] 35)).drewN nq).cell? ⟨wr.heap.size, 1, none⟩ = some (.int .i64 V) := World.cell?_alloc_new _ _ _ 1
          have cz : wr.heap.size < ((wr.alloc (.cells #[.int .i64 C, .int .i64 V] 35)).drewN nq).heap.size := by simp
          have hwz := Hb.out.size
          generalize (wr.alloc (.cells #[.int .i64 C, .int .i64 V] 35)).drewN nq = W1 at *
          clear Hb
          generalize wr.heap.size = g at *
          clear d1 d2 d3 hz hs1 hs2
          have B1 := Lib.hid b1
          clear b1
          go_loopw [5, 46] (fun t x wq => ∃ X T2 : Nat, X ≤ M ∧ x = .int .i64 X ∧ t = .int .i64 T2 ∧ T2 < 65536 ∧ Hid (T2 = Two.addTo (C, V) T X) ∧ Below W1.heap.size W1 wq) (fun _ x _ => M - (intOf x).toNat)
          case atStart => exact ⟨0, T, by omega, rfl, rfl, hT, Lib.hid rfl, Below.refl _ _⟩
          case round =>
            obtain ⟨X, T2, hX, rfl, rfl, hT2, hT2e, hq⟩ := hrel
            have q0 := (hq.cell (p := ⟨g, 0, none⟩) cz).trans c0
            have q1 := (hq.cell (p := ⟨g, 1, none⟩) cz).trans c1
            have Hq := Lib.hid hq
            clear hq c0 c1
            by_cases hxl : X < M
            · have hh := hasI_nat C V X (by omega) (by omega)
              cases hhas : Two.has (C, V) X
              · rw [hhas] at hh
                have Hh := Lib.hid hh
                have Hs := Lib.hid hhas
                clear hh hhas
                go_wp2_with (go_at_call 12; refine (implHas_any _ _ _ _).mono ?_; rintro e w' ⟨rfl, hb'⟩; rw [Hh.out])
                go_roundw
                case rel => exact ⟨X + 1, T2, by omega, by go_num, rfl, hT2, Lib.hid (by rw [Two.addTo, Hs.out, if_neg (by simp)]; exact hT2e.out), Hq.out.trans (hb'.mono Hq.out.size)⟩
                case measure => simp [intOf]; omega
              · rw [hhas] at hh
                have Hh := Lib.hid hh
                have Hs := Lib.hid hhas
                clear hh hhas
                have hpx : 2 ^ X < 65536 := Nat.lt_of_le_of_lt (Nat.pow_le_pow_right (by decide) (show X ≤ 15 by omega)) (by decide)
                have hpe : (2 : Int) ^ X = ((2 ^ X : Nat) : Int) := two_pow X
                generalize hy : 2 ^ X = Y at hpx hpe
                have HY := Lib.hid hy
                clear hy
                go_wp2_with (go_at_call 12; refine (implHas_any _ _ _ _).mono ?_; rintro e w' ⟨rfl, hb'⟩; rw [Hh.out])
                go_roundw
                case rel =>
                  have hor := i64_or_nat T2 Y (by omega) (by omega)
                  exact ⟨X + 1, T2 ||| Y, by omega, by go_num, by rw [hor], Nat.or_lt_two_pow (n := 16) hT2 hpx, Lib.hid (by rw [Two.addTo, Hs.out, if_pos rfl, HY.out, hT2e.out]), Hq.out.trans (hb'.mono Hq.out.size)⟩
                case measure => simp [intOf]; omega
            · obtain rfl : X = M := by omega
              go_wp2
              go_roundw
              case rel => exact ⟨k + 1, T2, by omega, by go_num, rfl, hT2, Lib.hid (by rw [hres.out, hT2e.out, hM.out]; rfl), B1.out.trans (Hq.out.mono (by omega))⟩
              case measure => simp [intOf]; omega
      · rw [covFrom_done T (by omega)] at hres
        go_wp2
        go_ret
        exact ⟨ret_int hres.out.symm, hb⟩
  · rw [coverI, if_neg hn]
    have hn' : n < 0 ∨ (0 ≤ n ∧ 4 < n) ∨ (0 ≤ n ∧ n ≤ 4 ∧ (100 : Int) < ks.length) := by omega
    clear hn
    rcases hn' with g | ⟨g0, g1⟩ | ⟨g0, g1, g2⟩
    all_goals
      go_enter Try.func50, Try.ntmps50
      go_wp2
      go_ret
      exact ⟨rfl, Below.refl _ _⟩
end Go.Proofs.Ytkkkjbinfdohpaa
