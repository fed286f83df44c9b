import Derived.Test.YtlpellciiiflkaaRsP
import Derived.Test.YtlpellciiiflkaaDrawT
namespace Go.Proofs.Ytlpellciiiflkaa
open Go.RowKit
theorem ixp_cubes : IxOkP Try.prog 35 := by
  intro w g n j h1 h2
  have : (j : Int) < (n : Int) := by omega
  simp [Instr.indexAt, go_sem, Try.underlying35, Result.andThen, h1]
theorem ldp_cube : LdOkP Try.prog 25 := by
  intro o x ρ w g i a b ho hx h0 h1
  go_simp
def DrewCover (w : World) (e : Ending) (w' : World) : Prop :=
  ∃ (v : Value) (ks : List (Int × Int)) (n : Nat), e = .returned (.tuple #[v, .int .i64 n]) ∧ n ≤ 4 ∧ ks.length ≤ 6 ∧ (∀ k ∈ ks, WfK k) ∧ CubesAt w' v ks ∧ Below w.heap.size w w'
set_option maxHeartbeats 8000000 in
theorem drawCover_any (v : Value) (bs : List Int) (w : World) (h : Row w 1 v bs.length (bs.map (Value.int .u8))) (hb : ∀ x ∈ bs, (Lit.int .u8 x).wf = true) (hl : bs.length ≤ 1048576) :
    Calls Try.prog 24 #[v] w (DrewCover w) := by
  have H := Lib.hid h
  clear h
  obtain ⟨i0, hi0, hz0, hz1, hz2⟩ := info_parts info_cube
  go_enter Try.func24, Try.ntmps24
  go_wp2_with fail
  refine (open_any _ bs _ H.out hb hl).mono ?_
  rintro e w1 ⟨rfl, hr1, hb1⟩
  have Hr1 := Lib.hid hr1
  have Hb1 := Lib.hid hb1
  clear hr1 hb1
  go_wp2_with fail
  refine (pick_any 5 _ 0 _ Hr1.out (by omega) (by omega) (by omega)).mono ?_
  rintro e w2 ⟨x, hx0, hx1, rfl, hr2, hg2⟩
  obtain ⟨N, rfl⟩ := Int.eq_ofNat_of_zero_le hx0
  have hN : N ≤ 4 := by omega
  have Hr2 := Lib.hid hr2
  have Hb2 := Lib.hid (Hb1.out.grown hg2 Hb1.out.size (fun k hk => by have := Option.some.inj hk; omega))
  have z2 := hr2.lt
  clear hr2 hg2 hx0 hx1 Hr1
  obtain ⟨M, hM, e, hpM, hp0⟩ := pow4 hN
  go_wp2_with fail
  refine (pick_any 6 _ 1 _ (Hr2.out.alloc _) (by omega) (by omega) (by omega)).mono ?_
  rintro e3 w3 ⟨k0, hk0, hk1, rfl, hr3, hg3⟩
  have Hr3 : Hid (Rd w3 w.heap.size 10) := Lib.hid (hr3.more (by omega))
  have Hown : Hid (w3.ownsRow (w.heap.size + 1) 25 2 (.slice (some ⟨w2.heap.size, 0, none⟩) 0 0) ([] : List (Int × Int)).length (cubes [])) := Lib.hid (own_kept (World.ownsRow_lit (base := w.heap.size + 1) (e := 25) (size := 2) w2 #[] 0 (by omega) (by unfold maxLen; omega) rfl) hg3 (fun g hg e => by have h1 := Option.some.inj hg; have h2 := Option.some.inj e; simp at h1; omega))
  have Hb3 := Lib.hid ((Hb2.out.alloc Hb2.out.size (.cells #[] 25)).grown hg3 (Hb2.out.alloc Hb2.out.size _).size (fun k hk => by have := Option.some.inj hk; omega))
  clear hr3 hg3 Hb2 Hr2 Hb1
  go_wp2_with fail
  go_loopw [6, 7] (fun v j wr => ∃ (vv : Value) (k : Int) (ks : List (Int × Int)), vv = v ∧ j = .int .i64 k ∧ 0 ≤ k ∧ ks.length + k ≤ 5 ∧ Hid (∀ q ∈ ks, WfK q) ∧ Hid (wr.ownsRow (w.heap.size + 1) 25 2 v ks.length (cubes ks)) ∧ Hid (Rd wr w.heap.size (10 + 20 * ks.length)) ∧ Hid (Below w.heap.size w wr)) (fun _ j _ => (intOf j).toNat)
  case atStart => exact ⟨_, k0, [], rfl, rfl, hk0, by simp; omega, Lib.hid (by simp), Hown, Hr3, Hb3⟩
  case round =>
    obtain ⟨vv, k, ks, hvv, rfl, hk, hkl, hwf, Ho, Hr, Hbw⟩ := hrel
    subst hvv
    clear Hown Hr3 Hb3
    by_cases hpos : 0 < k
    · go_wp2_with fail
      refine (pick_any M _ _ _ Hr.out (by omega) (by omega) (by omega)).mono ?_
      rintro e5 w5 ⟨x, hx0, hx1, rfl, hr5, hg5⟩
      obtain ⟨C, rfl⟩ := Int.eq_ofNat_of_zero_le hx0
      have Hr5 := Lib.hid hr5
      have Ho5 := Lib.hid (own_kept Ho.out hg5 (fun g hg e => by have h1 := (Ho.out.lt g hg).1; have h2 := Option.some.inj e; omega))
      have Hb5 := Lib.hid (Hbw.out.grown hg5 Hbw.out.size (fun k hk => by have := Option.some.inj hk; omega))
      clear hr5 hg5 Ho Hbw Hr
      go_wp2_with fail
      refine (pick_any M _ _ _ Hr5.out (by omega) (by omega) (by omega)).mono ?_
      rintro e6 w6 ⟨x, hy0, hy1, rfl, hr6, hg6⟩
      obtain ⟨P, rfl⟩ := Int.eq_ofNat_of_zero_le hy0
      have Hr6 := Lib.hid hr6
      have Ho6 := Lib.hid (own_kept Ho5.out hg6 (fun g hg e => by have h1 := (Ho5.out.lt g hg).1; have h2 := Option.some.inj e; omega))
      have Hb6 := Lib.hid (Hb5.out.grown hg6 Hb5.out.size (fun k hk => by have := Option.some.inj hk; omega))
      clear hr6 hg6 Ho5 Hb5 Hr5
      have hand := i64_and_nat P C (by omega) (by omega)
      have hz6 := Hr6.out.lt
      have hPC : P &&& C ≤ P := Nat.and_le_left
      have Hlit := Lib.hid (Row.of_own (World.ownsRow_lit (base := w6.heap.size) (e := 25) (size := 2) w6 #[.int .i64 (C : Int), .int .i64 ((P &&& C : Nat) : Int)] 1 (Nat.le_refl _) (by unfold maxLen; omega) rfl))
      go_wp2_with (at_builtin; refine append_cubes_at rfl (.tmp 24) (.tmp 33) rfl (w.heap.size + 1) _ ks.length _ rfl (Ho6.out.alloc _) _ 1 [.int .i64 (C : Int), .int .i64 ((P &&& C : Nat) : Int)] rfl Hlit.out (by simp [Value.oneCell']) (by omega) (by simp; omega) ?_; intro v7 w7 hown7 hg7 hat7; have Ho7 := Lib.hid hown7; have Hg7 := Lib.hid hg7; clear hown7 hg7 hat7)
      go_roundw
      case rel =>
        refine ⟨_, k - 1, ks ++ [((C : Int), ((P &&& C : Nat) : Int))], rfl, by go_num, by omega, by simp; omega, Lib.hid fun q hq => ?_, Lib.hid ?_, Lib.hid ?_, Lib.hid ?_⟩
        · rcases List.mem_append.1 hq with h | h
          · exact hwf.out q h
          · rw [List.mem_singleton.1 h]
            unfold WfK
            simp only
            omega
        · rw [List.length_append, cubes_append]
          exact Ho7.out
        · refine ((Hr6.out.alloc _).grown Hg7.out fun q hq => ?_).more (by simp; omega)
          have := (Ho6.out.lt q hq).1
          omega
        · exact (Hb6.out.alloc Hb6.out.size _).grown Hg7.out (Hb6.out.alloc Hb6.out.size _).size (fun q hq => by have := (Ho6.out.lt q hq).1; omega)
      case measure => simp [intOf]; omega
    · obtain rfl : k = 0 := by omega
      go_wp2_with fail
      refine (odd_all 8 _ _ _ Hr.out (by omega) (by omega) (by omega)).mono ?_
      rintro e5 w5 ⟨b, rfl, hr5, hg5⟩
      have Hr5 := Lib.hid hr5
      have Ho5 := Lib.hid (own_kept Ho.out hg5 (fun g hg e => by have h1 := (Ho.out.lt g hg).1; have h2 := Option.some.inj e; omega))
      have Hb5 := Lib.hid (Hbw.out.grown hg5 Hbw.out.size (fun k hk => by have := Option.some.inj hk; omega))
      clear hr5 hg5 Ho Hbw Hr
      cases b
      · go_wp2_with fail
        go_ret2
        exact ⟨_, ks, N, rfl, hN, by omega, hwf.out, Row.of_own Ho5.out, Hb5.out⟩
      · go_wp2_with fail
        have hz5 := Hr5.out.lt
        have hO := fun ops a => rowRS_ok (Pg := Try.prog) (ops := ops) (P := 10 + 20 * ks.length + 1) (a := a) (G := WfK) (d := 12) Hr5.out.lt (Nat.lt_succ_self _) Ho5.out
        refine wp_region_rs (rowRS Try.prog _ w.heap.size (10 + 20 * ks.length + 1) w5 _ (w.heap.size + 1) 25 vv ks WfK 12) (hO _ _) (by kernel_rfl) (by kernel_rfl) (by kernel_rfl) (Nat.le_of_ble_eq_true rfl) Hr5.out Ho5.out ?_
        refine rs_old (hO _ _) (.inl (Nat.ne_of_beq_eq_false rfl)) _ (.inl rfl) _ rfl rfl ?_
        refine rs_old (hO _ _) (.inl (Nat.ne_of_beq_eq_false rfl)) _ (.inl rfl) _ rfl rfl ?_
        refine rs_pure (hO _ _) (.inl (Nat.ne_of_beq_eq_false rfl)) (TEq (.int .i64 M)) (stb_eq _ _) (fun ρ w hK => by
          obtain ⟨c, h, -⟩ := hK
          have c' : ρ (.const (.int .i64 1)) = .int .i64 1 := c
          have h' : ρ (.tmp 38) = .int .i64 N := h
          have hwr := IntWalk.i64_in (M : Int) (by omega)
          refine ⟨.int .i64 M, ?_, rfl⟩
          go_simp) ?_
        refine rs_pure (hO _ _) (.inl (Nat.ne_of_beq_eq_false rfl)) (TEq (.agg #[.int .i64 M, .int .i64 0])) (stb_eq _ _) (fun ρ w hK => by
          obtain ⟨h, -⟩ := hK
          have h' : ρ (.tmp 39) = .int .i64 M := h
          refine ⟨.agg #[.int .i64 M, .int .i64 0], ?_, rfl⟩
          go_simp) ?_
        refine rs_pure (hO _ _) (.inl (Nat.ne_of_beq_eq_false rfl)) (TEq (.agg #[.int .i64 (-1), .int .i64 0])) (stb_eq _ _) (fun ρ w hK => by
          obtain ⟨h, -⟩ := hK
          have h' : ρ (.const (.int .i64 (-1))) = .int .i64 (-1) := h
          refine ⟨.agg #[.int .i64 (-1), .int .i64 0], ?_, rfl⟩
          go_simp) ?_
        refine rs_pure (hO _ _) (.inl (Nat.ne_of_beq_eq_false rfl)) (TEq (.agg #[.int .i64 0, .int .i64 1])) (stb_eq _ _) (fun ρ w hK => by
          obtain ⟨h, -⟩ := hK
          have h' : ρ (.const (.int .i64 1)) = .int .i64 1 := h
          refine ⟨.agg #[.int .i64 0, .int .i64 1], ?_, rfl⟩
          go_simp) ?_
        refine rs_buildP (hO _ _) (.inl (Nat.ne_of_beq_eq_false rfl)) 3 WfK 25 (fun ρ w hK => by
          obtain ⟨h1, h2, h3, -⟩ := hK
          have a1 : ρ (.tmp 40) = .agg #[.int .i64 M, .int .i64 0] := h1
          have a2 : ρ (.tmp 41) = .agg #[.int .i64 (-1), .int .i64 0] := h2
          have a3 : ρ (.tmp 42) = .agg #[.int .i64 0, .int .i64 1] := h3
          refine ⟨[((M : Int), 0), (-1, 0), (0, 1)], #[.int .i64 M, .int .i64 0, .int .i64 (-1), .int .i64 0, .int .i64 0, .int .i64 1], rfl, rfl, ?_, ?_⟩
          · go_simp
          · intro c hc
            simp at hc
            rcases hc with rfl | rfl | rfl <;> (unfold WfK; simp)) ?_
        refine rs_old (hO _ _) (.inl (Nat.ne_of_beq_eq_false rfl)) _ (.inl rfl) _ rfl rfl ?_
        refine rs_pick (hO _ _) (.inl (Nat.ne_of_beq_eq_false rfl)) 34 _ _ _ w.heap.size (10 + 20 * ks.length + 1) 2 rfl rfl fn_pick (fun ρ w hK => ⟨hK.1, hK.2.1, 3, hK.2.2.1, by omega, by omega⟩) (fun n k w hk h1n hn hr => pick_all n 2 _ _ w hr (by have hk' : k < 14 := hk; omega) h1n hn (by omega)) ?_
        refine rs_indexP (hO _ _) (.inl (Nat.ne_of_beq_eq_false rfl)) 35 _ _ 3 WfK 2 rfl _ _ rfl rfl rfl rfl (by omega) (by omega) ixp_cubes ?_
        refine rs_loadP (hO _ _) (.inl (Nat.ne_of_beq_eq_false rfl)) 25 _ WfK rfl _ rfl rfl ldp_cube ?_
        refine rs_buildP (hO _ _) (.inl (Nat.ne_of_beq_eq_false rfl)) 1 WfK 25 (fun ρ w hK => by
          obtain ⟨⟨x, hx, hG⟩, -⟩ := hK
          have a1 : ρ (.tmp 47) = .agg #[.int .i64 x.1, .int .i64 x.2] := hx
          refine ⟨[x], #[.int .i64 x.1, .int .i64 x.2], rfl, rfl, ?_, ?_⟩
          · go_simp
          · intro c hc
            rw [List.mem_singleton.1 hc]
            exact hG) ?_
        refine rs_appendP rfl (w.heap.size + 1) 25 35 vv ks WfK rfl w.heap.size (10 + 20 * ks.length + 1) rfl (fun g hg => .inr hg) (Nat.lt_succ_self _) hz5 _ _ rfl _ _ rfl rfl rfl rfl i0 _ 16 Try.underlying35 hi0 hz0 hz1 hz2 rfl (by omega) (by omega) ?_
        refine rs_same (hO _ _) (.inl (Nat.ne_of_beq_eq_false rfl)) _ _ (.inr rfl) rfl _ rfl ?_
        intro f w6 k' hk' hI ht hcp
        have hfe : f 13 = f 12 := (hcp 13 _ 49 12 rfl rfl rfl rfl).2
        obtain ⟨q, hq, hown⟩ := hI.2.2
        have Hq := Lib.hid hq
        have Ho6 : Hid (w6.ownsRow (w.heap.size + 1) 25 2 (f 12) (ks.length + 1) (cubes (ks ++ [q]))) := Lib.hid hown
        have Hb6 := Lib.hid (Only.below Hb5.out hI.2.1 Hb5.out.size (fun g hg => by
          rcases hg with rfl | hg
          · exact Nat.le_refl _
          · have := (Ho5.out.lt g hg).1; omega))
        simp only [putAll, hfe]
        generalize f 12 = v6 at *
        clear hI ht hk' hfe hcp hO hq hown
        go_wp2_with fail
        go_ret2
        refine ⟨_, ks ++ [q], N, rfl, hN, by simp; omega, ?_, ?_, Hb6.out⟩
        · intro p hp
          rcases List.mem_append.1 hp with h | h
          · exact hwf.out p h
          · rw [List.mem_singleton.1 h]
            exact Hq.out
        · have := Row.of_own Ho6.out
          unfold CubesAt
          rw [List.length_append]
          exact this
end Go.Proofs.Ytlpellciiiflkaa
