import Derived.Test.YtpbgfhlhpinkeaaRgT
import Derived.Test.YtpbgfhlhpinkeaaRegD
import Derived.Deep.RegionWith
import Derived.Deep.DeepCutAuto
import Derived.BigRegion
namespace Go.Proofs.Ytpbgfhlhpinkeaa
open Go.RowKit Reg

def Drawn3 (R P : Nat) (w : World) (e : Ending) (w' : World) : Prop :=
  ∃ n t s : Int, e = .returned (.tuple #[.int .i64 n, .int .i64 t, .int .i64 s]) ∧ -1 ≤ s ∧ s ≤ 1024 ∧ 0 ≤ n ∧ n ≤ 11 ∧ 0 ≤ t ∧ t ≤ 1023 ∧ Rd w' R (P + 30) ∧ w.grownBy w' (some R)

theorem drawn2 (y z M : Int) (h1 : 0 ≤ y) (h2 : y ≤ 255) (h3 : 0 ≤ z) (h4 : z ≤ 3) (h5 : 1 ≤ M) :
    0 ≤ (IntKind.i64.wrap (y + IntKind.i64.wrap (256 * z))).tmod M ∧ (IntKind.i64.wrap (y + IntKind.i64.wrap (256 * z))).tmod M < M := by
  rw [IntWalk.i64_in (256 * z) (by omega), IntWalk.i64_in _ (by omega), Int.tmod_eq_emod_of_nonneg (by omega)]
  exact ⟨Int.emod_nonneg _ (by omega), Int.emod_lt_of_pos _ (by omega)⟩
/-- odd, whatever n. -/
theorem odd_all (n : Int) (R P : Nat) (w : World) (h : Rd w R P) (hP : P ≤ 1000000) (h1 : 0 ≤ n) (h2 : n ≤ 1000000) :
    Calls Try.prog 32 #[.pointer (some ⟨R, 0, none⟩), .int .i64 n] w (fun e w' => Odd R P w e w' ∧ (n = 0 → e = .returned (.bool false))) := by
  by_cases hn : n = 0
  · subst hn
    refine (odd_zero R P w h).mono ?_
    rintro e w' ⟨rfl, rfl⟩
    exact ⟨⟨false, rfl, h.more (by omega), World.grownBy.refl w _⟩, fun _ => rfl⟩
  · refine (odd_any n R P w h hP (by omega) h2).mono ?_
    intro e w' ho
    exact ⟨ho, fun h0 => absurd h0 hn⟩

theorem grown_only {a b : World} {R : Nat} (h : Only (· = R) a b) : a.grownBy b (some R) := ⟨h.os, h.tape, h.output, h.size, fun k hk hn => h.block k hk fun e => hn (by rw [e])⟩
theorem ix_ints : IxOk Try.prog 23 := by
  intro w g n j h1 h2
  have : (j : Int) < (n : Int) := by omega
  simp [Instr.indexAt, go_sem, Try.underlying23, Result.andThen, h1]
theorem fn_pick : FnOk Try.prog 31 := by
  intro args w
  kernel_rfl
theorem ag_int : ∀ w, (isAgg 3).run Try.prog w = .ok false w := by
  intro w
  kernel_rfl
/-- What stands behind the last draws of l20Register. -/
def RegOut (R P : Nat) (w : World) (e : Ending) (w' : World) : Prop :=
  ∃ n t s : Int, e = .returned (.tuple #[.int .i64 n, .int .i64 t, .int .i64 s]) ∧ -1 ≤ s ∧ s ≤ 1024 ∧ 0 ≤ n ∧ n ≤ 11 ∧ 0 ≤ t ∧ t ≤ 1023 ∧ Rd w' R (P + 30) ∧ w.grownBy w' (some R)

set_option maxHeartbeats 1000000 in
theorem register_any (n : Int) (R P : Nat) (w : World) (h : Rd w R P) (hP : P ≤ 900000) (h1 : 0 ≤ n) (h2 : n ≤ 100) :
    Calls Try.prog 28 #[.pointer (some ⟨R, 0, none⟩), .int .i64 n] w (RegOut R P w) := by
  have H := Lib.hid h
  clear h
  go_enter Try.func28, Try.ntmps28
  go_wp2_with fail
  refine (pick_any _ R P w H.out (by omega) (by omega) (by omega)).mono ?_
  rintro e w1 ⟨x, hx0, hx1, rfl, hr1, hg1⟩
  have Hr1 := Lib.hid hr1
  have Hg1 := Lib.hid hg1
  clear hr1 hg1
  obtain ⟨v, hv0, hv1, hld⟩ : ∃ v : Int, 0 ≤ v ∧ v ≤ 29 ∧ (w1.alloc (.cells #[.int .i64 1, .int .i64 3, .int .i64 3, .int .i64 3, .int .i64 5, .int .i64 3, .int .i64 3, .int .i64 29, .int .i64 17, .int .i64 9] 3)).cell? ⟨w1.heap.size, (1 + x).toNat - 1, none⟩ = some (.int .i64 v) :=
    lit_cell w1 [1, 3, 3, 3, 5, 3, 3, 29, 17, 9] 3 0 29 (by decide) _ (by simp; omega)
  obtain ⟨M, e, hM1, hM2⟩ : ∃ M : Int, (2 : Int) ^ (1 + x).toNat = M ∧ 1 ≤ M ∧ M ≤ 1024 := ⟨_, rfl, pow_ge _, pow_le (by omega)⟩
  go_wp2_with fail
  refine (pick_any _ R (P + 1) _ (Hr1.out.alloc _) (by omega) (by omega) (by omega)).mono ?_
  rintro e w2 ⟨y, hy0, hy1, rfl, hr2, hg2⟩
  have Hr2 := Lib.hid hr2
  have Hg2 := Lib.hid (grownBy_trans (Hg1.out) (grownBy_trans (World.grownBy_alloc w1 _ _) hg2))
  clear hr2 hg2 hld Hr1 Hg1
  go_upto_if 20 with fail
  have x1 : IntKind.i64.wrap M = M := IntWalk.i64_in _ (by omega)
  have x2 : ¬ M = 0 := by omega
  go_cut [8] (fun s8 wx => ∃ t : Int, s8 = .int .i64 t ∧ 0 ≤ t ∧ t ≤ 1023 ∧ Hid (Rd wx R (P + 4)) ∧ Hid (w.grownBy wx (some R)))
  case first =>
    by_cases hy : y = 0
    · subst hy
      go_wp2_with fail
      go_region_with (first
        | (go_at_call_of 31 (Value.int IntKind.i64 256); refine (pick_any _ R (P + 2) _ ?_ (by omega) (by omega) (by omega)).mono ?_; exact Hr2.out; rintro e w3 ⟨y3, hy30, hy31, rfl, hr3, hg3⟩; have Hr3 := Lib.hid hr3; have Hg3 := Lib.hid hg3; clear hr3 hg3)
        | (go_at_call_of 31 (Value.int IntKind.i64 4); refine (pick_any _ R (P + 3) _ ?_ (by omega) (by omega) (by omega)).mono ?_; exact Hr3.out; rintro e w4 ⟨y4, hy40, hy41, rfl, hr4, hg4⟩; have Hr4 := Lib.hid hr4; have Hg4 := Lib.hid hg4; clear hr4 hg4))
      go_wp2_with fail
      go_meet
      have hd := drawn2 y3 y4 M hy30 (by omega) hy40 (by omega) hM1
      exact ⟨_, rfl, hd.1, by omega, Lib.hid (Hr4.out.more (by omega)), Lib.hid (grownBy_trans Hg2.out (grownBy_trans (grownBy_undrew Hg3.out) Hg4.out))⟩
    · go_wp2_with fail
      go_meet
      exact ⟨_, rfl, by omega, by omega, Lib.hid (Hr2.out.more (by omega)), Hg2⟩
  case rest =>
    obtain ⟨t, rfl, ht0, ht1, Hr4, Hg4⟩ := hcut
    have ht2 : 0 ≤ t % M ∧ t % M ≤ 1023 := ⟨Int.emod_nonneg _ (by omega), by have := Int.emod_lt_of_pos t (show 0 < M by omega); omega⟩
    go_wp2_with fail
    go_upto_region 7 with fail
    go_cut [9] (fun s9 wx => ∃ t : Int, s9 = .int .i64 t ∧ 0 ≤ t ∧ t ≤ 1023 ∧ Hid (Rd wx R (P + 6)) ∧ Hid (w.grownBy wx (some R)))
    case first =>
      go_region_with (first
        | (go_at_call_of 31 (Value.int IntKind.i64 256); refine (pick_any _ R (P + 4) _ ?_ (by omega) (by omega) (by omega)).mono ?_; exact Hr4.out; rintro e w3 ⟨y3, hy30, hy31, rfl, hr3, hg3⟩; have Hr5 := Lib.hid hr3; have Hg5 := Lib.hid hg3; clear hr3 hg3)
        | (go_at_call_of 31 (Value.int IntKind.i64 4); refine (pick_any _ R (P + 5) _ ?_ (by omega) (by omega) (by omega)).mono ?_; exact Hr5.out; rintro e w4 ⟨y4, hy40, hy41, rfl, hr4, hg4⟩; have Hr6 := Lib.hid hr4; have Hg6 := Lib.hid hg4; clear hr4 hg4))
      go_wp2_with fail
      go_meet
      have hd := drawn2 y3 y4 M hy30 (by omega) hy40 (by omega) hM1
      exact ⟨_, rfl, hd.1, by omega, Hr6, Lib.hid (grownBy_trans Hg4.out (grownBy_trans (grownBy_undrew Hg5.out) Hg6.out))⟩
    case rest =>
      obtain ⟨s, rfl, hs0, hs1, Hr6, Hg6⟩ := hcut
      obtain ⟨ht2, ht3⟩ := ht2
      generalize t % M = t' at *
      go_wp2_with fail
      refine (odd_all n R (P + 6) _ Hr6.out (by omega) h1 (by omega)).mono ?_
      rintro e w7 ⟨⟨b, rfl, hr7, hg7⟩, _⟩
      have Hr7 := Lib.hid hr7
      have Hg7 := Lib.hid (grownBy_trans Hg6.out hg7)
      clear hr7 hg7
      cases b
      · go_wp2_with fail
        refine bodyPost_ret (v := .tuple #[.int .i64 (1 + x), .int .i64 t', .int .i64 s]) (by simp [results, Try.results28, go_sem]) rfl ⟨_, _, _, rfl, by omega, by omega, by omega, by omega, by omega, by omega, Hr7.out.more (by omega), Hg7.out⟩
      · go_wp2_with fail
        have hR7 : R < w7.heap.size := Hr7.out.lt
        refine wp_region_rg (tys [TEq (.int .i64 (1 + x)), TLit (· = R) 3 0 11, TEq (.pointer (some ⟨R, 0, none⟩)), TInt 0 2, TPtr (· = R) 0 11, TInt 0 11, TEq (.int .i64 t'), TEq (.int .i64 (1 + x)), TEq (.int .i64 M), TLit (· = R) 2 (-1) 1024, TEq (.pointer (some ⟨R, 0, none⟩)), TInt 0 1, TPtr (· = R) (-1) 1024, TInt (-1) 1024, TInt 0 11, TEq (.int .i64 t'), TInt (-1) 1024])
          0 (RdI (· = R) R (P + 7) w7 JNone) (Only (· = R)) (by kernel_rfl) (by kernel_rfl) (by kernel_rfl) ⟨Hr7.out, Only.drew w7, trivial⟩ (fun i v a b h g => tys_stb (by
            intro T hT
            simp only [List.mem_cons, List.not_mem_nil, or_false] at hT
            rcases hT with rfl | rfl | rfl | rfl | rfl | rfl | rfl | rfl | rfl | rfl | rfl | rfl | rfl | rfl | rfl | rfl | rfl <;> first | exact stb_eq _ _ | exact stb_int _ _ _ | exact stb_lit _ _ _ _ | exact stb_ptr _ _ _) i v a b h g) ?_ (by decide) ?_
        · intro i o ho k ov ρ w' hk hI _ hK
          have hE : ∀ g, g = R → g < w7.heap.size := fun g hg => by subst hg; exact hR7
          match i, ho, hK with
          | 0, ho, hK =>
            obtain rfl := Option.some.inj ho
            obtain ⟨h, -⟩ := hK
            exact good_none some (good_move hI rfl h)
          | 1, ho, hK =>
            obtain rfl := Option.some.inj ho
            obtain ⟨h, c1, c2, -⟩ := hK
            have h' : ρ (.tmp 46) = .int .i64 (1 + x) := h
            have c1' : ρ (.const (.int .i64 0)) = .int .i64 0 := c1
            have c2' : ρ (.const (.int .i64 11)) = .int .i64 11 := c2
            refine good_build (e := 3) [1 + x, 0, 11] hI hE (js_none R) ?_ (by simp; omega)
            go_simp
          | 2, ho, hK =>
            obtain rfl := Option.some.inj ho
            obtain ⟨h, -⟩ := hK
            exact good_move hI rfl h
          | 3, ho, hK =>
            obtain rfl := Option.some.inj ho
            obtain ⟨hf, h, hc, -⟩ := hK
            exact good_call (n := 3) hI rfl (js_none R) rfl fn_pick hf h hc (pick_any _ _ _ _ hI.1 (by simp at hk; omega) (by omega) (by omega))
          | 4, ho, hK =>
            obtain rfl := Option.some.inj ho
            obtain ⟨h, h', -⟩ := hK
            exact good_index hI rfl h h' (by omega) ix_ints
          | 5, ho, hK =>
            obtain rfl := Option.some.inj ho
            obtain ⟨h, -⟩ := hK
            exact good_load hI rfl ag_int h
          | 6, ho, hK =>
            obtain rfl := Option.some.inj ho
            obtain ⟨h, -⟩ := hK
            exact good_move hI rfl h
          | 7, ho, hK =>
            obtain rfl := Option.some.inj ho
            obtain ⟨h, -⟩ := hK
            exact good_move hI rfl h
          | 8, ho, hK =>
            obtain rfl := Option.some.inj ho
            obtain ⟨h1, h, -⟩ := hK
            refine good_pure (v := .int .i64 M) hI ?_ rfl
            have h' : ρ (.tmp 53) = .int .i64 (1 + x) := h
            have h1' : ρ (.const (.int .i64 1)) = .int .i64 1 := h1
            go_simp
          | 9, ho, hK =>
            obtain rfl := Option.some.inj ho
            obtain ⟨c1, h, -⟩ := hK
            have h' : ρ (.tmp 54) = .int .i64 M := h
            have c1' : ρ (.const (.int .i64 (-1))) = .int .i64 (-1) := c1
            refine good_build (e := 3) [-1, M] hI hE (js_none R) ?_ (by simp; omega)
            go_simp
          | 10, ho, hK =>
            obtain rfl := Option.some.inj ho
            obtain ⟨h, -⟩ := hK
            exact good_move hI rfl h
          | 11, ho, hK =>
            obtain rfl := Option.some.inj ho
            obtain ⟨hf, h, hc, -⟩ := hK
            exact good_call (n := 2) hI rfl (js_none R) rfl fn_pick hf h hc (pick_any _ _ _ _ hI.1 (by simp at hk; omega) (by omega) (by omega))
          | 12, ho, hK =>
            obtain rfl := Option.some.inj ho
            obtain ⟨h, h', -⟩ := hK
            exact good_index hI rfl h h' (by omega) ix_ints
          | 13, ho, hK =>
            obtain rfl := Option.some.inj ho
            obtain ⟨h, -⟩ := hK
            exact good_load hI rfl ag_int h
          | 14, ho, hK =>
            obtain rfl := Option.some.inj ho
            obtain ⟨h, -⟩ := hK
            exact good_assign hI rfl h
          | 15, ho, hK =>
            obtain rfl := Option.some.inj ho
            obtain ⟨h, -⟩ := hK
            exact good_assign hI rfl h
          | 16, ho, hK =>
            obtain rfl := Option.some.inj ho
            obtain ⟨h, -⟩ := hK
            exact good_assign hI rfl h
          | i + 17, ho, hK => exact absurd ho (by simp)
        · intro f w8 k hk hI hτ _
          obtain ⟨a, ha, ha1, ha2⟩ := hτ 14 (by decide)
          have hb := hτ 15 (by decide)
          obtain ⟨c, hc, hc1, hc2⟩ := hτ 16 (by decide)
          have hb : f 15 = .int .i64 t' := hb
          simp only [putAll, ha, hb, hc]
          go_wp2_with fail
          have hk17 : k ≤ 17 := hk
          refine bodyPost_ret (v := .tuple #[.int .i64 a, .int .i64 t', .int .i64 c]) (by simp [results, Try.results28, go_sem]) rfl ⟨_, _, _, rfl, by omega, by omega, by omega, by omega, by omega, by omega, hI.1.more (by omega), grownBy_trans Hg7.out (grown_only hI.2.1)⟩
end Go.Proofs.Ytpbgfhlhpinkeaa
