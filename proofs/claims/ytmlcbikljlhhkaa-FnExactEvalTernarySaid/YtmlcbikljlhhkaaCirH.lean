import Derived.Test.YtmlcbikljlhhkaaCirG
import Derived.Test.YtmlcbikljlhhkaaCirN
import Derived.Test.YtmlcbikljlhhkaaRsB
namespace Go.Proofs.Ytmlcbikljlhhkaa
open Go.RowKit
set_option maxRecDepth 100000
/-! The tables of literals. -/
theorem bools_lit0 (w : World) (t : TypeId) : BoolsAt (w.alloc (.cells #[] t)) (.slice (some ⟨w.heap.size, 0, none⟩) 0 0) [] :=
  ⟨rfl, _, 0, rfl, Nat.le_refl _, Nat.zero_le _, fun h => absurd h (by simp)⟩
set_option maxHeartbeats 4000000 in
theorem specTable_ok (v : Value) (d : Ci) (l : Nat) (w : World) (h : CircAt w v (Cir.toCz d)) (hd : Cir.Ok d) (hv : Cir.valid (Cir.toCz d) = true) (hn : d.next = []) (hl : l < 2 * Cir.nvars d) :
    Calls Try.prog 16 #[v, .int .i64 l] w fun e w' => e = .returned (.int .i64 (Cir.tab d l (2 ^ d.ins) : Nat)) ∧ Below w.heap.size w w' := by
  have s1 := hd.ins
  have s3 := hd.gatess
  have hi : Cir.isLit l (Cir.vars (Cir.toCz d)) = true := by
    rw [Cir.vars_toCz]
    unfold Cir.isLit
    simp
    omega
  have hnl : (Cir.toCz d).next.length = 0 := by simp [Cir.toCz, hn]
  have hgl : (Cir.toCz d).gates.length = d.gates.length := List.length_map _
  have hnv : Cir.nvars d ≤ 19 := by unfold Cir.nvars Cir.nfirst; rw [hn]; simp; omega
  have HCa := Lib.hid h
  have hins : (Cir.toCz d).ins = (d.ins : Int) := rfl
  obtain ⟨vn, vg, vo, rfl, r1, r2, r3⟩ := h
  obtain ⟨An, cn, hvn, hcn, hcmn⟩ := r1.shape
  obtain ⟨Ag, cg, hvg, hcg, hcmg⟩ := Row.shape r2
  rw [hnl] at hvn
  rw [hgl] at hvg
  subst hvn hvg
  rw [hins] at HCa ⊢
  have hb0 : Below w.heap.size w (w.alloc (.cells #[.int .i64 d.ins, .slice An 0 cn, .slice Ag d.gates.length cg, vo] 30)) := (Below.refl _ _).alloc (Nat.le_refl _) _
  obtain ⟨z, p0, p1, p2, p3⟩ := PCells.boxed w d.ins (.slice An 0 cn) (.slice Ag d.gates.length cg) vo 30
  have HCW : Hid (CircAt (w.alloc (.cells #[.int .i64 d.ins, .slice An 0 cn, .slice Ag d.gates.length cg, vo] 30)) (.agg #[.int .i64 d.ins, .slice An 0 cn, .slice Ag d.gates.length cg, vo]) (Cir.toCz d)) := Lib.hid (HCa.out.below hb0)
  generalize hW : w.alloc (.cells #[.int .i64 d.ins, .slice An 0 cn, .slice Ag d.gates.length cg, vo] 30) = W at *
  have HC : ∀ n : GW W, CircAt (gw n) (.agg #[.int .i64 d.ins, .slice An 0 cn, .slice Ag d.gates.length cg, vo]) (Cir.toCz d) := fun n => HCW.out.below (gw_below n)
  have g0 := gw_cell p0 z
  have g1 := gw_cell p1 z
  have g2 := gw_cell p2 z
  have g3 := gw_cell p3 z
  have HV : Hid (∀ n : GW W, Calls Try.prog 59 #[.agg #[.int .i64 d.ins, .slice An 0 cn, .slice Ag d.gates.length cg, vo]] (gw n) fun e w' => e = .returned (.bool true) ∧ Below (gw n).heap.size (gw n) w') := Lib.hid fun n => by
    have := specValid_any _ _ _ (HC n)
    rwa [hv] at this
  have HF : Hid (∀ n : GW W, Calls Try.prog 61 #[.agg #[.int .i64 d.ins, .slice An 0 cn, .slice Ag d.gates.length cg, vo]] (gw n) fun e w' => e = .returned (.int .i64 (Cir.nfirst d : Nat)) ∧ Below (gw n).heap.size (gw n) w') := Lib.hid fun n => by
    have := l1First_any _ _ _ (HC n) (by rw [hins]; omega) (by rw [hins]; omega) (by omega)
    rwa [Cir.first_toCz] at this
  have HI : Hid (∀ n : GW W, Calls Try.prog 60 #[.int .i64 l, .int .i64 0, .int .i64 (2 * ((Cir.nfirst d : Nat) + d.gates.length) - 1)] (gw n) fun e w' => e = .returned (.bool true) ∧ gw n = w') := Lib.hid fun n => by
    have h1 := l1In_any l 0 (2 * ((Cir.nfirst d : Nat) + d.gates.length) - 1) (gw n)
    rw [show decide (0 ≤ (l : Int) ∧ (l : Int) ≤ 2 * (((Cir.nfirst d : Nat) : Int) + d.gates.length) - 1) = true from decide_eq_true (by unfold Cir.nvars at hl; omega)] at h1
    exact h1
  have hnf : Cir.nfirst d ≤ 5 := by unfold Cir.nfirst; rw [hn]; simp; omega
  have B0 := Lib.hid hb0
  have Hd := Lib.hid hd
  have PC : Hid (PCells W w.heap.size d.ins (.slice An 0 cn) (.slice Ag d.gates.length cg) vo) := Lib.hid ⟨z, p0, p1, p2, p3⟩
  obtain ⟨M, e, hM⟩ : ∃ M : Nat, (2 : Int) ^ d.ins = (M : Int) ∧ M = 2 ^ d.ins := ⟨2 ^ d.ins, two_pow d.ins, rfl⟩
  have hM16 : M ≤ 16 := by rw [hM]; exact Nat.pow_le_pow_right (show 0 < 2 by decide) s1
  rw [← hM]
  have HL : Hid (∀ x, (Cir.vals d [] (Cir.bits x d.ins)).length = Cir.nvars d) := Lib.hid fun x => Cir.vals_length d (Cir.bits_length _ _) (by simp [hn])
  have HN := Lib.hid hn
  have hdn : decide (0 < 0) = false := rfl
  clear r1 r2 r3 p0 p1 p2 p3 hb0 hd hv hn hi hnl hgl hM HCa HC
  generalize Cir.nfirst d = F at *
  have hwM := IntWalk.i64_in (M : Int) (by omega)
  go_enter Try.func16, Try.ntmps16
  go_wp2_with fail
  refine wp_region_grow (by kernel_rfl) (by kernel_rfl) ?_
  repeat (go_big_quiet_step ((first | (go_at_call 59; exact grow_call (HV.out _)) | (go_at_call 61; exact grow_call (HF.out _)) | (go_at_call 60; exact grow_same (HI.out _)))))
  refine wpQuiet_nil ?_
  intro _ hw'
  obtain ⟨nq, hw''⟩ := hw'
  subst hw''
  have hgq := gw_below nq
  generalize gw nq = wq at *
  clear nq
  clear HV HF HI
  obtain ⟨W1, hW1⟩ : ∃ W1, W1 = wq := ⟨_, rfl⟩
  subst hW1
  have HCq := Lib.hid (HCW.out.below hgq)
  have PCq := Lib.hid (PC.out.below hgq)
  have Bq := Lib.hid (B0.out.trans (hgq.mono B0.out.size))
  clear hgq g0 g1 g2 g3 PC B0 hW
  go_wp2_with fail
  go_loopw [5, 6] (fun t x wr => ∃ k : Nat, k ≤ M ∧ x = .int .i64 k ∧ t = .int .i64 (Cir.tab d l k : Nat) ∧ Below W1.heap.size W1 wr) (fun _ x _ => M - (intOf x).toNat)
  case atStart => exact ⟨0, Nat.zero_le _, rfl, rfl, Below.refl _ _⟩
  case round =>
    obtain ⟨k, hk, rfl, rfl, hb⟩ := hrel
    obtain ⟨z, p0, p1, p2, p3⟩ := PCq.out.below hb
    have HCr := Lib.hid (HCq.out.below hb)
    have Hb := Lib.hid hb
    have hzb := hb.size
    clear hb
    by_cases hlt : k < M
    · have ht : Cir.tab d l k < 65536 := Nat.lt_of_lt_of_le (Cir.tab_lt d l k) (by
        have : (65536 : Nat) = 2 ^ 16 := by decide
        rw [this]; exact Nat.pow_le_pow_right (show 0 < 2 by decide) (by omega))
      have Hs : Hid (Cir.tab d l (k + 1) = Cir.tab d l k + (if Cir.lit (Cir.vals d [] (Cir.bits k d.ins)) l then 2 ^ k else 0)) := Lib.hid rfl
      have hY : 2 ^ k ≤ 32768 := by
        have : (32768 : Nat) = 2 ^ 15 := by decide
        rw [this]; exact Nat.pow_le_pow_right (show 0 < 2 by decide) (by omega)
      have hYe : (2 : Int) ^ k = ((2 ^ k : Nat) : Int) := two_pow k
      generalize hYY : 2 ^ k = Y at *
      go_wp2_with fail
      have c0 := p0
      refine wp_region_rs (quietRS Try.prog _ wr _) quietRS_ok (by kernel_rfl) (by kernel_rfl) (by kernel_rfl) (Nat.le_of_ble_eq_true rfl) trivial trivial ?_
      refine rs_look quietRS_ok quiet_any (TEq (.agg #[.int .i64 d.ins, .slice An 0 cn, .slice Ag d.gates.length cg, vo])) (stb_eq _ _) (fun ρ w' ho hK => by
        obtain ⟨h1, -⟩ := hK
        have h1' : ρ (.tmp 2) = .pointer (some ⟨w.heap.size, 0, none⟩) := h1
        have hb := only_below ho
        have q0 := (hb.cell (p := ⟨w.heap.size, 0, none⟩) z).trans p0
        have q1 := (hb.cell (p := ⟨w.heap.size, 1, none⟩) z).trans p1
        have q2 := (hb.cell (p := ⟨w.heap.size, 2, none⟩) z).trans p2
        have q3 := (hb.cell (p := ⟨w.heap.size, 3, none⟩) z).trans p3
        refine ⟨_, ?_, rfl⟩
        go_simp) ?_
      refine rs_alloc quietRS_ok quiet_any (TBools []) (stb_bools _) (fun ρ w' ho hK => by
        refine ⟨_, .cells #[] 4, ?_, bools_lit0 w' _⟩
        go_simp) ?_
      refine rs_old quietRS_ok quiet_any _ (.inl rfl) _ rfl rfl ?_
      refine rs_look quietRS_ok quiet_any (TEq (.pointer (some ⟨w.heap.size, 0, none⟩))) (stb_eq _ _) (fun ρ w' ho hK => by
        obtain ⟨h1, -⟩ := hK
        have h1' : ρ (.tmp 2) = .pointer (some ⟨w.heap.size, 0, none⟩) := h1
        refine ⟨_, ?_, rfl⟩
        go_simp) ?_
      refine rs_look quietRS_ok quiet_any (TEq (.int .i64 d.ins)) (stb_eq _ _) (fun ρ w' ho hK => by
        obtain ⟨h1, -⟩ := hK
        have h1' : ρ (.tmp 39) = .pointer (some ⟨w.heap.size, 0, none⟩) := h1
        have hb := only_below ho
        have q0 := (hb.cell (p := ⟨w.heap.size, 0, none⟩) z).trans p0
        refine ⟨_, ?_, rfl⟩
        go_simp) ?_
      refine rs_call quietRS_ok quiet_any (TBools (Cir.bits k d.ins)) (stb_bools _) 64 _ _ rfl (fun ρ w' ho hK => by
        obtain ⟨h0, h1, h2, -⟩ := hK
        have h1' : ρ (.tmp 38) = .int .i64 k := h1
        have h2' : ρ (.tmp 40) = .int .i64 d.ins := h2
        have h0' : ρ (.func 64) = .func (.func 64) #[] #[] := h0
        refine ⟨#[.int .i64 k, .int .i64 d.ins], ?_, ?_⟩
        · go_simp
        · refine (l4Bits_any k d.ins w' (by omega) (by omega)).mono ?_
          rintro e w2 ⟨v2, rfl, hown, hb⟩
          exact ⟨v2, rfl, ownBools_at hown, hb⟩) ?_
      refine rs_call quietRS_ok quiet_any (TBools (Cir.vals d [] (Cir.bits k d.ins))) (stb_bools _) 63 _ _ rfl (fun ρ w' ho hK => by
        obtain ⟨h0, h1, h2, h3, -⟩ := hK
        have h0' : ρ (.func 63) = .func (.func 63) #[] #[] := h0
        have h1' : ρ (.tmp 36) = .agg #[.int .i64 d.ins, .slice An 0 cn, .slice Ag d.gates.length cg, vo] := h1
        have h2' : BoolsAt w' (ρ (.tmp 37)) [] := h2
        have h3' : BoolsAt w' (ρ (.tmp 41)) (Cir.bits k d.ins) := h3
        refine ⟨#[.agg #[.int .i64 d.ins, .slice An 0 cn, .slice Ag d.gates.length cg, vo], ρ (.tmp 37), ρ (.tmp 41)], ?_, ?_⟩
        · go_simp
        · refine (l2Values_any _ _ _ d [] (Cir.bits k d.ins) w' (HCr.out.below (only_below ho)) Hd.out h2' h3' (Cir.bits_length _ _) (by simp [HN.out])).mono ?_
          rintro e w2 ⟨v2, rfl, hown, hb⟩
          exact ⟨v2, rfl, ownBools_at hown, hb⟩) ?_
      refine rs_old quietRS_ok quiet_any _ (.inl rfl) _ rfl rfl ?_
      refine rs_call quietRS_ok quiet_any (TEq (.bool (Cir.lit (Cir.vals d [] (Cir.bits k d.ins)) l))) (stb_eq _ _) 62 _ _ rfl (fun ρ w' ho hK => by
        obtain ⟨h0, h1, h2, -⟩ := hK
        have h0' : ρ (.func 62) = .func (.func 62) #[] #[] := h0
        have h1' : BoolsAt w' (ρ (.tmp 42)) (Cir.vals d [] (Cir.bits k d.ins)) := h1
        have h2' : ρ (.tmp 43) = .int .i64 l := h2
        refine ⟨#[ρ (.tmp 42), .int .i64 l], ?_, ?_⟩
        · go_simp
        · refine (l2Lit_any _ _ l w' h1' (by rw [HL.out]; exact hl) (by omega)).mono ?_
          rintro e w2 ⟨rfl, rfl⟩
          exact ⟨_, rfl, rfl, Below.refl _ _⟩) ?_
      intro f w6 k' hk' hI ht6 hcp
      have h8 : f 8 = .bool (Cir.lit (Cir.vals d [] (Cir.bits k d.ins)) l) := ht6 8 (Nat.le_of_ble_eq_true rfl)
      have hb6 := only_below hI.2.1
      have Hb6 := Lib.hid (Hb.out.trans (hb6.mono hzb))
      simp only [putAll, h8, Nat.zero_add, Nat.reduceAdd, Act.put, List.setIfInBounds_toArray, List.set_cons_succ, List.set_cons_zero]
      generalize f 0 = u0, f 1 = u1, f 2 = u2, f 3 = u3, f 4 = u4, f 5 = u5, f 6 = u6, f 7 = u7
      clear hI ht6 hcp hk' h8 hb6 c0 p0 p1 p2 p3
      cases hb : Cir.lit (Cir.vals d [] (Cir.bits k d.ins)) l
      · rw [hb] at Hs
        go_wp2_with fail
        go_roundw
        case rel => exact ⟨k + 1, by omega, by go_num, by rw [Hs.out]; rfl, Hb6.out⟩
        case measure => simp [intOf] <;> omega
      · rw [hb] at Hs
        have hwr : IntKind.i64.wrap ((Cir.tab d l k : Int) + (Y : Int)) = (Cir.tab d l k : Int) + (Y : Int) := IntWalk.i64_in _ (by omega)
        have hwY : IntKind.i64.wrap (Y : Int) = (Y : Int) := IntWalk.i64_in _ (by omega)
        go_wp2_with fail
        go_roundw
        case rel => exact ⟨k + 1, by omega, by go_num, by rw [Hs.out]; go_num, Hb6.out⟩
        case measure => simp [intOf] <;> omega
    · obtain rfl : k = M := by omega
      go_wp2_with fail
      go_ret
      exact ⟨rfl, Bq.out.trans (Hb.out.mono Bq.out.size)⟩
end Go.Proofs.Ytmlcbikljlhhkaa
