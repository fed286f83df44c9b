import Derived.Test.YtlpellciiiflkaaRs
import Derived.Deep.DeepCutAuto
import Derived.BigRegion
namespace Go.Proofs.Ytlpellciiiflkaa
open Go.RowKit
theorem ix_ints : IxOk Try.prog 59 := by
  intro w g n j h1 h2
  have : (j : Int) < (n : Int) := by omega
  simp [Instr.indexAt, go_sem, Try.underlying59, Result.andThen, h1]
theorem fn_pick : FnOk Try.prog 34 := by
  intro args w
  kernel_rfl
theorem ag_int : ∀ w, (isAgg 3).run Try.prog w = .ok false w := by
  intro w
  kernel_rfl
/-- pick, whatever is asked for. -/
theorem pick_all (n : Int) (hi : Nat) (R P : Nat) (w : World) (h : Rd w R P) (hP : P ≤ 1000000) (h1 : 1 ≤ n) (h2 : n ≤ hi + 1) (h3 : hi ≤ 999999) :
    Calls Try.prog 34 #[.pointer (some ⟨R, 0, none⟩), .int .i64 n] w fun e w' => ∃ x : Int, 0 ≤ x ∧ x ≤ hi ∧ e = .returned (.int .i64 x) ∧ Rd w' R (P + 1) ∧ w.grownBy w' (some R) :=
  (pick_any n R P w h hP h1 (by omega)).mono fun _ _ ⟨x, h4, h5, h6⟩ => ⟨x, h4, by omega, h6⟩
theorem odd_all (n : Int) (R P : Nat) (w : World) (h : Rd w R P) (hP : P ≤ 1000000) (h1 : 0 ≤ n) (h2 : n ≤ 1000000) :
    Calls Try.prog 43 #[.pointer (some ⟨R, 0, none⟩), .int .i64 n] w (Odd R P w) := by
  by_cases hn : n = 0
  · subst hn
    refine (odd_zero R P w h).mono ?_
    rintro e w' ⟨rfl, rfl⟩
    exact ⟨false, rfl, h.more (by omega), World.grownBy.refl w _⟩
  · exact odd_any n R P w h hP (by omega) h2
def JNone : Option Value → World → Prop := fun _ _ => True
/-- A region about a reader and nothing else. -/
@[reducible] def rdRS (Pg : Program) (ops : Array Oper) (R P : Nat) (w : World) (a : Act) : RS := { P := Pg, ops := ops, E := (· = R), F := (· = R), rd := some (R, P), w0 := w, J := JNone, d := 0, a0 := a }
theorem rdRS_ok {Pg : Program} {ops : Array Oper} {R P : Nat} {w : World} {a : Act} (h : R < w.heap.size) : (rdRS Pg ops R P w a).Ok :=
  ⟨fun _ h => h, fun _ _ _ _ _ => trivial, fun _ _ e => by cases e; exact ⟨rfl, h⟩, fun _ e => by cases e; exact h⟩
def Tabled (R P : Nat) (w : World) (e : Ending) (w' : World) : Prop :=
  ∃ t n : Int, e = .returned (.tuple #[.int .i64 t, .int .i64 n]) ∧ -1 ≤ t ∧ t ≤ 65536 ∧ -1 ≤ n ∧ n ≤ 5 ∧ Rd w' R (P + 40) ∧ w.grownBy w' (some R)
theorem tmod_bd (x m : Int) (h0 : 0 ≤ x) (h1 : 0 < m) : 0 ≤ x.tmod m ∧ x.tmod m < m := by
  rw [Int.tmod_eq_emod_of_nonneg h0]
  exact ⟨Int.emod_nonneg _ (by omega), Int.emod_lt_of_pos _ h1⟩
set_option maxHeartbeats 4000000 in
theorem table_any (n : Int) (R P : Nat) (w : World) (h : Rd w R P) (hP : P ≤ 900000) (h1 : 0 ≤ n) (h2 : n ≤ 100) :
    Calls Try.prog 48 #[.pointer (some ⟨R, 0, none⟩), .int .i64 n] w (Tabled R P w) := by
  have H := Lib.hid h
  clear h
  go_enter Try.func48, Try.ntmps48
  go_wp2_with fail
  refine (pick_any _ R P w H.out (by omega) (by omega) (by omega)).mono ?_
  rintro e w1 ⟨x, hx0, hx1, rfl, hr1, hg1⟩
  have Hr1 := Lib.hid hr1
  have Hg1 := Lib.hid hg1
  clear hr1 hg1
  have hn : x = 0 ∨ x = 1 ∨ x = 2 ∨ x = 3 ∨ x = 4 := by omega
  go_wp2_with fail
  rcases hn with rfl | rfl | rfl | rfl | rfl
  · have hO := fun ops a => rdRS_ok (Pg := Try.prog) (ops := ops) (P := P + 1) (a := a) Hr1.out.lt
    have nd : ∀ (ops : Array Oper) (a : Act) (i : Nat), i ≠ (rdRS Try.prog ops R (P + 1) w1 a).d ∨ ∀ ov w, (rdRS Try.prog ops R (P + 1) w1 a).J ov w := fun _ _ _ => .inr fun _ _ => trivial
    refine wp_region_rs (rdRS Try.prog _ R (P + 1) w1 _) (hO _ _) (by kernel_rfl) (by kernel_rfl) (by kernel_rfl) (Nat.zero_lt_succ _) Hr1.out trivial ?_
    refine rs_old (hO _ _) (nd _ _ _) _ (.inl rfl) _ rfl rfl ?_
    refine rs_pick (hO _ _) (nd _ _ _) 34 _ _ _ R (P + 1) 255 rfl rfl fn_pick (fun ρ w hK => ⟨hK.1, hK.2.1, 256, hK.2.2.1, by omega, by omega⟩) (fun n k w hk h1n hn hr => pick_all n 255 R _ w hr (by have hk' : k < 11 := hk; omega) h1n hn (by omega)) ?_
    refine rs_old (hO _ _) (nd _ _ _) _ (.inl rfl) _ rfl rfl ?_
    refine rs_pick (hO _ _) (nd _ _ _) 34 _ _ _ R (P + 1) 255 rfl rfl fn_pick (fun ρ w hK => ⟨hK.1, hK.2.1, 256, hK.2.2.1, by omega, by omega⟩) (fun n k w hk h1n hn hr => pick_all n 255 R _ w hr (by have hk' : k < 11 := hk; omega) h1n hn (by omega)) ?_
    refine rs_pure (hO _ _) (nd _ _ _) (TInt 0 65280) (stb_int _ _ _) (fun ρ w hK => by
      obtain ⟨c, ⟨x, hx, h0, h1⟩, -⟩ := hK
      have hx' : ρ (.tmp 13) = .int .i64 x := hx
      have c' : ρ (.const (.int .i64 256)) = .int .i64 256 := c
      have hwr := IntWalk.i64_in (256 * x) (by omega)
      refine ⟨.int .i64 (256 * x), ?_, ⟨_, rfl, by omega, by omega⟩⟩
      go_simp) ?_
    refine rs_pure (hO _ _) (nd _ _ _) (TInt 0 65535) (stb_int _ _ _) (fun ρ w hK => by
      obtain ⟨⟨x, hx, h0, h1⟩, ⟨y, hy, h2, h3⟩, -⟩ := hK
      have hx' : ρ (.tmp 11) = .int .i64 x := hx
      have hy' : ρ (.tmp 14) = .int .i64 y := hy
      have hwr := IntWalk.i64_in (x + y) (by omega)
      refine ⟨.int .i64 (x + y), ?_, ⟨_, rfl, by omega, by omega⟩⟩
      go_simp) ?_
    refine rs_old (hO _ _) (nd _ _ _) _ (.inl rfl) _ rfl rfl ?_
    refine rs_pure (hO _ _) (nd _ _ _) (TEq (.int .u64 1)) (stb_eq _ _) (fun ρ w hK => by
      obtain ⟨c, h, -⟩ := hK
      have c' : ρ (.const (.int .u64 1)) = .int .u64 1 := c
      have h' : ρ (.tmp 16) = .int .i64 0 := h
      have hwr : IntKind.u64.wrap 1 = 1 := by decide
      refine ⟨.int .u64 1, ?_, rfl⟩
      go_simp) ?_
    refine rs_pure (hO _ _) (nd _ _ _) (TEq (.int .i64 2)) (stb_eq _ _) (fun ρ w hK => by
      obtain ⟨c, h, -⟩ := hK
      have c' : ρ (.const (.int .i64 1)) = .int .i64 1 := c
      have h' : ρ (.tmp 17) = .int .u64 1 := h
      have hwr : IntKind.i64.wrap 2 = 2 := IntWalk.i64_in _ (by omega)
      refine ⟨.int .i64 2, ?_, rfl⟩
      go_simp) ?_
    refine rs_pure (hO _ _) (nd _ _ _) (TInt 0 65535) (stb_int _ _ _) (fun ρ w hK => by
      obtain ⟨⟨x, hx, h0, h1⟩, h, -⟩ := hK
      have hx' : ρ (.tmp 15) = .int .i64 x := hx
      have h' : ρ (.tmp 18) = .int .i64 2 := h
      have hb := tmod_bd x 2 h0 (by omega)
      refine ⟨.int .i64 (x.tmod 2), ?_, ⟨_, rfl, by omega, by omega⟩⟩
      go_simp) ?_
    refine rs_same (hO _ _) (nd _ _ _) _ _ (.inr rfl) rfl _ rfl ?_
    intro f w2 k hk hI ht _
    obtain ⟨t, hy, hy0, hy1⟩ := ht 10 (show 10 < 11 by omega)
    have hk11 : k ≤ 11 := hk
    have Hr2 : Hid (Rd w2 R (P + 1 + 11)) := Lib.hid (Rd.more hI.1 (by omega))
    have Hg2 := Lib.hid (grownBy_trans Hg1.out (Only.grownBy hI.2.1))
    simp only [putAll, hy]
    clear hI ht hk hy hO nd
    go_wp2_with fail
    refine (odd_all n R _ _ Hr2.out (by omega) h1 (by omega)).mono ?_
    rintro e w3 ⟨b, rfl, hr3, hg3⟩
    have Hr3 := Lib.hid hr3
    have Hg3 := Lib.hid (grownBy_trans Hg2.out hg3)
    clear hr3 hg3
    cases b
    · go_wp2_with fail
      go_ret2
      exact ⟨t, 0, rfl, by omega, by omega, by omega, by omega, Hr3.out.more (by omega), Hg3.out⟩
    · go_wp2_with fail
      have hO := fun ops a => rdRS_ok (Pg := Try.prog) (ops := ops) (P := P + 1 + 11 + 1) (a := a) Hr3.out.lt
      have nd : ∀ (ops : Array Oper) (a : Act) (i : Nat), i ≠ (rdRS Try.prog ops R (P + 1 + 11 + 1) w3 a).d ∨ ∀ ov w, (rdRS Try.prog ops R (P + 1 + 11 + 1) w3 a).J ov w := fun _ _ _ => .inr fun _ _ => trivial
      refine wp_region_rs (rdRS Try.prog _ R (P + 1 + 11 + 1) w3 _) (hO _ _) (by kernel_rfl) (by kernel_rfl) (by kernel_rfl) (Nat.zero_lt_succ _) Hr3.out trivial ?_
      refine rs_old (hO _ _) (nd _ _ _) _ (.inl rfl) _ rfl rfl ?_
      refine rs_pure (hO _ _) (nd _ _ _) (TEq (.int .u64 1)) (stb_eq _ _) (fun ρ w hK => by
        obtain ⟨c, h, -⟩ := hK
        have c' : ρ (.const (.int .u64 1)) = .int .u64 1 := c
        have h' : ρ (.tmp 23) = .int .i64 0 := h
        have hwr : IntKind.u64.wrap 1 = 1 := by decide
        refine ⟨.int .u64 1, ?_, rfl⟩
        go_simp) ?_
      refine rs_pure (hO _ _) (nd _ _ _) (TEq (.int .i64 2)) (stb_eq _ _) (fun ρ w hK => by
        obtain ⟨c, h, -⟩ := hK
        have c' : ρ (.const (.int .i64 1)) = .int .i64 1 := c
        have h' : ρ (.tmp 24) = .int .u64 1 := h
        have hwr : IntKind.i64.wrap 2 = 2 := IntWalk.i64_in _ (by omega)
        refine ⟨.int .i64 2, ?_, rfl⟩
        go_simp) ?_
      refine rs_old (hO _ _) (nd _ _ _) _ (.inl rfl) _ rfl rfl ?_
      refine rs_build (hO _ _) (nd _ _ _) 3 (GInt (-1) 65536) 3 (fun ρ w hK => by
        obtain ⟨c1, h1', h2', -⟩ := hK
        have c1' : ρ (.const (.int .i64 (-1))) = .int .i64 (-1) := c1
        have a1 : ρ (.tmp 25) = .int .i64 2 := h1'
        have a2 : ρ (.tmp 26) = .int .i64 t := h2'
        refine ⟨#[.int .i64 (-1), .int .i64 2, .int .i64 t], rfl, ?_, ?_⟩
        · go_simp
        · intro c hc
          simp at hc
          rcases hc with rfl | rfl | rfl
          · exact ⟨-1, rfl, by omega, by omega⟩
          · exact ⟨2, rfl, by omega, by omega⟩
          · exact ⟨t, rfl, by omega, by omega⟩) ?_
      refine rs_old (hO _ _) (nd _ _ _) _ (.inl rfl) _ rfl rfl ?_
      refine rs_pick (hO _ _) (nd _ _ _) 34 _ _ _ R (P + 1 + 11 + 1) 2 rfl rfl fn_pick (fun ρ w hK => ⟨hK.1, hK.2.1, 3, hK.2.2.1, by omega, by omega⟩) (fun n k w hk h1n hn hr => pick_all n 2 R _ w hr (by have hk' : k < 17 := hk; omega) h1n hn (by omega)) ?_
      refine rs_index (hO _ _) (nd _ _ _) 59 _ _ 3 (GInt (-1) 65536) 2 rfl _ _ rfl rfl rfl rfl (by omega) (by omega) ix_ints ?_
      refine rs_load (hO _ _) (nd _ _ _) 3 _ (GInt (-1) 65536) rfl _ rfl rfl ag_int ?_
      refine rs_old (hO _ _) (nd _ _ _) _ (.inl rfl) _ rfl rfl ?_
      refine rs_build (hO _ _) (nd _ _ _) 3 (GInt (-1) 5) 3 (fun ρ w hK => by
        obtain ⟨h1', c1, c2, -⟩ := hK
        have a1 : ρ (.tmp 32) = .int .i64 0 := h1'
        have c1' : ρ (.const (.int .i64 (-1))) = .int .i64 (-1) := c1
        have c2' : ρ (.const (.int .i64 5)) = .int .i64 5 := c2
        refine ⟨#[.int .i64 0, .int .i64 (-1), .int .i64 5], rfl, ?_, ?_⟩
        · go_simp
        · intro c hc
          simp at hc
          rcases hc with rfl | rfl | rfl
          · exact ⟨0, rfl, by omega, by omega⟩
          · exact ⟨-1, rfl, by omega, by omega⟩
          · exact ⟨5, rfl, by omega, by omega⟩) ?_
      refine rs_old (hO _ _) (nd _ _ _) _ (.inl rfl) _ rfl rfl ?_
      refine rs_pick (hO _ _) (nd _ _ _) 34 _ _ _ R (P + 1 + 11 + 1) 2 rfl rfl fn_pick (fun ρ w hK => ⟨hK.1, hK.2.1, 3, hK.2.2.1, by omega, by omega⟩) (fun n k w hk h1n hn hr => pick_all n 2 R _ w hr (by have hk' : k < 17 := hk; omega) h1n hn (by omega)) ?_
      refine rs_index (hO _ _) (nd _ _ _) 59 _ _ 3 (GInt (-1) 5) 2 rfl _ _ rfl rfl rfl rfl (by omega) (by omega) ix_ints ?_
      refine rs_load (hO _ _) (nd _ _ _) 3 _ (GInt (-1) 5) rfl _ rfl rfl ag_int ?_
      refine rs_same (hO _ _) (nd _ _ _) _ _ (.inr rfl) rfl (TOf (GInt (-1) 65536)) rfl ?_
      refine rs_same (hO _ _) (nd _ _ _) _ _ (.inr rfl) rfl (TOf (GInt (-1) 5)) rfl ?_
      intro f w4 k hk hI ht _
      have h15 : TOf (GInt (-1) 65536) w4 (f 15) := ht 15 (show 15 < 17 by omega)
      have h16 : TOf (GInt (-1) 5) w4 (f 16) := ht 16 (show 16 < 17 by omega)
      obtain ⟨y, hy, hy0, hy1⟩ := h15
      obtain ⟨z, hz, hz0, hz1⟩ := h16
      have hk17 : k ≤ 17 := hk
      have Hr4 : Hid (Rd w4 R (P + 40)) := Lib.hid (Rd.more hI.1 (by omega))
      have Hg4 := Lib.hid (grownBy_trans Hg3.out (Only.grownBy hI.2.1))
      simp only [putAll, hy, hz]
      clear hI ht hk hy hz hO nd
      go_wp2_with fail
      go_ret2
      exact ⟨y, z, rfl, by omega, by omega, by omega, by omega, Hr4.out, Hg4.out⟩
  · have hO := fun ops a => rdRS_ok (Pg := Try.prog) (ops := ops) (P := P + 1) (a := a) Hr1.out.lt
    have nd : ∀ (ops : Array Oper) (a : Act) (i : Nat), i ≠ (rdRS Try.prog ops R (P + 1) w1 a).d ∨ ∀ ov w, (rdRS Try.prog ops R (P + 1) w1 a).J ov w := fun _ _ _ => .inr fun _ _ => trivial
    refine wp_region_rs (rdRS Try.prog _ R (P + 1) w1 _) (hO _ _) (by kernel_rfl) (by kernel_rfl) (by kernel_rfl) (Nat.zero_lt_succ _) Hr1.out trivial ?_
    refine rs_old (hO _ _) (nd _ _ _) _ (.inl rfl) _ rfl rfl ?_
    refine rs_pick (hO _ _) (nd _ _ _) 34 _ _ _ R (P + 1) 255 rfl rfl fn_pick (fun ρ w hK => ⟨hK.1, hK.2.1, 256, hK.2.2.1, by omega, by omega⟩) (fun n k w hk h1n hn hr => pick_all n 255 R _ w hr (by have hk' : k < 11 := hk; omega) h1n hn (by omega)) ?_
    refine rs_old (hO _ _) (nd _ _ _) _ (.inl rfl) _ rfl rfl ?_
    refine rs_pick (hO _ _) (nd _ _ _) 34 _ _ _ R (P + 1) 255 rfl rfl fn_pick (fun ρ w hK => ⟨hK.1, hK.2.1, 256, hK.2.2.1, by omega, by omega⟩) (fun n k w hk h1n hn hr => pick_all n 255 R _ w hr (by have hk' : k < 11 := hk; omega) h1n hn (by omega)) ?_
    refine rs_pure (hO _ _) (nd _ _ _) (TInt 0 65280) (stb_int _ _ _) (fun ρ w hK => by
      obtain ⟨c, ⟨x, hx, h0, h1⟩, -⟩ := hK
      have hx' : ρ (.tmp 13) = .int .i64 x := hx
      have c' : ρ (.const (.int .i64 256)) = .int .i64 256 := c
      have hwr := IntWalk.i64_in (256 * x) (by omega)
      refine ⟨.int .i64 (256 * x), ?_, ⟨_, rfl, by omega, by omega⟩⟩
      go_simp) ?_
    refine rs_pure (hO _ _) (nd _ _ _) (TInt 0 65535) (stb_int _ _ _) (fun ρ w hK => by
      obtain ⟨⟨x, hx, h0, h1⟩, ⟨y, hy, h2, h3⟩, -⟩ := hK
      have hx' : ρ (.tmp 11) = .int .i64 x := hx
      have hy' : ρ (.tmp 14) = .int .i64 y := hy
      have hwr := IntWalk.i64_in (x + y) (by omega)
      refine ⟨.int .i64 (x + y), ?_, ⟨_, rfl, by omega, by omega⟩⟩
      go_simp) ?_
    refine rs_old (hO _ _) (nd _ _ _) _ (.inl rfl) _ rfl rfl ?_
    refine rs_pure (hO _ _) (nd _ _ _) (TEq (.int .u64 2)) (stb_eq _ _) (fun ρ w hK => by
      obtain ⟨c, h, -⟩ := hK
      have c' : ρ (.const (.int .u64 1)) = .int .u64 1 := c
      have h' : ρ (.tmp 16) = .int .i64 1 := h
      have hwr : IntKind.u64.wrap 2 = 2 := by decide
      refine ⟨.int .u64 2, ?_, rfl⟩
      go_simp) ?_
    refine rs_pure (hO _ _) (nd _ _ _) (TEq (.int .i64 4)) (stb_eq _ _) (fun ρ w hK => by
      obtain ⟨c, h, -⟩ := hK
      have c' : ρ (.const (.int .i64 1)) = .int .i64 1 := c
      have h' : ρ (.tmp 17) = .int .u64 2 := h
      have hwr : IntKind.i64.wrap 4 = 4 := IntWalk.i64_in _ (by omega)
      refine ⟨.int .i64 4, ?_, rfl⟩
      go_simp) ?_
    refine rs_pure (hO _ _) (nd _ _ _) (TInt 0 65535) (stb_int _ _ _) (fun ρ w hK => by
      obtain ⟨⟨x, hx, h0, h1⟩, h, -⟩ := hK
      have hx' : ρ (.tmp 15) = .int .i64 x := hx
      have h' : ρ (.tmp 18) = .int .i64 4 := h
      have hb := tmod_bd x 4 h0 (by omega)
      refine ⟨.int .i64 (x.tmod 4), ?_, ⟨_, rfl, by omega, by omega⟩⟩
      go_simp) ?_
    refine rs_same (hO _ _) (nd _ _ _) _ _ (.inr rfl) rfl _ rfl ?_
    intro f w2 k hk hI ht _
    obtain ⟨t, hy, hy0, hy1⟩ := ht 10 (show 10 < 11 by omega)
    have hk11 : k ≤ 11 := hk
    have Hr2 : Hid (Rd w2 R (P + 1 + 11)) := Lib.hid (Rd.more hI.1 (by omega))
    have Hg2 := Lib.hid (grownBy_trans Hg1.out (Only.grownBy hI.2.1))
    simp only [putAll, hy]
    clear hI ht hk hy hO nd
    go_wp2_with fail
    refine (odd_all n R _ _ Hr2.out (by omega) h1 (by omega)).mono ?_
    rintro e w3 ⟨b, rfl, hr3, hg3⟩
    have Hr3 := Lib.hid hr3
    have Hg3 := Lib.hid (grownBy_trans Hg2.out hg3)
    clear hr3 hg3
    cases b
    · go_wp2_with fail
      go_ret2
      exact ⟨t, 1, rfl, by omega, by omega, by omega, by omega, Hr3.out.more (by omega), Hg3.out⟩
    · go_wp2_with fail
      have hO := fun ops a => rdRS_ok (Pg := Try.prog) (ops := ops) (P := P + 1 + 11 + 1) (a := a) Hr3.out.lt
      have nd : ∀ (ops : Array Oper) (a : Act) (i : Nat), i ≠ (rdRS Try.prog ops R (P + 1 + 11 + 1) w3 a).d ∨ ∀ ov w, (rdRS Try.prog ops R (P + 1 + 11 + 1) w3 a).J ov w := fun _ _ _ => .inr fun _ _ => trivial
      refine wp_region_rs (rdRS Try.prog _ R (P + 1 + 11 + 1) w3 _) (hO _ _) (by kernel_rfl) (by kernel_rfl) (by kernel_rfl) (Nat.zero_lt_succ _) Hr3.out trivial ?_
      refine rs_old (hO _ _) (nd _ _ _) _ (.inl rfl) _ rfl rfl ?_
      refine rs_pure (hO _ _) (nd _ _ _) (TEq (.int .u64 2)) (stb_eq _ _) (fun ρ w hK => by
        obtain ⟨c, h, -⟩ := hK
        have c' : ρ (.const (.int .u64 1)) = .int .u64 1 := c
        have h' : ρ (.tmp 23) = .int .i64 1 := h
        have hwr : IntKind.u64.wrap 2 = 2 := by decide
        refine ⟨.int .u64 2, ?_, rfl⟩
        go_simp) ?_
      refine rs_pure (hO _ _) (nd _ _ _) (TEq (.int .i64 4)) (stb_eq _ _) (fun ρ w hK => by
        obtain ⟨c, h, -⟩ := hK
        have c' : ρ (.const (.int .i64 1)) = .int .i64 1 := c
        have h' : ρ (.tmp 24) = .int .u64 2 := h
        have hwr : IntKind.i64.wrap 4 = 4 := IntWalk.i64_in _ (by omega)
        refine ⟨.int .i64 4, ?_, rfl⟩
        go_simp) ?_
      refine rs_old (hO _ _) (nd _ _ _) _ (.inl rfl) _ rfl rfl ?_
      refine rs_build (hO _ _) (nd _ _ _) 3 (GInt (-1) 65536) 3 (fun ρ w hK => by
        obtain ⟨c1, h1', h2', -⟩ := hK
        have c1' : ρ (.const (.int .i64 (-1))) = .int .i64 (-1) := c1
        have a1 : ρ (.tmp 25) = .int .i64 4 := h1'
        have a2 : ρ (.tmp 26) = .int .i64 t := h2'
        refine ⟨#[.int .i64 (-1), .int .i64 4, .int .i64 t], rfl, ?_, ?_⟩
        · go_simp
        · intro c hc
          simp at hc
          rcases hc with rfl | rfl | rfl
          · exact ⟨-1, rfl, by omega, by omega⟩
          · exact ⟨4, rfl, by omega, by omega⟩
          · exact ⟨t, rfl, by omega, by omega⟩) ?_
      refine rs_old (hO _ _) (nd _ _ _) _ (.inl rfl) _ rfl rfl ?_
      refine rs_pick (hO _ _) (nd _ _ _) 34 _ _ _ R (P + 1 + 11 + 1) 2 rfl rfl fn_pick (fun ρ w hK => ⟨hK.1, hK.2.1, 3, hK.2.2.1, by omega, by omega⟩) (fun n k w hk h1n hn hr => pick_all n 2 R _ w hr (by have hk' : k < 17 := hk; omega) h1n hn (by omega)) ?_
      refine rs_index (hO _ _) (nd _ _ _) 59 _ _ 3 (GInt (-1) 65536) 2 rfl _ _ rfl rfl rfl rfl (by omega) (by omega) ix_ints ?_
      refine rs_load (hO _ _) (nd _ _ _) 3 _ (GInt (-1) 65536) rfl _ rfl rfl ag_int ?_
      refine rs_old (hO _ _) (nd _ _ _) _ (.inl rfl) _ rfl rfl ?_
      refine rs_build (hO _ _) (nd _ _ _) 3 (GInt (-1) 5) 3 (fun ρ w hK => by
        obtain ⟨h1', c1, c2, -⟩ := hK
        have a1 : ρ (.tmp 32) = .int .i64 1 := h1'
        have c1' : ρ (.const (.int .i64 (-1))) = .int .i64 (-1) := c1
        have c2' : ρ (.const (.int .i64 5)) = .int .i64 5 := c2
        refine ⟨#[.int .i64 1, .int .i64 (-1), .int .i64 5], rfl, ?_, ?_⟩
        · go_simp
        · intro c hc
          simp at hc
          rcases hc with rfl | rfl | rfl
          · exact ⟨1, rfl, by omega, by omega⟩
          · exact ⟨-1, rfl, by omega, by omega⟩
          · exact ⟨5, rfl, by omega, by omega⟩) ?_
      refine rs_old (hO _ _) (nd _ _ _) _ (.inl rfl) _ rfl rfl ?_
      refine rs_pick (hO _ _) (nd _ _ _) 34 _ _ _ R (P + 1 + 11 + 1) 2 rfl rfl fn_pick (fun ρ w hK => ⟨hK.1, hK.2.1, 3, hK.2.2.1, by omega, by omega⟩) (fun n k w hk h1n hn hr => pick_all n 2 R _ w hr (by have hk' : k < 17 := hk; omega) h1n hn (by omega)) ?_
      refine rs_index (hO _ _) (nd _ _ _) 59 _ _ 3 (GInt (-1) 5) 2 rfl _ _ rfl rfl rfl rfl (by omega) (by omega) ix_ints ?_
      refine rs_load (hO _ _) (nd _ _ _) 3 _ (GInt (-1) 5) rfl _ rfl rfl ag_int ?_
      refine rs_same (hO _ _) (nd _ _ _) _ _ (.inr rfl) rfl (TOf (GInt (-1) 65536)) rfl ?_
      refine rs_same (hO _ _) (nd _ _ _) _ _ (.inr rfl) rfl (TOf (GInt (-1) 5)) rfl ?_
      intro f w4 k hk hI ht _
      have h15 : TOf (GInt (-1) 65536) w4 (f 15) := ht 15 (show 15 < 17 by omega)
      have h16 : TOf (GInt (-1) 5) w4 (f 16) := ht 16 (show 16 < 17 by omega)
      obtain ⟨y, hy, hy0, hy1⟩ := h15
      obtain ⟨z, hz, hz0, hz1⟩ := h16
      have hk17 : k ≤ 17 := hk
      have Hr4 : Hid (Rd w4 R (P + 40)) := Lib.hid (Rd.more hI.1 (by omega))
      have Hg4 := Lib.hid (grownBy_trans Hg3.out (Only.grownBy hI.2.1))
      simp only [putAll, hy, hz]
      clear hI ht hk hy hz hO nd
      go_wp2_with fail
      go_ret2
      exact ⟨y, z, rfl, by omega, by omega, by omega, by omega, Hr4.out, Hg4.out⟩
  · have hO := fun ops a => rdRS_ok (Pg := Try.prog) (ops := ops) (P := P + 1) (a := a) Hr1.out.lt
    have nd : ∀ (ops : Array Oper) (a : Act) (i : Nat), i ≠ (rdRS Try.prog ops R (P + 1) w1 a).d ∨ ∀ ov w, (rdRS Try.prog ops R (P + 1) w1 a).J ov w := fun _ _ _ => .inr fun _ _ => trivial
    refine wp_region_rs (rdRS Try.prog _ R (P + 1) w1 _) (hO _ _) (by kernel_rfl) (by kernel_rfl) (by kernel_rfl) (Nat.zero_lt_succ _) Hr1.out trivial ?_
    refine rs_old (hO _ _) (nd _ _ _) _ (.inl rfl) _ rfl rfl ?_
    refine rs_pick (hO _ _) (nd _ _ _) 34 _ _ _ R (P + 1) 255 rfl rfl fn_pick (fun ρ w hK => ⟨hK.1, hK.2.1, 256, hK.2.2.1, by omega, by omega⟩) (fun n k w hk h1n hn hr => pick_all n 255 R _ w hr (by have hk' : k < 11 := hk; omega) h1n hn (by omega)) ?_
    refine rs_old (hO _ _) (nd _ _ _) _ (.inl rfl) _ rfl rfl ?_
    refine rs_pick (hO _ _) (nd _ _ _) 34 _ _ _ R (P + 1) 255 rfl rfl fn_pick (fun ρ w hK => ⟨hK.1, hK.2.1, 256, hK.2.2.1, by omega, by omega⟩) (fun n k w hk h1n hn hr => pick_all n 255 R _ w hr (by have hk' : k < 11 := hk; omega) h1n hn (by omega)) ?_
    refine rs_pure (hO _ _) (nd _ _ _) (TInt 0 65280) (stb_int _ _ _) (fun ρ w hK => by
      obtain ⟨c, ⟨x, hx, h0, h1⟩, -⟩ := hK
      have hx' : ρ (.tmp 13) = .int .i64 x := hx
      have c' : ρ (.const (.int .i64 256)) = .int .i64 256 := c
      have hwr := IntWalk.i64_in (256 * x) (by omega)
      refine ⟨.int .i64 (256 * x), ?_, ⟨_, rfl, by omega, by omega⟩⟩
      go_simp) ?_
    refine rs_pure (hO _ _) (nd _ _ _) (TInt 0 65535) (stb_int _ _ _) (fun ρ w hK => by
      obtain ⟨⟨x, hx, h0, h1⟩, ⟨y, hy, h2, h3⟩, -⟩ := hK
      have hx' : ρ (.tmp 11) = .int .i64 x := hx
      have hy' : ρ (.tmp 14) = .int .i64 y := hy
      have hwr := IntWalk.i64_in (x + y) (by omega)
      refine ⟨.int .i64 (x + y), ?_, ⟨_, rfl, by omega, by omega⟩⟩
      go_simp) ?_
    refine rs_old (hO _ _) (nd _ _ _) _ (.inl rfl) _ rfl rfl ?_
    refine rs_pure (hO _ _) (nd _ _ _) (TEq (.int .u64 4)) (stb_eq _ _) (fun ρ w hK => by
      obtain ⟨c, h, -⟩ := hK
      have c' : ρ (.const (.int .u64 1)) = .int .u64 1 := c
      have h' : ρ (.tmp 16) = .int .i64 2 := h
      have hwr : IntKind.u64.wrap 4 = 4 := by decide
      refine ⟨.int .u64 4, ?_, rfl⟩
      go_simp) ?_
    refine rs_pure (hO _ _) (nd _ _ _) (TEq (.int .i64 16)) (stb_eq _ _) (fun ρ w hK => by
      obtain ⟨c, h, -⟩ := hK
      have c' : ρ (.const (.int .i64 1)) = .int .i64 1 := c
      have h' : ρ (.tmp 17) = .int .u64 4 := h
      have hwr : IntKind.i64.wrap 16 = 16 := IntWalk.i64_in _ (by omega)
      refine ⟨.int .i64 16, ?_, rfl⟩
      go_simp) ?_
    refine rs_pure (hO _ _) (nd _ _ _) (TInt 0 65535) (stb_int _ _ _) (fun ρ w hK => by
      obtain ⟨⟨x, hx, h0, h1⟩, h, -⟩ := hK
      have hx' : ρ (.tmp 15) = .int .i64 x := hx
      have h' : ρ (.tmp 18) = .int .i64 16 := h
      have hb := tmod_bd x 16 h0 (by omega)
      refine ⟨.int .i64 (x.tmod 16), ?_, ⟨_, rfl, by omega, by omega⟩⟩
      go_simp) ?_
    refine rs_same (hO _ _) (nd _ _ _) _ _ (.inr rfl) rfl _ rfl ?_
    intro f w2 k hk hI ht _
    obtain ⟨t, hy, hy0, hy1⟩ := ht 10 (show 10 < 11 by omega)
    have hk11 : k ≤ 11 := hk
    have Hr2 : Hid (Rd w2 R (P + 1 + 11)) := Lib.hid (Rd.more hI.1 (by omega))
    have Hg2 := Lib.hid (grownBy_trans Hg1.out (Only.grownBy hI.2.1))
    simp only [putAll, hy]
    clear hI ht hk hy hO nd
    go_wp2_with fail
    refine (odd_all n R _ _ Hr2.out (by omega) h1 (by omega)).mono ?_
    rintro e w3 ⟨b, rfl, hr3, hg3⟩
    have Hr3 := Lib.hid hr3
    have Hg3 := Lib.hid (grownBy_trans Hg2.out hg3)
    clear hr3 hg3
    cases b
    · go_wp2_with fail
      go_ret2
      exact ⟨t, 2, rfl, by omega, by omega, by omega, by omega, Hr3.out.more (by omega), Hg3.out⟩
    · go_wp2_with fail
      have hO := fun ops a => rdRS_ok (Pg := Try.prog) (ops := ops) (P := P + 1 + 11 + 1) (a := a) Hr3.out.lt
      have nd : ∀ (ops : Array Oper) (a : Act) (i : Nat), i ≠ (rdRS Try.prog ops R (P + 1 + 11 + 1) w3 a).d ∨ ∀ ov w, (rdRS Try.prog ops R (P + 1 + 11 + 1) w3 a).J ov w := fun _ _ _ => .inr fun _ _ => trivial
      refine wp_region_rs (rdRS Try.prog _ R (P + 1 + 11 + 1) w3 _) (hO _ _) (by kernel_rfl) (by kernel_rfl) (by kernel_rfl) (Nat.zero_lt_succ _) Hr3.out trivial ?_
      refine rs_old (hO _ _) (nd _ _ _) _ (.inl rfl) _ rfl rfl ?_
      refine rs_pure (hO _ _) (nd _ _ _) (TEq (.int .u64 4)) (stb_eq _ _) (fun ρ w hK => by
        obtain ⟨c, h, -⟩ := hK
        have c' : ρ (.const (.int .u64 1)) = .int .u64 1 := c
        have h' : ρ (.tmp 23) = .int .i64 2 := h
        have hwr : IntKind.u64.wrap 4 = 4 := by decide
        refine ⟨.int .u64 4, ?_, rfl⟩
        go_simp) ?_
      refine rs_pure (hO _ _) (nd _ _ _) (TEq (.int .i64 16)) (stb_eq _ _) (fun ρ w hK => by
        obtain ⟨c, h, -⟩ := hK
        have c' : ρ (.const (.int .i64 1)) = .int .i64 1 := c
        have h' : ρ (.tmp 24) = .int .u64 4 := h
        have hwr : IntKind.i64.wrap 16 = 16 := IntWalk.i64_in _ (by omega)
        refine ⟨.int .i64 16, ?_, rfl⟩
        go_simp) ?_
      refine rs_old (hO _ _) (nd _ _ _) _ (.inl rfl) _ rfl rfl ?_
      refine rs_build (hO _ _) (nd _ _ _) 3 (GInt (-1) 65536) 3 (fun ρ w hK => by
        obtain ⟨c1, h1', h2', -⟩ := hK
        have c1' : ρ (.const (.int .i64 (-1))) = .int .i64 (-1) := c1
        have a1 : ρ (.tmp 25) = .int .i64 16 := h1'
        have a2 : ρ (.tmp 26) = .int .i64 t := h2'
        refine ⟨#[.int .i64 (-1), .int .i64 16, .int .i64 t], rfl, ?_, ?_⟩
        · go_simp
        · intro c hc
          simp at hc
          rcases hc with rfl | rfl | rfl
          · exact ⟨-1, rfl, by omega, by omega⟩
          · exact ⟨16, rfl, by omega, by omega⟩
          · exact ⟨t, rfl, by omega, by omega⟩) ?_
      refine rs_old (hO _ _) (nd _ _ _) _ (.inl rfl) _ rfl rfl ?_
      refine rs_pick (hO _ _) (nd _ _ _) 34 _ _ _ R (P + 1 + 11 + 1) 2 rfl rfl fn_pick (fun ρ w hK => ⟨hK.1, hK.2.1, 3, hK.2.2.1, by omega, by omega⟩) (fun n k w hk h1n hn hr => pick_all n 2 R _ w hr (by have hk' : k < 17 := hk; omega) h1n hn (by omega)) ?_
      refine rs_index (hO _ _) (nd _ _ _) 59 _ _ 3 (GInt (-1) 65536) 2 rfl _ _ rfl rfl rfl rfl (by omega) (by omega) ix_ints ?_
      refine rs_load (hO _ _) (nd _ _ _) 3 _ (GInt (-1) 65536) rfl _ rfl rfl ag_int ?_
      refine rs_old (hO _ _) (nd _ _ _) _ (.inl rfl) _ rfl rfl ?_
      refine rs_build (hO _ _) (nd _ _ _) 3 (GInt (-1) 5) 3 (fun ρ w hK => by
        obtain ⟨h1', c1, c2, -⟩ := hK
        have a1 : ρ (.tmp 32) = .int .i64 2 := h1'
        have c1' : ρ (.const (.int .i64 (-1))) = .int .i64 (-1) := c1
        have c2' : ρ (.const (.int .i64 5)) = .int .i64 5 := c2
        refine ⟨#[.int .i64 2, .int .i64 (-1), .int .i64 5], rfl, ?_, ?_⟩
        · go_simp
        · intro c hc
          simp at hc
          rcases hc with rfl | rfl | rfl
          · exact ⟨2, rfl, by omega, by omega⟩
          · exact ⟨-1, rfl, by omega, by omega⟩
          · exact ⟨5, rfl, by omega, by omega⟩) ?_
      refine rs_old (hO _ _) (nd _ _ _) _ (.inl rfl) _ rfl rfl ?_
      refine rs_pick (hO _ _) (nd _ _ _) 34 _ _ _ R (P + 1 + 11 + 1) 2 rfl rfl fn_pick (fun ρ w hK => ⟨hK.1, hK.2.1, 3, hK.2.2.1, by omega, by omega⟩) (fun n k w hk h1n hn hr => pick_all n 2 R _ w hr (by have hk' : k < 17 := hk; omega) h1n hn (by omega)) ?_
      refine rs_index (hO _ _) (nd _ _ _) 59 _ _ 3 (GInt (-1) 5) 2 rfl _ _ rfl rfl rfl rfl (by omega) (by omega) ix_ints ?_
      refine rs_load (hO _ _) (nd _ _ _) 3 _ (GInt (-1) 5) rfl _ rfl rfl ag_int ?_
      refine rs_same (hO _ _) (nd _ _ _) _ _ (.inr rfl) rfl (TOf (GInt (-1) 65536)) rfl ?_
      refine rs_same (hO _ _) (nd _ _ _) _ _ (.inr rfl) rfl (TOf (GInt (-1) 5)) rfl ?_
      intro f w4 k hk hI ht _
      have h15 : TOf (GInt (-1) 65536) w4 (f 15) := ht 15 (show 15 < 17 by omega)
      have h16 : TOf (GInt (-1) 5) w4 (f 16) := ht 16 (show 16 < 17 by omega)
      obtain ⟨y, hy, hy0, hy1⟩ := h15
      obtain ⟨z, hz, hz0, hz1⟩ := h16
      have hk17 : k ≤ 17 := hk
      have Hr4 : Hid (Rd w4 R (P + 40)) := Lib.hid (Rd.more hI.1 (by omega))
      have Hg4 := Lib.hid (grownBy_trans Hg3.out (Only.grownBy hI.2.1))
      simp only [putAll, hy, hz]
      clear hI ht hk hy hz hO nd
      go_wp2_with fail
      go_ret2
      exact ⟨y, z, rfl, by omega, by omega, by omega, by omega, Hr4.out, Hg4.out⟩
  · have hO := fun ops a => rdRS_ok (Pg := Try.prog) (ops := ops) (P := P + 1) (a := a) Hr1.out.lt
    have nd : ∀ (ops : Array Oper) (a : Act) (i : Nat), i ≠ (rdRS Try.prog ops R (P + 1) w1 a).d ∨ ∀ ov w, (rdRS Try.prog ops R (P + 1) w1 a).J ov w := fun _ _ _ => .inr fun _ _ => trivial
    refine wp_region_rs (rdRS Try.prog _ R (P + 1) w1 _) (hO _ _) (by kernel_rfl) (by kernel_rfl) (by kernel_rfl) (Nat.zero_lt_succ _) Hr1.out trivial ?_
    refine rs_old (hO _ _) (nd _ _ _) _ (.inl rfl) _ rfl rfl ?_
    refine rs_pick (hO _ _) (nd _ _ _) 34 _ _ _ R (P + 1) 255 rfl rfl fn_pick (fun ρ w hK => ⟨hK.1, hK.2.1, 256, hK.2.2.1, by omega, by omega⟩) (fun n k w hk h1n hn hr => pick_all n 255 R _ w hr (by have hk' : k < 11 := hk; omega) h1n hn (by omega)) ?_
    refine rs_old (hO _ _) (nd _ _ _) _ (.inl rfl) _ rfl rfl ?_
    refine rs_pick (hO _ _) (nd _ _ _) 34 _ _ _ R (P + 1) 255 rfl rfl fn_pick (fun ρ w hK => ⟨hK.1, hK.2.1, 256, hK.2.2.1, by omega, by omega⟩) (fun n k w hk h1n hn hr => pick_all n 255 R _ w hr (by have hk' : k < 11 := hk; omega) h1n hn (by omega)) ?_
    refine rs_pure (hO _ _) (nd _ _ _) (TInt 0 65280) (stb_int _ _ _) (fun ρ w hK => by
      obtain ⟨c, ⟨x, hx, h0, h1⟩, -⟩ := hK
      have hx' : ρ (.tmp 13) = .int .i64 x := hx
      have c' : ρ (.const (.int .i64 256)) = .int .i64 256 := c
      have hwr := IntWalk.i64_in (256 * x) (by omega)
      refine ⟨.int .i64 (256 * x), ?_, ⟨_, rfl, by omega, by omega⟩⟩
      go_simp) ?_
    refine rs_pure (hO _ _) (nd _ _ _) (TInt 0 65535) (stb_int _ _ _) (fun ρ w hK => by
      obtain ⟨⟨x, hx, h0, h1⟩, ⟨y, hy, h2, h3⟩, -⟩ := hK
      have hx' : ρ (.tmp 11) = .int .i64 x := hx
      have hy' : ρ (.tmp 14) = .int .i64 y := hy
      have hwr := IntWalk.i64_in (x + y) (by omega)
      refine ⟨.int .i64 (x + y), ?_, ⟨_, rfl, by omega, by omega⟩⟩
      go_simp) ?_
    refine rs_old (hO _ _) (nd _ _ _) _ (.inl rfl) _ rfl rfl ?_
    refine rs_pure (hO _ _) (nd _ _ _) (TEq (.int .u64 8)) (stb_eq _ _) (fun ρ w hK => by
      obtain ⟨c, h, -⟩ := hK
      have c' : ρ (.const (.int .u64 1)) = .int .u64 1 := c
      have h' : ρ (.tmp 16) = .int .i64 3 := h
      have hwr : IntKind.u64.wrap 8 = 8 := by decide
      refine ⟨.int .u64 8, ?_, rfl⟩
      go_simp) ?_
    refine rs_pure (hO _ _) (nd _ _ _) (TEq (.int .i64 256)) (stb_eq _ _) (fun ρ w hK => by
      obtain ⟨c, h, -⟩ := hK
      have c' : ρ (.const (.int .i64 1)) = .int .i64 1 := c
      have h' : ρ (.tmp 17) = .int .u64 8 := h
      have hwr : IntKind.i64.wrap 256 = 256 := IntWalk.i64_in _ (by omega)
      refine ⟨.int .i64 256, ?_, rfl⟩
      go_simp) ?_
    refine rs_pure (hO _ _) (nd _ _ _) (TInt 0 65535) (stb_int _ _ _) (fun ρ w hK => by
      obtain ⟨⟨x, hx, h0, h1⟩, h, -⟩ := hK
      have hx' : ρ (.tmp 15) = .int .i64 x := hx
      have h' : ρ (.tmp 18) = .int .i64 256 := h
      have hb := tmod_bd x 256 h0 (by omega)
      refine ⟨.int .i64 (x.tmod 256), ?_, ⟨_, rfl, by omega, by omega⟩⟩
      go_simp) ?_
    refine rs_same (hO _ _) (nd _ _ _) _ _ (.inr rfl) rfl _ rfl ?_
    intro f w2 k hk hI ht _
    obtain ⟨t, hy, hy0, hy1⟩ := ht 10 (show 10 < 11 by omega)
    have hk11 : k ≤ 11 := hk
    have Hr2 : Hid (Rd w2 R (P + 1 + 11)) := Lib.hid (Rd.more hI.1 (by omega))
    have Hg2 := Lib.hid (grownBy_trans Hg1.out (Only.grownBy hI.2.1))
    simp only [putAll, hy]
    clear hI ht hk hy hO nd
    go_wp2_with fail
    refine (odd_all n R _ _ Hr2.out (by omega) h1 (by omega)).mono ?_
    rintro e w3 ⟨b, rfl, hr3, hg3⟩
    have Hr3 := Lib.hid hr3
    have Hg3 := Lib.hid (grownBy_trans Hg2.out hg3)
    clear hr3 hg3
    cases b
    · go_wp2_with fail
      go_ret2
      exact ⟨t, 3, rfl, by omega, by omega, by omega, by omega, Hr3.out.more (by omega), Hg3.out⟩
    · go_wp2_with fail
      have hO := fun ops a => rdRS_ok (Pg := Try.prog) (ops := ops) (P := P + 1 + 11 + 1) (a := a) Hr3.out.lt
      have nd : ∀ (ops : Array Oper) (a : Act) (i : Nat), i ≠ (rdRS Try.prog ops R (P + 1 + 11 + 1) w3 a).d ∨ ∀ ov w, (rdRS Try.prog ops R (P + 1 + 11 + 1) w3 a).J ov w := fun _ _ _ => .inr fun _ _ => trivial
      refine wp_region_rs (rdRS Try.prog _ R (P + 1 + 11 + 1) w3 _) (hO _ _) (by kernel_rfl) (by kernel_rfl) (by kernel_rfl) (Nat.zero_lt_succ _) Hr3.out trivial ?_
      refine rs_old (hO _ _) (nd _ _ _) _ (.inl rfl) _ rfl rfl ?_
      refine rs_pure (hO _ _) (nd _ _ _) (TEq (.int .u64 8)) (stb_eq _ _) (fun ρ w hK => by
        obtain ⟨c, h, -⟩ := hK
        have c' : ρ (.const (.int .u64 1)) = .int .u64 1 := c
        have h' : ρ (.tmp 23) = .int .i64 3 := h
        have hwr : IntKind.u64.wrap 8 = 8 := by decide
        refine ⟨.int .u64 8, ?_, rfl⟩
        go_simp) ?_
      refine rs_pure (hO _ _) (nd _ _ _) (TEq (.int .i64 256)) (stb_eq _ _) (fun ρ w hK => by
        obtain ⟨c, h, -⟩ := hK
        have c' : ρ (.const (.int .i64 1)) = .int .i64 1 := c
        have h' : ρ (.tmp 24) = .int .u64 8 := h
        have hwr : IntKind.i64.wrap 256 = 256 := IntWalk.i64_in _ (by omega)
        refine ⟨.int .i64 256, ?_, rfl⟩
        go_simp) ?_
      refine rs_old (hO _ _) (nd _ _ _) _ (.inl rfl) _ rfl rfl ?_
      refine rs_build (hO _ _) (nd _ _ _) 3 (GInt (-1) 65536) 3 (fun ρ w hK => by
        obtain ⟨c1, h1', h2', -⟩ := hK
        have c1' : ρ (.const (.int .i64 (-1))) = .int .i64 (-1) := c1
        have a1 : ρ (.tmp 25) = .int .i64 256 := h1'
        have a2 : ρ (.tmp 26) = .int .i64 t := h2'
        refine ⟨#[.int .i64 (-1), .int .i64 256, .int .i64 t], rfl, ?_, ?_⟩
        · go_simp
        · intro c hc
          simp at hc
          rcases hc with rfl | rfl | rfl
          · exact ⟨-1, rfl, by omega, by omega⟩
          · exact ⟨256, rfl, by omega, by omega⟩
          · exact ⟨t, rfl, by omega, by omega⟩) ?_
      refine rs_old (hO _ _) (nd _ _ _) _ (.inl rfl) _ rfl rfl ?_
      refine rs_pick (hO _ _) (nd _ _ _) 34 _ _ _ R (P + 1 + 11 + 1) 2 rfl rfl fn_pick (fun ρ w hK => ⟨hK.1, hK.2.1, 3, hK.2.2.1, by omega, by omega⟩) (fun n k w hk h1n hn hr => pick_all n 2 R _ w hr (by have hk' : k < 17 := hk; omega) h1n hn (by omega)) ?_
      refine rs_index (hO _ _) (nd _ _ _) 59 _ _ 3 (GInt (-1) 65536) 2 rfl _ _ rfl rfl rfl rfl (by omega) (by omega) ix_ints ?_
      refine rs_load (hO _ _) (nd _ _ _) 3 _ (GInt (-1) 65536) rfl _ rfl rfl ag_int ?_
      refine rs_old (hO _ _) (nd _ _ _) _ (.inl rfl) _ rfl rfl ?_
      refine rs_build (hO _ _) (nd _ _ _) 3 (GInt (-1) 5) 3 (fun ρ w hK => by
        obtain ⟨h1', c1, c2, -⟩ := hK
        have a1 : ρ (.tmp 32) = .int .i64 3 := h1'
        have c1' : ρ (.const (.int .i64 (-1))) = .int .i64 (-1) := c1
        have c2' : ρ (.const (.int .i64 5)) = .int .i64 5 := c2
        refine ⟨#[.int .i64 3, .int .i64 (-1), .int .i64 5], rfl, ?_, ?_⟩
        · go_simp
        · intro c hc
          simp at hc
          rcases hc with rfl | rfl | rfl
          · exact ⟨3, rfl, by omega, by omega⟩
          · exact ⟨-1, rfl, by omega, by omega⟩
          · exact ⟨5, rfl, by omega, by omega⟩) ?_
      refine rs_old (hO _ _) (nd _ _ _) _ (.inl rfl) _ rfl rfl ?_
      refine rs_pick (hO _ _) (nd _ _ _) 34 _ _ _ R (P + 1 + 11 + 1) 2 rfl rfl fn_pick (fun ρ w hK => ⟨hK.1, hK.2.1, 3, hK.2.2.1, by omega, by omega⟩) (fun n k w hk h1n hn hr => pick_all n 2 R _ w hr (by have hk' : k < 17 := hk; omega) h1n hn (by omega)) ?_
      refine rs_index (hO _ _) (nd _ _ _) 59 _ _ 3 (GInt (-1) 5) 2 rfl _ _ rfl rfl rfl rfl (by omega) (by omega) ix_ints ?_
      refine rs_load (hO _ _) (nd _ _ _) 3 _ (GInt (-1) 5) rfl _ rfl rfl ag_int ?_
      refine rs_same (hO _ _) (nd _ _ _) _ _ (.inr rfl) rfl (TOf (GInt (-1) 65536)) rfl ?_
      refine rs_same (hO _ _) (nd _ _ _) _ _ (.inr rfl) rfl (TOf (GInt (-1) 5)) rfl ?_
      intro f w4 k hk hI ht _
      have h15 : TOf (GInt (-1) 65536) w4 (f 15) := ht 15 (show 15 < 17 by omega)
      have h16 : TOf (GInt (-1) 5) w4 (f 16) := ht 16 (show 16 < 17 by omega)
      obtain ⟨y, hy, hy0, hy1⟩ := h15
      obtain ⟨z, hz, hz0, hz1⟩ := h16
      have hk17 : k ≤ 17 := hk
      have Hr4 : Hid (Rd w4 R (P + 40)) := Lib.hid (Rd.more hI.1 (by omega))
      have Hg4 := Lib.hid (grownBy_trans Hg3.out (Only.grownBy hI.2.1))
      simp only [putAll, hy, hz]
      clear hI ht hk hy hz hO nd
      go_wp2_with fail
      go_ret2
      exact ⟨y, z, rfl, by omega, by omega, by omega, by omega, Hr4.out, Hg4.out⟩
  · have hO := fun ops a => rdRS_ok (Pg := Try.prog) (ops := ops) (P := P + 1) (a := a) Hr1.out.lt
    have nd : ∀ (ops : Array Oper) (a : Act) (i : Nat), i ≠ (rdRS Try.prog ops R (P + 1) w1 a).d ∨ ∀ ov w, (rdRS Try.prog ops R (P + 1) w1 a).J ov w := fun _ _ _ => .inr fun _ _ => trivial
    refine wp_region_rs (rdRS Try.prog _ R (P + 1) w1 _) (hO _ _) (by kernel_rfl) (by kernel_rfl) (by kernel_rfl) (Nat.zero_lt_succ _) Hr1.out trivial ?_
    refine rs_old (hO _ _) (nd _ _ _) _ (.inl rfl) _ rfl rfl ?_
    refine rs_pick (hO _ _) (nd _ _ _) 34 _ _ _ R (P + 1) 255 rfl rfl fn_pick (fun ρ w hK => ⟨hK.1, hK.2.1, 256, hK.2.2.1, by omega, by omega⟩) (fun n k w hk h1n hn hr => pick_all n 255 R _ w hr (by have hk' : k < 11 := hk; omega) h1n hn (by omega)) ?_
    refine rs_old (hO _ _) (nd _ _ _) _ (.inl rfl) _ rfl rfl ?_
    refine rs_pick (hO _ _) (nd _ _ _) 34 _ _ _ R (P + 1) 255 rfl rfl fn_pick (fun ρ w hK => ⟨hK.1, hK.2.1, 256, hK.2.2.1, by omega, by omega⟩) (fun n k w hk h1n hn hr => pick_all n 255 R _ w hr (by have hk' : k < 11 := hk; omega) h1n hn (by omega)) ?_
    refine rs_pure (hO _ _) (nd _ _ _) (TInt 0 65280) (stb_int _ _ _) (fun ρ w hK => by
      obtain ⟨c, ⟨x, hx, h0, h1⟩, -⟩ := hK
      have hx' : ρ (.tmp 13) = .int .i64 x := hx
      have c' : ρ (.const (.int .i64 256)) = .int .i64 256 := c
      have hwr := IntWalk.i64_in (256 * x) (by omega)
      refine ⟨.int .i64 (256 * x), ?_, ⟨_, rfl, by omega, by omega⟩⟩
      go_simp) ?_
    refine rs_pure (hO _ _) (nd _ _ _) (TInt 0 65535) (stb_int _ _ _) (fun ρ w hK => by
      obtain ⟨⟨x, hx, h0, h1⟩, ⟨y, hy, h2, h3⟩, -⟩ := hK
      have hx' : ρ (.tmp 11) = .int .i64 x := hx
      have hy' : ρ (.tmp 14) = .int .i64 y := hy
      have hwr := IntWalk.i64_in (x + y) (by omega)
      refine ⟨.int .i64 (x + y), ?_, ⟨_, rfl, by omega, by omega⟩⟩
      go_simp) ?_
    refine rs_old (hO _ _) (nd _ _ _) _ (.inl rfl) _ rfl rfl ?_
    refine rs_pure (hO _ _) (nd _ _ _) (TEq (.int .u64 16)) (stb_eq _ _) (fun ρ w hK => by
      obtain ⟨c, h, -⟩ := hK
      have c' : ρ (.const (.int .u64 1)) = .int .u64 1 := c
      have h' : ρ (.tmp 16) = .int .i64 4 := h
      have hwr : IntKind.u64.wrap 16 = 16 := by decide
      refine ⟨.int .u64 16, ?_, rfl⟩
      go_simp) ?_
    refine rs_pure (hO _ _) (nd _ _ _) (TEq (.int .i64 65536)) (stb_eq _ _) (fun ρ w hK => by
      obtain ⟨c, h, -⟩ := hK
      have c' : ρ (.const (.int .i64 1)) = .int .i64 1 := c
      have h' : ρ (.tmp 17) = .int .u64 16 := h
      have hwr : IntKind.i64.wrap 65536 = 65536 := IntWalk.i64_in _ (by omega)
      refine ⟨.int .i64 65536, ?_, rfl⟩
      go_simp) ?_
    refine rs_pure (hO _ _) (nd _ _ _) (TInt 0 65535) (stb_int _ _ _) (fun ρ w hK => by
      obtain ⟨⟨x, hx, h0, h1⟩, h, -⟩ := hK
      have hx' : ρ (.tmp 15) = .int .i64 x := hx
      have h' : ρ (.tmp 18) = .int .i64 65536 := h
      have hb := tmod_bd x 65536 h0 (by omega)
      refine ⟨.int .i64 (x.tmod 65536), ?_, ⟨_, rfl, by omega, by omega⟩⟩
      go_simp) ?_
    refine rs_same (hO _ _) (nd _ _ _) _ _ (.inr rfl) rfl _ rfl ?_
    intro f w2 k hk hI ht _
    obtain ⟨t, hy, hy0, hy1⟩ := ht 10 (show 10 < 11 by omega)
    have hk11 : k ≤ 11 := hk
    have Hr2 : Hid (Rd w2 R (P + 1 + 11)) := Lib.hid (Rd.more hI.1 (by omega))
    have Hg2 := Lib.hid (grownBy_trans Hg1.out (Only.grownBy hI.2.1))
    simp only [putAll, hy]
    clear hI ht hk hy hO nd
    go_wp2_with fail
    refine (odd_all n R _ _ Hr2.out (by omega) h1 (by omega)).mono ?_
    rintro e w3 ⟨b, rfl, hr3, hg3⟩
    have Hr3 := Lib.hid hr3
    have Hg3 := Lib.hid (grownBy_trans Hg2.out hg3)
    clear hr3 hg3
    cases b
    · go_wp2_with fail
      go_ret2
      exact ⟨t, 4, rfl, by omega, by omega, by omega, by omega, Hr3.out.more (by omega), Hg3.out⟩
    · go_wp2_with fail
      have hO := fun ops a => rdRS_ok (Pg := Try.prog) (ops := ops) (P := P + 1 + 11 + 1) (a := a) Hr3.out.lt
      have nd : ∀ (ops : Array Oper) (a : Act) (i : Nat), i ≠ (rdRS Try.prog ops R (P + 1 + 11 + 1) w3 a).d ∨ ∀ ov w, (rdRS Try.prog ops R (P + 1 + 11 + 1) w3 a).J ov w := fun _ _ _ => .inr fun _ _ => trivial
      refine wp_region_rs (rdRS Try.prog _ R (P + 1 + 11 + 1) w3 _) (hO _ _) (by kernel_rfl) (by kernel_rfl) (by kernel_rfl) (Nat.zero_lt_succ _) Hr3.out trivial ?_
      refine rs_old (hO _ _) (nd _ _ _) _ (.inl rfl) _ rfl rfl ?_
      refine rs_pure (hO _ _) (nd _ _ _) (TEq (.int .u64 16)) (stb_eq _ _) (fun ρ w hK => by
        obtain ⟨c, h, -⟩ := hK
        have c' : ρ (.const (.int .u64 1)) = .int .u64 1 := c
        have h' : ρ (.tmp 23) = .int .i64 4 := h
        have hwr : IntKind.u64.wrap 16 = 16 := by decide
        refine ⟨.int .u64 16, ?_, rfl⟩
        go_simp) ?_
      refine rs_pure (hO _ _) (nd _ _ _) (TEq (.int .i64 65536)) (stb_eq _ _) (fun ρ w hK => by
        obtain ⟨c, h, -⟩ := hK
        have c' : ρ (.const (.int .i64 1)) = .int .i64 1 := c
        have h' : ρ (.tmp 24) = .int .u64 16 := h
        have hwr : IntKind.i64.wrap 65536 = 65536 := IntWalk.i64_in _ (by omega)
        refine ⟨.int .i64 65536, ?_, rfl⟩
        go_simp) ?_
      refine rs_old (hO _ _) (nd _ _ _) _ (.inl rfl) _ rfl rfl ?_
      refine rs_build (hO _ _) (nd _ _ _) 3 (GInt (-1) 65536) 3 (fun ρ w hK => by
        obtain ⟨c1, h1', h2', -⟩ := hK
        have c1' : ρ (.const (.int .i64 (-1))) = .int .i64 (-1) := c1
        have a1 : ρ (.tmp 25) = .int .i64 65536 := h1'
        have a2 : ρ (.tmp 26) = .int .i64 t := h2'
        refine ⟨#[.int .i64 (-1), .int .i64 65536, .int .i64 t], rfl, ?_, ?_⟩
        · go_simp
        · intro c hc
          simp at hc
          rcases hc with rfl | rfl | rfl
          · exact ⟨-1, rfl, by omega, by omega⟩
          · exact ⟨65536, rfl, by omega, by omega⟩
          · exact ⟨t, rfl, by omega, by omega⟩) ?_
      refine rs_old (hO _ _) (nd _ _ _) _ (.inl rfl) _ rfl rfl ?_
      refine rs_pick (hO _ _) (nd _ _ _) 34 _ _ _ R (P + 1 + 11 + 1) 2 rfl rfl fn_pick (fun ρ w hK => ⟨hK.1, hK.2.1, 3, hK.2.2.1, by omega, by omega⟩) (fun n k w hk h1n hn hr => pick_all n 2 R _ w hr (by have hk' : k < 17 := hk; omega) h1n hn (by omega)) ?_
      refine rs_index (hO _ _) (nd _ _ _) 59 _ _ 3 (GInt (-1) 65536) 2 rfl _ _ rfl rfl rfl rfl (by omega) (by omega) ix_ints ?_
      refine rs_load (hO _ _) (nd _ _ _) 3 _ (GInt (-1) 65536) rfl _ rfl rfl ag_int ?_
      refine rs_old (hO _ _) (nd _ _ _) _ (.inl rfl) _ rfl rfl ?_
      refine rs_build (hO _ _) (nd _ _ _) 3 (GInt (-1) 5) 3 (fun ρ w hK => by
        obtain ⟨h1', c1, c2, -⟩ := hK
        have a1 : ρ (.tmp 32) = .int .i64 4 := h1'
        have c1' : ρ (.const (.int .i64 (-1))) = .int .i64 (-1) := c1
        have c2' : ρ (.const (.int .i64 5)) = .int .i64 5 := c2
        refine ⟨#[.int .i64 4, .int .i64 (-1), .int .i64 5], rfl, ?_, ?_⟩
        · go_simp
        · intro c hc
          simp at hc
          rcases hc with rfl | rfl | rfl
          · exact ⟨4, rfl, by omega, by omega⟩
          · exact ⟨-1, rfl, by omega, by omega⟩
          · exact ⟨5, rfl, by omega, by omega⟩) ?_
      refine rs_old (hO _ _) (nd _ _ _) _ (.inl rfl) _ rfl rfl ?_
      refine rs_pick (hO _ _) (nd _ _ _) 34 _ _ _ R (P + 1 + 11 + 1) 2 rfl rfl fn_pick (fun ρ w hK => ⟨hK.1, hK.2.1, 3, hK.2.2.1, by omega, by omega⟩) (fun n k w hk h1n hn hr => pick_all n 2 R _ w hr (by have hk' : k < 17 := hk; omega) h1n hn (by omega)) ?_
      refine rs_index (hO _ _) (nd _ _ _) 59 _ _ 3 (GInt (-1) 5) 2 rfl _ _ rfl rfl rfl rfl (by omega) (by omega) ix_ints ?_
      refine rs_load (hO _ _) (nd _ _ _) 3 _ (GInt (-1) 5) rfl _ rfl rfl ag_int ?_
      refine rs_same (hO _ _) (nd _ _ _) _ _ (.inr rfl) rfl (TOf (GInt (-1) 65536)) rfl ?_
      refine rs_same (hO _ _) (nd _ _ _) _ _ (.inr rfl) rfl (TOf (GInt (-1) 5)) rfl ?_
      intro f w4 k hk hI ht _
      have h15 : TOf (GInt (-1) 65536) w4 (f 15) := ht 15 (show 15 < 17 by omega)
      have h16 : TOf (GInt (-1) 5) w4 (f 16) := ht 16 (show 16 < 17 by omega)
      obtain ⟨y, hy, hy0, hy1⟩ := h15
      obtain ⟨z, hz, hz0, hz1⟩ := h16
      have hk17 : k ≤ 17 := hk
      have Hr4 : Hid (Rd w4 R (P + 40)) := Lib.hid (Rd.more hI.1 (by omega))
      have Hg4 := Lib.hid (grownBy_trans Hg3.out (Only.grownBy hI.2.1))
      simp only [putAll, hy, hz]
      clear hI ht hk hy hz hO nd
      go_wp2_with fail
      go_ret2
      exact ⟨y, z, rfl, by omega, by omega, by omega, by omega, Hr4.out, Hg4.out⟩
end Go.Proofs.Ytlpellciiiflkaa
