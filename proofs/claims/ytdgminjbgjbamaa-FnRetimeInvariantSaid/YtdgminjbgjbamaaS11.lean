import Derived.Test.YtdgminjbgjbamaaS05
import Derived.Test.YtdgminjbgjbamaaS06
import Derived.Test.YtdgminjbgjbamaaS10
import Derived.Test.YtdgminjbgjbamaaS08
import Derived.Test.YtdgminjbgjbamaaS01
import Derived.Test.YtdgminjbgjbamaaS03
import Derived.Test.YtdgminjbgjbamaaS02
import Derived.Test.YtdgminjbgjbamaaS07
import Derived.Test.YtdgminjbgjbamaaS04
set_option linter.unusedVariables false
set_option linter.unusedSimpArgs false
set_option maxRecDepth 100000
set_option maxHeartbeats 16000000
namespace Go.Proofs.Ytdgminjbgjbamaa
open Go.RowKit
def CircOwnA (B : Nat) (w : World) (v : Value) (c : Cz) : Prop := ∃ vn vg vo, v = .agg #[.int .i64 c.ins, vn, vg, vo] ∧ w.ownsRow B 3 1 vn c.next.length (ints c.next) ∧ w.ownsRow B 72 2 vg c.gates.length (cubes c.gates) ∧ w.ownsRow B 3 1 vo c.outs.length (ints c.outs) ∧ Apart vn vo
theorem replacedA_any (g N : Nat) (c : Ci) (F : FuncId) (caps : Array Value) (u : Nat → Nat) (w : World) (h : PCirc w g (Cir.toCz c)) (l1 : c.next.length ≤ 1000) (l2 : c.gates.length ≤ 1000) (l3 : c.outs.length ≤ 1000)
    (n1 : ∀ l ∈ c.next, l < N) (n2 : ∀ x ∈ c.gates, x.1 < N ∧ x.2 < N) (n3 : ∀ l ∈ c.outs, l < N)
    (hF : ∀ vs w', (callFunc F vs).run Try.prog w' = .ok (.enter F vs) w')
    (hu : ∀ w', Below w.heap.size w w' → ∀ l, l < N → Calls Try.prog F (#[.int .i64 (l : Nat)] ++ caps) w' fun e w'' => e = .returned (.int .i64 (u l : Nat)) ∧ Below w'.heap.size w' w'') :
    Calls Try.prog 56 #[.pointer (some ⟨g, 0, none⟩), .func (.func F) #[] caps] w fun e w' => (∃ v, e = .returned v ∧ CircOwnA w.heap.size w' v (Cir.toCz (mapC u c))) ∧ Below w.heap.size w w' := by
  have hnl : (Cir.toCz c).next.length = c.next.length := List.length_map _
  have hgl : (Cir.toCz c).gates.length = c.gates.length := List.length_map _
  have hol : (Cir.toCz c).outs.length = c.outs.length := List.length_map _
  have HU := Lib.hid hu
  obtain ⟨vn, vg, vo, hg, c0, c1, c2, c3, r1, r2, r3⟩ := h
  obtain ⟨An, cn, rfl, hcn, hcmn⟩ := Row.shape r1
  obtain ⟨Ag, cg, rfl, hcg, hcmg⟩ := Row.shape r2
  obtain ⟨Ao, co, rfl, hco, hcmo⟩ := Row.shape r3
  rw [hnl] at hcn c1
  rw [hgl] at hcg c2
  rw [hol] at hco c3
  have R1 : Hid (Row w 1 (.slice An c.next.length cn) c.next.length (ints (Cir.toCz c).next)) := Lib.hid (by have := r1; unfold IntsAt at this; rwa [hnl] at this)
  have R2 : Hid (Row w 2 (.slice Ag c.gates.length cg) c.gates.length (cubes (Cir.toCz c).gates)) := Lib.hid (by have := r2; unfold CubesAt at this; rwa [hgl] at this)
  have R3 : Hid (Row w 1 (.slice Ao c.outs.length co) c.outs.length (ints (Cir.toCz c).outs)) := Lib.hid (by have := r3; unfold IntsAt at this; rwa [hol] at this)
  have C1 := Lib.hid c1
  have C2 := Lib.hid c2
  have C3 := Lib.hid c3
  have HL := Lib.hid (And.intro hnl (And.intro hgl hol))
  have HN1 := Lib.hid n1
  have HN2 := Lib.hid n2
  have HN3 := Lib.hid n3
  have hz0 : Value.agg #[.int .i64 0, .slice none 0 0, .slice none 0 0, .slice none 0 0] = Value.agg #[.int .i64 0, .slice none 0 0, .slice none 0 0, .slice none 0 0] := rfl
  have hbR := bel_new w (.cells #[.int .i64 0, .slice none 0 0, .slice none 0 0, .slice none 0 0] 26)
  have hR0 := heap_alloc_new w (.cells #[.int .i64 0, .slice none 0 0, .slice none 0 0, .slice none 0 0] 26)
  have hzR : (w.alloc (.cells #[.int .i64 0, .slice none 0 0, .slice none 0 0, .slice none 0 0] 26)).heap.size = w.heap.size + 1 := by simp
  clear r1 r2 r3 hu hnl hgl hol n1 n2 n3 hz0 c2 c3
  go_enter Try.func56, Try.ntmps56
  go_wp2_with fail
  -- LOOPS
  have hX0 := heap_alloc_new (w.alloc (.cells #[.int .i64 0, .slice none 0 0, .slice none 0 0, .slice none 0 0] 26)) (.cells #[.int .i64 (Cir.toCz c).ins, .slice none 0 0, .slice none 0 0, .slice none 0 0] 26)
  have hb0 := bel_new (w.alloc (.cells #[.int .i64 0, .slice none 0 0, .slice none 0 0, .slice none 0 0] 26)) (.cells #[.int .i64 (Cir.toCz c).ins, .slice none 0 0, .slice none 0 0, .slice none 0 0] 26)
  have hR1 := (hb0.block w.heap.size (by omega)).trans hR0
  have hB0 := hbR.trans (hb0.mono (by omega))
  rw [hzR] at hX0
  generalize (w.alloc (.cells #[.int .i64 0, .slice none 0 0, .slice none 0 0, .slice none 0 0] 26)).alloc (.cells #[.int .i64 (Cir.toCz c).ins, .slice none 0 0, .slice none 0 0, .slice none 0 0] 26) = W0 at *
  obtain ⟨gR, hgRe⟩ : ∃ gR, gR = w.heap.size := ⟨_, rfl⟩
  obtain ⟨gB, hgBe⟩ : ∃ gB, gB = w.heap.size + 1 := ⟨_, rfl⟩
  rw [← hgRe] at hR1 ⊢
  rw [← hgBe] at hX0
  rw [hgRe, ← hgBe, ← hgRe]
  have hgRB : gR < gB := by omega
  have hwR : w.heap.size ≤ gR := by omega
  have HX0 := Lib.hid hX0
  have HR1 := Lib.hid hR1
  have HB0 := Lib.hid hB0
  clear hX0 hR1 hB0 hb0 hbR hR0 hzR hgRe hgBe
  go_loopw [22] (fun i wr => ∃ (k : Nat) (vx : Value), k ≤ c.next.length ∧ i = .int .i64 k ∧ Hid (wr.heap[gB]? = some (.cells #[.int .i64 (Cir.toCz c).ins, vx, .slice none 0 0, .slice none 0 0] 26 (0, 0))) ∧ Hid (wr.heap[gR]? = some (.cells #[.int .i64 0, .slice none 0 0, .slice none 0 0, .slice none 0 0] 26 (0, 0))) ∧ Hid (wr.ownsRow (gB + 1) 3 1 vx k (nints' ((c.next.take k).map u))) ∧ Hid (Below w.heap.size w wr)) (fun i _ => c.next.length - (intOf i).toNat)
  case atStart => exact ⟨0, .slice none 0 0, Nat.zero_le _, rfl, HX0, HR1, Lib.hid (World.ownsRow_nil _ _ _ _), HB0⟩
  case round =>
    obtain ⟨k, vx, hk, rfl, HX, HR, HO, Hb⟩ := hrel
    clear HX0 HR1 HB0
    have hgB := blk_ltB HX.out
    have hgR := blk_ltB HR.out
    by_cases hlt : k < c.next.length
    · obtain ⟨l, hl⟩ := at_some hlt
      have hlN := HN1.out l (List.mem_of_getElem? hl)
      obtain ⟨b, o, x, rfl, hbl, hx, hs⟩ := ints_open R1.out Hb.out HL.out.1.symm (i := k) (by rw [HL.out.1]; exact hlt)
      have hxe : x = (l : Int) := by
        have h1 := hx.out
        unfold Cir.toCz at h1
        rw [List.getElem?_map, hl] at h1
        exact (Option.some.inj h1).symm
      subst hxe
      have HS := Lib.hid (nints'_snoc hl u)
      have hne : ¬ (vx.ownBlock = some gB) := fun e => by have := (HO.out.lt gB e).1; omega
      have hneR : ¬ (vx.ownBlock = some gR) := fun e => by have := (HO.out.lt gR e).1; omega
      have HBel : Hid (∀ w', Only (fun g => vx.ownBlock = some g) wr w' → Below w.heap.size w w') := Lib.hid fun w' ho => Only.below Hb.out ho Hb.out.size (fun q hq => by have := (HO.out.lt q hq).1; omega)
      generalize hcs : nints' ((c.next.take k).map u) = cs at *
      clear hx hl hcs
      go_wp2_with fail
      obtain ⟨i0, hi0, hz0, hz1, hz2⟩ := info_parts info_int
      have hO := fun ops a => appRS2_ok (Pg := Try.prog) (ops := ops) (a := a) (news := [.int .i64 (u l : Nat)]) (d := 6) (HO.out)
      refine wp_region_rsl (appRS2 Try.prog _ wr _ (gB + 1) 3 1 (vx) (k) (cs) [.int .i64 (u l : Nat)] 6) (hO _ _) (by kernel_rfl) (by kernel_rfl) (by kernel_rfl) 8 _ rfl rfl (by kernel_rfl) (show (6 : Nat) < 8 by decide) trivial HO.out ?_
      apply rs_eq (hO _ _) (.inl (Nat.ne_of_beq_eq_false rfl))
      · intro ρ w' ho hK
        have ho : Only _ wr w' := ho
        obtain ⟨h0, -⟩ := hK
        have h0' : ρ (.tmp 5) = _ := h0
        go_simp
        try exact rfl
      apply rs_eq (hO _ _) (.inl (Nat.ne_of_beq_eq_false rfl))
      · intro ρ w' ho hK
        have ho : Only _ wr w' := ho
        obtain ⟨h0, -⟩ := hK
        have h0' : ρ (.tmp 26) = _ := h0
        have q1 := cell_on ho (fun e => hne e) hgB (blk_cell HX.out 1)
        go_simp
        try exact rfl
      refine rs_old (hO _ _) (.inl (Nat.ne_of_beq_eq_false rfl)) _ (.inl rfl) _ rfl rfl ?_
      refine rs_old (hO _ _) (.inl (Nat.ne_of_beq_eq_false rfl)) _ (.inl rfl) _ rfl rfl ?_
      refine rs_callV (hO _ _) (.inl (Nat.ne_of_beq_eq_false rfl)) (TEq (.int .i64 ((u l : Nat) : Int))) (stb_eq _ _) (.tmp 28) _ _ rfl (fun ρ w' ho hK => by
        have ho : Only _ wr w' := ho
        obtain ⟨h0, h1, -⟩ := hK
        have h0' : ρ (.tmp 28) = _ := h0
        have h1' : ρ (.tmp 29) = _ := h1
        refine ⟨F, #[ρ (.tmp 29)] ++ caps, ?_, ?_⟩
        · go_simp
        · rw [h1']
          refine (HU.out w' (HBel.out w' ho) l hlN).mono ?_
          rintro e w2 ⟨rfl, hb⟩
          exact ⟨_, rfl, rfl, hb⟩) ?_
      refine rs_build1 (hO _ _) (.inl (Nat.ne_of_beq_eq_false rfl)) 1 [.int .i64 (u l : Nat)] 3 rfl (fun ρ w' ho hK => by
        have ho : Only _ wr w' := ho
        obtain ⟨h0, -⟩ := hK
        have h0' : ρ (.tmp 30) = _ := h0
        go_simp) ?_
      refine rs_append2 rfl (gB + 1) 3 23 1 (vx) (k) (cs) _ rfl rfl (fun g hg => hg) (show gB + 1 ≤ wr.heap.size by omega) _ _ rfl _ _ rfl rfl rfl rfl i0 _ 8 Try.underlying23 hi0 hz0 hz1 hz2 rfl (by decide) (by omega) (by decide) (by simp [Value.oneCell']) ?_
      apply rs_eq (hO _ _) (.inl (Nat.ne_of_beq_eq_false rfl))
      · intro ρ w' ho hK
        have ho : Only _ wr w' := ho
        obtain ⟨h0, -⟩ := hK
        have h0' : ρ (.tmp 5) = _ := h0
        go_simp
        try exact rfl
      intro f w9 k9 hk9 hI9 ht9 hcp9
      have E0 : f 0 = _ := ht9 0 (Nat.le_of_ble_eq_true rfl)
      have E1 : f 1 = _ := ht9 1 (Nat.le_of_ble_eq_true rfl)
      have E2 : f 2 = _ := ht9 2 (Nat.le_of_ble_eq_true rfl)
      conv at E2 => rhs; whnf
      have E3 : f 3 = _ := ht9 3 (Nat.le_of_ble_eq_true rfl)
      conv at E3 => rhs; whnf
      have E4 : f 4 = _ := ht9 4 (Nat.le_of_ble_eq_true rfl)
      have E5 : (TNew _ 1 1 [.int .i64 (u l : Nat)]) w9 (f 5) := ht9 5 (Nat.le_of_ble_eq_true rfl)
      have E6 : (TAny) w9 (f 6) := ht9 6 (Nat.le_of_ble_eq_true rfl)
      have E7 : f 7 = _ := ht9 7 (Nat.le_of_ble_eq_true rfl)
      have Ho9 : Only _ wr w9 := hI9.2.1
      have hown9 : w9.ownsRow (gB + 1) 3 1 (f 6) (k + 1) (cs ++ [.int .i64 (u l : Nat)]) := hI9.2.2.1
      have hat9 : ∀ g, (f 6).ownBlock = some g → (vx).ownBlock = some g ∨ wr.heap.size ≤ g := hI9.2.2.2
      simp only [putAll, E0, E1, E2, E3, E4, E7, Nat.zero_add, Nat.reduceAdd, Act.put, List.setIfInBounds_toArray, List.set_cons_succ, List.set_cons_zero, List.take, List.getElem_toArray, List.getElem_cons_succ, List.getElem_cons_zero]
      clear E0 E1 E2 E3 E4 E7
      clear hI9 ht9 hcp9 hk9
      generalize f 5 = r5 at *
      generalize f 6 = r6 at *
      have O9 : Only (fun g => vx.ownBlock = some g) wr w9 := Ho9
      have hx9 := (O9.block gB hgB hne).trans HX.out
      have hR9 := (O9.block gR hgR hneR).trans HR.out
      obtain ⟨A9, c9, hv9⟩ := slice_of_own hown9
      subst hv9
      have q1 := blk_cell hx9 1
      have f1 := blk_free hx9 1
      have Hown9 := Lib.hid hown9
      have Hx10 := Lib.hid (heap_setCell_same w9 gB 1 _ _ (.slice A9 (k + 1) c9) hx9)
      have HR9' := Lib.hid hR9
      have HB9 := Lib.hid (HBel.out w9 O9)
      clear Ho9 hown9 hat9 hx9 hR9 O9 hO HX HR HO HBel
      go_wp2_with fail
      go_roundw
      case rel => exact ⟨k + 1, _, by omega, by go_num, Lib.hid (by have h := Hx10.out; simp at h; exact h), Lib.hid ((heap_setCell_other' _ _ _ _ _ (by omega)).trans HR9'.out), Lib.hid (by rw [HS.out]; exact own_setB Hown9.out (by omega)), Lib.hid (HB9.out.setCell (by simp only; omega) _)⟩
      case measure => simp [intOf]; omega
    · obtain rfl : k = c.next.length := by omega
      rw [List.take_length] at HO
      have HO1 : Hid (wr.ownsRow (gB + 1) 3 1 vx c.next.length (nints' (c.next.map u))) := HO
      have q0 := (Hb.out.cell (p := ⟨g, 2, none⟩) hg).trans C2.out
      clear HO
      go_wp2_with fail
      obtain ⟨W1, hW1⟩ : ∃ W, W = wr := ⟨_, rfl⟩
      subst hW1
      obtain ⟨B2, hB2⟩ : ∃ B2, B2 = W1.heap.size := ⟨_, rfl⟩
      have hB2B : gB < B2 := by omega
      have hvx2 : ∀ g, vx.ownBlock = some g → g < B2 := fun g hg => by rw [hB2]; exact (HO1.out.lt g hg).2
      have Hvx2 := Lib.hid hvx2
      have hz1 : B2 ≤ W1.heap.size := by omega
      clear hvx2 hB2 q0
      go_loopw [40] (fun i wr => ∃ (k : Nat) (v2 : Value), k ≤ c.gates.length ∧ i = .int .i64 k ∧ Hid (wr.heap[gB]? = some (.cells #[.int .i64 (Cir.toCz c).ins, vx, v2, .slice none 0 0] 26 (0, 0))) ∧ Hid (wr.heap[gR]? = some (.cells #[.int .i64 0, .slice none 0 0, .slice none 0 0, .slice none 0 0] 26 (0, 0))) ∧ Hid (wr.ownsRow (gB + 1) 3 1 vx c.next.length (nints' (c.next.map u))) ∧ Hid (wr.ownsRow B2 72 2 v2 k (ngates ((c.gates.take k).map fun g => (u g.1, u g.2)))) ∧ B2 ≤ wr.heap.size ∧ Hid (Below w.heap.size w wr)) (fun i _ => c.gates.length - (intOf i).toNat)
      case atStart => exact ⟨0, .slice none 0 0, Nat.zero_le _, rfl, HX, HR, HO1, Lib.hid (World.ownsRow_nil _ _ _ _), hz1, Hb⟩
      case round =>
        obtain ⟨k, v2, hk, rfl, HX', HR', HO1', HO2, hz2, Hb'⟩ := hrel
        clear HX HR HO1 Hb hlt hz1
        have hgB := blk_ltB HX'.out
        have hgR := blk_ltB HR'.out
        by_cases hlt : k < c.gates.length
        · obtain ⟨gt, hgt⟩ := at_some hlt
          obtain ⟨hlN1, hlN2⟩ := HN2.out gt (List.mem_of_getElem? hgt)
          obtain ⟨b, o, x, rfl, hbl, hx, hs1, hs2⟩ := cubes_open R2.out Hb'.out HL.out.2.1.symm (i := k) (by rw [HL.out.2.1]; exact hlt)
          have hxe : x = ((gt.1 : Int), (gt.2 : Int)) := by
            have h1 := hx.out
            unfold Cir.toCz at h1
            simp only [List.getElem?_map, hgt] at h1
            exact (Option.some.inj h1).symm
          subst hxe
          have HS := Lib.hid (ngates_snoc hgt u)
          generalize hcs : ngates ((c.gates.take k).map fun g => (u g.1, u g.2)) = cs at *
          obtain ⟨x1, hx1⟩ : ∃ x1, x1 = gt.1 := ⟨_, rfl⟩
          obtain ⟨x2, hx2⟩ : ∃ x2, x2 = gt.2 := ⟨_, rfl⟩
          rw [← hx1] at hlN1 HS hs1
          rw [← hx2] at hlN2 HS hs2
          have hlt2 : ∀ g, v2.ownBlock = some g → B2 ≤ g ∧ g < wr.heap.size := fun g hg => HO2.out.lt g hg
          have hba := bel_new wr (.cells #[.int .i64 (x1 : Int), .int .i64 (x2 : Int)] 72)
          have hg9 := heap_alloc_new wr (.cells #[.int .i64 (x1 : Int), .int .i64 (x2 : Int)] 72)
          have hza : (wr.alloc (.cells #[.int .i64 (x1 : Int), .int .i64 (x2 : Int)] 72)).heap.size = wr.heap.size + 1 := by simp
          have hXa := (hba.block gB hgB).trans HX'.out
          have hRa := (hba.block gR hgR).trans HR'.out
          have HO1a := Lib.hid (own_below HO1'.out hba)
          have HO2a := Lib.hid (own_below HO2.out hba)
          have Hba := Lib.hid (Hb'.out.trans (hba.mono Hb'.out.size))
          have hzb := Hb'.out.size
          clear hx hgt hcs hx1 hx2 hbl hba HO1' HO2
          go_wp2_with fail
          generalize wr.alloc (.cells #[.int .i64 (x1 : Int), .int .i64 (x2 : Int)] 72) = Wg at *
          obtain ⟨gk, hgk⟩ : ∃ gk, gk = wr.heap.size := ⟨_, rfl⟩
          rw [← hgk] at hg9 hza hlt2 ⊢
          have hgkz : gk < Wg.heap.size := by omega
          have hgBz : gB < Wg.heap.size := by omega
          have hgRz : gR < Wg.heap.size := by omega
          have hne : ¬ (v2.ownBlock = some gB) := fun e => by have := (hlt2 gB e).1; omega
          have hneR : ¬ (v2.ownBlock = some gR) := fun e => by have := (hlt2 gR e).1; omega
          have hnek : ¬ (v2.ownBlock = some gk) := fun e => by have := (hlt2 gk e).2; omega
          have hB2z : B2 ≤ Wg.heap.size := by omega
          have HBel : Hid (∀ w', Only (fun g => v2.ownBlock = some g) Wg w' → Below w.heap.size w w') := Lib.hid fun w' ho => Only.below Hba.out ho Hba.out.size (fun q hq => by have := (hlt2 q hq).1; omega)
          have HG9 := Lib.hid hg9
          have HXa := Lib.hid hXa
          have HRa := Lib.hid hRa
          have Hlt2 := Lib.hid hlt2
          clear hg9 hXa hRa hgk hza hlt2 hs1 hs2
          obtain ⟨i0, hi0, hz0, hz1, hz2⟩ := info_parts info_gate
          have hO := fun ops a => appRS2_ok (Pg := Try.prog) (ops := ops) (a := a) (news := [.int .i64 (u x1 : Nat), .int .i64 (u x2 : Nat)]) (d := 12) (HO2a.out)
          refine wp_region_rsl (appRS2 Try.prog _ Wg _ (B2) 72 2 (v2) (k) (cs) [.int .i64 (u x1 : Nat), .int .i64 (u x2 : Nat)] 12) (hO _ _) (by kernel_rfl) (by kernel_rfl) (by kernel_rfl) 14 _ rfl rfl (by kernel_rfl) (show (12 : Nat) < 14 by decide) trivial HO2a.out ?_
          apply rs_eq (hO _ _) (.inl (Nat.ne_of_beq_eq_false rfl))
          · intro ρ w' ho hK
            have ho : Only _ Wg w' := ho
            obtain ⟨h0, -⟩ := hK
            have h0' : ρ (.tmp 5) = _ := h0
            go_simp
            try exact rfl
          apply rs_eq (hO _ _) (.inl (Nat.ne_of_beq_eq_false rfl))
          · intro ρ w' ho hK
            have ho : Only _ Wg w' := ho
            obtain ⟨h0, -⟩ := hK
            have h0' : ρ (.tmp 44) = _ := h0
            have q1 := cell_on ho (fun e => hne e) hgBz (blk_cell HXa.out 2)
            have k0 := cell_on ho (fun e => hnek e) hgkz (blk_cell HG9.out 0)
            have k1 := cell_on ho (fun e => hnek e) hgkz (blk_cell HG9.out 1)
            go_simp
            try exact rfl
          refine rs_old (hO _ _) (.inl (Nat.ne_of_beq_eq_false rfl)) _ (.inl rfl) _ rfl rfl ?_
          apply rs_eq (hO _ _) (.inl (Nat.ne_of_beq_eq_false rfl))
          · intro ρ w' ho hK
            have ho : Only _ Wg w' := ho
            obtain ⟨h0, -⟩ := hK
            have h0' : ρ (.tmp 9) = _ := h0
            go_simp
            try exact rfl
          apply rs_eq (hO _ _) (.inl (Nat.ne_of_beq_eq_false rfl))
          · intro ρ w' ho hK
            have ho : Only _ Wg w' := ho
            obtain ⟨h0, -⟩ := hK
            have h0' : ρ (.tmp 47) = _ := h0
            have q1 := cell_on ho (fun e => hne e) hgBz (blk_cell HXa.out 2)
            have k0 := cell_on ho (fun e => hnek e) hgkz (blk_cell HG9.out 0)
            have k1 := cell_on ho (fun e => hnek e) hgkz (blk_cell HG9.out 1)
            go_simp
            try exact rfl
          refine rs_callV (hO _ _) (.inl (Nat.ne_of_beq_eq_false rfl)) (TEq (.int .i64 ((u x1 : Nat) : Int))) (stb_eq _ _) (.tmp 46) _ _ rfl (fun ρ w' ho hK => by
            have ho : Only _ Wg w' := ho
            obtain ⟨h0, h1, -⟩ := hK
            have h0' : ρ (.tmp 46) = _ := h0
            have h1' : ρ (.tmp 48) = _ := h1
            refine ⟨F, #[ρ (.tmp 48)] ++ caps, ?_, ?_⟩
            · go_simp
            · rw [h1']
              refine (HU.out w' (HBel.out w' ho) x1 hlN1).mono ?_
              rintro e w2 ⟨rfl, hb⟩
              exact ⟨_, rfl, rfl, hb⟩) ?_
          refine rs_old (hO _ _) (.inl (Nat.ne_of_beq_eq_false rfl)) _ (.inl rfl) _ rfl rfl ?_
          apply rs_eq (hO _ _) (.inl (Nat.ne_of_beq_eq_false rfl))
          · intro ρ w' ho hK
            have ho : Only _ Wg w' := ho
            obtain ⟨h0, -⟩ := hK
            have h0' : ρ (.tmp 9) = _ := h0
            go_simp
            try exact rfl
          apply rs_eq (hO _ _) (.inl (Nat.ne_of_beq_eq_false rfl))
          · intro ρ w' ho hK
            have ho : Only _ Wg w' := ho
            obtain ⟨h0, -⟩ := hK
            have h0' : ρ (.tmp 51) = _ := h0
            have q1 := cell_on ho (fun e => hne e) hgBz (blk_cell HXa.out 2)
            have k0 := cell_on ho (fun e => hnek e) hgkz (blk_cell HG9.out 0)
            have k1 := cell_on ho (fun e => hnek e) hgkz (blk_cell HG9.out 1)
            go_simp
            try exact rfl
          refine rs_callV (hO _ _) (.inl (Nat.ne_of_beq_eq_false rfl)) (TEq (.int .i64 ((u x2 : Nat) : Int))) (stb_eq _ _) (.tmp 50) _ _ rfl (fun ρ w' ho hK => by
            have ho : Only _ Wg w' := ho
            obtain ⟨h0, h1, -⟩ := hK
            have h0' : ρ (.tmp 50) = _ := h0
            have h1' : ρ (.tmp 52) = _ := h1
            refine ⟨F, #[ρ (.tmp 52)] ++ caps, ?_, ?_⟩
            · go_simp
            · rw [h1']
              refine (HU.out w' (HBel.out w' ho) x2 hlN2).mono ?_
              rintro e w2 ⟨rfl, hb⟩
              exact ⟨_, rfl, rfl, hb⟩) ?_
          apply rs_eq (hO _ _) (.inl (Nat.ne_of_beq_eq_false rfl))
          · intro ρ w' ho hK
            have ho : Only _ Wg w' := ho
            obtain ⟨h0, h1, -⟩ := hK
            have h0' : ρ (.tmp 49) = _ := h0
            have h1' : ρ (.tmp 53) = _ := h1
            go_simp
            try exact rfl
          refine rs_build1 (hO _ _) (.inl (Nat.ne_of_beq_eq_false rfl)) 2 [.int .i64 (u x1 : Nat), .int .i64 (u x2 : Nat)] 72 rfl (fun ρ w' ho hK => by
            have ho : Only _ Wg w' := ho
            obtain ⟨h0, -⟩ := hK
            have h0' : ρ (.tmp 54) = _ := h0
            go_simp) ?_
          refine rs_append2 rfl (B2) 72 24 2 (v2) (k) (cs) _ rfl rfl (fun g hg => hg) (show B2 ≤ Wg.heap.size by omega) _ _ rfl _ _ rfl rfl rfl rfl i0 _ 16 Try.underlying24 hi0 hz0 hz1 hz2 rfl (by decide) (by omega) (by decide) (by simp [Value.oneCell']) ?_
          apply rs_eq (hO _ _) (.inl (Nat.ne_of_beq_eq_false rfl))
          · intro ρ w' ho hK
            have ho : Only _ Wg w' := ho
            obtain ⟨h0, -⟩ := hK
            have h0' : ρ (.tmp 5) = _ := h0
            go_simp
            try exact rfl
          intro f w9 k9 hk9 hI9 ht9 hcp9
          have E0 : f 0 = _ := ht9 0 (Nat.le_of_ble_eq_true rfl)
          have E1 : f 1 = _ := ht9 1 (Nat.le_of_ble_eq_true rfl)
          have E2 : f 2 = _ := ht9 2 (Nat.le_of_ble_eq_true rfl)
          conv at E2 => rhs; whnf
          have E3 : f 3 = _ := ht9 3 (Nat.le_of_ble_eq_true rfl)
          have E4 : f 4 = _ := ht9 4 (Nat.le_of_ble_eq_true rfl)
          have E5 : f 5 = _ := ht9 5 (Nat.le_of_ble_eq_true rfl)
          have E6 : f 6 = _ := ht9 6 (Nat.le_of_ble_eq_true rfl)
          conv at E6 => rhs; whnf
          have E7 : f 7 = _ := ht9 7 (Nat.le_of_ble_eq_true rfl)
          have E8 : f 8 = _ := ht9 8 (Nat.le_of_ble_eq_true rfl)
          have E9 : f 9 = _ := ht9 9 (Nat.le_of_ble_eq_true rfl)
          have E10 : f 10 = _ := ht9 10 (Nat.le_of_ble_eq_true rfl)
          have E11 : (TNew _ 2 1 [.int .i64 (u x1 : Nat), .int .i64 (u x2 : Nat)]) w9 (f 11) := ht9 11 (Nat.le_of_ble_eq_true rfl)
          have E12 : (TAny) w9 (f 12) := ht9 12 (Nat.le_of_ble_eq_true rfl)
          have E13 : f 13 = _ := ht9 13 (Nat.le_of_ble_eq_true rfl)
          have Ho9 : Only _ Wg w9 := hI9.2.1
          have hown9 : w9.ownsRow (B2) 72 2 (f 12) (k + 1) (cs ++ [.int .i64 (u x1 : Nat), .int .i64 (u x2 : Nat)]) := hI9.2.2.1
          have hat9 : ∀ g, (f 12).ownBlock = some g → (v2).ownBlock = some g ∨ Wg.heap.size ≤ g := hI9.2.2.2
          simp only [putAll, E0, E1, E2, E3, E4, E5, E6, E7, E8, E9, E10, E13, Nat.zero_add, Nat.reduceAdd, Act.put, List.setIfInBounds_toArray, List.set_cons_succ, List.set_cons_zero, List.take, List.getElem_toArray, List.getElem_cons_succ, List.getElem_cons_zero]
          clear E0 E1 E2 E3 E4 E5 E6 E7 E8 E9 E10 E13
          clear hI9 ht9 hcp9 hk9
          generalize f 11 = r11 at *
          generalize f 12 = r12 at *
          have O9 : Only (fun g => v2.ownBlock = some g) Wg w9 := Ho9
          have hx9 := (O9.block gB hgBz hne).trans HXa.out
          have hR9 := (O9.block gR hgRz hneR).trans HRa.out
          obtain ⟨A9, c9, hv9⟩ := slice_of_own hown9
          subst hv9
          have q1 := blk_cell hx9 2
          have f1 := blk_free hx9 2
          have Hown9 := Lib.hid hown9
          have Hx10 := Lib.hid (heap_setCell_same w9 gB 2 _ _ (.slice A9 (k + 1) c9) hx9)
          have HR9' := Lib.hid hR9
          have HB9 := Lib.hid (HBel.out w9 O9)
          have HO1b := Lib.hid (own_only HO1a.out O9 (fun g hg e => by have h1 := Hvx2.out g hg; have h2 := (Hlt2.out g e).1; omega))
          have hz9 := O9.size
          clear Ho9 hown9 hat9 hx9 hR9 O9 hO HXa HRa HO2a HBel HG9 HO1a Hba
          go_wp2_with fail
          go_roundw
          case rel => exact ⟨k + 1, _, by omega, by go_num, Lib.hid (by have h := Hx10.out; simp at h; exact h), Lib.hid ((heap_setCell_other' _ _ _ _ _ (by omega)).trans HR9'.out), Lib.hid (own_setB HO1b.out (by omega)), Lib.hid (by rw [HS.out]; exact own_setB Hown9.out (by omega)), by simp; omega, Lib.hid (HB9.out.setCell (by simp only; omega) _)⟩
          case measure => simp [intOf]; omega
        · obtain rfl : k = c.gates.length := by omega
          rw [List.take_length] at HO2
          have HO2e : Hid (wr.ownsRow B2 72 2 v2 c.gates.length (ngates (c.gates.map fun g => (u g.1, u g.2)))) := HO2
          have q0 := (Hb'.out.cell (p := ⟨g, 3, none⟩) hg).trans C3.out
          clear HO2
          go_wp2_with fail
          obtain ⟨W2, hW2⟩ : ∃ W, W = wr := ⟨_, rfl⟩
          subst hW2
          obtain ⟨B3, hB3⟩ : ∃ B3, B3 = W2.heap.size := ⟨_, rfl⟩
          have hB3B : gB < B3 := by omega
          have hB3B2 : B2 ≤ B3 := by omega
          have hvx3 : ∀ g, vx.ownBlock = some g → g < B3 := fun g hg => by rw [hB3]; exact (HO1'.out.lt g hg).2
          have hv23 : ∀ g, v2.ownBlock = some g → g < B3 := fun g hg => by rw [hB3]; exact (HO2e.out.lt g hg).2
          have Hvx3 := Lib.hid (And.intro hvx3 hv23)
          have hz3 : B3 ≤ W2.heap.size := by omega
          clear hvx3 hv23 hB3 q0 Hvx2
          go_loopw [64] (fun i wr => ∃ (k : Nat) (v3 : Value), k ≤ c.outs.length ∧ i = .int .i64 k ∧ Hid (wr.heap[gB]? = some (.cells #[.int .i64 (Cir.toCz c).ins, vx, v2, v3] 26 (0, 0))) ∧ Hid (wr.heap[gR]? = some (.cells #[.int .i64 0, .slice none 0 0, .slice none 0 0, .slice none 0 0] 26 (0, 0))) ∧ Hid (wr.ownsRow (gB + 1) 3 1 vx c.next.length (nints' (c.next.map u))) ∧ Hid (wr.ownsRow B2 72 2 v2 c.gates.length (ngates (c.gates.map fun g => (u g.1, u g.2)))) ∧ Hid (wr.ownsRow B3 3 1 v3 k (nints' ((c.outs.take k).map u))) ∧ B3 ≤ wr.heap.size ∧ Hid (Below w.heap.size w wr)) (fun i _ => c.outs.length - (intOf i).toNat)
          case atStart => exact ⟨0, .slice none 0 0, Nat.zero_le _, rfl, HX', HR', HO1', HO2e, Lib.hid (World.ownsRow_nil _ _ _ _), hz3, Hb'⟩
          case round =>
            obtain ⟨k, v3, hk, rfl, HX3, HR3, HO1e, HO2f, HO3, hz4, Hb3⟩ := hrel
            clear HX' HR' HO1' HO2e Hb' hlt hz3
            have hgB := blk_ltB HX3.out
            have hgR := blk_ltB HR3.out
            by_cases hlt : k < c.outs.length
            · obtain ⟨l, hl⟩ := at_some hlt
              have hlN := HN3.out l (List.mem_of_getElem? hl)
              obtain ⟨b, o, x, rfl, hbl, hx, hs⟩ := ints_open R3.out Hb3.out HL.out.2.2.symm (i := k) (by rw [HL.out.2.2]; exact hlt)
              have hxe : x = (l : Int) := by
                have h1 := hx.out
                unfold Cir.toCz at h1
                rw [List.getElem?_map, hl] at h1
                exact (Option.some.inj h1).symm
              subst hxe
              have HS := Lib.hid (nints'_snoc hl u)
              have hlt2 : ∀ g, v3.ownBlock = some g → B3 ≤ g ∧ g < wr.heap.size := fun g hg => HO3.out.lt g hg
              have hne : ¬ (v3.ownBlock = some gB) := fun e => by have := (hlt2 gB e).1; omega
              have hneR : ¬ (v3.ownBlock = some gR) := fun e => by have := (hlt2 gR e).1; omega
              have HBel : Hid (∀ w', Only (fun g => v3.ownBlock = some g) wr w' → Below w.heap.size w w') := Lib.hid fun w' ho => Only.below Hb3.out ho Hb3.out.size (fun q hq => by have := (hlt2 q hq).1; omega)
              have Hlt2 := Lib.hid hlt2
              generalize hcs : nints' ((c.outs.take k).map u) = cs at *
              clear hx hl hcs hlt2
              go_wp2_with fail
              obtain ⟨i0, hi0, hz0, hz1, hz2⟩ := info_parts info_int
              have hO := fun ops a => appRS2_ok (Pg := Try.prog) (ops := ops) (a := a) (news := [.int .i64 (u l : Nat)]) (d := 6) (HO3.out)
              refine wp_region_rsl (appRS2 Try.prog _ wr _ (B3) 3 1 (v3) (k) (cs) [.int .i64 (u l : Nat)] 6) (hO _ _) (by kernel_rfl) (by kernel_rfl) (by kernel_rfl) 8 _ rfl rfl (by kernel_rfl) (show (6 : Nat) < 8 by decide) trivial HO3.out ?_
              apply rs_eq (hO _ _) (.inl (Nat.ne_of_beq_eq_false rfl))
              · intro ρ w' ho hK
                have ho : Only _ wr w' := ho
                obtain ⟨h0, -⟩ := hK
                have h0' : ρ (.tmp 5) = _ := h0
                go_simp
                try exact rfl
              apply rs_eq (hO _ _) (.inl (Nat.ne_of_beq_eq_false rfl))
              · intro ρ w' ho hK
                have ho : Only _ wr w' := ho
                obtain ⟨h0, -⟩ := hK
                have h0' : ρ (.tmp 68) = _ := h0
                have q1 := cell_on ho (fun e => hne e) hgB (blk_cell HX3.out 3)
                go_simp
                try exact rfl
              refine rs_old (hO _ _) (.inl (Nat.ne_of_beq_eq_false rfl)) _ (.inl rfl) _ rfl rfl ?_
              refine rs_old (hO _ _) (.inl (Nat.ne_of_beq_eq_false rfl)) _ (.inl rfl) _ rfl rfl ?_
              refine rs_callV (hO _ _) (.inl (Nat.ne_of_beq_eq_false rfl)) (TEq (.int .i64 ((u l : Nat) : Int))) (stb_eq _ _) (.tmp 70) _ _ rfl (fun ρ w' ho hK => by
                have ho : Only _ wr w' := ho
                obtain ⟨h0, h1, -⟩ := hK
                have h0' : ρ (.tmp 70) = _ := h0
                have h1' : ρ (.tmp 71) = _ := h1
                refine ⟨F, #[ρ (.tmp 71)] ++ caps, ?_, ?_⟩
                · go_simp
                · rw [h1']
                  refine (HU.out w' (HBel.out w' ho) l hlN).mono ?_
                  rintro e w2 ⟨rfl, hb⟩
                  exact ⟨_, rfl, rfl, hb⟩) ?_
              refine rs_build1 (hO _ _) (.inl (Nat.ne_of_beq_eq_false rfl)) 1 [.int .i64 (u l : Nat)] 3 rfl (fun ρ w' ho hK => by
                have ho : Only _ wr w' := ho
                obtain ⟨h0, -⟩ := hK
                have h0' : ρ (.tmp 72) = _ := h0
                go_simp) ?_
              refine rs_append2 rfl (B3) 3 23 1 (v3) (k) (cs) _ rfl rfl (fun g hg => hg) (show B3 ≤ wr.heap.size by omega) _ _ rfl _ _ rfl rfl rfl rfl i0 _ 8 Try.underlying23 hi0 hz0 hz1 hz2 rfl (by decide) (by omega) (by decide) (by simp [Value.oneCell']) ?_
              apply rs_eq (hO _ _) (.inl (Nat.ne_of_beq_eq_false rfl))
              · intro ρ w' ho hK
                have ho : Only _ wr w' := ho
                obtain ⟨h0, -⟩ := hK
                have h0' : ρ (.tmp 5) = _ := h0
                go_simp
                try exact rfl
              intro f w9 k9 hk9 hI9 ht9 hcp9
              have E0 : f 0 = _ := ht9 0 (Nat.le_of_ble_eq_true rfl)
              have E1 : f 1 = _ := ht9 1 (Nat.le_of_ble_eq_true rfl)
              have E2 : f 2 = _ := ht9 2 (Nat.le_of_ble_eq_true rfl)
              conv at E2 => rhs; whnf
              have E3 : f 3 = _ := ht9 3 (Nat.le_of_ble_eq_true rfl)
              conv at E3 => rhs; whnf
              have E4 : f 4 = _ := ht9 4 (Nat.le_of_ble_eq_true rfl)
              have E5 : (TNew _ 1 1 [.int .i64 (u l : Nat)]) w9 (f 5) := ht9 5 (Nat.le_of_ble_eq_true rfl)
              have E6 : (TAny) w9 (f 6) := ht9 6 (Nat.le_of_ble_eq_true rfl)
              have E7 : f 7 = _ := ht9 7 (Nat.le_of_ble_eq_true rfl)
              have Ho9 : Only _ wr w9 := hI9.2.1
              have hown9 : w9.ownsRow (B3) 3 1 (f 6) (k + 1) (cs ++ [.int .i64 (u l : Nat)]) := hI9.2.2.1
              have hat9 : ∀ g, (f 6).ownBlock = some g → (v3).ownBlock = some g ∨ wr.heap.size ≤ g := hI9.2.2.2
              simp only [putAll, E0, E1, E2, E3, E4, E7, Nat.zero_add, Nat.reduceAdd, Act.put, List.setIfInBounds_toArray, List.set_cons_succ, List.set_cons_zero, List.take, List.getElem_toArray, List.getElem_cons_succ, List.getElem_cons_zero]
              clear E0 E1 E2 E3 E4 E7
              clear hI9 ht9 hcp9 hk9
              generalize f 5 = r5 at *
              generalize f 6 = r6 at *
              have O9 : Only (fun g => v3.ownBlock = some g) wr w9 := Ho9
              have hx9 := (O9.block gB hgB hne).trans HX3.out
              have hR9 := (O9.block gR hgR hneR).trans HR3.out
              obtain ⟨A9, c9, hv9⟩ := slice_of_own hown9
              subst hv9
              have q1 := blk_cell hx9 3
              have f1 := blk_free hx9 3
              have Hown9 := Lib.hid hown9
              have Hx10 := Lib.hid (heap_setCell_same w9 gB 3 _ _ (.slice A9 (k + 1) c9) hx9)
              have HR9' := Lib.hid hR9
              have HB9 := Lib.hid (HBel.out w9 O9)
              have HO1b := Lib.hid (own_only HO1e.out O9 (fun g hg e => by have h1 := Hvx3.out.1 g hg; have h2 := (Hlt2.out g e).1; omega))
              have HO2b := Lib.hid (own_only HO2f.out O9 (fun g hg e => by have h1 := Hvx3.out.2 g hg; have h2 := (Hlt2.out g e).1; omega))
              have hz9 := O9.size
              clear Ho9 hown9 hat9 hx9 hR9 O9 hO HX3 HR3 HO3 HBel HO1e HO2f Hb3
              go_wp2_with fail
              go_roundw
              case rel => exact ⟨k + 1, _, by omega, by go_num, Lib.hid (by have h := Hx10.out; simp at h; exact h), Lib.hid ((heap_setCell_other' _ _ _ _ _ (by omega)).trans HR9'.out), Lib.hid (own_setB HO1b.out (by omega)), Lib.hid (own_setB HO2b.out (by omega)), Lib.hid (by rw [HS.out]; exact own_setB Hown9.out (by omega)), by simp; omega, Lib.hid (HB9.out.setCell (by simp only; omega) _)⟩
              case measure => simp [intOf]; omega
            · obtain rfl : k = c.outs.length := by omega
              rw [List.take_length] at HO3
              obtain ⟨A1, c1', hv1⟩ := slice_of_own HO1e.out
              subst hv1
              obtain ⟨A2, c2', hv2⟩ := slice_of_own HO2f.out
              subst hv2
              obtain ⟨A3, c3', hv3⟩ := slice_of_own HO3.out
              subst hv3
              have q0 := blk_cell HX3.out 0
              have q1 := blk_cell HX3.out 1
              have q2 := blk_cell HX3.out 2
              have q3 := blk_cell HX3.out 3
              have r0 := blk_cell HR3.out 0
              have r1 := blk_cell HR3.out 1
              have r2 := blk_cell HR3.out 2
              have r3 := blk_cell HR3.out 3
              have f0 := blk_free HR3.out 0
              have f1 := blk_free HR3.out 1
              have f2 := blk_free HR3.out 2
              have f3 := blk_free HR3.out 3
              have hlm : (Cir.toCz (mapC u c)).next.length = c.next.length ∧ (Cir.toCz (mapC u c)).gates.length = c.gates.length ∧ (Cir.toCz (mapC u c)).outs.length = c.outs.length := ⟨by simp [Cir.toCz, mapC], by simp [Cir.toCz, mapC], by simp [Cir.toCz, mapC]⟩
              have Hlm := Lib.hid hlm
              clear hlm HX3 hlt
              go_wp2_with fail
              refine bodyPost_ret (v := .agg #[.int .i64 (Cir.toCz c).ins, .slice A1 c.next.length c1', .slice A2 c.gates.length c2', .slice A3 c.outs.length c3']) (by simp [results, Try.results56, go_sem, r0, r1, r2, r3]) rfl ⟨⟨_, rfl, _, _, _, rfl, ?_, ?_, ?_, fun g h1 h2 => by have k1 := Hvx3.out.1 g h1; have k2 := (HO3.out.lt g h2).1; omega⟩, ?_⟩
              · rw [Hlm.out.1]
                exact own_mono (own_setB (own_setB (own_setB (own_setB HO1e.out (by omega)) (by omega)) (by omega)) (by omega)) (by omega)
              · rw [Hlm.out.2.1]
                exact own_mono (own_setB (own_setB (own_setB (own_setB (by have h := HO2f.out; unfold ngates at h; unfold Cir.toCz mapC; exact h) (by omega)) (by omega)) (by omega)) (by omega)) (by omega)
              · rw [Hlm.out.2.2]
                exact own_mono (own_setB (own_setB (own_setB (own_setB HO3.out (by omega)) (by omega)) (by omega)) (by omega)) (by omega)
              · exact (((Hb3.out.setCell (by simp only; omega) _).setCell (by simp only; omega) _).setCell (by simp only; omega) _).setCell (by simp only; omega) _
end Go.Proofs.Ytdgminjbgjbamaa
namespace Go.Proofs.Ytdgminjbgjbamaa
open Go.RowKit Go.Maps
namespace Cir
theorem and_bent (a b : Nat) : (a &&& b) % 2 = (a % 2) * (b % 2) := by
  have h : (a &&& b) % 2 = (a % 2) &&& (b % 2) := by
    have := Nat.and_mod_two_pow (a := a) (b := b) (n := 1)
    simpa using this
  rw [h]
  rcases Nat.mod_two_eq_zero_or_one a with h1 | h1 <;> rcases Nat.mod_two_eq_zero_or_one b with h2 | h2 <;> rw [h1, h2] <;> rfl
def retZ (c : Cz) (i : Int) : Cz := if canI c i then toCz (retC (nat c) i.toNat) else ⟨0, [], [], []⟩
end Cir
namespace Cir
theorem rMap_xor (d : Ci) (i n b : Nat) (hb : b < 2) : rMap d i (n ^^^ b) = rMap d i n ^^^ b := by
  unfold rMap useX
  have h2 : (n ^^^ b) % 2 = (n % 2) ^^^ b := by
    have := Nat.xor_mod_two_pow (a := n) (b := b) (n := 1)
    simp at this
    rw [this, show b % 2 = b from by omega]
  rw [xor_half n b hb, h2, Nat.xor_assoc]
theorem retC_gate {d : Ci} (hd : Ok d) {i : Nat} (h : CanR d i) {x1 x2 : Nat} (hg : d.gates[i]? = some (x1, x2)) :
    (retC d i).gates = d.gates.map (fun g => (rMap d i g.1, rMap d i g.2)) ++ [(rMap d i (d.next.getD (x1 / 2 - d.ins - 1) 0 ^^^ (x1 % 2)), rMap d i (d.next.getD (x2 / 2 - d.ins - 1) 0 ^^^ (x2 % 2)))] := by
  have e : d.gates.getD i (0, 0) = (x1, x2) := getD_at _ hg
  have ha := h.a
  have hb := h.b
  rw [e] at ha hb
  obtain ⟨a1, a2, a3⟩ := isLat_get ha
  obtain ⟨b1, b2, b3⟩ := isLat_get hb
  unfold retC
  simp only
  rw [e]
  simp only
  simp only at a3 b3
  rw [(next_lt hd i a3).1, (next_lt hd i b3).1, rMap_xor _ _ _ _ (by omega), rMap_xor _ _ _ _ (by omega)]
end Cir
structure RtX (d : Ci) (i : Nat) (w : World) (gC g3 gR : Nat) (cn cg co : Value) (wr : World) : Prop where
  b : Below w.heap.size w wr
  p : PCirc wr gC (Cir.toCz d)
  c : PCells wr gC (d.ins : Int) cn cg co
  i : wr.heap[g3]? = some (.cells #[.int .i64 (i : Int)] 3 (0, 0))
  r : wr.heap[gR]? = some (.cells #[.int .i64 0, .slice none 0 0, .slice none 0 0, .slice none 0 0] 26 (0, 0))
theorem RtX.step {d : Ci} {i : Nat} {w : World} {gC g3 gR : Nat} {cn cg co : Value} {wr w' : World} (h : RtX d i w gC g3 gR cn cg co wr) (hb : Below wr.heap.size wr w') : RtX d i w gC g3 gR cn cg co w' :=
  ⟨h.b.trans (hb.mono h.b.size), h.p.below hb, h.c.below hb, (hb.block g3 (blk_ltB h.i)).trans h.i, (hb.block gR (blk_ltB h.r)).trans h.r⟩
theorem implRetime_ok (v : Value) (d : Ci) (i : Nat) (w : World) (h : CircAt w v (Cir.toCz d)) (hd : Cir.Ok d) (hv : Cir.valid (Cir.toCz d) = true) (hcan : Cir.canR d (i : Int) = true) :
    Calls Try.prog 20 #[v, .int .i64 (i : Int)] w (fun e w' => (∃ v', e = .returned v' ∧ CircOwn 0 w' v' (Cir.toCz (Cir.retC d i))) ∧ Below w.heap.size w w') := by
  have s1 := hd.ins
  have s2 := hd.nexts
  have s3 := hd.gatess
  have s4 := hd.outss
  have hcr := Cir.CanR.of hcan
  have hi := hcr.lt
  have HC := Lib.hid h
  obtain ⟨An, cn, Ag, cg, Ao, co, rfl⟩ := h.shape
  have hln : (Cir.toCz d).next.length = d.next.length := List.length_map _
  have hlg : (Cir.toCz d).gates.length = d.gates.length := List.length_map _
  have hlo : (Cir.toCz d).outs.length = d.outs.length := List.length_map _
  have hins : (Cir.toCz d).ins = (d.ins : Int) := rfl
  have hP0 : PCirc (w.alloc (.cells #[.int .i64 (Cir.toCz d).ins, .slice An (Cir.toCz d).next.length cn, .slice Ag (Cir.toCz d).gates.length cg, .slice Ao (Cir.toCz d).outs.length co] 26)) w.heap.size (Cir.toCz d) := by
    obtain ⟨vn, vg, vo, e, i1, i2, i3⟩ := h
    injection e with e
    simp only [Array.mk.injEq, List.cons.injEq, and_true] at e
    obtain ⟨-, e1, e2, e3⟩ := e
    subst e1 e2 e3
    exact PCirc.boxed _ i1 i2 i3
  rw [hln, hlg, hlo, hins] at HC hP0 ⊢
  obtain ⟨vn, vg, vo, e, r1, r2, r3⟩ := HC.out
  injection e with e
  simp only [Array.mk.injEq, List.cons.injEq, and_true] at e
  obtain ⟨-, e1, e2, e3⟩ := e
  subst e1 e2 e3
  have RG : Hid (Row w 2 (.slice Ag d.gates.length cg) d.gates.length (cubes (Cir.toCz d).gates)) := Lib.hid (by have := r2; unfold CubesAt at this; rwa [hlg] at this)
  have hb0 := bel_new w (.cells #[.int .i64 (d.ins : Int), .slice An d.next.length cn, .slice Ag d.gates.length cg, .slice Ao d.outs.length co] 26)
  have P0 := PCells.boxed w (d.ins : Int) (.slice An d.next.length cn) (.slice Ag d.gates.length cg) (.slice Ao d.outs.length co) 26
  obtain ⟨gC, hgC⟩ : ∃ g, w.heap.size = g := ⟨_, rfl⟩
  have hs0 : (w.alloc (.cells #[.int .i64 (d.ins : Int), .slice An d.next.length cn, .slice Ag d.gates.length cg, .slice Ao d.outs.length co] 26)).heap.size = gC + 1 := by rw [World.size_alloc, hgC]
  obtain ⟨W1, hW1⟩ : ∃ W1, w.alloc (.cells #[.int .i64 (d.ins : Int), .slice An d.next.length cn, .slice Ag d.gates.length cg, .slice Ao d.outs.length co] 26) = W1 := ⟨_, rfl⟩
  rw [hW1] at hb0 hP0 P0 hs0
  rw [hgC] at hP0 P0
  have hb1 := bel_new W1 (.cells #[.int .i64 (i : Int)] 3)
  have hk1 := heap_alloc_new W1 (.cells #[.int .i64 (i : Int)] 3)
  obtain ⟨g3, hg3⟩ : ∃ g, gC + 1 = g := ⟨_, rfl⟩
  rw [hg3] at hs0
  rw [hs0] at hk1
  have hs1 : (W1.alloc (.cells #[.int .i64 (i : Int)] 3)).heap.size = g3 + 1 := by rw [World.size_alloc, hs0]
  obtain ⟨W2, hW2⟩ : ∃ W2, W1.alloc (.cells #[.int .i64 (i : Int)] 3) = W2 := ⟨_, rfl⟩
  rw [hW2] at hb1 hk1 hs1
  have hb2 := bel_new W2 (.cells #[.int .i64 0, .slice none 0 0, .slice none 0 0, .slice none 0 0] 26)
  have hR2 := heap_alloc_new W2 (.cells #[.int .i64 0, .slice none 0 0, .slice none 0 0, .slice none 0 0] 26)
  obtain ⟨gR, hgR⟩ : ∃ g, g3 + 1 = g := ⟨_, rfl⟩
  rw [hgR] at hs1
  rw [hs1] at hR2
  have hs2 : (W2.alloc (.cells #[.int .i64 0, .slice none 0 0, .slice none 0 0, .slice none 0 0] 26)).heap.size = gR + 1 := by rw [World.size_alloc, hs1]
  obtain ⟨W3, hW3⟩ : ∃ W3, W2.alloc (.cells #[.int .i64 0, .slice none 0 0, .slice none 0 0, .slice none 0 0] 26) = W3 := ⟨_, rfl⟩
  rw [hW3] at hb2 hR2 hs2
  have hb13 : Below W1.heap.size W1 W3 := hb1.trans (hb2.mono hb1.size)
  have HB3 := Lib.hid (hb0.trans (hb13.mono hb0.size))
  have HP3 := Lib.hid (hP0.below hb13)
  have PC3 := Lib.hid (P0.below hb13)
  have HI3 := Lib.hid ((hb2.block g3 (by omega)).trans hk1)
  have HR3 := Lib.hid hR2
  have HC3 := Lib.hid (HC.out.below HB3.out)
  have HW := Lib.hid (And.intro hW1 (And.intro hW2 hW3))
  have Hg := Lib.hid (And.intro hgC (And.intro hg3 hgR))
  have hgC3 : gC < g3 := by omega
  have hg3R : g3 < gR := by omega
  have hwC : w.heap.size ≤ gC := by omega
  have HD := Lib.hid hd
  have Hcr := Lib.hid hcr
  have Hcan := Lib.hid (show Cir.canI (Cir.toCz d) (i : Int) = true by unfold Cir.canI; rw [hv, Cir.nat_toCz, hcan]; rfl)
  have H3 := Lib.hid (RtX.mk (d := d) (i := i) HB3.out HP3.out PC3.out HI3.out HR3.out)
  obtain ⟨zz, p0, p1, p2, p3⟩ := PC3.out
  have p4 := blk_cell HI3.out 0
  simp at p4
  clear h hd hv hcan hcr hln hlg hlo hins hP0 P0 r1 r2 r3 hb0 hb1 hb2 hb13 hk1 hR2 hs0 hs1 hW1 hW2 hW3 hgC hg3 hgR
  go_enter Try.func20, Try.ntmps20
  go_wp2_with fail
  rw [Hg.out.1, HW.out.1, HW.out.2.1, HW.out.2.2]
  try rw [Hg.out.2.1]
  try rw [Hg.out.2.2]
  clear p0 p1 p2 p3 p4 zz HB3 HP3 PC3 HI3 HR3
  refine (implCan_any _ _ _ _ HC3.out ⟨by omega, by omega⟩).mono ?_
  rintro e w4 ⟨rfl, hb4⟩
  rw [Hcan.out]
  have H4 := Lib.hid (H3.out.step hb4)
  clear hb4 H3 HC3 Hcan
  obtain ⟨F, hF⟩ : ∃ F, Cir.nfirst d = F := ⟨_, rfl⟩
  have hFe : F = 1 + d.ins + d.next.length := by rw [← hF]; rfl
  have hFb : F ≤ 8 := by omega
  have HFi : Hid (∀ w', PCirc w' gC (Cir.toCz d) → Calls Try.prog 61 #[.pointer (some ⟨gC, 0, none⟩)] w' fun e w'' => e = .returned (.int .i64 (F : Nat)) ∧ Below w'.heap.size w' w'') := Lib.hid fun w' hp => by
    have := firstGate_any gC _ w' hp (by show (0 : Int) ≤ (d.ins : Int); omega) (by show (d.ins : Int) ≤ 100; omega) (by show (List.map _ _).length ≤ 100; rw [List.length_map]; omega)
    rwa [Cir.first_toCz, hF] at this
  have HFe := Lib.hid (And.intro hF hFe)
  clear hF hFe
  go_wp2_with fail
  refine (HFi.out _ H4.out.p).mono ?_
  rintro e w5 ⟨rfl, hb5⟩
  have H5 := Lib.hid (H4.out.step hb5)
  clear hb5 H4
  obtain ⟨⟨x1, x2⟩, hgt⟩ := at_some hi
  have hb6 := bel_new w5 (.cells #[.int .i64 (F : Int)] 3)
  have hk6 := heap_alloc_new w5 (.cells #[.int .i64 (F : Int)] 3)
  obtain ⟨g5, hg5⟩ : ∃ g, w5.heap.size = g := ⟨_, rfl⟩
  have hs6 : (w5.alloc (.cells #[.int .i64 (F : Int)] 3)).heap.size = g5 + 1 := by rw [World.size_alloc, hg5]
  obtain ⟨W6, hW6⟩ : ∃ W6, w5.alloc (.cells #[.int .i64 (F : Int)] 3) = W6 := ⟨_, rfl⟩
  rw [hW6] at hb6 hk6 hs6
  rw [hg5] at hk6
  have H6 := H5.out.step hb6
  obtain ⟨bq, o, x, rfl, hbl, hx, e1, e2⟩ := cubes_open RG.out H6.b (show d.gates.length = (Cir.toCz d).gates.length from (List.length_map _).symm) (i := i) (by rw [show (Cir.toCz d).gates.length = d.gates.length from List.length_map _]; exact hi)
  have hxe : x = ((x1 : Int), (x2 : Int)) := by
    have h1 := hx.out
    unfold Cir.toCz at h1
    simp only [List.getElem?_map, hgt] at h1
    exact (Option.some.inj h1).symm
  subst hxe
  simp only at e1 e2
  have hb7 := bel_new W6 (.cells #[.int .i64 (x1 : Int), .int .i64 (x2 : Int)] 72)
  have hk7 := heap_alloc_new W6 (.cells #[.int .i64 (x1 : Int), .int .i64 (x2 : Int)] 72)
  obtain ⟨g6, hg6⟩ : ∃ g, g5 + 1 = g := ⟨_, rfl⟩
  rw [hg6] at hs6
  have hs7 : (W6.alloc (.cells #[.int .i64 (x1 : Int), .int .i64 (x2 : Int)] 72)).heap.size = g6 + 1 := by rw [World.size_alloc, hs6]
  obtain ⟨W7, hW7⟩ : ∃ W7, W6.alloc (.cells #[.int .i64 (x1 : Int), .int .i64 (x2 : Int)] 72) = W7 := ⟨_, rfl⟩
  rw [hW7] at hb7 hk7 hs7
  rw [hs6] at hk7
  have y0 := blk_cell hk7 0
  have y1 := blk_cell hk7 1
  simp at y0 y1
  have hbent : Cir.bentC d i = x1 % 2 * (x2 % 2) := by unfold Cir.bentC; rw [List.getD_eq_getElem?_getD, hgt, Option.getD_some]
  obtain ⟨hx1, hx2⟩ := HD.out.gate i _ hgt
  have hnfb : Cir.nfirst d ≤ 8 := by rw [HFe.out.1]; exact hFb
  have hx1b : x1 ≤ 1000000 := by simp only at hx1; omega
  have hx2b : x2 ≤ 1000000 := by simp only at hx2; omega
  have ha1 := i64_and_nat x1 x2 (by omega) (by omega)
  have hale : x1 &&& x2 ≤ x1 := Nat.and_le_left
  have ha2 := and_one_nat (x1 &&& x2) (by omega)
  rw [Cir.and_bent] at ha2
  obtain ⟨bent, hbe⟩ : ∃ b, x1 % 2 * (x2 % 2) = b := ⟨_, rfl⟩
  rw [hbe] at ha2 hbent
  have hbb : bent ≤ 1 := by rw [← hbent]; exact Cir.bent_le d i
  generalize x1 &&& x2 = xa at *
  have hb8 := bel_new W7 (.cells #[.int .i64 (bent : Int)] 3)
  have hk8 := heap_alloc_new W7 (.cells #[.int .i64 (bent : Int)] 3)
  obtain ⟨g7, hg7⟩ : ∃ g, g6 + 1 = g := ⟨_, rfl⟩
  rw [hg7] at hs7
  rw [hs7] at hk8
  have hs8 : (W7.alloc (.cells #[.int .i64 (bent : Int)] 3)).heap.size = g7 + 1 := by rw [World.size_alloc, hs7]
  obtain ⟨W8, hW8⟩ : ∃ W8, W7.alloc (.cells #[.int .i64 (bent : Int)] 3) = W8 := ⟨_, rfl⟩
  rw [hW8] at hb8 hk8 hs8
  have hb68 := hb7.trans (hb8.mono hb7.size)
  have H8 := Lib.hid (H6.step hb68)
  have HK5 := Lib.hid ((hb68.block g5 (by omega)).trans hk6)
  have HK6 := Lib.hid ((hb8.block g6 (by omega)).trans hk7)
  have HK7 := Lib.hid hk8
  have HX := Lib.hid (And.intro hgt (And.intro hbent (And.intro hx1 hx2)))
  obtain ⟨zz, p0, p1, p2, p3⟩ := H6.c
  have p4 := blk_cell H6.i 0
  simp at p4
  have hgR5 : gR < g5 := by rw [← hg5]; exact blk_ltB H5.out.r
  have hg56 : g5 < g6 := by omega
  have hg67 : g6 < g7 := by omega
  clear H6 H5 hb6 hk6 hs6 hb7 hk7 hs7 hb8 hk8 hb68 hx hgt hbent hx1 hx2 hbe hnfb hale hbl
  subst hW6 hW7
  subst hg6
  have HW8 := Lib.hid (And.intro hW8 (And.intro hg5 hg7))
  rw [← hg5] at y0 y1
  clear hW8 hg7
  go_wp2_with fail
  clear y0 y1 p0 p1 p2 p3 p4 zz
  rw [HW8.out.1, HW8.out.2.2]
  obtain ⟨hg57, hg57'⟩ : g5 + 1 < g7 ∧ True := ⟨by omega, trivial⟩
  generalize g5 + 1 = g6 at *
  have HUse : Hid (∀ w' l, Below W8.heap.size W8 w' → l < 2 * Cir.nvars d → Calls Try.prog 62 #[.int .i64 (l : Nat), .pointer (some ⟨g5, 0, none⟩), .pointer (some ⟨g3, 0, none⟩), .pointer (some ⟨g7, 0, none⟩)] w' fun e w'' => e = .returned (.int .i64 (Cir.rMap d i l : Nat)) ∧ Below w'.heap.size w' w'') := Lib.hid fun w' l hb hl => by
    have := retUse_any g5 g3 g7 F i bent l w' ((hb.cell (p := ⟨g5, 0, none⟩) (blk_ltB HK5.out)).trans (blk_cell HK5.out 0)) ((hb.cell (p := ⟨g3, 0, none⟩) (blk_ltB H8.out.i)).trans (blk_cell H8.out.i 0)) ((hb.cell (p := ⟨g7, 0, none⟩) (blk_ltB HK7.out)).trans (blk_cell HK7.out 0)) (by omega) (by omega) hbb (by unfold Cir.nvars at hl; rw [HFe.out.1] at hl; omega)
    rw [Cir.rMap_eq hl, HFe.out.1, HX.out.2.1]
    exact this
  have HNx : Hid (∀ w' l, Below W8.heap.size W8 w' → Cir.isLat d l = true → Calls Try.prog 63 #[.int .i64 (l : Nat), .pointer (some ⟨gC, 0, none⟩)] w' fun e w'' => e = .returned (.int .i64 ((d.next.getD (l / 2 - d.ins - 1) 0 ^^^ (l % 2) : Nat) : Int)) ∧ Below w'.heap.size w' w'') := Lib.hid fun w' l hb hl => retNext_any gC l d w' (H8.out.p.below hb) HD.out hl
  have hnvb : Cir.nvars d ≤ 22 := by unfold Cir.nvars; rw [HFe.out.1]; omega
  have HRep := Lib.hid (replacedA_any gC (2 * Cir.nvars d) d 62 #[.pointer (some ⟨g5, 0, none⟩), .pointer (some ⟨g3, 0, none⟩), .pointer (some ⟨g7, 0, none⟩)] (Cir.rMap d i) W8 H8.out.p (by omega) (by omega) (by omega) HD.out.next (fun x hx => by
    obtain ⟨k, hk, rfl⟩ := List.mem_iff_getElem.1 hx
    have := HD.out.gate k _ (List.getElem?_eq_getElem hk)
    unfold Cir.nvars
    omega) HD.out.out (fun vs w' => by kernel_rfl) (fun w' hb l hl => HUse.out w' l hb hl))
  refine HRep.out.mono ?_
  rintro e w9 ⟨⟨v9, rfl, vn', vg', vo', e9, o1, o2, o3, oa⟩, hb9⟩
  subst e9
  obtain ⟨A1, c1', hv1⟩ := slice_of_own o1
  obtain ⟨A2, c2', hv2⟩ := slice_of_own o2
  obtain ⟨A3, c3', hv3⟩ := slice_of_own o3
  subst hv1 hv2 hv3
  have hlm : (Cir.toCz (mapC (Cir.rMap d i) d)).next.length = (d.next.map (Cir.rMap d i)).length ∧ (Cir.toCz (mapC (Cir.rMap d i) d)).gates.length = (d.gates.map (fun g => (Cir.rMap d i g.1, Cir.rMap d i g.2))).length ∧ (Cir.toCz (mapC (Cir.rMap d i) d)).outs.length = (d.outs.map (Cir.rMap d i)).length := ⟨by simp [Cir.toCz, mapC], by simp [Cir.toCz, mapC], by simp [Cir.toCz, mapC]⟩
  have hIe : (Cir.toCz (mapC (Cir.rMap d i) d)).ins = (d.ins : Int) := rfl
  rw [hlm.1] at o1 oa ⊢
  rw [hlm.2.1] at o2 ⊢
  rw [hlm.2.2] at o3 oa ⊢
  rw [hIe]
  have o1 : w9.ownsRow W8.heap.size 3 1 (.slice A1 (d.next.map (Cir.rMap d i)).length c1') (d.next.map (Cir.rMap d i)).length (nints (d.next.map (Cir.rMap d i))) := o1
  have o2 : w9.ownsRow W8.heap.size 72 2 (.slice A2 (d.gates.map (fun g => (Cir.rMap d i g.1, Cir.rMap d i g.2))).length c2') (d.gates.map (fun g => (Cir.rMap d i g.1, Cir.rMap d i g.2))).length (cubes (gz (d.gates.map (fun g => (Cir.rMap d i g.1, Cir.rMap d i g.2))))) := by
    have h := o2
    unfold Cir.toCz mapC at h
    exact h
  have o3 : w9.ownsRow W8.heap.size 3 1 (.slice A3 (d.outs.map (Cir.rMap d i)).length c3') (d.outs.map (Cir.rMap d i)).length (nints (d.outs.map (Cir.rMap d i))) := o3
  have HRN : Hid (d.next.map (Cir.rMap d i) ++ [2 * (F + d.gates.length + 1) + bent] = (Cir.retC d i).next) := Lib.hid (by unfold Cir.retC; rw [HFe.out.1, HX.out.2.1])
  have HRO : Hid (d.outs.map (Cir.rMap d i) = (Cir.retC d i).outs) := Lib.hid rfl
  have HRG := Lib.hid (Cir.retC_gate HD.out Hcr.out HX.out.1)
  have hlA : Cir.isLat d x1 = true := by have := Hcr.out.a; rwa [Cir.getD_at _ HX.out.1] at this
  have hlB : Cir.isLat d x2 = true := by have := Hcr.out.b; rwa [Cir.getD_at _ HX.out.1] at this
  obtain ⟨a1, a2, a3⟩ := Cir.isLat_get hlA
  obtain ⟨b1, b2, b3⟩ := Cir.isLat_get hlB
  have hn1 : d.next.getD (x1 / 2 - d.ins - 1) 0 ^^^ (x1 % 2) < 2 * Cir.nvars d := Cir.xor_lt (by omega) (Cir.next_lt HD.out i a3).2
  have hn2 : d.next.getD (x2 / 2 - d.ins - 1) 0 ^^^ (x2 % 2) < 2 * Cir.nvars d := Cir.xor_lt (by omega) (Cir.next_lt HD.out i b3).2
  have HN1 : Hid (∀ w', Below W8.heap.size W8 w' → Calls Try.prog 63 #[.int .i64 (x1 : Nat), .pointer (some ⟨gC, 0, none⟩)] w' fun e w'' => e = .returned (.int .i64 ((d.next.getD (x1 / 2 - d.ins - 1) 0 ^^^ (x1 % 2) : Nat) : Int)) ∧ Below w'.heap.size w' w'') := Lib.hid fun w' hb => HNx.out w' x1 hb hlA
  have HN2 : Hid (∀ w', Below W8.heap.size W8 w' → Calls Try.prog 63 #[.int .i64 (x2 : Nat), .pointer (some ⟨gC, 0, none⟩)] w' fun e w'' => e = .returned (.int .i64 ((d.next.getD (x2 / 2 - d.ins - 1) 0 ^^^ (x2 % 2) : Nat) : Int)) ∧ Below w'.heap.size w' w'') := Lib.hid fun w' hb => HNx.out w' x2 hb hlB
  clear a1 a2 a3 b1 b2 b3 hlA hlB HNx HRep hlm hIe
  generalize d.next.getD (x1 / 2 - d.ins - 1) 0 ^^^ (x1 % 2) = n1 at *
  generalize d.next.getD (x2 / 2 - d.ins - 1) 0 ^^^ (x2 % 2) = n2 at *
  have HU1 : Hid (∀ w', Below W8.heap.size W8 w' → Calls Try.prog 62 #[.int .i64 (n1 : Nat), .pointer (some ⟨g5, 0, none⟩), .pointer (some ⟨g3, 0, none⟩), .pointer (some ⟨g7, 0, none⟩)] w' fun e w'' => e = .returned (.int .i64 (Cir.rMap d i n1 : Nat)) ∧ Below w'.heap.size w' w'') := Lib.hid fun w' hb => HUse.out w' n1 hb hn1
  have HU2 : Hid (∀ w', Below W8.heap.size W8 w' → Calls Try.prog 62 #[.int .i64 (n2 : Nat), .pointer (some ⟨g5, 0, none⟩), .pointer (some ⟨g3, 0, none⟩), .pointer (some ⟨g7, 0, none⟩)] w' fun e w'' => e = .returned (.int .i64 (Cir.rMap d i n2 : Nat)) ∧ Below w'.heap.size w' w'') := Lib.hid fun w' hb => HUse.out w' n2 hb hn2
  generalize Cir.rMap d i n1 = e1 at *
  generalize Cir.rMap d i n2 = e2 at *
  have hNl : (d.next.map (Cir.rMap d i)).length ≤ 3 := by rw [List.length_map]; omega
  have hGl : (d.gates.map (fun g => (Cir.rMap d i g.1, Cir.rMap d i g.2))).length ≤ 14 := by rw [List.length_map]; omega
  generalize d.next.map (Cir.rMap d i) = N at *
  generalize d.gates.map (fun g => (Cir.rMap d i g.1, Cir.rMap d i g.2)) = G at *
  generalize d.outs.map (Cir.rMap d i) = O at *
  have hz8 : g7 < W8.heap.size := blk_ltB HK7.out
  have hgRz : gR < W8.heap.size := blk_ltB H8.out.r
  have hgCz : gC < W8.heap.size := H8.out.p.choose_spec.choose_spec.choose_spec.1
  obtain ⟨B, hB⟩ : ∃ B, W8.heap.size = B := ⟨_, rfl⟩
  have hwB : w.heap.size ≤ B := by rw [← hB]; exact H8.out.b.size
  have hb10 := bel_new w9 (.cells #[.int .i64 (d.ins : Int), .slice A1 N.length c1', .slice A2 G.length c2', .slice A3 O.length c3'] 26)
  have hX := heap_alloc_new w9 (.cells #[.int .i64 (d.ins : Int), .slice A1 N.length c1', .slice A2 G.length c2', .slice A3 O.length c3'] 26)
  have hb810 := hb9.trans (hb10.mono hb9.size)
  have H10 := H8.out.step hb810
  have hz9 := hb9.size
  have HB8 := Lib.hid hb810
  go_wp2_with fail
  obtain ⟨g10, hg10⟩ : ∃ g, w9.heap.size = g := ⟨_, rfl⟩
  obtain ⟨W10, hW10⟩ : ∃ W, w9.alloc (.cells #[.int .i64 (d.ins : Int), .slice A1 N.length c1', .slice A2 G.length c2', .slice A3 O.length c3'] 26) = W := ⟨_, rfl⟩
  have oa' := oa
  rw [hW10] at hb10 hX H10 HB8 ⊢
  rw [hg10] at hX ⊢
  rw [hB] at o1 o2 o3
  have hBx : Bx w B gC gR g10 (d.ins : Int) (.slice An d.next.length cn) (.slice (some ⟨bq, o, none⟩) d.gates.length cg) (.slice Ao d.outs.length co) (.slice none 0 0) (.slice A1 N.length c1') (.slice A2 G.length c2') (.slice A3 O.length c3') [] N O G W10 :=
    ⟨H10.c, H10.r, hX, World.ownsRow_nil _ _ _ _, own_below o1 hb10, own_below o2 hb10, own_below o3 hb10, fun g h => by simp [Value.ownBlock] at h, fun g h => by simp [Value.ownBlock] at h, oa, by omega, by omega, by omega, by omega, by omega, hwB, by have := hb10.size; omega, H10.b⟩
  have HBx := Lib.hid hBx
  have HK6' := Lib.hid ((HB8.out.block g6 (by omega)).trans HK6.out)
  have hBel : Hid (∀ w', Only (fun g => (Value.slice A2 G.length c2').ownBlock = some g) W10 w' → Below W8.heap.size W8 w') := Lib.hid fun w' ho => Only.below HB8.out ho HB8.out.size (fun q hq => by have := (HBx.out.g.lt q hq).1; omega)
  have hz10 : B ≤ W10.heap.size := HBx.out.zB
  have hg6n : (Value.slice A2 G.length c2').ownBlock ≠ some g6 := fun e => by have := (HBx.out.g.lt g6 e).1; omega
  have hg6z : g6 < W10.heap.size := by omega
  clear hW10 hb10 hX H10 hb9 hb810 o1 o2 o3 oa oa' hBx
  obtain ⟨i0, hi0, hz0, hz1, hz2⟩ := info_parts info_gate
  have hO := fun ops a => appRS2_ok (Pg := Try.prog) (ops := ops) (a := a) (news := [.int .i64 (e1 : Int), .int .i64 (e2 : Int)]) (d := 16) (HBx.out.g)
  refine wp_region_rsl (appRS2 Try.prog _ W10 _ (B) 72 2 (Value.slice A2 G.length c2') (G.length) (cubes (gz G)) [.int .i64 (e1 : Int), .int .i64 (e2 : Int)] 16) (hO _ _) (by kernel_rfl) (by kernel_rfl) (by kernel_rfl) 18 _ rfl rfl (by kernel_rfl) (show (16 : Nat) < 18 by decide) trivial HBx.out.g ?_
  apply rs_eq (hO _ _) (.inl (Nat.ne_of_beq_eq_false rfl))
  · intro ρ w' ho hK
    have ho : Only _ W10 w' := ho
    obtain ⟨h0, -⟩ := hK
    have h0' : ρ (.tmp 10) = _ := h0
    go_simp
    try exact rfl
  apply rs_eq (hO _ _) (.inl (Nat.ne_of_beq_eq_false rfl))
  · intro ρ w' ho hK
    have ho : Only _ W10 w' := ho
    obtain ⟨h0, -⟩ := hK
    have h0' : ρ (.tmp 32) = _ := h0
    obtain ⟨hP, -, hXq, -⟩ := HBx.out.rowG ho
    have k2 := blk_cell hXq 2
    have k6 := (ho.block g6 hg6z (fun e => hg6n e)).trans HK6'.out
    have c1 := blk_cell k6 0
    have c2 := blk_cell k6 1
    simp at k2 c1 c2
    go_simp
    try exact rfl
  refine rs_old (hO _ _) (.inl (Nat.ne_of_beq_eq_false rfl)) _ (.inl rfl) _ rfl rfl ?_
  refine rs_old (hO _ _) (.inl (Nat.ne_of_beq_eq_false rfl)) _ (.inl rfl) _ rfl rfl ?_
  apply rs_eq (hO _ _) (.inl (Nat.ne_of_beq_eq_false rfl))
  · intro ρ w' ho hK
    have ho : Only _ W10 w' := ho
    obtain ⟨h0, -⟩ := hK
    have h0' : ρ (.tmp 6) = _ := h0
    go_simp
    try exact rfl
  apply rs_eq (hO _ _) (.inl (Nat.ne_of_beq_eq_false rfl))
  · intro ρ w' ho hK
    have ho : Only _ W10 w' := ho
    obtain ⟨h0, -⟩ := hK
    have h0' : ρ (.tmp 36) = _ := h0
    obtain ⟨hP, -, hXq, -⟩ := HBx.out.rowG ho
    have k2 := blk_cell hXq 2
    have k6 := (ho.block g6 hg6z (fun e => hg6n e)).trans HK6'.out
    have c1 := blk_cell k6 0
    have c2 := blk_cell k6 1
    simp at k2 c1 c2
    go_simp
    try exact rfl
  refine rs_callV (hO _ _) (.inl (Nat.ne_of_beq_eq_false rfl)) (TEq (.int .i64 ((n1 : Nat) : Int))) (stb_eq _ _) (.tmp 35) _ _ rfl (fun ρ w' ho hK => by
    have ho : Only _ W10 w' := ho
    obtain ⟨h0, h1, -⟩ := hK
    have h0' : ρ (.tmp 35) = _ := h0
    have h1' : ρ (.tmp 37) = _ := h1
    refine ⟨63, #[ρ (.tmp 37)] ++ #[.pointer (some ⟨gC, 0, none⟩)], ?_, ?_⟩
    · go_simp
    · rw [h1']
      refine (HN1.out w' (hBel.out w' ho)).mono ?_
      rintro e w2 ⟨rfl, hb⟩
      exact ⟨_, rfl, rfl, hb⟩) ?_
  refine rs_callV (hO _ _) (.inl (Nat.ne_of_beq_eq_false rfl)) (TEq (.int .i64 ((e1 : Nat) : Int))) (stb_eq _ _) (.tmp 34) _ _ rfl (fun ρ w' ho hK => by
    have ho : Only _ W10 w' := ho
    obtain ⟨h0, h1, -⟩ := hK
    have h0' : ρ (.tmp 34) = _ := h0
    have h1' : ρ (.tmp 38) = _ := h1
    refine ⟨62, #[ρ (.tmp 38)] ++ #[.pointer (some ⟨g5, 0, none⟩), .pointer (some ⟨g3, 0, none⟩), .pointer (some ⟨g7, 0, none⟩)], ?_, ?_⟩
    · go_simp
    · rw [h1']
      refine (HU1.out w' (hBel.out w' ho)).mono ?_
      rintro e w2 ⟨rfl, hb⟩
      exact ⟨_, rfl, rfl, hb⟩) ?_
  refine rs_old (hO _ _) (.inl (Nat.ne_of_beq_eq_false rfl)) _ (.inl rfl) _ rfl rfl ?_
  refine rs_old (hO _ _) (.inl (Nat.ne_of_beq_eq_false rfl)) _ (.inl rfl) _ rfl rfl ?_
  apply rs_eq (hO _ _) (.inl (Nat.ne_of_beq_eq_false rfl))
  · intro ρ w' ho hK
    have ho : Only _ W10 w' := ho
    obtain ⟨h0, -⟩ := hK
    have h0' : ρ (.tmp 6) = _ := h0
    go_simp
    try exact rfl
  apply rs_eq (hO _ _) (.inl (Nat.ne_of_beq_eq_false rfl))
  · intro ρ w' ho hK
    have ho : Only _ W10 w' := ho
    obtain ⟨h0, -⟩ := hK
    have h0' : ρ (.tmp 42) = _ := h0
    obtain ⟨hP, -, hXq, -⟩ := HBx.out.rowG ho
    have k2 := blk_cell hXq 2
    have k6 := (ho.block g6 hg6z (fun e => hg6n e)).trans HK6'.out
    have c1 := blk_cell k6 0
    have c2 := blk_cell k6 1
    simp at k2 c1 c2
    go_simp
    try exact rfl
  refine rs_callV (hO _ _) (.inl (Nat.ne_of_beq_eq_false rfl)) (TEq (.int .i64 ((n2 : Nat) : Int))) (stb_eq _ _) (.tmp 41) _ _ rfl (fun ρ w' ho hK => by
    have ho : Only _ W10 w' := ho
    obtain ⟨h0, h1, -⟩ := hK
    have h0' : ρ (.tmp 41) = _ := h0
    have h1' : ρ (.tmp 43) = _ := h1
    refine ⟨63, #[ρ (.tmp 43)] ++ #[.pointer (some ⟨gC, 0, none⟩)], ?_, ?_⟩
    · go_simp
    · rw [h1']
      refine (HN2.out w' (hBel.out w' ho)).mono ?_
      rintro e w2 ⟨rfl, hb⟩
      exact ⟨_, rfl, rfl, hb⟩) ?_
  refine rs_callV (hO _ _) (.inl (Nat.ne_of_beq_eq_false rfl)) (TEq (.int .i64 ((e2 : Nat) : Int))) (stb_eq _ _) (.tmp 40) _ _ rfl (fun ρ w' ho hK => by
    have ho : Only _ W10 w' := ho
    obtain ⟨h0, h1, -⟩ := hK
    have h0' : ρ (.tmp 40) = _ := h0
    have h1' : ρ (.tmp 44) = _ := h1
    refine ⟨62, #[ρ (.tmp 44)] ++ #[.pointer (some ⟨g5, 0, none⟩), .pointer (some ⟨g3, 0, none⟩), .pointer (some ⟨g7, 0, none⟩)], ?_, ?_⟩
    · go_simp
    · rw [h1']
      refine (HU2.out w' (hBel.out w' ho)).mono ?_
      rintro e w2 ⟨rfl, hb⟩
      exact ⟨_, rfl, rfl, hb⟩) ?_
  apply rs_eq (hO _ _) (.inl (Nat.ne_of_beq_eq_false rfl))
  · intro ρ w' ho hK
    have ho : Only _ W10 w' := ho
    obtain ⟨h0, h1, -⟩ := hK
    have h0' : ρ (.tmp 39) = _ := h0
    have h1' : ρ (.tmp 45) = _ := h1
    go_simp
    try exact rfl
  refine rs_build1 (hO _ _) (.inl (Nat.ne_of_beq_eq_false rfl)) 2 [.int .i64 (e1 : Int), .int .i64 (e2 : Int)] 72 rfl (fun ρ w' ho hK => by
    have ho : Only _ W10 w' := ho
    obtain ⟨h0, -⟩ := hK
    have h0' : ρ (.tmp 46) = _ := h0
    go_simp) ?_
  refine rs_append2 rfl (B) 72 24 2 (Value.slice A2 G.length c2') (G.length) (cubes (gz G)) _ rfl rfl (fun g hg => hg) (show B ≤ W10.heap.size by omega) _ _ rfl _ _ rfl rfl rfl rfl i0 _ 16 Try.underlying24 hi0 hz0 hz1 hz2 rfl (by decide) (by omega) (by decide) (by simp [Value.oneCell']) ?_
  apply rs_eq (hO _ _) (.inl (Nat.ne_of_beq_eq_false rfl))
  · intro ρ w' ho hK
    have ho : Only _ W10 w' := ho
    obtain ⟨h0, -⟩ := hK
    have h0' : ρ (.tmp 10) = _ := h0
    go_simp
    try exact rfl
  intro f w9 k9 hk9 hI9 ht9 hcp9
  have E0 : f 0 = _ := ht9 0 (Nat.le_of_ble_eq_true rfl)
  have E1 : f 1 = _ := ht9 1 (Nat.le_of_ble_eq_true rfl)
  have E2 : f 2 = _ := ht9 2 (Nat.le_of_ble_eq_true rfl)
  conv at E2 => rhs; whnf
  have E3 : f 3 = _ := ht9 3 (Nat.le_of_ble_eq_true rfl)
  conv at E3 => rhs; whnf
  have E4 : f 4 = _ := ht9 4 (Nat.le_of_ble_eq_true rfl)
  have E5 : f 5 = _ := ht9 5 (Nat.le_of_ble_eq_true rfl)
  have E6 : f 6 = _ := ht9 6 (Nat.le_of_ble_eq_true rfl)
  have E7 : f 7 = _ := ht9 7 (Nat.le_of_ble_eq_true rfl)
  have E8 : f 8 = _ := ht9 8 (Nat.le_of_ble_eq_true rfl)
  conv at E8 => rhs; whnf
  have E9 : f 9 = _ := ht9 9 (Nat.le_of_ble_eq_true rfl)
  conv at E9 => rhs; whnf
  have E10 : f 10 = _ := ht9 10 (Nat.le_of_ble_eq_true rfl)
  have E11 : f 11 = _ := ht9 11 (Nat.le_of_ble_eq_true rfl)
  have E12 : f 12 = _ := ht9 12 (Nat.le_of_ble_eq_true rfl)
  have E13 : f 13 = _ := ht9 13 (Nat.le_of_ble_eq_true rfl)
  have E14 : f 14 = _ := ht9 14 (Nat.le_of_ble_eq_true rfl)
  have E15 : (TNew _ 2 1 [.int .i64 (e1 : Int), .int .i64 (e2 : Int)]) w9 (f 15) := ht9 15 (Nat.le_of_ble_eq_true rfl)
  have E16 : (TAny) w9 (f 16) := ht9 16 (Nat.le_of_ble_eq_true rfl)
  have E17 : f 17 = _ := ht9 17 (Nat.le_of_ble_eq_true rfl)
  have Ho9 : Only _ W10 w9 := hI9.2.1
  have hown9 : w9.ownsRow (B) 72 2 (f 16) (G.length + 1) (cubes (gz G) ++ [.int .i64 (e1 : Int), .int .i64 (e2 : Int)]) := hI9.2.2.1
  have hat9 : ∀ g, (f 16).ownBlock = some g → (Value.slice A2 G.length c2').ownBlock = some g ∨ W10.heap.size ≤ g := hI9.2.2.2
  simp only [putAll, E0, E1, E2, E3, E4, E5, E6, E7, E8, E9, E10, E11, E12, E13, E14, E17, Nat.zero_add, Nat.reduceAdd, Act.put, List.setIfInBounds_toArray, List.set_cons_succ, List.set_cons_zero, List.take, List.getElem_toArray, List.getElem_cons_succ, List.getElem_cons_zero]
  clear E0 E1 E2 E3 E4 E5 E6 E7 E8 E9 E10 E11 E12 E13 E14 E17
  clear hI9 ht9 hcp9 hk9
  generalize f 15 = r15 at *
  generalize f 16 = r16 at *
  have O9 : Only (fun g => (Value.slice A2 G.length c2').ownBlock = some g) W10 w9 := Ho9
  obtain ⟨A9, c9, hv9⟩ := slice_of_own hown9
  subst hv9
  have hX9 := (HBx.out.rowG O9).2.2.1
  have hB9 := HBx.out.appG (x := e1) (y := e2) hown9 O9
  have q1 := blk_cell hX9 2
  have f1 := blk_free hX9 2
  simp at q1
  have hbb9 := Lib.hid (hBel.out w9 O9)
  obtain ⟨wS, hwS⟩ : ∃ wS, w9.setCell ⟨g10, 2, none⟩ (.slice A9 (G.length + 1) c9) = wS := ⟨_, rfl⟩
  rw [hwS] at hB9
  rw [← HRG.out] at hB9
  have hg10B : B ≤ g10 := by rw [← hg10]; omega
  have hk5 : wS.heap[g5]? = some (.cells #[.int .i64 (F : Int)] 3 (0, 0)) := by rw [← hwS]; exact (heap_setCell_other' _ _ _ _ _ (by omega)).trans ((hbb9.out.block g5 (by omega)).trans HK5.out)
  have hk7 : wS.heap[g7]? = some (.cells #[.int .i64 (bent : Int)] 3 (0, 0)) := by rw [← hwS]; exact (heap_setCell_other' _ _ _ _ _ (by omega)).trans ((hbb9.out.block g7 (by omega)).trans HK7.out)
  have p5 := blk_cell hk5 0
  have p7 := blk_cell hk7 0
  have t1 := blk_cell hB9.hx 1
  simp at p5 p7 t1
  obtain ⟨zz, p0, p1, p2, p3⟩ := hB9.hC
  have HB9 := Lib.hid hB9
  have hzS : B ≤ wS.heap.size := hB9.zB
  have HVe : Hid (2 * ((F : Int) + 1 + (d.gates.length : Int)) + (bent : Int) = ((2 * (F + d.gates.length + 1) + bent : Nat) : Int)) := Lib.hid (by omega)
  have hVb : 2 * (F + d.gates.length + 1) + bent ≤ 1000 := by omega
  have hwA : IntKind.i64.wrap ((F : Int) + 1) = (F : Int) + 1 := IntWalk.i64_in _ (by omega)
  have hwB2 : IntKind.i64.wrap ((F : Int) + 1 + (d.gates.length : Int)) = (F : Int) + 1 + (d.gates.length : Int) := IntWalk.i64_in _ (by omega)
  have hwC2 : IntKind.i64.wrap (2 * ((F : Int) + 1 + (d.gates.length : Int))) = 2 * ((F : Int) + 1 + (d.gates.length : Int)) := IntWalk.i64_in _ (by omega)
  have hwD : IntKind.i64.wrap (2 * ((F : Int) + 1 + (d.gates.length : Int)) + (bent : Int)) = 2 * ((F : Int) + 1 + (d.gates.length : Int)) + (bent : Int) := IntWalk.i64_in _ (by omega)
  have hza : (wS.alloc (.cells #[.int .i64 (2 * ((F : Int) + 1 + (d.gates.length : Int)) + (bent : Int))] 3)).heap.size = wS.heap.size + 1 := by simp
  have Hlit := Lib.hid (Row.of_own (World.ownsRow_lit (base := wS.heap.size) (e := 3) (size := 1) wS #[.int .i64 (2 * ((F : Int) + 1 + (d.gates.length : Int)) + (bent : Int))] 1 (Nat.le_refl _) (by unfold maxLen; omega) rfl))
  have hszS : wS.heap.size = w9.heap.size := by rw [← hwS]; simp
  rw [hszS] at Hlit
  have HBl := Lib.hid (hB9.step (bel_new wS (.cells #[.int .i64 (2 * ((F : Int) + 1 + (d.gates.length : Int)) + (bent : Int))] 3)))
  clear hB9 hk5 hk7 hbb9 O9 Ho9 hX9 hown9 hat9 hO HBx HK6' HK5 HK6 HK7 hBel HN1 HN2 HU1 HU2 HUse hg10
  subst hwS
  go_wp2_with (at_builtin; refine Stop.out ?_)
  refine ⟨?_⟩
  refine append_ints rfl (.tmp 51) (.tmp 61) rfl B _ N.length _ rfl HBl.out.n _ 1 [.int .i64 (2 * ((F : Int) + 1 + (d.gates.length : Int)) + (bent : Int))] rfl Hlit.out (by simp [Value.oneCell']) (by omega) (by omega) ?_
  intro v5 w5' hown5 hg5' hat5
  obtain ⟨A5, c5, hv5⟩ := slice_of_own hown5
  subst hv5
  have ho5 := Only.grown (E := fun g => (Value.slice A1 N.length c1').ownBlock = some g) hg5' (fun k hk => hk)
  have hat5' : ∀ g, (Value.slice A5 (N.length + 1) c5).ownBlock = some g → (Value.slice A1 N.length c1').ownBlock = some g ∨ (World.alloc (w9.setCell ⟨g10, 2, none⟩ (.slice A9 (G.length + 1) c9)) (.cells #[.int .i64 (2 * ((F : Int) + 1 + (d.gates.length : Int)) + (bent : Int))] 3)).heap.size ≤ g := fun g hg => by
    rcases hat5 with e | e
    · exact .inl (e.symm.trans hg)
    · exact .inr (Nat.le_of_eq (Option.some.inj (e.symm.trans hg)))
  rw [HVe.out] at hown5
  have hB5 := HBl.out.appN (x := 2 * (F + d.gates.length + 1) + bent) hown5 ho5 hat5'
  have hX5 := (HBl.out.rowN ho5).2.2.1
  have r2 := blk_cell hX5 1
  have f2 := blk_free hX5 1
  simp at r2
  rw [HRN.out, HRO.out] at hB5
  have HB5 := Lib.hid hB5
  have y0 := blk_cell hB5.hx 0
  have y1 := blk_cell hB5.hx 1
  have y2 := blk_cell hB5.hx 2
  have y3 := blk_cell hB5.hx 3
  simp at y0 y1 y2 y3
  have r10 := blk_cell hB5.hR 0
  have r11 := blk_cell hB5.hR 1
  have r12 := blk_cell hB5.hR 2
  have r13 := blk_cell hB5.hR 3
  simp at r10 r11 r12 r13
  have f10 := blk_free hB5.hR 0
  have f11 := blk_free hB5.hR 1
  have f12 := blk_free hB5.hR 2
  have f13 := blk_free hB5.hR 3
  have HL := Lib.hid (And.intro (congrArg List.length HRN.out) (And.intro (congrArg List.length HRO.out) (show G.length + 1 = (Cir.retC d i).gates.length by have := congrArg List.length HRG.out; simpa using this.symm)))
  have HCf : Hid (CircOwn 0 (w5'.setCell ⟨g10, 1, none⟩ (.slice A5 (N.length + 1) c5)) (.agg #[.int .i64 (d.ins : Int), .slice A5 (N.length + 1) c5, .slice A9 (G.length + 1) c9, .slice A3 (Cir.retC d i).outs.length c3']) (Cir.toCz (Cir.retC d i))) := Lib.hid ⟨_, _, _, rfl, by rw [show (Cir.toCz (Cir.retC d i)).next = nats (Cir.retC d i).next from rfl, nats_length]; exact own_mono HB5.out.n (Nat.zero_le _), by rw [show (Cir.toCz (Cir.retC d i)).gates = gz (Cir.retC d i).gates from rfl, gz_length]; exact own_mono HB5.out.g (Nat.zero_le _), by rw [show (Cir.toCz (Cir.retC d i)).outs = nats (Cir.retC d i).outs from rfl, nats_length]; exact own_mono HB5.out.o (Nat.zero_le _)⟩
  have HRf := Lib.hid hB5.hR
  have HBf := Lib.hid hB5.below
  clear hB5 hX5 ho5 hown5 hg5' hat5 hat5' HBl Hlit HB9 HL
  go_wp2_with fail
  have hwR : w.heap.size ≤ gR := by omega
  refine bodyPost_ret (v := .agg #[.int .i64 (d.ins : Int), .slice A5 (N.length + 1) c5, .slice A9 (G.length + 1) c9, .slice A3 (Cir.retC d i).outs.length c3']) (by simp [results, Try.results20, go_sem, r10, r11, r12, r13]) rfl ⟨⟨_, rfl, circOwn_four HCf.out HRf.out⟩, ?_⟩
  exact (((HBf.out.setCell hwR _).setCell hwR _).setCell hwR _).setCell hwR _
end Go.Proofs.Ytdgminjbgjbamaa
namespace Go.Proofs.Ytdgminjbgjbamaa
open Go.RowKit Go.Maps
theorem zero_own (w : World) : CircOwn 0 w (.agg #[.int .i64 0, .slice none 0 0, .slice none 0 0, .slice none 0 0]) ⟨0, [], [], []⟩ :=
  ⟨_, _, _, rfl, World.ownsRow_nil _ _ _ _, World.ownsRow_nil _ _ _ _, World.ownsRow_nil _ _ _ _⟩
theorem implRetime_no (v : Value) (c : Cz) (i : Int) (w : World) (h : CircAt w v c) (hi : -1000000 ≤ i ∧ i ≤ 1000000) (hcan : Cir.canI c i = false) :
    Calls Try.prog 20 #[v, .int .i64 i] w (fun e w' => (∃ v', e = .returned v' ∧ CircOwn 0 w' v' ⟨0, [], [], []⟩) ∧ Below w.heap.size w w') := by
  obtain ⟨An, cn, Ag, cg, Ao, co, rfl⟩ := h.shape
  have HC := Lib.hid h
  have hb0 := bel_new w (.cells #[.int .i64 c.ins, .slice An c.next.length cn, .slice Ag c.gates.length cg, .slice Ao c.outs.length co] 26)
  have P0 := PCells.boxed w c.ins (.slice An c.next.length cn) (.slice Ag c.gates.length cg) (.slice Ao c.outs.length co) 26
  obtain ⟨gC, hgC⟩ : ∃ g, w.heap.size = g := ⟨_, rfl⟩
  have hs0 : (w.alloc (.cells #[.int .i64 c.ins, .slice An c.next.length cn, .slice Ag c.gates.length cg, .slice Ao c.outs.length co] 26)).heap.size = gC + 1 := by rw [World.size_alloc, hgC]
  obtain ⟨W1, hW1⟩ : ∃ W1, w.alloc (.cells #[.int .i64 c.ins, .slice An c.next.length cn, .slice Ag c.gates.length cg, .slice Ao c.outs.length co] 26) = W1 := ⟨_, rfl⟩
  rw [hW1] at hb0 P0 hs0
  rw [hgC] at P0
  have hb1 := bel_new W1 (.cells #[.int .i64 i] 3)
  have hk1 := heap_alloc_new W1 (.cells #[.int .i64 i] 3)
  obtain ⟨g3, hg3⟩ : ∃ g, gC + 1 = g := ⟨_, rfl⟩
  rw [hg3] at hs0
  rw [hs0] at hk1
  have hs1 : (W1.alloc (.cells #[.int .i64 i] 3)).heap.size = g3 + 1 := by rw [World.size_alloc, hs0]
  obtain ⟨W2, hW2⟩ : ∃ W2, W1.alloc (.cells #[.int .i64 i] 3) = W2 := ⟨_, rfl⟩
  rw [hW2] at hb1 hk1 hs1
  have hb2 := bel_new W2 (.cells #[.int .i64 0, .slice none 0 0, .slice none 0 0, .slice none 0 0] 26)
  have hR2 := heap_alloc_new W2 (.cells #[.int .i64 0, .slice none 0 0, .slice none 0 0, .slice none 0 0] 26)
  obtain ⟨gR, hgR⟩ : ∃ g, g3 + 1 = g := ⟨_, rfl⟩
  rw [hgR] at hs1
  rw [hs1] at hR2
  obtain ⟨W3, hW3⟩ : ∃ W3, W2.alloc (.cells #[.int .i64 0, .slice none 0 0, .slice none 0 0, .slice none 0 0] 26) = W3 := ⟨_, rfl⟩
  rw [hW3] at hb2 hR2
  have hb13 : Below W1.heap.size W1 W3 := hb1.trans (hb2.mono hb1.size)
  have p4 := blk_cell ((hb2.block g3 (by omega)).trans hk1) 0
  simp at p4
  have HB3 := Lib.hid (hb0.trans (hb13.mono hb0.size))
  have HR3 := Lib.hid hR2
  have HCan := Lib.hid (implCan_any _ c i W3 (HC.out.below HB3.out) hi)
  rw [hcan] at HCan
  have HW := Lib.hid (And.intro hW1 (And.intro hW2 hW3))
  have Hg := Lib.hid (And.intro hgC (And.intro hg3 hgR))
  have hwR : w.heap.size ≤ gR := by omega
  obtain ⟨zz, p0, p1, p2, p3⟩ := P0.below hb13
  clear h hb0 hb1 hb2 hb13 hR2 hs0 hs1 hW1 hW2 hW3 hgC hg3 hgR P0 hcan hi hk1
  go_enter Try.func20, Try.ntmps20
  go_wp2_with fail
  rw [Hg.out.1, HW.out.1, HW.out.2.1, HW.out.2.2]
  try rw [Hg.out.2.1]
  try rw [Hg.out.2.2]
  refine HCan.out.mono ?_
  rintro e w4 ⟨rfl, hb4⟩
  have HR4 := Lib.hid ((hb4.block gR (blk_ltB HR3.out)).trans HR3.out)
  have HB4 := Lib.hid (HB3.out.trans (hb4.mono HB3.out.size))
  have r0 := blk_cell HR4.out 0
  have r1 := blk_cell HR4.out 1
  have r2 := blk_cell HR4.out 2
  have r3 := blk_cell HR4.out 3
  have f0 := blk_free HR4.out 0
  have f1 := blk_free HR4.out 1
  have f2 := blk_free HR4.out 2
  have f3 := blk_free HR4.out 3
  simp at r0 r1 r2 r3
  clear hb4 HR3 HB3 HCan
  go_wp2_with fail
  refine bodyPost_ret (v := .agg #[.int .i64 0, .slice none 0 0, .slice none 0 0, .slice none 0 0]) (by simp [results, Try.results20, go_sem, r0, r1, r2, r3]) rfl ⟨⟨_, rfl, zero_own _⟩, ?_⟩
  exact (((HB4.out.setCell hwR _).setCell hwR _).setCell hwR _).setCell hwR _
theorem specRetime_no (v : Value) (c : Cz) (i : Int) (w : World) (h : CircAt w v c) (hi : -1000000 ≤ i ∧ i ≤ 1000000) (hcan : Cir.canI c i = false) :
    Calls Try.prog 22 #[v, .int .i64 i] w (fun e w' => (∃ v', e = .returned v' ∧ CircOwn 0 w' v' ⟨0, [], [], []⟩) ∧ Below w.heap.size w w') := by
  obtain ⟨An, cn, Ag, cg, Ao, co, rfl⟩ := h.shape
  have HC := Lib.hid h
  have hb0 := bel_new w (.cells #[.int .i64 c.ins, .slice An c.next.length cn, .slice Ag c.gates.length cg, .slice Ao c.outs.length co] 26)
  have P0 := PCells.boxed w c.ins (.slice An c.next.length cn) (.slice Ag c.gates.length cg) (.slice Ao c.outs.length co) 26
  obtain ⟨gC, hgC⟩ : ∃ g, w.heap.size = g := ⟨_, rfl⟩
  have hs0 : (w.alloc (.cells #[.int .i64 c.ins, .slice An c.next.length cn, .slice Ag c.gates.length cg, .slice Ao c.outs.length co] 26)).heap.size = gC + 1 := by rw [World.size_alloc, hgC]
  obtain ⟨W1, hW1⟩ : ∃ W1, w.alloc (.cells #[.int .i64 c.ins, .slice An c.next.length cn, .slice Ag c.gates.length cg, .slice Ao c.outs.length co] 26) = W1 := ⟨_, rfl⟩
  rw [hW1] at hb0 P0 hs0
  rw [hgC] at P0
  have hb1 := Below.refl W1.heap.size W1
  obtain ⟨g3, hg3⟩ : ∃ g, gC = g := ⟨_, rfl⟩
  rw [hg3] at hs0
  have hs1 : W1.heap.size = g3 + 1 := hs0
  obtain ⟨W2, hW2⟩ : ∃ W2, W1 = W2 := ⟨_, rfl⟩
  rw [hW2] at hs1
  have hb2 := bel_new W2 (.cells #[.int .i64 0, .slice none 0 0, .slice none 0 0, .slice none 0 0] 26)
  have hR2 := heap_alloc_new W2 (.cells #[.int .i64 0, .slice none 0 0, .slice none 0 0, .slice none 0 0] 26)
  obtain ⟨gR, hgR⟩ : ∃ g, g3 + 1 = g := ⟨_, rfl⟩
  rw [hgR] at hs1
  rw [hs1] at hR2
  obtain ⟨W3, hW3⟩ : ∃ W3, W2.alloc (.cells #[.int .i64 0, .slice none 0 0, .slice none 0 0, .slice none 0 0] 26) = W3 := ⟨_, rfl⟩
  rw [hW3] at hb2 hR2
  have hb13 : Below W1.heap.size W1 W3 := by rw [hW2]; exact hb2
  have HB3 := Lib.hid (hb0.trans (hb13.mono hb0.size))
  have HR3 := Lib.hid hR2
  have HCan := Lib.hid (specCan_any _ c i W3 (HC.out.below HB3.out) hi)
  rw [hcan] at HCan
  have HW := Lib.hid (And.intro hW1 (And.intro hW2 hW3))
  have Hg := Lib.hid (And.intro hgC (And.intro hg3 hgR))
  have hwR : w.heap.size ≤ gR := by omega
  obtain ⟨zz, p0, p1, p2, p3⟩ := P0.below hb13
  clear h hb0 hb1 hb2 hb13 hR2 hs0 hs1 hW1 hW2 hW3 hgC hg3 hgR P0 hcan hi
  go_enter Try.func22, Try.ntmps22
  go_wp2_with fail
  rw [Hg.out.1, HW.out.1, HW.out.2.1, HW.out.2.2]
  try rw [Hg.out.2.1]
  try rw [Hg.out.2.2]
  refine HCan.out.mono ?_
  rintro e w4 ⟨rfl, hb4⟩
  have HR4 := Lib.hid ((hb4.block gR (blk_ltB HR3.out)).trans HR3.out)
  have HB4 := Lib.hid (HB3.out.trans (hb4.mono HB3.out.size))
  have r0 := blk_cell HR4.out 0
  have r1 := blk_cell HR4.out 1
  have r2 := blk_cell HR4.out 2
  have r3 := blk_cell HR4.out 3
  have f0 := blk_free HR4.out 0
  have f1 := blk_free HR4.out 1
  have f2 := blk_free HR4.out 2
  have f3 := blk_free HR4.out 3
  simp at r0 r1 r2 r3
  clear hb4 HR3 HB3 HCan
  go_wp2_with fail
  refine bodyPost_ret (v := .agg #[.int .i64 0, .slice none 0 0, .slice none 0 0, .slice none 0 0]) (by simp [results, Try.results22, go_sem, r0, r1, r2, r3]) rfl ⟨⟨_, rfl, zero_own _⟩, ?_⟩
  exact (((HB4.out.setCell hwR _).setCell hwR _).setCell hwR _).setCell hwR _
theorem Cir.canI_nat {c : Cz} {i : Int} (h : Cir.canI c i = true) : c = Cir.toCz (Cir.nat c) ∧ Cir.Ok (Cir.nat c) ∧ Cir.valid c = true ∧ Cir.canR (Cir.nat c) i = true ∧ ∃ k : Nat, i = (k : Int) ∧ k < (Cir.nat c).gates.length := by
  unfold Cir.canI at h
  rw [Bool.and_eq_true] at h
  obtain ⟨d1, d2⟩ := Cir.nat_ok h.1
  refine ⟨d1, d2, h.1, h.2, ?_⟩
  have h2 := h.2
  unfold Cir.canR at h2
  simp only [Bool.and_eq_true, decide_eq_true_eq] at h2
  exact ⟨i.toNat, by omega, by omega⟩
theorem implRetime_any (v : Value) (c : Cz) (i : Int) (w : World) (h : CircAt w v c) (hi : -1000000 ≤ i ∧ i ≤ 1000000) :
    Calls Try.prog 20 #[v, .int .i64 i] w (fun e w' => (∃ v', e = .returned v' ∧ CircOwn 0 w' v' (Cir.retZ c i)) ∧ Below w.heap.size w w') := by
  cases hc : Cir.canI c i
  · rw [show Cir.retZ c i = ⟨0, [], [], []⟩ from by unfold Cir.retZ; rw [hc]; rfl]
    exact implRetime_no v c i w h hi hc
  · obtain ⟨d1, d2, d3, d4, k, rfl, hk⟩ := Cir.canI_nat hc
    rw [show Cir.retZ c (k : Int) = Cir.toCz (Cir.retC (Cir.nat c) k) from by unfold Cir.retZ; rw [hc]; rfl]
    exact implRetime_ok v (Cir.nat c) k w (by rw [← d1]; exact h) d2 (by rw [← d1]; exact d3) d4
theorem specRetime_any (v : Value) (c : Cz) (i : Int) (w : World) (h : CircAt w v c) (hi : -1000000 ≤ i ∧ i ≤ 1000000) :
    Calls Try.prog 22 #[v, .int .i64 i] w (fun e w' => (∃ v', e = .returned v' ∧ CircOwn 0 w' v' (Cir.retZ c i)) ∧ Below w.heap.size w w') := by
  cases hc : Cir.canI c i
  · rw [show Cir.retZ c i = ⟨0, [], [], []⟩ from by unfold Cir.retZ; rw [hc]; rfl]
    exact specRetime_no v c i w h hi hc
  · obtain ⟨d1, d2, d3, d4, k, rfl, hk⟩ := Cir.canI_nat hc
    rw [show Cir.retZ c (k : Int) = Cir.toCz (Cir.retC (Cir.nat c) k) from by unfold Cir.retZ; rw [hc]; rfl]
    exact specRetime_ok v (Cir.nat c) k w (by rw [← d1]; exact h) d2 (by rw [← d1]; exact d3) d4 hk
end Go.Proofs.Ytdgminjbgjbamaa
namespace Go.Proofs.Ytdgminjbgjbamaa
namespace Cir
def succs (d : Ci) (v : Nat) : List Nat :=
  if nfirst d ≤ v then [(d.gates.getD (v - nfirst d) (0, 0)).1 / 2, (d.gates.getD (v - nfirst d) (0, 0)).2 / 2]
  else if 1 + d.ins ≤ v then [d.next.getD (v - 1 - d.ins) 0 / 2] else []
structure Vis (d : Ci) (V V' : List Bool) : Prop where
  len : V'.length = V.length
  mono : ∀ u, V.getD u false = true → V'.getD u false = true
  new : ∀ u, V'.getD u false = true → V.getD u false = false → ∀ s ∈ succs d u, V'.getD s false = true
theorem Vis.refl (d : Ci) (V : List Bool) : Vis d V V := ⟨rfl, fun _ h => h, fun u h h' => by rw [h] at h'; cases h'⟩
theorem Vis.trans {d : Ci} {V V' V'' : List Bool} (h : Vis d V V') (h' : Vis d V' V'') : Vis d V V'' :=
  ⟨h'.len.trans h.len, fun u hu => h'.mono u (h.mono u hu), fun u hu hn s hs => by
    cases e : V'.getD u false
    · exact h'.new u hu e s hs
    · exact h'.mono s (h.new u e hn s hs)⟩
theorem Vis.step {d : Ci} {V V' : List Bool} {v : Nat} (h : Vis d (V.set v true) V') (hs : ∀ s ∈ succs d v, V'.getD s false = true) : Vis d V V' :=
  ⟨by rw [h.len, List.length_set], fun u hu => h.mono u (by rw [getD_set']; split <;> first | rfl | exact hu), fun u hu hn s hm => by
    by_cases e : u = v
    · subst e; exact hs s hm
    · exact h.new u hu (by rw [getD_set', if_neg (fun h => e h.1.symm)]; exact hn) s hm⟩
def unm (V : List Bool) : Nat := V.count false
theorem unm_set : ∀ {V : List Bool} {v : Nat}, v < V.length → V.getD v false = false → unm (V.set v true) < unm V
  | [], _, h, _ => by simp at h
  | b :: V, 0, _, h => by
    have hb : b = false := h
    subst hb
    simp [unm]
  | b :: V, v + 1, h, hv => by
    have := unm_set (V := V) (v := v) (by simpa using h) (by simpa using hv)
    unfold unm at *
    rw [List.set_cons_succ, List.count_cons, List.count_cons]
    omega
theorem unm_mono : ∀ {V V' : List Bool}, V'.length = V.length → (∀ u, V.getD u false = true → V'.getD u false = true) → unm V' ≤ unm V
  | [], [], _, _ => Nat.le_refl _
  | [], _ :: _, h, _ => by simp at h
  | _ :: _, [], h, _ => by simp at h
  | b :: V, b' :: V', h, hm => by
    have h1 := unm_mono (V := V) (V' := V') (by simpa using h) (fun u hu => by have := hm (u + 1) (by simpa using hu); simpa using this)
    have h2 : b = true → b' = true := hm 0
    unfold unm at *
    rw [List.count_cons, List.count_cons]
    cases b with
    | false =>
      have : (if (b' == false) = true then 1 else 0) ≤ 1 := by split <;> omega
      show _ ≤ List.count false V + 1
      omega
    | true =>
      rw [h2 rfl]
      exact h1
theorem Vis.unm {d : Ci} {V V' : List Bool} (h : Vis d V V') : unm V' ≤ unm V := unm_mono h.len h.mono
theorem succs_lt {d : Ci} (hd : Ok d) {v : Nat} (hv : v < nvars d) : ∀ s ∈ succs d v, s < nvars d := fun s hs => by
  unfold succs at hs
  unfold nvars at *
  split at hs
  · have hg := ok_getD hd (show v - nfirst d < d.gates.length by omega)
    simp only [List.mem_cons, List.mem_nil_iff, or_false] at hs
    omega
  · split at hs
    · rename_i h1 h2
      have hf : nfirst d = 1 + d.ins + d.next.length := rfl
      have hn := hd.next _ (List.mem_of_getElem? (at_getD 0 (show v - 1 - d.ins < d.next.length by omega)))
      unfold nvars at hn
      simp only [List.mem_cons, List.mem_nil_iff, or_false] at hs
      omega
    · cases hs
theorem needs_of {d : Ci} {V : List Bool} (h : Vis d (List.replicate (nvars d) false) V) (ho : ∀ l ∈ d.outs, V.getD (l / 2) false = true) : Needs d V := by
  have hz : ∀ u, (List.replicate (nvars d) false).getD u false = false := fun u => by
    rw [List.getD_eq_getElem?_getD, List.getElem?_replicate]
    split <;> rfl
  refine ⟨ho, fun j hj hk => ?_, fun j hj hk => ?_⟩
  · have := h.new _ hk (hz _)
    unfold succs at this
    rw [if_pos (by omega), show nfirst d + j - nfirst d = j from by omega] at this
    exact ⟨this _ (by simp), this _ (by simp)⟩
  · have := h.new _ hk (hz _)
    have hf : nfirst d = 1 + d.ins + d.next.length := rfl
    unfold succs at this
    rw [if_neg (by omega), if_pos (by omega), show 1 + d.ins + j - 1 - d.ins = j from by omega] at this
    exact this _ (by simp)
end Cir
end Go.Proofs.Ytdgminjbgjbamaa
namespace Go.Proofs.Ytdgminjbgjbamaa
open Go.RowKit
def RowIn (F : Nat → Prop) (w : World) (size : Nat) (v : Value) (n : Nat) (cs : List Value) : Prop := Row w size v n cs ∧ (0 < n → ∀ g, v.ownBlock = some g → F g)
def From (B : Nat) : Nat → Prop := fun g => B ≤ g
theorem RowIn.only {F E : Nat → Prop} {w w' : World} {size n : Nat} {v : Value} {cs : List Value} (h : RowIn F w size v n cs) (ho : Only E w w') (hE : ∀ g, F g → ¬ E g) : RowIn F w' size v n cs := by
  obtain ⟨⟨h1, A, c, rfl, h2, h3, h4⟩, h5⟩ := h
  refine ⟨⟨h1, A, c, rfl, h2, h3, fun hn => ?_⟩, h5⟩
  obtain ⟨b, o, rfl, hb, hc⟩ := h4 hn
  refine ⟨b, o, rfl, Nat.lt_of_lt_of_le hb ho.size, fun j u hu => ?_⟩
  rw [World.cell?_of_block (ho.block b hb (hE b (h5 hn b rfl)))]
  exact hc j u hu
theorem RowIn.mono {F F' : Nat → Prop} {w : World} {size n : Nat} {v : Value} {cs : List Value} (h : RowIn F w size v n cs) (hF : ∀ g, F g → F' g) : RowIn F' w size v n cs := ⟨h.1, fun hn g hg => hF g (h.2 hn g hg)⟩
theorem RowIn.below {F : Nat → Prop} {w w' : World} {size n : Nat} {v : Value} {cs : List Value} (h : RowIn F w size v n cs) (hb : Below w.heap.size w w') : RowIn F w' size v n cs := ⟨h.1.below hb, h.2⟩
theorem RowIn.of_own {w : World} {B size n : Nat} {e : TypeId} {v : Value} {cs : List Value} (h : w.ownsRow B e size v n cs) : RowIn (fun g => B ≤ g ∧ g < w.heap.size) w size v n cs := ⟨Row.of_own h, fun _ g hg => h.lt g hg⟩
def SSIn {α : Type} (enc : List α → List Value) (F : Nat → Prop) (w : World) (v : Value) (xss : List (List α)) : Prop :=
  ∃ vs : List Value, vs.length = xss.length ∧ RowIn F w 1 v xss.length vs ∧ ∀ (i : Nat) (x : List α) (u : Value), xss[i]? = some x → vs[i]? = some u → RowIn F w 1 u x.length (enc x)
variable {α : Type} {enc : List α → List Value} {F : Nat → Prop} {w w' : World} {v : Value} {xss : List (List α)}
theorem SSIn.at (h : SSIn enc F w v xss) : SSAt enc w v xss := by
  obtain ⟨vs, h1, h2, h3⟩ := h
  exact ⟨vs, h1, h2.1, fun i x u hx hu => (h3 i x u hx hu).1⟩
theorem SSIn.only {E : Nat → Prop} (h : SSIn enc F w v xss) (ho : Only E w w') (hE : ∀ g, F g → ¬ E g) : SSIn enc F w' v xss := by
  obtain ⟨vs, h1, h2, h3⟩ := h
  exact ⟨vs, h1, h2.only ho hE, fun i x u hx hu => (h3 i x u hx hu).only ho hE⟩
theorem SSIn.below (h : SSIn enc F w v xss) (hb : Below w.heap.size w w') : SSIn enc F w' v xss := by
  obtain ⟨vs, h1, h2, h3⟩ := h
  exact ⟨vs, h1, h2.below hb, fun i x u hx hu => (h3 i x u hx hu).below hb⟩
theorem SSIn.mono {F' : Nat → Prop} (h : SSIn enc F w v xss) (hF : ∀ g, F g → F' g) : SSIn enc F' w v xss := by
  obtain ⟨vs, h1, h2, h3⟩ := h
  exact ⟨vs, h1, h2.mono hF, fun i x u hx hu => (h3 i x u hx hu).mono hF⟩
theorem SSIn.nil (enc : List α → List Value) (F : Nat → Prop) (w : World) : SSIn enc F w (.slice none 0 0) [] := ⟨[], rfl, ⟨Row.nil w 1, fun h => absurd h (Nat.lt_irrefl 0)⟩, fun i x u hx _ => by simp at hx⟩
theorem SSIn.snoc {B : Nat} {e ti : TypeId} {v' u : Value} {x : List α} {vs : List Value} (h1 : vs.length = xss.length) (h3 : ∀ (i : Nat) (x : List α) (u : Value), xss[i]? = some x → vs[i]? = some u → RowIn F w 1 u x.length (enc x))
    (hu : w.ownsRow B ti 1 u x.length (enc x)) (hv : w.ownsRow B e 1 v' (xss.length + 1) (vs ++ [u])) : SSIn enc (fun g => F g ∨ (B ≤ g ∧ g < w.heap.size)) w v' (xss ++ [x]) := by
  refine ⟨vs ++ [u], by simp [h1], ?_, fun i y z hy hz => ?_⟩
  · rw [List.length_append, List.length_singleton]
    exact (RowIn.of_own hv).mono fun g hg => .inr hg
  · rcases Nat.lt_or_ge i xss.length with hi | hi
    · rw [List.getElem?_append_left hi] at hy
      rw [List.getElem?_append_left (by omega)] at hz
      exact (h3 i y z hy hz).mono fun g hg => .inl hg
    · have hil : i = xss.length := by
        rcases Nat.lt_or_ge xss.length i with h | h
        · rw [List.getElem?_eq_none (by simp; omega)] at hy; cases hy
        · omega
      subst hil
      rw [List.getElem?_append_right (Nat.le_refl _), Nat.sub_self] at hy
      rw [List.getElem?_append_right (by omega), h1, Nat.sub_self] at hz
      obtain rfl := Option.some.inj hy
      obtain rfl := Option.some.inj hz
      exact (RowIn.of_own hu).mono fun g hg => .inr hg
end Go.Proofs.Ytdgminjbgjbamaa
namespace Go.Proofs.Ytdgminjbgjbamaa
open Go.RowKit
theorem info_bool2 : (Try.prog.info? 4).map (fun i => (i.zero, i.size, i.bytes)) = some (some (.bool false), 1, 1) := by kernel_rfl
theorem info_bools2 : (Try.prog.info? 64).map (fun i => (i.zero, i.size, i.bytes)) = some (some (.slice none 0 0), 1, 24) := by kernel_rfl
theorem info_boolss2 : (Try.prog.info? 29).map (fun i => (i.zero, i.size, i.bytes)) = some (some (.slice none 0 0), 1, 24) := by kernel_rfl
def Cloned (e : TypeId) (n : Nat) (cs : List Value) (w : World) (r : Ending) (w' : World) : Prop := ∃ v', r = .returned v' ∧ w'.ownsRow w.heap.size e 1 v' n cs ∧ Below w.heap.size w w'
theorem append_rows {w : World} {ops : Array Oper} {rest : List Oper} {o : Oper} {a : Act} {Q : Exit → Act → World → Prop} (hgd : o.guard = none) (s x : Operand)
    (ho : o.op = .call { callee := .builtin .append, args := #[s, x], argTypes := #[29, 29] })
    (base : Nat) (v : Value) (n : Nat) (xs : List Value) (hs : a.eval s = v) (hown : w.ownsRow base 64 1 v n xs) (sv : Value) (m : Nat) (news : List Value) (hx : a.eval x = sv) (hr : Row w 1 sv m news) (h1 : ∀ u ∈ news, u.oneCell' = true)
    (h63 : n + m ≤ 1000000) (hbase : base ≤ w.heap.size)
    (h : ∀ v' w', w'.ownsRow base 64 1 v' (n + m) (xs ++ news) → w.grownBy w' v.ownBlock → (v'.ownBlock = v.ownBlock ∨ v'.ownBlock = some w.heap.size) → wpList Try.prog ops Q rest (a.put o.dst v') w') : wpList Try.prog ops Q (o :: rest) a w := by
  obtain ⟨i, hi, hz0, hz1, hz2⟩ := info_parts info_bools2
  exact wpList_append_at hgd s x 29 ho base 64 i _ 1 24 Try.underlying29 hi hz0 hz1 hz2 rfl (by decide) v n xs hs hown sv m news hx hr h1 (by unfold maxLen; omega) (by omega) hbase h
theorem append_bits {w : World} {ops : Array Oper} {rest : List Oper} {o : Oper} {a : Act} {Q : Exit → Act → World → Prop} (hgd : o.guard = none) (s x : Operand)
    (ho : o.op = .call { callee := .builtin .append, args := #[s, x], argTypes := #[64, 64] })
    (base : Nat) (v : Value) (n : Nat) (xs : List Value) (hs : a.eval s = v) (hown : w.ownsRow base 4 1 v n xs) (sv : Value) (m : Nat) (news : List Value) (hx : a.eval x = sv) (hr : Row w 1 sv m news) (h1 : ∀ u ∈ news, u.oneCell' = true)
    (h63 : n + m ≤ 1000000) (hbase : base ≤ w.heap.size)
    (h : ∀ v' w', w'.ownsRow base 4 1 v' (n + m) (xs ++ news) → w.grownBy w' v.ownBlock → (v'.ownBlock = v.ownBlock ∨ v'.ownBlock = some w.heap.size) → wpList Try.prog ops Q rest (a.put o.dst v') w') : wpList Try.prog ops Q (o :: rest) a w := by
  obtain ⟨i, hi, hz0, hz1, hz2⟩ := info_parts info_bool2
  exact wpList_append_at hgd s x 64 ho base 4 i _ 1 1 Try.underlying64 hi hz0 hz1 hz2 rfl (by decide) v n xs hs hown sv m news hx hr h1 (by unfold maxLen; omega) (by omega) hbase h
theorem append_paths {w : World} {ops : Array Oper} {rest : List Oper} {o : Oper} {a : Act} {Q : Exit → Act → World → Prop} (hgd : o.guard = none) (s x : Operand)
    (ho : o.op = .call { callee := .builtin .append, args := #[s, x], argTypes := #[106, 106] })
    (base : Nat) (v : Value) (n : Nat) (xs : List Value) (hs : a.eval s = v) (hown : w.ownsRow base 29 1 v n xs) (sv : Value) (m : Nat) (news : List Value) (hx : a.eval x = sv) (hr : Row w 1 sv m news) (h1 : ∀ u ∈ news, u.oneCell' = true)
    (h63 : n + m ≤ 1000000) (hbase : base ≤ w.heap.size)
    (h : ∀ v' w', w'.ownsRow base 29 1 v' (n + m) (xs ++ news) → w.grownBy w' v.ownBlock → (v'.ownBlock = v.ownBlock ∨ v'.ownBlock = some w.heap.size) → wpList Try.prog ops Q rest (a.put o.dst v') w') : wpList Try.prog ops Q (o :: rest) a w := by
  obtain ⟨i, hi, hz0, hz1, hz2⟩ := info_parts info_boolss2
  exact wpList_append_at hgd s x 106 ho base 29 i _ 1 24 Try.underlying106 hi hz0 hz1 hz2 rfl (by decide) v n xs hs hown sv m news hx hr h1 (by unfold maxLen; omega) (by omega) hbase h
theorem cloneB_any (v : Value) (n : Nat) (cs : List Value) (w : World) (h : Row w 1 v n cs) (h1 : ∀ u ∈ cs, u.oneCell' = true) (hn : n ≤ 1000) :
    Calls Try.prog 84 #[v] w (Cloned 4 n cs w) := by
  have he := fun (w : World) (a : Option Addr) (n c : Nat) => Lib.run_eql_slice_nil (P := Try.prog) w 64 4 a n c 0 0 Try.underlying64
  have hr := Lib.hid h
  obtain ⟨hl, A, c, rfl, hc, hcm, hcell⟩ := h
  cases A with
  | none =>
    have hn0 : n = 0 := by
      rcases Nat.eq_zero_or_pos n with h0 | h0
      · exact h0
      · obtain ⟨b, o, hx, -⟩ := hcell h0; cases hx
    subst hn0
    obtain rfl : cs = [] := List.eq_nil_of_length_eq_zero (by simpa using hl)
    clear hl hcell h1 hr
    go_enter Try.func84, Try.ntmps84
    go_wp2_with fail
    go_ret
    exact ⟨_, rfl, World.ownsRow_nil _ _ _ _, Below.refl _ _⟩
  | some p =>
    have Hown0 := Lib.hid (World.ownsRow_lit (base := w.heap.size) (e := 4) (size := 1) w #[] 0 (Nat.le_refl _) (by unfold maxLen; omega) rfl)
    have H1 := Lib.hid h1
    clear hl hcell h1
    go_enter Try.func84, Try.ntmps84
    go_wp2_with (at_builtin; refine append_bits rfl (.tmp 5) (.tmp 6) rfl w.heap.size _ 0 _ rfl Hown0.out _ n cs rfl (hr.out.alloc _) H1.out (by omega) (by simp) ?_; intro v5 w5 hown5 hg5 hat5; have Ho5 := Lib.hid hown5; have Hg5 := Lib.hid hg5; clear hown5 hg5 hat5)
    go_ret
    refine ⟨_, rfl, ?_, ((Below.refl _ _).alloc (Nat.le_refl _) _).grown Hg5.out (by simp) (own_ge0 Hown0.out)⟩
    have := Ho5.out
    simpa using this
theorem cloneSS_any (v : Value) (n : Nat) (cs : List Value) (w : World) (h : Row w 1 v n cs) (h1 : ∀ u ∈ cs, u.oneCell' = true) (hn : n ≤ 1000) :
    Calls Try.prog 82 #[v] w (Cloned 64 n cs w) := by
  have he := fun (w : World) (a : Option Addr) (n c : Nat) => Lib.run_eql_slice_nil (P := Try.prog) w 29 64 a n c 0 0 Try.underlying29
  have hr := Lib.hid h
  obtain ⟨hl, A, c, rfl, hc, hcm, hcell⟩ := h
  cases A with
  | none =>
    have hn0 : n = 0 := by
      rcases Nat.eq_zero_or_pos n with h0 | h0
      · exact h0
      · obtain ⟨b, o, hx, -⟩ := hcell h0; cases hx
    subst hn0
    obtain rfl : cs = [] := List.eq_nil_of_length_eq_zero (by simpa using hl)
    clear hl hcell h1 hr
    go_enter Try.func82, Try.ntmps82
    go_wp2_with fail
    go_ret
    exact ⟨_, rfl, World.ownsRow_nil _ _ _ _, Below.refl _ _⟩
  | some p =>
    have Hown0 := Lib.hid (World.ownsRow_lit (base := w.heap.size) (e := 64) (size := 1) w #[] 0 (Nat.le_refl _) (by unfold maxLen; omega) rfl)
    have H1 := Lib.hid h1
    clear hl hcell h1
    go_enter Try.func82, Try.ntmps82
    go_wp2_with (at_builtin; refine append_rows rfl (.tmp 5) (.tmp 6) rfl w.heap.size _ 0 _ rfl Hown0.out _ n cs rfl (hr.out.alloc _) H1.out (by omega) (by simp) ?_; intro v5 w5 hown5 hg5 hat5; have Ho5 := Lib.hid hown5; have Hg5 := Lib.hid hg5; clear hown5 hg5 hat5)
    go_ret
    refine ⟨_, rfl, ?_, ((Below.refl _ _).alloc (Nat.le_refl _) _).grown Hg5.out (by simp) (own_ge0 Hown0.out)⟩
    have := Ho5.out
    simpa using this
end Go.Proofs.Ytdgminjbgjbamaa
namespace Go.Proofs.Ytdgminjbgjbamaa
open Go.RowKit
def rowsOf (ins : Nat) (p : List Nat) : List (List Bool) := p.map fun x => Cir.bits x ins
theorem rowsOf_snoc (ins : Nat) (p : List Nat) (x : Nat) : rowsOf ins (p ++ [x]) = rowsOf ins p ++ [Cir.bits x ins] := by unfold rowsOf; simp
theorem rowsOf_length (ins : Nat) (p : List Nat) : (rowsOf ins p).length = p.length := by unfold rowsOf; simp
structure VB (B mb ins N : Nat) (l : List (Nat × List Nat)) (vq vp : Value) (pv : List Value) (F : Nat → Prop) (w : World) : Prop where
  q : w.ownsRow B 3 1 vq l.length (nints (Cir.vsts l))
  p : w.ownsRow B 29 1 vp l.length pv
  s : SetAt w mb N (fun x => Cir.memB (Cir.vsts l) x)
  r : ∀ (i s : Nat) (x : List Nat) (u : Value), l[i]? = some (s, x) → pv[i]? = some u → SSIn bools F w u (rowsOf ins x)
  f : ∀ g, F g → g < w.heap.size ∧ vq.ownBlock ≠ some g ∧ vp.ownBlock ≠ some g ∧ g ≠ mb
  a : Apart vq vp
  am : vq.ownBlock ≠ some mb ∧ vp.ownBlock ≠ some mb
theorem VB.pl {B mb ins N : Nat} {l : List (Nat × List Nat)} {vq vp : Value} {pv : List Value} {F : Nat → Prop} {w : World} (h : VB B mb ins N l vq vp pv F w) : pv.length = l.length := by
  have := h.p.1; omega
theorem VB.below {B mb ins N : Nat} {l : List (Nat × List Nat)} {vq vp : Value} {pv : List Value} {F : Nat → Prop} {w w' : World} (h : VB B mb ins N l vq vp pv F w) (hb : Below w.heap.size w w') : VB B mb ins N l vq vp pv F w' :=
  ⟨own_below h.q hb, own_below h.p hb, h.s.below hb, fun i s x u hx hu => (h.r i s x u hx hu).below hb, fun g hg => ⟨Nat.lt_of_lt_of_le (h.f g hg).1 hb.size, (h.f g hg).2⟩, h.a, h.am⟩
theorem VB.push {B mb ins N n j : Nat} {l : List (Nat × List Nat)} {x : List Nat} {vq vp vq' vp' u : Value} {pv : List Value} {F F' : Nat → Prop} {w w1 w3 w5 : World} {o1 o2 : Obj} (h : VB B mb ins N l vq vp pv F w)
    (hu : SSIn bools F' w u (rowsOf ins (x ++ [j]))) (hF : ∀ g, F g → F' g) (hF' : ∀ g, F' g → g < w.heap.size ∧ vq.ownBlock ≠ some g ∧ vp.ownBlock ≠ some g ∧ g ≠ mb)
    (s1 : SetAt w1 mb (N + 1) (fun z => Cir.memB (Cir.vsts l) z || z == n)) (g1 : w.grownBy w1 (some mb))
    (own3 : w3.ownsRow B 3 1 vq' (l.length + 1) (nints (Cir.vsts l) ++ [.int .i64 (n : Int)])) (g3 : (w1.alloc o1).grownBy w3 vq.ownBlock) (at3 : vq'.ownBlock = vq.ownBlock ∨ vq'.ownBlock = some (w1.alloc o1).heap.size)
    (own5 : w5.ownsRow B 29 1 vp' (l.length + 1) (pv ++ [u])) (g5 : (w3.alloc o2).grownBy w5 vp.ownBlock) (at5 : vp'.ownBlock = vp.ownBlock ∨ vp'.ownBlock = some (w3.alloc o2).heap.size) :
    VB B mb ins (N + 1) (l ++ [(n, x ++ [j])]) vq' vp' (pv ++ [u]) F' w5 := by
  have z1 := g1.size
  have z3 := g3.size
  have z5 := g5.size
  rw [World.size_alloc] at z3 z5
  have hvs : Cir.vsts (l ++ [(n, x ++ [j])]) = Cir.vsts l ++ [n] := by unfold Cir.vsts; simp
  have mbl := h.s.lt
  have hq' : ∀ g, vq'.ownBlock = some g → vq.ownBlock = some g ∨ g = w1.heap.size + 1 := fun g hg => by
    rcases at3 with e | e
    · exact .inl (e.symm.trans hg)
    · rw [World.size_alloc] at e; exact .inr (Option.some.inj (hg.symm.trans e))
  have hp' : ∀ g, vp'.ownBlock = some g → vp.ownBlock = some g ∨ g = w3.heap.size + 1 := fun g hg => by
    rcases at5 with e | e
    · exact .inl (e.symm.trans hg)
    · rw [World.size_alloc] at e; exact .inr (Option.some.inj (hg.symm.trans e))
  have hql : ∀ g, vq.ownBlock = some g → g < w.heap.size := fun g hg => (h.q.lt g hg).2
  have hpl : ∀ g, vp.ownBlock = some g → g < w.heap.size := fun g hg => (h.p.lt g hg).2
  have ho : Only (fun g => g = mb ∨ vq.ownBlock = some g ∨ vp.ownBlock = some g) w w5 := by
    have a1 : Only (fun g => g = mb ∨ vq.ownBlock = some g ∨ vp.ownBlock = some g) w w1 := Only.grown g1 fun k hk => .inl (Option.some.inj hk).symm
    have a2 := Only.of_below (fun g => g = mb ∨ vq.ownBlock = some g ∨ vp.ownBlock = some g) (bel_new w1 o1)
    have a3 : Only (fun g => g = mb ∨ vq.ownBlock = some g ∨ vp.ownBlock = some g) (w1.alloc o1) w3 := Only.grown g3 fun k hk => .inr (.inl hk)
    have a4 := Only.of_below (fun g => g = mb ∨ vq.ownBlock = some g ∨ vp.ownBlock = some g) (bel_new w3 o2)
    have a5 : Only (fun g => g = mb ∨ vq.ownBlock = some g ∨ vp.ownBlock = some g) (w3.alloc o2) w5 := Only.grown g5 fun k hk => .inr (.inr hk)
    exact (((a1.trans a2).trans a3).trans a4).trans a5
  have hE : ∀ g, F' g → ¬ (g = mb ∨ vq.ownBlock = some g ∨ vp.ownBlock = some g) := fun g hg he => by
    have := hF' g hg
    rcases he with he | he | he
    · exact this.2.2.2 he
    · exact this.2.1 he
    · exact this.2.2.1 he
  refine ⟨?_, ?_, ?_, fun i s y z hy hz => ?_, fun g hg => ?_, fun g h1 h2 => ?_, ?_, ?_⟩
  · rw [List.length_append, List.length_singleton, hvs, nints_snoc]
    refine own_kept (own_below own3 (bel_new _ _)) g5 fun g h1 h2 => ?_
    rcases hq' g h1 with e | e
    · exact h.a g e h2
    · have := hpl g h2; omega
  · rw [List.length_append, List.length_singleton]
    exact own5
  · have s3 : SetAt w3 mb (N + 1) _ := (s1.below (bel_new w1 o1)).only (Only.grown (E := fun g => vq.ownBlock = some g) g3 fun k hk => hk) (h.am.1)
    have s5 := (s3.below (bel_new w3 o2)).only (Only.grown (E := fun g => vp.ownBlock = some g) g5 fun k hk => hk) (h.am.2)
    exact s5.congr fun z => by rw [hvs, Cir.memB_snoc]
  · rcases Nat.lt_or_ge i l.length with hi | hi
    · rw [List.getElem?_append_left hi] at hy
      rw [List.getElem?_append_left (by rw [h.pl]; exact hi)] at hz
      exact ((h.r i s y z hy hz).mono hF).only ho hE
    · have hil : i = l.length := by
        rcases Nat.lt_or_ge l.length i with hh | hh
        · rw [List.getElem?_eq_none (by simp; omega)] at hy; cases hy
        · omega
      subst hil
      rw [List.getElem?_append_right (Nat.le_refl _), Nat.sub_self] at hy
      rw [List.getElem?_append_right (by rw [h.pl]; exact Nat.le_refl _), h.pl, Nat.sub_self] at hz
      obtain ⟨rfl, rfl⟩ := Prod.mk.inj (Option.some.inj hy)
      obtain rfl := Option.some.inj hz
      exact hu.only ho hE
  · have := hF' g hg
    refine ⟨by omega, fun h1 => ?_, fun h1 => ?_, this.2.2.2⟩
    · rcases hq' g h1 with e | e
      · exact this.2.1 e
      · omega
    · rcases hp' g h1 with e | e
      · exact this.2.2.1 e
      · omega
  · rcases hq' g h1 with e | e
    · rcases hp' g h2 with e2 | e2
      · exact h.a g e e2
      · have := hql g e; omega
    · rcases hp' g h2 with e2 | e2
      · have := hpl g e2; omega
      · omega
  · intro h1
    rcases hq' _ h1 with e | e
    · exact h.am.1 e
    · omega
  · intro h1
    rcases hp' _ h1 with e | e
    · exact h.am.2 e
    · omega
open Go.Maps in
theorem run_look_set {w : World} {b n : Nat} {S : Nat → Bool} (h : SetAt w b n S) (k : Nat) (hk : (k : Int) ≤ 9223372036854775807) : (Instr.lookup 107 (.map (some b)) (.int .i64 (k : Int)) false).run Try.prog w = .ok (.bool (S k)) w := by
  obtain ⟨D, h1, h2, h3, -⟩ := h
  obtain ⟨v, ps, hrun, hv⟩ := h1.lookup set_keyed Try.underlying107 (zero_bool w) (plainElem_bool Try.underlying4 false) (keyOf_int_mk Try.underlying3 (i64_wf hk))
  rw [h3 k] at hv
  have hvb : v = .bool (S k) := by
    unfold plainElem at hv
    rw [Try.underlying4] at hv
    cases v <;> simp at hv
    rw [hv.1]
  subst hvb
  exact hrun
theorem num_bit : ∀ (l : List Bool) (o : Nat), (Cir.num l).testBit o = l.getD o false
  | [], o => by simp [Cir.num]
  | b :: l, 0 => by
    rw [Cir.num, Nat.testBit_zero]
    cases b <;> simp <;> omega
  | b :: l, o + 1 => by
    rw [Cir.num, Nat.testBit_succ]
    have : ((if b then 1 else 0) + 2 * Cir.num l) / 2 = Cir.num l := by split <;> omega
    rw [this, num_bit l o]
    simp
theorem outsOf_length (d : Ci) (s x : Nat) : (Cir.outsOf d s x).length = d.outs.length := by unfold Cir.outsOf; rw [lits_length]
theorem viClo_any (g go : Nat) (d : Ci) (o s x : Nat) (w : World) (h : PCirc w g (Cir.toCz d)) (hgo : w.cell? ⟨go, 0, none⟩ = some (.int .i64 o)) (hlt : go < w.heap.size) (hd : Cir.Ok d) (hs : s ≤ 1000) (hx : x ≤ 1000) (ho : o < d.outs.length) :
    Calls Try.prog 36 #[.int .i64 s, .int .i64 x, .pointer (some ⟨g, 0, none⟩), .pointer (some ⟨go, 0, none⟩)] w fun e w' => e = .returned (.tuple #[.int .i64 (Cir.nextOf d s x : Nat), .bool (Cir.bad d o s x)]) ∧ Below w.heap.size w w' := by
  have hC := Lib.hid (cycle_any g d s x w h hd hs hx)
  have l4 := hd.outss
  have hnb := num_bit (Cir.outsOf d s x) o
  have hnl := Cir.num_lt (Cir.outsOf d s x)
  rw [outsOf_length] at hnl
  have hn8 : 2 ^ d.outs.length ≤ 2 ^ 3 := Nat.pow_le_pow_right (show 0 < 2 by decide) l4
  have hN : Cir.num (Cir.outsOf d s x) ≤ 1000000 := by omega
  have hB : (Cir.outsOf d s x).getD o false = Cir.bad d o s x := rfl
  rw [hB] at hnb
  clear hn8 hnl hB h
  generalize Cir.num (Cir.outsOf d s x) = y at *
  generalize Cir.bad d o s x = b at *
  generalize Cir.nextOf d s x = n at *
  have hq : (y : Int) / 2 ^ o = ((y / 2 ^ o : Nat) : Int) := by rw [Int.natCast_ediv, two_pow]
  have hy : y / 2 ^ o ≤ 1000000 := Nat.le_trans (Nat.div_le_self _ _) hN
  have hm : bits .and .i64 ((y / 2 ^ o : Nat) : Int) 1 = ((y / 2 ^ o % 2 : Nat) : Int) := by
    have := i64_and_nat (y / 2 ^ o) 1 (by omega) (by omega)
    rw [Nat.and_one_is_mod] at this
    exact this
  have he : (((y / 2 ^ o % 2 : Nat) : Int) == 1) = b := by
    rw [← hnb, Nat.testBit_eq_decide_div_mod_eq, Bool.eq_iff_iff, beq_iff_eq, decide_eq_true_iff]
    omega
  generalize y / 2 ^ o = y' at hq hm he hy
  generalize y' % 2 = r at hm he
  clear hnb
  go_enter Try.func36, Try.ntmps36
  go_wp2_with fail
  refine hC.out.mono ?_
  rintro e w1 ⟨rfl, hb1⟩
  have c1 := (hb1.cell (p := ⟨go, 0, none⟩) hlt).trans hgo
  have Hb := Lib.hid hb1
  clear hb1 hgo hC
  go_wp2_with fail
  go_region
  go_wp2_with fail
  exact bodyPost_ret (v := .tuple #[.int .i64 n, .bool b]) (by simp [results, Try.results36, go_sem]) rfl ⟨rfl, Hb.out.os, Hb.out.tape, Hb.out.output, Hb.out.size, Hb.out.block⟩
end Go.Proofs.Ytdgminjbgjbamaa
namespace Go.Proofs.Ytdgminjbgjbamaa
open Go.RowKit
def OwnBoolSS (B T : Nat) (w : World) (v : Value) (xss : List (List Bool)) : Prop := OwnSS bools 64 4 B T w v xss
end Go.Proofs.Ytdgminjbgjbamaa
namespace Go.Proofs.Ytdgminjbgjbamaa
open Go.RowKit
def Searched (ins : Nat) (r : Option (List Nat)) (w : World) (e : Ending) (w' : World) : Prop :=
  match r with
  | none => e = .returned (.tuple #[.slice none 0 0, .bool false]) ∧ Below w.heap.size w w'
  | some p => ∃ v, e = .returned (.tuple #[v, .bool true]) ∧ OwnBoolSS w.heap.size w'.heap.size w' v (rowsOf ins p) ∧ Below w.heap.size w w'
theorem SSIn.one {F : Nat → Prop} {w : World} {xss : List (List Bool)} {vs : List Value} (h1 : vs.length = xss.length) (h3 : ∀ (i : Nat) (x : List Bool) (u : Value), xss[i]? = some x → vs[i]? = some u → RowIn F w 1 u x.length (bools x)) : ∀ u ∈ vs, u.oneCell' = true := fun u hu => by
  obtain ⟨i, hi, rfl⟩ := List.mem_iff_getElem.1 hu
  obtain ⟨_, A, c, hv, -⟩ := (h3 i _ _ (List.getElem?_eq_getElem (by omega)) (List.getElem?_eq_getElem hi)).1
  rw [hv]; rfl
theorem searchV_any (g go : Nat) (d : Ci) (o : Nat) (w : World) (h : PCirc w g (Cir.toCz d)) (hgo : w.cell? ⟨go, 0, none⟩ = some (.int .i64 o)) (hlt : go < w.heap.size) (hd : Cir.Ok d) (ho : o < d.outs.length) :
    Calls Try.prog 35 #[.int .i64 d.ins, .int .i64 0, .func (.func 36) #[] #[.pointer (some ⟨g, 0, none⟩), .pointer (some ⟨go, 0, none⟩)]] w (Searched d.ins (Cir.viol d o) w) := by
  have l1 := hd.ins
  have l2 := hd.nexts
  have HP := Lib.hid h
  have Hgo := Lib.hid hgo
  have Hd := Lib.hid hd
  have Ho := Lib.hid ho
  obtain ⟨M, e, hM⟩ : ∃ M : Nat, (2 : Int) ^ d.ins = (M : Int) ∧ M = 2 ^ d.ins := ⟨2 ^ d.ins, two_pow d.ins, rfl⟩
  have hM16 : M ≤ 16 := by rw [hM]; exact Nat.pow_le_pow_right (show 0 < 2 by decide) l1
  have hwM := IntWalk.i64_in (M : Int) (by omega)
  have HM := Lib.hid hM
  have hmm := @run_makeMap Try.prog
  have hwins := IntWalk.i64_in (d.ins : Int) (by omega)
  clear h hgo hd ho hM
  have Hset0 : Hid (SetAt (((w.alloc (.cells #[.int .i64 0] 3)).alloc (.cells #[.slice none 0 0] 29)).alloc (.map #[] 0)) (w.heap.size + 1 + 1) 0 (fun _ => false)) := Lib.hid (by have := setAt_made ((w.alloc (.cells #[.int .i64 0] 3)).alloc (.cells #[.slice none 0 0] 29)); rwa [World.size_alloc, World.size_alloc] at this)
  have Hq0 : Hid ((((w.alloc (.cells #[.int .i64 0] 3)).alloc (.cells #[.slice none 0 0] 29)).alloc (.map #[] 0)).ownsRow w.heap.size 3 1 (.slice (some ⟨w.heap.size, 0, none⟩) 1 1) 1 [.int .i64 0]) := Lib.hid (((World.ownsRow_lit (base := w.heap.size) (e := 3) (size := 1) w #[.int .i64 0] 1 (Nat.le_refl _) (by unfold maxLen; omega) rfl).alloc _).alloc _)
  have Hp0 : Hid ((((w.alloc (.cells #[.int .i64 0] 3)).alloc (.cells #[.slice none 0 0] 29)).alloc (.map #[] 0)).ownsRow w.heap.size 29 1 (.slice (some ⟨w.heap.size + 1, 0, none⟩) 1 1) 1 [.slice none 0 0]) := Lib.hid (by
    have := (World.ownsRow_lit (base := w.heap.size) (e := 29) (size := 1) (w.alloc (.cells #[.int .i64 0] 3)) #[.slice none 0 0] 1 (by simp) (by unfold maxLen; omega) rfl).alloc (.map #[] 0)
    rwa [World.size_alloc] at this)
  have hsz : (((w.alloc (.cells #[.int .i64 0] 3)).alloc (.cells #[.slice none 0 0] 29)).alloc (.map #[] 0)).heap.size = w.heap.size + 3 := by simp
  have Bm : Hid (Below w.heap.size w (((w.alloc (.cells #[.int .i64 0] 3)).alloc (.cells #[.slice none 0 0] 29)).alloc (.map #[] 0))) := Lib.hid ((((Below.refl _ _).alloc (Nat.le_refl _) _).alloc (by simp) _).alloc (by simp; omega) _)
  go_enter Try.func35, Try.ntmps35
  go_wp2_with (with_reducible refine wpList_add_set _ rfl (.tmp 22) _ _ (.inr rfl) _ _ _ rfl Hset0.out (by omega) 0 (by omega) rfl rfl ?_; intro w2 hset2 hg2)
  have HV0 : Hid (VB w.heap.size (w.heap.size + 1 + 1) d.ins 1 [(0, [])] (.slice (some ⟨w.heap.size, 0, none⟩) 1 1) (.slice (some ⟨w.heap.size + 1, 0, none⟩) 1 1) [.slice none 0 0] (fun _ => False) w2) := Lib.hid (by
    have hz2 := hg2.size
    refine ⟨own_kept Hq0.out hg2 (fun g h1 h2 => ?_), own_kept Hp0.out hg2 (fun g h1 h2 => ?_), hset2.congr (fun x => by rw [show Cir.vsts [(0, [])] = [0] from rfl, Cir.memB_zero, Bool.false_or]), fun i s x u h1 h2 => ?_, fun g hg => hg.elim, fun g h1 h2 => ?_, ?_, ?_⟩
    · have := Option.some.inj h1; have := Option.some.inj h2; simp only at *; omega
    · have := Option.some.inj h1; have := Option.some.inj h2; simp only at *; omega
    · cases i with
      | zero =>
        obtain ⟨rfl, rfl⟩ := Prod.mk.inj (Option.some.inj h1)
        obtain rfl := Option.some.inj h2
        exact SSIn.nil _ _ _
      | succ i => simp at h1
    · have := Option.some.inj h1; have := Option.some.inj h2; simp only at *; omega
    · intro h1; have := Option.some.inj h1; simp only at *; omega
    · intro h1; have := Option.some.inj h1; simp only at *; omega)
  have B2 := Lib.hid (Bm.out.grown hg2 Bm.out.size (fun q hq => by have := Option.some.inj hq; omega))
  have z2 := hg2.size
  rw [hsz] at z2
  clear hset2 hg2 Hset0 Hq0 Hp0 Bm hmm hsz
  have hR0 : Hid (Cir.viol d o = Cir.vbfs d o (9 - 0) 0 [(0, [])]) := Lib.hid rfl
  generalize Cir.viol d o = res at *
  go_wp2_with fail
  go_loopw [8, 9, 11] (fun vq vp i wr => ∃ (q p : Value) (k m : Nat) (l : List (Nat × List Nat)) (pv : List Value) (F : Nat → Prop), q = vq ∧ p = vp ∧ i = .int .i64 k ∧ k ≤ l.length ∧ 1 ≤ l.length ∧ l.length ≤ 8 ∧ m ≤ 1 + k * 16 ∧ Hid (Cir.Vs d l) ∧ Hid (res = Cir.vbfs d o (9 - k) k l) ∧ Hid (VB w.heap.size (w.heap.size + 1 + 1) d.ins m l vq vp pv F wr) ∧ Below w.heap.size w wr) (fun _ _ i _ => 8 - (intOf i).toNat)
  case atStart => exact ⟨_, _, 0, 1, [(0, [])], _, _, rfl, rfl, rfl, by simp, by simp, by simp, by omega, Lib.hid (Cir.Vs.zero d), hR0, HV0, B2.out⟩
  case round =>
    obtain ⟨vq, vp, k, m, l, pv, F, hq, hp, rfl, hk, hpos, hl8, hm16, Hvs, hres, HV, hb⟩ := hrel
    subst hq hp
    clear HV0 B2 hR0
    have Hb := Lib.hid hb
    have hzb := hb.size
    clear hb
    by_cases hlt2 : k < l.length
    · obtain ⟨⟨s, p⟩, hs⟩ := at_some hlt2
      have Hgs := Lib.hid hs
      have hf : 9 - k = 9 - (k + 1) + 1 := by omega
      rw [hf] at hres
      have hdl : decide (k < l.length) = true := decide_eq_true hlt2
      obtain ⟨gq, cq, hvq, hgq, hgq2, hcq, hcqm⟩ := own_open HV.out.q (by omega)
      subst hvq
      unfold maxLen at hcqm
      clear hs hf
      go_wp2_with fail
      obtain ⟨Wk, hWk⟩ : ∃ Wk, Wk = wr := ⟨_, rfl⟩
      subst hWk
      go_loopw [8, 9, 33] (fun vq2 vp2 i2 wr2 => ∃ (q2 p2 : Value) (j m2 : Nat) (pv2 : List Value) (F2 : Nat → Prop), q2 = vq2 ∧ p2 = vp2 ∧ i2 = .int .i64 j ∧ j ≤ M ∧ m2 ≤ m + j ∧ Hid (∀ y, y < j → Cir.bad d o s y = false) ∧ Hid (VB w.heap.size (w.heap.size + 1 + 1) d.ins m2 (Cir.vpushes d s p j l) vq2 vp2 pv2 F2 wr2) ∧ Below w.heap.size w wr2) (fun _ _ i _ => M - (intOf i).toNat)
      case atStart => exact ⟨_, _, 0, m, pv, F, rfl, rfl, rfl, Nat.zero_le _, by omega, Lib.hid (fun y hy => by omega), HV, Hb.out⟩
      case round =>
        obtain ⟨q2, p2, j, m2, pv2, F2, hq2, hp2, rfl, hj, hm2, Hnb, HV2, hb2⟩ := hrel
        subst hq2 hp2
        have Hb2 := Lib.hid hb2
        have hzb2 := hb2.size
        clear HV hb2
        have Hvs2 := Lib.hid (Hvs.out.pushes Hgs.out j (by rw [← HM.out]; exact hj))
        have hL8 := Hvs2.out.size Hd.out
        have Hgj := Lib.hid (Cir.vpushes_get (c := d) (s := s) (p := p) (j := j) Hgs.out)
        have Hsu := Lib.hid (Cir.vpushes_succ d s p j l)
        have hkL := (List.getElem?_eq_some_iff.1 Hgj.out).1
        by_cases hlj : j < M
        · obtain ⟨L2, hL2⟩ : ∃ L2, Cir.vpushes d s p (j + 1) l = L2 := ⟨_, rfl⟩
          rw [hL2] at Hsu
          have HL2 := Lib.hid hL2
          clear hL2
          generalize Cir.vpushes d s p j l = L at *
          obtain ⟨gq, cq, hvq, hgq, hgq2, hcq, hcqm⟩ := own_open HV2.out.q (by omega)
          subst hvq
          obtain ⟨gp, cp, hvp, hgp, hgp2, hcp, hcpm⟩ := own_open HV2.out.p (by omega)
          subst hvp
          unfold maxLen at hcqm hcpm
          obtain ⟨u0, hu0, hd0, hf0⟩ := own_slot HV2.out.q (j := k) (by omega)
          have hu0' : u0 = .int .i64 (s : Int) := by
            have h1 := Cir.vsts_get Hgj.out
            have h2 : (nints (Cir.vsts L))[k]? = some (.int .i64 (s : Int)) := by unfold nints ints nats; rw [List.map_map, List.getElem?_map, h1]; rfl
            exact Option.some.inj (hu0.symm.trans h2)
          subst hu0'
          obtain ⟨u1, hu1, hd1, hf1⟩ := own_slot HV2.out.p (j := k) (by omega)
          have HS := Lib.hid (HV2.out.r k s p u1 Hgj.out hu1)
          have hs8 : s < 8 := by
            have h1 := Hvs2.out.sts.lt s (List.mem_of_getElem? (Cir.vsts_get Hgj.out))
            have h2 : 2 ^ d.next.length ≤ 2 ^ 3 := Nat.pow_le_pow_right (show 0 < 2 by decide) l2
            omega
          have hN8 : Cir.nextOf d s j < 8 := by
            have h1 := Cir.nextOf_lt d s j
            have h2 : 2 ^ d.next.length ≤ 2 ^ 3 := Nat.pow_le_pow_right (show 0 < 2 by decide) l2
            omega
          have hp8 := Hvs2.out.len k s p Hgj.out
          clear hu0 hu1 hf0 hf1
          go_wp2_with fail
          refine (viClo_any g go d o s j _ (HP.out.below Hb2.out) ((Hb2.out.cell (p := ⟨go, 0, none⟩) hlt).trans Hgo.out) (Nat.lt_of_lt_of_le hlt hzb2) Hd.out (by omega) (by omega) Ho.out).mono ?_
          rintro e w5 ⟨rfl, hb5⟩
          have HV5 := Lib.hid (HV2.out.below hb5)
          have HS5 := Lib.hid (HS.out.below hb5)
          have Hb5 := Lib.hid (Hb2.out.trans (hb5.mono hzb2))
          have hz5 := hb5.size
          have c5 := (hb5.cell (p := ⟨gp, k, none⟩) hgp2).trans hd1
          obtain ⟨Ap, np, hvu, hcu, hcum⟩ := HS5.out.at.shape
          subst hvu
          rw [rowsOf_length] at hcu
          unfold maxLen at hcum
          obtain ⟨vs5, hvl5, hrow5, hel5⟩ := HS5.out
          rw [rowsOf_length] at hvl5
          have One5 := Lib.hid (SSIn.one (by rw [rowsOf_length]; exact hvl5) hel5)
          have Row5 : Hid (Row w5 1 (.slice Ap (rowsOf d.ins p).length np) p.length vs5) := Lib.hid (by have := hrow5.1; rwa [rowsOf_length] at this ⊢)
          have Hrow5 := Lib.hid hrow5
          have Hel5 := Lib.hid hel5
          clear hrow5 hel5
          obtain ⟨N, hNe⟩ : ∃ N, Cir.nextOf d s j = N := ⟨_, rfl⟩
          rw [hNe] at hN8 Hsu
          have HNe := Lib.hid hNe
          clear hb5 hd0 hd1 HV2 HS
          rw [hNe]
          clear hNe
          cases hbad : Cir.bad d o s j
          · have Hnb2 : Hid (∀ y, y < j + 1 → Cir.bad d o s y = false) := Lib.hid (fun y hy => by
              rcases Nat.lt_or_ge y j with h | h
              · exact Hnb.out y h
              · obtain rfl : y = j := by omega
                exact hbad)
            clear hbad Hnb
            cases hc : Cir.memB (Cir.vsts L) N
            · have HPu := Lib.hid (Cir.vpush_no (p := p ++ [j]) hc)
              have hlk := run_look_set HV5.out.s N (by omega)
              rw [hc] at hlk
              go_wp2_with fail
              refine (cloneSS_any _ p.length _ _ (by have := Row5.out; exact this) One5.out (by omega)).mono ?_
              rintro e w6 ⟨v6, rfl, ho6, hb6⟩
              have hz6 := hb6.size
              have Ho6 := Lib.hid ho6
              have Hb6 := Lib.hid hb6
              clear ho6 hb6
              go_wp2_with fail
              refine (bitsOf_any j d.ins _ (by omega) (by omega)).mono ?_
              rintro e w7 ⟨v7, rfl, ho7, hb7⟩
              have hz7 := hb7.size
              have Ho6b := Lib.hid (own_below Ho6.out hb7)
              have Hb7 := Lib.hid (Hb6.out.trans (hb7.mono hz6))
              have Ho7 := Lib.hid (own_mono ho7 hz6)
              have Hge7 := Lib.hid (own_ge0 ho7)
              obtain ⟨A7, c7, hv7⟩ := slice_of_own Ho7.out
              subst hv7
              have Hlit := Lib.hid (Row.of_own (World.ownsRow_lit (base := w7.heap.size) (e := 64) (size := 1) w7 #[.slice A7 (Cir.bits j d.ins).length c7] 1 (Nat.le_refl _) (by unfold maxLen; omega) rfl))
              clear ho7 hb7
              go_wp2_with (first | (at_builtin; refine append_rows rfl (.tmp 57) (.tmp 61) rfl w5.heap.size _ p.length _ rfl (Ho6b.out.alloc _) _ 1 [.slice A7 (Cir.bits j d.ins).length c7] rfl Hlit.out (by simp [Value.oneCell']) (by omega) (by simp; omega) ?_; intro v8 w8 hown8 hg8 hat8; obtain ⟨A8, c8, hv8⟩ := slice_of_own hown8; subst hv8; have Hp8 := Lib.hid hown8; have Hg8 := Lib.hid hg8; have hz8 := hg8.size; rw [World.size_alloc] at hz8; have Ho8 := Lib.hid (own_kept (Ho7.out.alloc (.cells #[.slice A7 (Cir.bits j d.ins).length c7] 64)) hg8 (fun g h1 h2 => by have h3 := Hge7.out g h1; have h4 := (Ho6.out.lt g h2).2; omega)); have Hb8 := Lib.hid ((Hb7.out.alloc (Nat.le_trans hz6 hz7) _).grown hg8 (by simp; omega) (own_ge0 Ho6b.out)); clear hown8 hg8 hat8) | (at_mapUpdate; refine Stop.out ?_))
              have HS8 : Hid (SSIn bools (fun g => F2 g ∨ (w5.heap.size ≤ g ∧ g < w8.heap.size)) w8 (.slice A8 (p.length + 1) c8) (rowsOf d.ins (p ++ [j]))) := Lib.hid (by
                rw [rowsOf_snoc]
                exact SSIn.snoc (by rw [rowsOf_length]; exact hvl5) (fun i x u hx hu => (Hel5.out i x u hx hu).below Hb8.out) Ho8.out (by rw [rowsOf_length]; exact Hp8.out))
              have HV8 := Lib.hid (HV5.out.below Hb8.out)
              have HF8 : Hid (∀ g, (F2 g ∨ (w5.heap.size ≤ g ∧ g < w8.heap.size)) → g < w8.heap.size ∧ (Value.slice (some ⟨gq, 0, none⟩) L.length cq).ownBlock ≠ some g ∧ (Value.slice (some ⟨gp, 0, none⟩) L.length cp).ownBlock ≠ some g ∧ g ≠ w.heap.size + 1 + 1) := Lib.hid (fun g hg => by
                rcases hg with hg | hg
                · exact HV8.out.f g hg
                · have h3 := HV5.out.s.lt
                  refine ⟨hg.2, fun h => ?_, fun h => ?_, by omega⟩
                  · have h2 := (HV5.out.q.lt g h).2; omega
                  · have h2 := (HV5.out.p.lt g h).2; omega)
              have Hb58 := Lib.hid (Hb5.out.trans (Hb8.out.mono (by omega)))
              refine ⟨?_⟩
              have hz58 := Hb8.out.size
              clear Ho6 Ho6b Ho7 Hge7 Hlit Hp8 Ho8 Hg8 HV5 HS5 Row5 Hrow5 Hel5 One5 Hb6 Hb7 hz6 hz7
              go_wp2_with (first
                | (at_mapUpdate; refine wpList_add_set _ rfl (.tmp 77) (.tmp 78) _ (.inl rfl) _ _ _ rfl HV8.out.s (by omega) N (by omega) rfl rfl ?_; intro w9 hset9 hg9; have Hset9 := Lib.hid hset9; have Hg9 := Lib.hid hg9; have hz9 := hg9.size; have Hq9 := Lib.hid (own_kept HV8.out.q hg9 (fun g h1 h2 => HV8.out.am.1 (h1.trans h2.symm))); have Hp9 := Lib.hid (own_kept HV8.out.p hg9 (fun g h1 h2 => HV8.out.am.2 (h1.trans h2.symm))); have Hl9 := Lib.hid (Row.of_own (World.ownsRow_lit (base := w9.heap.size) (e := 3) (size := 1) w9 #[.int .i64 N] 1 (Nat.le_refl _) (by unfold maxLen; omega) rfl)); clear hset9 hg9)
                | (at_builtin; refine append_ints rfl (.tmp 79) (.tmp 81) rfl w.heap.size _ L.length (nints (Cir.vsts L)) rfl (Hq9.out.alloc _) _ 1 [.int .i64 N] rfl Hl9.out (by simp [Value.oneCell']) (by omega) (by simp; omega) ?_; intro va wa howna hga hata; obtain ⟨Aa, ca, hva⟩ := slice_of_own howna; subst hva; have Hqa := Lib.hid howna; have Hga := Lib.hid hga; have Hata := Lib.hid hata; have hza := hga.size; rw [World.size_alloc] at hza; have Hpa := Lib.hid (own_kept (Hp9.out.alloc (.cells #[.int .i64 N] 3)) hga (fun g h1 h2 => HV8.out.a g h2 h1)); have Hla := Lib.hid (Row.of_own (World.ownsRow_lit (base := wa.heap.size) (e := 29) (size := 1) wa #[.slice A8 (p.length + 1) c8] 1 (Nat.le_refl _) (by unfold maxLen; omega) rfl)); clear howna hga hata)
                | (at_builtin; refine append_paths rfl (.tmp 83) (.tmp 85) rfl w.heap.size _ L.length pv2 rfl (Hpa.out.alloc _) _ 1 [.slice A8 (p.length + 1) c8] rfl Hla.out (by simp [Value.oneCell']) (by omega) (by simp; omega) ?_; intro vb wb hownb hgb hatb; obtain ⟨Ab, cb, hvb⟩ := slice_of_own hownb; subst hvb; have Hpb := Lib.hid hownb; have Hgb := Lib.hid hgb; have Hatb := Lib.hid hatb; clear hownb hgb hatb))
              go_roundw
              case rel => exact ⟨_, _, j + 1, m2 + 1, pv2 ++ [.slice A8 (p.length + 1) c8], _, rfl, rfl, by go_num, by omega, by omega, Hnb2, Lib.hid (by rw [HL2.out, Hsu.out, HPu.out]; exact HV8.out.push HS8.out (fun g h => .inl h) HF8.out Hset9.out Hg9.out Hqa.out Hga.out Hata.out Hpb.out Hgb.out Hatb.out), by
                have b1 := Hb58.out.grown Hg9.out Hb58.out.size (fun q hq => by have := Option.some.inj hq; omega)
                have b2 := (b1.alloc b1.size (.cells #[.int .i64 N] 3)).grown Hga.out (b1.alloc b1.size _).size (own_ge0 Hq9.out)
                exact (b2.alloc b2.size (.cells #[.slice A8 (p.length + 1) c8] 29)).grown Hgb.out (b2.alloc b2.size _).size (own_ge0 Hpa.out)⟩
              case measure => simp [intOf] <;> omega
            · have HPu := Lib.hid (Cir.vpush_yes (p := p ++ [j]) hc)
              have hlk := run_look_set HV5.out.s N (by omega)
              rw [hc] at hlk
              go_wp2_with fail
              go_roundw
              case rel => exact ⟨_, _, j + 1, m2, pv2, F2, rfl, rfl, by go_num, by omega, by omega, Hnb2, Lib.hid (by rw [HL2.out, Hsu.out, HPu.out]; exact HV5.out), Hb5.out⟩
              case measure => simp [intOf] <;> omega
          · have Hf := Lib.hid (Cir.vfind_some (M := 2 ^ d.ins) (by rw [← HM.out]; exact hlj) hbad Hnb.out)
            clear hbad Hnb
            have Hr : res = some (p ++ [j]) := by rw [hres.out]; exact Cir.vbfs_hit Hgs.out Hf.out
            clear hres
            subst Hr
            go_wp2_with fail
            refine (cloneSS_any _ p.length _ _ (by have := Row5.out; exact this) One5.out (by omega)).mono ?_
            rintro e w6 ⟨v6, rfl, ho6, hb6⟩
            have hz6 := hb6.size
            have Ho6 := Lib.hid ho6
            have Hb6 := Lib.hid hb6
            clear ho6 hb6
            go_wp2_with fail
            refine (bitsOf_any j d.ins _ (by omega) (by omega)).mono ?_
            rintro e w7 ⟨v7, rfl, ho7, hb7⟩
            have hz7 := hb7.size
            have Ho6b := Lib.hid (own_below Ho6.out hb7)
            have Hb7 := Lib.hid (Hb6.out.trans (hb7.mono hz6))
            have Ho7 := Lib.hid (own_mono ho7 hz6)
            have Hge7 := Lib.hid (own_ge0 ho7)
            obtain ⟨A7, c7, hv7⟩ := slice_of_own Ho7.out
            subst hv7
            have Hlit := Lib.hid (Row.of_own (World.ownsRow_lit (base := w7.heap.size) (e := 64) (size := 1) w7 #[.slice A7 (Cir.bits j d.ins).length c7] 1 (Nat.le_refl _) (by unfold maxLen; omega) rfl))
            clear ho7 hb7
            go_wp2_with (at_builtin; refine append_rows rfl (.tmp 57) (.tmp 61) rfl w5.heap.size _ p.length _ rfl (Ho6b.out.alloc _) _ 1 [.slice A7 (Cir.bits j d.ins).length c7] rfl Hlit.out (by simp [Value.oneCell']) (by omega) (by simp; omega) ?_; intro v8 w8 hown8 hg8 hat8; obtain ⟨A8, c8, hv8⟩ := slice_of_own hown8; subst hv8; have Hp8 := Lib.hid hown8; have Hg8 := Lib.hid hg8; have hz8 := hg8.size; rw [World.size_alloc] at hz8; have Ho8 := Lib.hid (own_kept (Ho7.out.alloc (.cells #[.slice A7 (Cir.bits j d.ins).length c7] 64)) hg8 (fun g h1 h2 => by have h3 := Hge7.out g h1; have h4 := (Ho6.out.lt g h2).2; omega)); have Hb8 := Lib.hid ((Hb7.out.alloc (Nat.le_trans hz6 hz7) _).grown hg8 (by simp; omega) (own_ge0 Ho6b.out)); clear hown8 hg8 hat8)
            have HS8 : Hid (SSIn bools (fun g => F2 g ∨ (w5.heap.size ≤ g ∧ g < w8.heap.size)) w8 (.slice A8 (p.length + 1) c8) (rowsOf d.ins (p ++ [j]))) := Lib.hid (by
              rw [rowsOf_snoc]
              exact SSIn.snoc (by rw [rowsOf_length]; exact hvl5) (fun i x u hx hu => (Hel5.out i x u hx hu).below Hb8.out) Ho8.out (by rw [rowsOf_length]; exact Hp8.out))
            have HV8 := Lib.hid (HV5.out.below Hb8.out)
            have HF8 : Hid (∀ g, (F2 g ∨ (w5.heap.size ≤ g ∧ g < w8.heap.size)) → g < w8.heap.size ∧ (Value.slice (some ⟨gq, 0, none⟩) L.length cq).ownBlock ≠ some g ∧ (Value.slice (some ⟨gp, 0, none⟩) L.length cp).ownBlock ≠ some g ∧ g ≠ w.heap.size + 1 + 1) := Lib.hid (fun g hg => by
              rcases hg with hg | hg
              · exact HV8.out.f g hg
              · have h3 := HV5.out.s.lt
                refine ⟨hg.2, fun h => ?_, fun h => ?_, by omega⟩
                · have h2 := (HV5.out.q.lt g h).2; omega
                · have h2 := (HV5.out.p.lt g h).2; omega)
            have Hb58 := Lib.hid (Hb5.out.trans (Hb8.out.mono (by omega)))
            have hz58 := Hb8.out.size
            have hlp : (rowsOf d.ins (p ++ [j])).length = p.length + 1 := by rw [rowsOf_length, List.length_append, List.length_singleton]
            have HSS : Hid (SSAt bools w8 (.slice A8 (p.length + 1) c8) (rowsOf d.ins (p ++ [j]))) := Lib.hid HS8.out.at
            have Hbits : Hid (∀ x ∈ rowsOf d.ins (p ++ [j]), x.length = d.ins) := Lib.hid (fun x hx => by
              unfold rowsOf at hx
              obtain ⟨y, _, rfl⟩ := List.mem_map.1 hx
              exact Cir.bits_length _ _)
            generalize hRe : rowsOf d.ins (p ++ [j]) = R at *
            have HRe := Lib.hid hRe
            clear hRe
            clear Ho6 Ho6b Ho7 Hge7 Hlit Hp8 Ho8 Hg8 HV5 HS5 Row5 Hrow5 Hel5 One5 Hb6 Hb7 hz6 hz7 HS8 HV8 HF8 Hf
            obtain ⟨Wz, hWz⟩ : ∃ Wz, Wz = w8 := ⟨_, rfl⟩
            subst hWz
            go_loopw [16, 66] (fun v i wr3 => ∃ (vv : Value) (q : Nat), vv = v ∧ i = .int .i64 q ∧ q ≤ p.length + 1 ∧ Hid (OwnSE bools 64 4 Wz.heap.size (fun g => g < wr3.heap.size) wr3 v (R.take q)) ∧ Below Wz.heap.size Wz wr3) (fun _ i _ => p.length + 1 - (intOf i).toNat)
            case atStart => exact ⟨_, 0, rfl, rfl, Nat.zero_le _, Lib.hid (OwnSE.nil _ _ _ _ _ _), Below.refl _ _⟩
            case round =>
              obtain ⟨vv, q, hvv, rfl, hq, HO, hb3⟩ := hrel
              subst hvv
              have Hb3 := Lib.hid hb3
              have hz3 := hb3.size
              by_cases hlq : q < p.length + 1
              · obtain ⟨x, hx⟩ := at_some (show q < R.length by omega)
                obtain ⟨b, o', Bx, mx, hAx, hbl, hc1, hm1, hm2, hrx⟩ := ss_open HSS.out hb3 hx
                cases hAx
                have hxl : x.length ≤ 1000 := by have := Hbits.out x (List.mem_of_getElem? hx); omega
                have HSn : Hid (R.take (q + 1) = R.take q ++ [x]) := Lib.hid (take_snoc hx)
                have Hrx := Lib.hid hrx
                have HtL : Hid ((R.take q).length = q) := Lib.hid (by rw [List.length_take]; omega)
                clear hb3 hrx hx
                generalize R.take q = Rq at *
                go_wp2_with fail
                refine (cloneB_any _ x.length _ _ Hrx.out (bools_one x) (by omega)).mono ?_
                rintro e wc ⟨vc, rfl, hoc, hbc⟩
                have hzc := hbc.size
                have HOc := Lib.hid (OwnSE.below HO.out hbc)
                have Hoc := Lib.hid (own_mono hoc hz3)
                have Hgec := Lib.hid (own_ge0 hoc)
                have Hbc := Lib.hid (Hb3.out.trans (hbc.mono hz3))
                obtain ⟨Ac, cc, hvc⟩ := slice_of_own hoc
                subst hvc
                have Hlc := Lib.hid (Row.of_own (World.ownsRow_lit (base := wc.heap.size) (e := 64) (size := 1) wc #[.slice Ac x.length cc] 1 (Nat.le_refl _) (by unfold maxLen; omega) rfl))
                have hHOl := HOc.out.below (bel_new wc (.cells #[.slice Ac x.length cc] 64))
                obtain ⟨us, q1, q2, q3, q4, q5, q6, q7⟩ := hHOl
                rw [HtL.out] at q2
                have Q2 := Lib.hid q2
                have Q := Lib.hid (And.intro q1 (And.intro q3 (And.intro q4 (And.intro q5 (And.intro q6 q7)))))
                have Hol := Lib.hid (Hoc.out.alloc (.cells #[.slice Ac x.length cc] 64))
                clear hoc hbc HO HOc q1 q2 q3 q4 q5 q6 q7
                go_wp2_with (at_builtin; refine append_rows rfl (.tmp 70) (.tmp 73) rfl Wz.heap.size _ q us rfl Q2.out _ 1 [.slice Ac x.length cc] rfl Hlc.out (by simp [Value.oneCell']) (by omega) (by simp; omega) ?_; intro v9 w9 hown9 hg9 hat9; have HSE := Lib.hid (se_append Q.out.1 Q.out.2.1 Q.out.2.2.1 Q.out.2.2.2.1 Q.out.2.2.2.2.1 Q.out.2.2.2.2.2 Hol.out (fun g h1 h2 => by have := Hgec.out g h1; omega) (by rw [HtL.out]; exact hown9) hg9 hat9); have Hg9 := Lib.hid hg9; have hz9 := hg9.size; rw [World.size_alloc] at hz9; have Hol9 := Lib.hid (fun g h => (Hol.out.lt g h).2); have Hown9 := Lib.hid hown9; clear hown9 hg9 hat9)
                go_roundw
                case rel => exact ⟨_, q + 1, rfl, by go_num, by omega, Lib.hid (by
                  rw [HSn.out]
                  refine HSE.out.mono (Nat.le_refl _) (fun g hg => ?_)
                  rcases hg with hg | hg | hg
                  · omega
                  · have h := Hol9.out g hg; rw [World.size_alloc] at h; omega
                  · exact (Hown9.out.lt g hg).2), (Hbc.out.alloc Hbc.out.size _).grown Hg9.out (Hbc.out.alloc Hbc.out.size _).size (own_ge0 Q2.out)⟩
                case measure => simp [intOf] <;> omega
              · obtain rfl : q = p.length + 1 := by omega
                have HOf : Hid (OwnSE bools 64 4 w.heap.size (fun g => g < wr.heap.size) wr vv R) := Lib.hid (by
                  have := HO.out
                  rw [List.take_of_length_le (by omega)] at this
                  exact this.mono (by omega) (fun g h => h))
                clear hb3
                go_wp2_with fail
                exact bodyPost_ret (v := .tuple #[vv, .bool true]) (by simp [results, Try.results35, go_sem]) rfl ⟨_, rfl, by rw [HRe.out]; exact HOf.out, Hb58.out.trans (Hb3.out.mono (by omega))⟩
        · obtain rfl : j = M := by omega
          have Hf := Lib.hid (Cir.vfind_none (M := 2 ^ d.ins) (by rw [← HM.out]; exact Hnb.out))
          have HMr : Hid (res = Cir.vbfs d o (9 - (k + 1)) (k + 1) (Cir.vpushes d s p j l)) := Lib.hid (by rw [hres.out, Cir.vbfs_step Hgs.out Hf.out, HM.out])
          clear Hnb
          generalize Cir.vpushes d s p j l = L at *
          go_wp2_with fail
          go_roundw
          case rel => exact ⟨_, _, k + 1, m2, L, pv2, F2, rfl, rfl, by go_num, by omega, by omega, hL8, by omega, Hvs2, HMr, HV2, Hb2.out⟩
          case measure => simp [intOf] <;> omega
    · obtain rfl : k = l.length := by omega
      have hr : res = none := by rw [hres.out, Cir.vbfs_end]
      obtain ⟨gq, cq, hvq, hgq, hgq2, hcq, hcqm⟩ := own_open HV.out.q (by have := hpos; omega)
      subst hvq
      unfold maxLen at hcqm
      subst hr
      go_wp2_with fail
      exact bodyPost_ret (v := .tuple #[.slice none 0 0, .bool false]) (by simp [results, Try.results35, go_sem]) rfl ⟨rfl, Hb.out⟩
end Go.Proofs.Ytdgminjbgjbamaa
namespace Go.Proofs.Ytdgminjbgjbamaa
open Go.RowKit
namespace Cir
def violI (c : Cz) (o : Int) : Option (List Nat) := if valid c = true ∧ 0 ≤ o ∧ o < c.outs.length then viol (nat c) o.toNat else none
end Cir
def vrows (ins : Nat) : Option (List Nat) → List (List Bool)
  | none => []
  | some p => rowsOf ins p
def OwnViol (ins : Nat) (r : Option (List Nat)) (w : World) (e : Ending) (w' : World) : Prop := ∃ v, e = .returned (.agg #[.bool r.isSome, v]) ∧ OwnBoolSS w.heap.size w'.heap.size w' v (vrows ins r) ∧ Below w.heap.size w w'
theorem OwnSS.set {α : Type} {enc : List α → List Value} {tO ti : TypeId} {B T : Nat} {w : World} {v : Value} {xss : List (List α)} {g i : Nat} {u : Value} (h : OwnSS enc tO ti B T w v xss) (hg : g < B) : OwnSS enc tO ti B T (w.setCell ⟨g, i, none⟩ u) v xss := by
  refine h.only (E := fun k => k = g) (Only.grown (set_grown w g i u) fun k hk => (Option.some.inj hk).symm) (fun k hk _ e => by omega)
theorem viol_cases {c : Cz} {o : Int} (h : ¬ (Cir.valid c = true ∧ 0 ≤ o ∧ o < c.outs.length)) : Cir.valid c = false ∨ (Cir.valid c = true ∧ o < 0) ∨ (Cir.valid c = true ∧ 0 ≤ o ∧ (c.outs.length : Int) ≤ o) := by
  cases hv : Cir.valid c
  · exact .inl rfl
  · rw [hv] at h
    rcases Int.lt_or_le o 0 with h1 | h1
    · exact .inr (.inl ⟨rfl, h1⟩)
    · rcases Int.lt_or_le o c.outs.length with h2 | h2
      · exact absurd ⟨rfl, h1, h2⟩ h
      · exact .inr (.inr ⟨rfl, h1, h2⟩)
theorem implViol_ok (v : Value) (d : Ci) (o : Nat) (w : World) (h : CircAt w v (Cir.toCz d)) (hd : Cir.Ok d) (hv : Cir.valid (Cir.toCz d) = true) (ho : o < d.outs.length) :
    Calls Try.prog 8 #[v, .int .i64 o] w (OwnViol d.ins (Cir.viol d o) w) := by
  have l1 := hd.ins
  have HC := Lib.hid h
  obtain ⟨vn, vg, vo, rfl, r1, r2, r3⟩ := h
  obtain ⟨Ao, co, rfl, hco, hcom⟩ := NatsAt.shape (xs := d.outs) r3
  have hins : (Cir.toCz d).ins = (d.ins : Int) := rfl
  have HP := Lib.hid (PCirc.boxed (c := Cir.toCz d) 26 r1 r2 r3)
  rw [hins] at HC HP ⊢
  have hb0 := bel_new w (.cells #[.int .i64 d.ins, vn, vg, .slice Ao d.outs.length co] 26)
  have hb1 := bel_new (w.alloc (.cells #[.int .i64 d.ins, vn, vg, .slice Ao d.outs.length co] 26)) (.cells #[.int .i64 o] 3)
  have hb2 := bel_new ((w.alloc (.cells #[.int .i64 d.ins, vn, vg, .slice Ao d.outs.length co] 26)).alloc (.cells #[.int .i64 o] 3)) (.cells #[.bool false, .slice none 0 0] 31)
  have hb12 := hb1.trans (hb2.mono hb1.size)
  have B0 := Lib.hid (hb0.trans (hb12.mono hb0.size))
  have HP := Lib.hid (HP.out.below hb12)
  have PC := Lib.hid ((PCells.boxed w d.ins vn vg (.slice Ao d.outs.length co) 26).below hb12)
  have hsz : (((w.alloc (.cells #[.int .i64 d.ins, vn, vg, .slice Ao d.outs.length co] 26)).alloc (.cells #[.int .i64 o] 3)).alloc (.cells #[.bool false, .slice none 0 0] 31)).heap.size = w.heap.size + 1 + 1 + 1 := by simp
  have hR : (((w.alloc (.cells #[.int .i64 d.ins, vn, vg, .slice Ao d.outs.length co] 26)).alloc (.cells #[.int .i64 o] 3)).alloc (.cells #[.bool false, .slice none 0 0] 31)).heap[w.heap.size + 1 + 1]? = some (.cells #[.bool false, .slice none 0 0] 31 (0, 0)) := by
    have := heap_alloc_new ((w.alloc (.cells #[.int .i64 d.ins, vn, vg, .slice Ao d.outs.length co] 26)).alloc (.cells #[.int .i64 o] 3)) (.cells #[.bool false, .slice none 0 0] 31)
    rwa [World.size_alloc, World.size_alloc] at this
  have HRes := Lib.hid hR
  have hGo : (((w.alloc (.cells #[.int .i64 d.ins, vn, vg, .slice Ao d.outs.length co] 26)).alloc (.cells #[.int .i64 o] 3)).alloc (.cells #[.bool false, .slice none 0 0] 31)).cell? ⟨w.heap.size + 1, 0, none⟩ = some (.int .i64 o) := by
    have h1 := heap_alloc_new (w.alloc (.cells #[.int .i64 d.ins, vn, vg, .slice Ao d.outs.length co] 26)) (.cells #[.int .i64 o] 3)
    rw [World.size_alloc] at h1
    have h2 := (hb2.block (w.heap.size + 1) (by simp)).trans h1
    exact blk_cell h2 0
  have HGo := Lib.hid hGo
  obtain ⟨z, p0, p1, p2, p3⟩ := PC.out
  have HC0 := Lib.hid (HC.out.below B0.out)
  have HV := Lib.hid (implValid_any _ _ _ HC0.out)
  rw [hv] at HV
  have Hd := Lib.hid hd
  have Ho := Lib.hid ho
  have t1 : decide ((o : Int) < 0) = false := decide_eq_false (by omega)
  have t2 : decide (d.outs.length ≤ o) = false := decide_eq_false (by omega)
  clear r1 r2 r3 hd hins hv HC hb0 hb1 hb2 hb12 hR ho hco hcom hGo
  go_enter Try.func8, Try.ntmps8
  go_wp2_with fail
  generalize ((w.alloc (.cells #[.int .i64 d.ins, vn, vg, .slice Ao d.outs.length co] 26)).alloc (.cells #[.int .i64 o] 3)).alloc (.cells #[.bool false, .slice none 0 0] 31) = W at *
  refine HV.out.mono ?_
  rintro e w1 ⟨rfl, hb1⟩
  have B1 := Lib.hid (B0.out.trans (hb1.mono B0.out.size))
  have HP1 := Lib.hid (HP.out.below hb1)
  have HRes1 := Lib.hid ((hb1.block _ (by omega)).trans HRes.out)
  have PC1 := Lib.hid (PC.out.below hb1)
  have c1 := (hb1.cell (p := ⟨w.heap.size + 1, 0, none⟩) (by simp only; omega)).trans HGo.out
  have HGo1 := Lib.hid c1
  have z1 := hb1.size
  clear hb1 p0 p1 p2 p3 z HV HP HC0 HRes PC HGo
  obtain ⟨z, p0, p1, p2, p3⟩ := PC1.out
  go_wp2_with fail
  refine (searchV_any w.heap.size (w.heap.size + 1) d o _ HP1.out HGo1.out (by omega) Hd.out Ho.out).mono ?_
  intro e w2 hS
  generalize Cir.viol d o = R at *
  cases R with
  | none =>
    obtain ⟨rfl, hb2⟩ := hS
    have hR2 := (hb2.block (w.heap.size + 1 + 1) (by omega)).trans HRes1.out
    have o0 := blk_cell hR2 0
    have o1 := blk_cell hR2 1
    have b0 := blk_free hR2 0
    have b1 := blk_free hR2 1
    simp at o0 o1
    have B2 := Lib.hid (B1.out.trans (hb2.mono B1.out.size))
    clear hb2 hR2 p0 p1 p2 p3
    go_wp2_with fail
    refine bodyPost_ret (v := .agg #[.bool false, .slice none 0 0]) (by simp [results, Try.results8, go_sem, o0, o1]) rfl ⟨_, rfl, OwnSS.nil _ _ _ _ _ _, ?_⟩
    exact ((B2.out.setCell (by simp only; omega) _).setCell (by simp only; omega) _)
  | some p =>
    obtain ⟨v2, rfl, hO, hb2⟩ := hS
    have hR2 := (hb2.block (w.heap.size + 1 + 1) (by omega)).trans HRes1.out
    have o0 := blk_cell hR2 0
    have o1 := blk_cell hR2 1
    have b0 := blk_free hR2 0
    have b1 := blk_free hR2 1
    simp at o0 o1
    have B2 := Lib.hid (B1.out.trans (hb2.mono B1.out.size))
    have HO := Lib.hid hO
    obtain ⟨A2, c2, hv2, -⟩ := hO.at.shape
    subst hv2
    clear hb2 hR2 p0 p1 p2 p3 hO
    go_wp2_with fail
    refine bodyPost_ret (v := .agg #[.bool true, .slice A2 (rowsOf d.ins p).length c2]) (by simp [results, Try.results8, go_sem, o0, o1]) rfl ⟨_, rfl, ?_, ?_⟩
    · exact (OwnSS.set (OwnSS.set (HO.out) (by omega)) (by omega)).mono (by omega) (by simp [World.setCell])
    · exact ((B2.out.setCell (by simp only; omega) _).setCell (by simp only; omega) _)
end Go.Proofs.Ytdgminjbgjbamaa
namespace Go.Proofs.Ytdgminjbgjbamaa
open Go.RowKit
theorem implViol_no (v : Value) (c : Cz) (o : Int) (w : World) (h : CircAt w v c) (hno : Cir.valid c = false ∨ (Cir.valid c = true ∧ o < 0) ∨ (Cir.valid c = true ∧ 0 ≤ o ∧ (c.outs.length : Int) ≤ o)) :
    Calls Try.prog 8 #[v, .int .i64 o] w (OwnViol (Cir.nat c).ins none w) := by
  have HC := Lib.hid h
  obtain ⟨An, cn, Ag, cg, Ao, co, rfl⟩ := h.shape
  have hb0 := bel_new w (.cells #[.int .i64 c.ins, .slice An c.next.length cn, .slice Ag c.gates.length cg, .slice Ao c.outs.length co] 26)
  have hb1 := bel_new (w.alloc (.cells #[.int .i64 c.ins, .slice An c.next.length cn, .slice Ag c.gates.length cg, .slice Ao c.outs.length co] 26)) (.cells #[.int .i64 o] 3)
  have hb2 := bel_new ((w.alloc (.cells #[.int .i64 c.ins, .slice An c.next.length cn, .slice Ag c.gates.length cg, .slice Ao c.outs.length co] 26)).alloc (.cells #[.int .i64 o] 3)) (.cells #[.bool false, .slice none 0 0] 31)
  have hb12 := hb1.trans (hb2.mono hb1.size)
  have B0 := Lib.hid (hb0.trans (hb12.mono hb0.size))
  have PC := Lib.hid ((PCells.boxed w c.ins (.slice An c.next.length cn) (.slice Ag c.gates.length cg) (.slice Ao c.outs.length co) 26).below hb12)
  have hsz : (((w.alloc (.cells #[.int .i64 c.ins, .slice An c.next.length cn, .slice Ag c.gates.length cg, .slice Ao c.outs.length co] 26)).alloc (.cells #[.int .i64 o] 3)).alloc (.cells #[.bool false, .slice none 0 0] 31)).heap.size = w.heap.size + 1 + 1 + 1 := by simp
  have hR : (((w.alloc (.cells #[.int .i64 c.ins, .slice An c.next.length cn, .slice Ag c.gates.length cg, .slice Ao c.outs.length co] 26)).alloc (.cells #[.int .i64 o] 3)).alloc (.cells #[.bool false, .slice none 0 0] 31)).heap[w.heap.size + 1 + 1]? = some (.cells #[.bool false, .slice none 0 0] 31 (0, 0)) := by
    have := heap_alloc_new ((w.alloc (.cells #[.int .i64 c.ins, .slice An c.next.length cn, .slice Ag c.gates.length cg, .slice Ao c.outs.length co] 26)).alloc (.cells #[.int .i64 o] 3)) (.cells #[.bool false, .slice none 0 0] 31)
    rwa [World.size_alloc, World.size_alloc] at this
  have HRes := Lib.hid hR
  have hGo : (((w.alloc (.cells #[.int .i64 c.ins, .slice An c.next.length cn, .slice Ag c.gates.length cg, .slice Ao c.outs.length co] 26)).alloc (.cells #[.int .i64 o] 3)).alloc (.cells #[.bool false, .slice none 0 0] 31)).cell? ⟨w.heap.size + 1, 0, none⟩ = some (.int .i64 o) := by
    have h1 := heap_alloc_new (w.alloc (.cells #[.int .i64 c.ins, .slice An c.next.length cn, .slice Ag c.gates.length cg, .slice Ao c.outs.length co] 26)) (.cells #[.int .i64 o] 3)
    rw [World.size_alloc] at h1
    have h2 := (hb2.block (w.heap.size + 1) (by simp)).trans h1
    exact blk_cell h2 0
  have HGo := Lib.hid hGo
  obtain ⟨z, p0, p1, p2, p3⟩ := PC.out
  have HV := Lib.hid (implValid_any _ _ _ (HC.out.below B0.out))
  have Hno := Lib.hid hno
  clear HC hb0 hb1 hb2 hb12 hR hGo hno
  rcases Hno.out with hv | ⟨hv, h1⟩ | ⟨hv, h1, h2⟩
  ·
    skip
    rw [hv] at HV
    skip
    clear hv Hno
    go_enter Try.func8, Try.ntmps8
    go_wp2_with fail
    generalize ((w.alloc (.cells #[.int .i64 c.ins, .slice An c.next.length cn, .slice Ag c.gates.length cg, .slice Ao c.outs.length co] 26)).alloc (.cells #[.int .i64 o] 3)).alloc (.cells #[.bool false, .slice none 0 0] 31) = W at *
    refine HV.out.mono ?_
    rintro e w1 ⟨rfl, hb1⟩
    have B1 := Lib.hid (B0.out.trans (hb1.mono B0.out.size))
    have PC1 := Lib.hid (PC.out.below hb1)
    have c1 := (hb1.cell (p := ⟨w.heap.size + 1, 0, none⟩) (by simp only; omega)).trans HGo.out
    have hR1 := (hb1.block _ (by omega)).trans HRes.out
    have z1 := hb1.size
    have o0 := blk_cell hR1 0
    have o1 := blk_cell hR1 1
    have b0 := blk_free hR1 0
    have b1 := blk_free hR1 1
    simp at o0 o1
    clear hb1 hR1 p0 p1 p2 p3 z HV HRes PC HGo
    obtain ⟨z, p0, p1, p2, p3⟩ := PC1.out
    go_wp2_with fail
    refine bodyPost_ret (v := .agg #[.bool false, .slice none 0 0]) (by simp [results, Try.results8, go_sem, o0, o1]) rfl ⟨_, rfl, OwnSS.nil _ _ _ _ _ _, ?_⟩
    exact ((B1.out.setCell (by simp only; omega) _).setCell (by simp only; omega) _)
  ·
    have t1 : decide (o < 0) = true := decide_eq_true h1
    rw [hv] at HV
    clear h1
    clear hv Hno
    go_enter Try.func8, Try.ntmps8
    go_wp2_with fail
    generalize ((w.alloc (.cells #[.int .i64 c.ins, .slice An c.next.length cn, .slice Ag c.gates.length cg, .slice Ao c.outs.length co] 26)).alloc (.cells #[.int .i64 o] 3)).alloc (.cells #[.bool false, .slice none 0 0] 31) = W at *
    refine HV.out.mono ?_
    rintro e w1 ⟨rfl, hb1⟩
    have B1 := Lib.hid (B0.out.trans (hb1.mono B0.out.size))
    have PC1 := Lib.hid (PC.out.below hb1)
    have c1 := (hb1.cell (p := ⟨w.heap.size + 1, 0, none⟩) (by simp only; omega)).trans HGo.out
    have hR1 := (hb1.block _ (by omega)).trans HRes.out
    have z1 := hb1.size
    have o0 := blk_cell hR1 0
    have o1 := blk_cell hR1 1
    have b0 := blk_free hR1 0
    have b1 := blk_free hR1 1
    simp at o0 o1
    clear hb1 hR1 p0 p1 p2 p3 z HV HRes PC HGo
    obtain ⟨z, p0, p1, p2, p3⟩ := PC1.out
    go_wp2_with fail
    refine bodyPost_ret (v := .agg #[.bool false, .slice none 0 0]) (by simp [results, Try.results8, go_sem, o0, o1]) rfl ⟨_, rfl, OwnSS.nil _ _ _ _ _ _, ?_⟩
    exact ((B1.out.setCell (by simp only; omega) _).setCell (by simp only; omega) _)
  ·
    have t1 : decide (o < 0) = false := decide_eq_false (by omega)
    rw [hv] at HV
    have t2 : decide ((c.outs.length : Int) ≤ o) = true := decide_eq_true h2
    clear h1 h2
    clear hv Hno
    go_enter Try.func8, Try.ntmps8
    go_wp2_with fail
    generalize ((w.alloc (.cells #[.int .i64 c.ins, .slice An c.next.length cn, .slice Ag c.gates.length cg, .slice Ao c.outs.length co] 26)).alloc (.cells #[.int .i64 o] 3)).alloc (.cells #[.bool false, .slice none 0 0] 31) = W at *
    refine HV.out.mono ?_
    rintro e w1 ⟨rfl, hb1⟩
    have B1 := Lib.hid (B0.out.trans (hb1.mono B0.out.size))
    have PC1 := Lib.hid (PC.out.below hb1)
    have c1 := (hb1.cell (p := ⟨w.heap.size + 1, 0, none⟩) (by simp only; omega)).trans HGo.out
    have hR1 := (hb1.block _ (by omega)).trans HRes.out
    have z1 := hb1.size
    have o0 := blk_cell hR1 0
    have o1 := blk_cell hR1 1
    have b0 := blk_free hR1 0
    have b1 := blk_free hR1 1
    simp at o0 o1
    clear hb1 hR1 p0 p1 p2 p3 z HV HRes PC HGo
    obtain ⟨z, p0, p1, p2, p3⟩ := PC1.out
    go_wp2_with fail
    refine bodyPost_ret (v := .agg #[.bool false, .slice none 0 0]) (by simp [results, Try.results8, go_sem, o0, o1]) rfl ⟨_, rfl, OwnSS.nil _ _ _ _ _ _, ?_⟩
    exact ((B1.out.setCell (by simp only; omega) _).setCell (by simp only; omega) _)
theorem implViol_any (v : Value) (c : Cz) (o : Int) (w : World) (h : CircAt w v c) :
    Calls Try.prog 8 #[v, .int .i64 o] w (OwnViol (Cir.nat c).ins (Cir.violI c o) w) := by
  by_cases hc : Cir.valid c = true ∧ 0 ≤ o ∧ o < c.outs.length
  · obtain ⟨d1, d2⟩ := Cir.nat_ok hc.1
    obtain ⟨m, rfl⟩ := Int.eq_ofNat_of_zero_le hc.2.1
    have hr : Cir.violI c (m : Int) = Cir.viol (Cir.nat c) m := by unfold Cir.violI; rw [if_pos hc]; rfl
    rw [hr]
    exact implViol_ok v (Cir.nat c) m w (by rw [← d1]; exact h) d2 (by rw [← d1]; exact hc.1) (by have := hc.2.2; unfold Cir.nat; simp only [List.length_map]; omega)
  · have hr : Cir.violI c o = none := by unfold Cir.violI; rw [if_neg hc]
    rw [hr]
    exact implViol_no v c o w h (viol_cases hc)
def TBits (B : Nat) (xs : List Bool) : Ty := fun w v => RowIn (From B) w 1 v xs.length (bools xs)
def TFront (B : Nat) (xs : List Bool) : Ty := fun w v => ∃ g u, v = .slice (some ⟨g, 0, none⟩) 1 1 ∧ B ≤ g ∧ g < w.heap.size ∧ w.cell? ⟨g, 0, none⟩ = some u ∧ RowIn (From B) w 1 u xs.length (bools xs)
def TSS (B : Nat) (xss : List (List Bool)) : Ty := fun w v => SSIn bools (From B) w v xss
end Go.Proofs.Ytdgminjbgjbamaa
namespace Go.Proofs.Ytdgminjbgjbamaa
open Go.RowKit
section
variable {S : RS} {Fin : List Ty → Prop} {o : Oper} {l : List Oper} {i : Nat} {τs : List Ty}
end
end Go.Proofs.Ytdgminjbgjbamaa
namespace Go.Proofs.Ytdgminjbgjbamaa
open Go.RowKit
end Go.Proofs.Ytdgminjbgjbamaa
namespace Go.Proofs.Ytdgminjbgjbamaa
open Go.RowKit
def SpecViol (ins : Nat) (r : Option (List Nat)) (w : World) (e : Ending) (w' : World) : Prop := (∃ v, e = .returned (.agg #[.bool r.isSome, v]) ∧ SSAt bools w' v (vrows ins r)) ∧ Below w.heap.size w w'
structure VT (B : Nat) (l : List (Nat × List Nat)) (fr how : List Nat) (vs vf vh : Value) (w : World) : Prop where
  s : w.ownsRow B 3 1 vs l.length (nints (Cir.vsts l))
  f : w.ownsRow B 3 1 vf l.length (nints fr)
  h : w.ownsRow B 3 1 vh l.length (nints how)
  a1 : Apart vs vf
  a2 : Apart vs vh
  a3 : Apart vf vh
def TPB (b : Bool) : Ty := fun w v => ∃ g i, v = .pointer (some ⟨g, i, none⟩) ∧ g < w.heap.size ∧ w.cell? ⟨g, i, none⟩ = some (.bool b)
end Go.Proofs.Ytdgminjbgjbamaa