import Derived.Test.YtmlcbikljlhhkaaCirB
import Derived.Deep.RegionWith
namespace Go.Proofs.Ytmlcbikljlhhkaa
open Go.RowKit
theorem isLit_in (x V : Int) : decide (0 ≤ x ∧ x ≤ 2 * V - 1) = Cir.isLit x V := by
  unfold Cir.isLit
  exact decide_eq_decide.2 ⟨fun h => by omega, fun h => by omega⟩
theorem l1Lits_any (v : Value) (xs : List Int) (V : Int) (w : World) (h : IntsAt w v xs) (h1 : -1000000 ≤ V) (h2 : V ≤ 1000000) :
    Calls Try.prog 125 #[v, .int .i64 V] w fun e w' => e = .returned (.bool (xs.all (Cir.isLit · V))) ∧ w = w' := by
  obtain ⟨A, c, hv, hc, hcm⟩ := h.shape
  subst hv
  unfold maxLen at hcm
  have h0 : Hid (xs.all (Cir.isLit · V) = (xs.drop 0).all (Cir.isLit · V)) := Lib.hid rfl
  generalize xs.all (Cir.isLit · V) = res at h0 ⊢
  go_enter Try.func125, Try.ntmps125
  go_wp2_with fail
  go_loop [5] (fun i => ∃ k : Nat, k ≤ xs.length ∧ i = .int .i64 k ∧ Hid (res = (xs.drop k).all (Cir.isLit · V))) (fun i => xs.length - (intOf i).toNat)
  case atStart => exact ⟨0, Nat.zero_le _, rfl, h0⟩
  case round =>
    obtain ⟨k, hk, rfl, hres⟩ := hrel
    by_cases hlt : k < xs.length
    · obtain ⟨b, o, x, rfl, hbl, hx, hs1⟩ := ints_open h (Below.refl _ _) rfl hlt
      have Hstep := Lib.hid (all_drop (p := (Cir.isLit · V)) hx.out)
      have Hin := Lib.hid (isLit_in x V)
      clear h h0
      cases h3 : Cir.isLit x V
      · have H1 := Lib.hid h3
        have hr : res = false := by rw [hres.out, Hstep.out, h3]; rfl
        subst hr
        clear h3
        go_wp2_with fail
        refine (l1In_any _ _ _ _).mono ?_
        rintro e w' ⟨rfl, rfl⟩
        rw [Hin.out, H1.out]
        go_wp2_with fail
        go_ret
        exact ⟨rfl, rfl⟩
      · have H1 := Lib.hid h3
        have Hn : Hid (res = (xs.drop (k + 1)).all (Cir.isLit · V)) := Lib.hid (by rw [hres.out, Hstep.out, h3]; rfl)
        clear h3
        go_wp2_with fail
        refine (l1In_any _ _ _ _).mono ?_
        rintro e w' ⟨rfl, rfl⟩
        rw [Hin.out, H1.out]
        go_wp2_with fail
        go_round
        case rel => exact ⟨k + 1, by omega, by go_num, Hn⟩
        case measure => simp [intOf] <;> omega
    · have hr : res = true := by rw [hres.out, List.drop_eq_nil_of_le (by omega : xs.length ≤ k)]; rfl
      subst hr
      go_wp2_with fail
      go_ret
      exact ⟨rfl, rfl⟩
theorem l1First_any (v : Value) (c : Cz) (w : World) (h : CircAt w v c) (h1 : 0 ≤ c.ins) (h2 : c.ins ≤ 100) (h3 : c.next.length ≤ 100) :
    Calls Try.prog 61 #[v] w fun e w' => e = .returned (.int .i64 (Cir.first c)) ∧ Below w.heap.size w w' := by
  obtain ⟨vn, vg, vo, rfl, r1, r2, r3⟩ := h
  obtain ⟨An, cn, hvn, hcn, hcmn⟩ := r1.shape
  subst hvn
  clear r1 r2 r3
  have hF : Hid (c.ins + c.next.length + 1 = Cir.first c) := Lib.hid (by unfold Cir.first; omega)
  go_enter Try.func61, Try.ntmps61
  go_wp2
  go_ret
  exact ⟨ret_int hF.out, (Below.refl _ _).alloc (Nat.le_refl _) _⟩
/-- The cells of a circuit in memory. -/
def PCells (w : World) (g : Nat) (i : Int) (vn vg vo : Value) : Prop := g < w.heap.size ∧ w.cell? ⟨g, 0, none⟩ = some (.int .i64 i) ∧ w.cell? ⟨g, 1, none⟩ = some vn ∧ w.cell? ⟨g, 2, none⟩ = some vg ∧ w.cell? ⟨g, 3, none⟩ = some vo
theorem PCells.below {w w' : World} {g : Nat} {i : Int} {vn vg vo : Value} (h : PCells w g i vn vg vo) (hb : Below w.heap.size w w') : PCells w' g i vn vg vo := by
  obtain ⟨hg, c0, c1, c2, c3⟩ := h
  exact ⟨Nat.lt_of_lt_of_le hg hb.size, (hb.cell (p := ⟨g, 0, none⟩) hg).trans c0, (hb.cell (p := ⟨g, 1, none⟩) hg).trans c1, (hb.cell (p := ⟨g, 2, none⟩) hg).trans c2, (hb.cell (p := ⟨g, 3, none⟩) hg).trans c3⟩
theorem PCells.boxed (w : World) (i : Int) (vn vg vo : Value) (t : TypeId) : PCells (w.alloc (.cells #[.int .i64 i, vn, vg, vo] t)) w.heap.size i vn vg vo :=
  ⟨by simp, World.cell?_alloc_new _ _ _ 0, World.cell?_alloc_new _ _ _ 1, World.cell?_alloc_new _ _ _ 2, World.cell?_alloc_new _ _ _ 3⟩
set_option maxHeartbeats 4000000 in
theorem specValid_any (v : Value) (c : Cz) (w : World) (h : CircAt w v c) :
    Calls Try.prog 59 #[v] w fun e w' => e = .returned (.bool (Cir.valid c)) ∧ Below w.heap.size w w' := by
  obtain ⟨vn, vg, vo, rfl, r1, r2, r3⟩ := h
  have hP := PCirc.boxed 30 r1 r2 r3
  have hC : CircAt (w.alloc (.cells #[.int .i64 c.ins, vn, vg, vo] 30)) (.agg #[.int .i64 c.ins, vn, vg, vo]) c := ⟨vn, vg, vo, rfl, Row.alloc r1 _, Row.alloc r2 _, Row.alloc r3 _⟩
  have hb0 : Below w.heap.size w (w.alloc (.cells #[.int .i64 c.ins, vn, vg, vo] 30)) := (Below.refl _ _).alloc (Nat.le_refl _) _
  obtain ⟨An, cn, hvn, hcn, hcmn⟩ := r1.shape
  obtain ⟨Ag, cg, hvg, hcg, hcmg⟩ := Row.shape r2
  obtain ⟨Ao, co, hvo, hco, hcmo⟩ := r3.shape
  subst hvn hvg hvo
  unfold maxLen at hcmn hcmg hcmo
  cases hs : Cir.sizes c
  · have hv : Cir.valid c = false := by unfold Cir.valid; rw [hs]; rfl
    rw [hv]
    clear hv hP hC r1 r2 r3
    have B0 := Lib.hid hb0
    clear hb0
    have hsc : (decide (0 ≤ c.ins ∧ c.ins ≤ 4) = false) ∨ (decide (0 ≤ c.ins ∧ c.ins ≤ 4) = true ∧ (3 : Int) < c.next.length) ∨ (decide (0 ≤ c.ins ∧ c.ins ≤ 4) = true ∧ (c.next.length : Int) ≤ 3 ∧ (14 : Int) < c.gates.length) ∨ (decide (0 ≤ c.ins ∧ c.ins ≤ 4) = true ∧ (c.next.length : Int) ≤ 3 ∧ (c.gates.length : Int) ≤ 14 ∧ (3 : Int) < c.outs.length) := by
      rw [decide_eq_false_iff_not, decide_eq_true_eq]
      rcases sizes_cases hs with g | ⟨g0, g1⟩ | ⟨g0, g1, g2⟩ | ⟨g0, g1, g2, g3⟩ | ⟨g0, g1, g2, g3, g4⟩
      · exact .inl (by omega)
      · exact .inl (by omega)
      · exact .inr (.inl ⟨⟨g0, g1⟩, g2⟩)
      · exact .inr (.inr (.inl ⟨⟨g0, g1⟩, g2, g3⟩))
      · exact .inr (.inr (.inr ⟨⟨g0, g1⟩, g2, g3, g4⟩))
    rcases hsc with d | ⟨d, g2⟩ | ⟨d, g2, g3⟩ | ⟨d, g2, g3, g4⟩
    all_goals
      clear hs
      have D := Lib.hid d
      clear d
      go_enter Try.func59, Try.ntmps59
      go_wp2_with fail
      refine (l1In_any _ _ _ _).mono ?_
      rintro e w' ⟨rfl, rfl⟩
      rw [D.out]
      go_wp2_with fail
      go_ret
      exact ⟨rfl, B0.out⟩
  · obtain ⟨s1, s2, s3, s4, s5⟩ : 0 ≤ c.ins ∧ c.ins ≤ 4 ∧ c.next.length ≤ 3 ∧ c.gates.length ≤ 14 ∧ c.outs.length ≤ 3 := by unfold Cir.sizes at hs; simpa using hs
    have hv : Cir.valid c = (Cir.gatesOk (Cir.first c) 0 (c.gates.drop 0) && (c.next ++ c.outs).all (Cir.isLit · (Cir.vars c))) := by unfold Cir.valid; rw [hs]; rfl
    have HV := Lib.hid hv
    have HP := Lib.hid hP
    have HC := Lib.hid hC
    have B0 := Lib.hid hb0
    have D : Hid (decide (0 ≤ c.ins ∧ c.ins ≤ 4) = true) := Lib.hid (decide_eq_true ⟨s1, s2⟩)
    have t1 : (c.next.length : Int) ≤ 3 := by omega
    have t2 : (c.gates.length : Int) ≤ 14 := by omega
    have t3 : (c.outs.length : Int) ≤ 3 := by omega
    have R2 := Lib.hid (Row.alloc r2 (.cells #[.int .i64 c.ins, .slice An c.next.length cn, .slice Ag c.gates.length cg, .slice Ao c.outs.length co] 30))
    have HF : Hid (Cir.vars c = Cir.first c + c.gates.length) := Lib.hid rfl
    have hfb : 1 ≤ Cir.first c ∧ Cir.first c ≤ 10 := by unfold Cir.first; omega
    obtain ⟨hf1, hf2⟩ := hfb
    clear hs hv hP hC hb0 r2
    generalize Cir.valid c = res at HV ⊢
    have R1x := Lib.hid r1
    have R3x := Lib.hid r3
    clear r1 r3
    go_enter Try.func59, Try.ntmps59
    go_wp2_with fail
    refine (l1In_any _ _ _ _).mono ?_
    rintro e w' ⟨rfl, rfl⟩
    rw [D.out]
    go_wp2_with fail
    refine (l1First_any _ c _ HC.out s1 (by omega) (by omega)).mono ?_
    rintro e w1 ⟨rfl, hb1⟩
    have B1 := Lib.hid (B0.out.trans (hb1.mono (by simp)))
    have R21 := Lib.hid (Row.below R2.out hb1)
    have RN := Lib.hid (Row.below (Row.alloc R1x.out (.cells #[.int .i64 c.ins, .slice An c.next.length cn, .slice Ag c.gates.length cg, .slice Ao c.outs.length co] 30)) hb1)
    have RO := Lib.hid (Row.below (Row.alloc R3x.out (.cells #[.int .i64 c.ins, .slice An c.next.length cn, .slice Ag c.gates.length cg, .slice Ao c.outs.length co] 30)) hb1)
    have K1 := Lib.hid ((PCells.boxed w c.ins (.slice An c.next.length cn) (.slice Ag c.gates.length cg) (.slice Ao c.outs.length co) 30).below hb1)
    clear hb1 R1x R3x HC B0 R2
    go_wp2_with fail
    go_loopw [4] (fun t wr => ∃ k : Nat, k ≤ c.gates.length ∧ t = .int .i64 k ∧ Hid (res = (Cir.gatesOk (Cir.first c) k (c.gates.drop k) && (c.next ++ c.outs).all (Cir.isLit · (Cir.vars c)))) ∧ Below w1.heap.size w1 wr) (fun t _ => c.gates.length - (intOf t).toNat)
    case atStart => exact ⟨0, Nat.zero_le _, rfl, HV, Below.refl _ _⟩
    case round =>
      obtain ⟨k, hk, rfl, hres, hb⟩ := hrel
      obtain ⟨kg, k0, k1, k2, k3⟩ := K1.out.below hb
      have Hb := Lib.hid hb
      have hz1 := B1.out.size
      have hz2 := hb.size
      by_cases hlt : k < c.gates.length
      · obtain ⟨b, o, x, rfl, hbl, hx, hs1, hs2⟩ := cubes_open R21.out hb rfl hlt
        have Hstep := Lib.hid (Cir.gatesOk_drop (f := Cir.first c) hx.out)
        have hbr : b < wr.heap.size := by omega
        have hwf := IntWalk.i64_in (Cir.first c + k) (by omega)
        clear hb HV
        have hV : -1000000 ≤ Cir.first c + k ∧ Cir.first c + k ≤ 1000000 := by omega
        obtain ⟨bb, hbb⟩ : ∃ bb, [x.1, x.2].all (Cir.isLit · (Cir.first c + k)) = bb := ⟨_, rfl⟩
        have HL : Hid (∀ w2 : World, Calls Try.prog 125 #[.slice (some ⟨w2.heap.size, 0, none⟩) 2 2, .int .i64 (Cir.first c + k)] (w2.alloc (.cells #[.int .i64 x.1, .int .i64 x.2] 3)).drew fun e w' => e = .returned (.bool bb) ∧ (w2.alloc (.cells #[.int .i64 x.1, .int .i64 x.2] 3)).drew = w') := Lib.hid fun w2 => by
          rw [← hbb]
          exact l1Lits_any _ [x.1, x.2] _ _ (Row.of_own (World.ownsRow_lit (base := 0) (e := 3) (size := 1) w2 #[.int .i64 x.1, .int .i64 x.2] 2 (Nat.zero_le _) (by unfold maxLen; omega) rfl)) hV.1 hV.2
        have hbb' : (Cir.isLit x.1 (Cir.first c + k) && Cir.isLit x.2 (Cir.first c + k)) = bb := by rw [← hbb]; simp
        cases bb
        · have hr : res = false := by rw [hres.out, Hstep.out, hbb']; rfl
          subst hr
          clear hbb hbb'
          go_wp2_with fail
          go_region_with ((go_at_call 125; refine (HL.out _).mono ?_; rintro e w' ⟨rfl, rfl⟩))
          all_goals
            go_wp2_with fail
            go_ret
            exact ⟨rfl, B1.out.trans (((Hb.out.alloc hz2 _).drew).mono hz1)⟩
        · have Hn : Hid (res = (Cir.gatesOk (Cir.first c) (k + 1) (c.gates.drop (k + 1)) && (c.next ++ c.outs).all (Cir.isLit · (Cir.vars c)))) := Lib.hid (by rw [hres.out, Hstep.out, hbb']; rfl)
          clear hbb hbb'
          go_wp2_with fail
          go_region_with ((go_at_call 125; refine (HL.out _).mono ?_; rintro e w' ⟨rfl, rfl⟩))
          all_goals
            go_wp2_with fail
            go_roundw
            case rel => exact ⟨k + 1, by omega, by go_num, Hn, (Hb.out.alloc hz2 _).drew⟩
            case measure => simp [intOf] <;> omega
      · have hr : Hid (res = (c.next.all (Cir.isLit · (Cir.first c + c.gates.length)) && c.outs.all (Cir.isLit · (Cir.first c + c.gates.length)))) := Lib.hid (by rw [hres.out, List.drop_eq_nil_of_le (by omega : c.gates.length ≤ k), HF.out, List.all_append]; rfl)
        have HRN := Lib.hid (Row.below RN.out hb)
        have HRO := Lib.hid (Row.below RO.out hb)
        have B2 := Lib.hid (B1.out.trans (hb.mono hz1))
        have hV : -1000000 ≤ Cir.first c + c.gates.length ∧ Cir.first c + c.gates.length ≤ 1000000 := by omega
        have hwf := IntWalk.i64_in (Cir.first c + c.gates.length) (by omega)
        clear hres hb HV
        have hL1 := l1Lits_any _ c.next (Cir.first c + c.gates.length) wr HRN.out hV.1 hV.2
        have hL2 := l1Lits_any _ c.outs (Cir.first c + c.gates.length) wr HRO.out hV.1 hV.2
        cases h1 : c.next.all (Cir.isLit · (Cir.first c + c.gates.length))
        · rw [h1] at hL1
          have HL1 := Lib.hid hL1
          have hrr : res = false := by rw [hr.out, h1]; rfl
          subst hrr
          clear hL1 hL2 h1
          go_wp2_with fail
          refine HL1.out.mono ?_
          rintro e w' ⟨rfl, rfl⟩
          go_wp2_with fail
          go_ret
          exact ⟨rfl, B2.out⟩
        · rw [h1] at hL1
          have HL1 := Lib.hid hL1
          have HL2 := Lib.hid hL2
          have hrr : Hid (res = c.outs.all (Cir.isLit · (Cir.first c + c.gates.length))) := Lib.hid (by rw [hr.out, h1]; rfl)
          clear hL1 hL2 h1
          go_wp2_with fail
          refine HL1.out.mono ?_
          rintro e w' ⟨rfl, rfl⟩
          go_wp2_with fail
          refine HL2.out.mono ?_
          rintro e w' ⟨rfl, rfl⟩
          go_wp2_with fail
          go_ret
          exact ⟨ret_bool hrr.out.symm, B2.out⟩
end Go.Proofs.Ytmlcbikljlhhkaa
