/-
  FnInvariantConstant: The program's Invariant is the reference's; an output literal that cannot be true is an invariant and inductive over one cycle; constant false is inductive over one cycle, constant true is no invariant.
  Conditions: none. For every input that the row reads, the Go function laws.FnInvariantConstant returns true and leaves its arguments as they were.
-/
import Derived.Test.YtkkkjbinfdohpaaS04
import Derived.Test.YtkkkjbinfdohpaaS07
import Derived.Test.YtkkkjbinfdohpaaS08
import Derived.Test.YtkkkjbinfdohpaaS09
import Derived.StillTailTactics
import Derived.Test.YtkkkjbinfdohpaaRows
import Derived.WalkKit
import Derived.ProofKit
import Derived.OpenShut
import Derived.ShutString
import Derived.ChangeOld
import Derived.Below
set_option linter.unusedVariables false
set_option linter.unusedSimpArgs false
namespace Go.Proofs.Ytkkkjbinfdohpaa.fnInvariantConstant
open Go.ChangeShapes Go.WideShapes Go.ChangeAt Go.RowKit
open Go.ChangeMaps (open_string shut_string)
set_option linter.unusedVariables false

theorem own : ownKnob Try.prog.godebug = none := by kernel_rfl
theorem laidOut : laidOutB Try.prog = true := by kernel_rfl

/-- A slice of integers that came in: nil, or a row of cells. -/
def IsRow (k : IntKind) (w : World) (a : Option Addr) (len cap : Nat) (zs : List Int) : Prop :=
  (a = none ∧ len = 0 ∧ cap = 0 ∧ zs = []) ∨
  ∃ x, a = some x ∧ len ≤ cap ∧ cap ≤ maxLen ∧ zs.length = cap ∧ (∀ i, i < zs.length → w.cell? (x.add i) = some (.int k (zs.getD i 0))) ∧ ∀ n ∈ zs, (Lit.int k n).wf = true


set_option maxHeartbeats 8000000 in
set_option maxRecDepth 100000 in
/-- The walk: the Go text returns true. -/
theorem walk (a0 : Option Addr) (len0 cap0 : Nat) (z0 : List Int) (w : World) (w0 : IsRow .u8 w a0 len0 cap0 z0) :
    Calls Try.prog 5 #[.slice a0 len0 cap0] w fun e w' => e = .returned (.bool true) ∧ Below w.heap.size w w' := by
  obtain ⟨bs, rfl, hwf, hr⟩ := Row.given w0
  clear w0
  by_cases hl : bs.length ≤ 1048576
  · have Hr := Lib.hid hr
    clear hr
    go_enter Try.func5, Try.ntmps5
    go_wp2_with fail
    refine (drawInductive_any _ bs w Hr.out hwf hl).mono ?_
    rintro e w1 ⟨v1, c, o, k, rfl, hO, ho1, ho2, hk1, hk2, hb1⟩
    obtain ⟨An, cn, Ag, cg, Ao, co, rfl⟩ := hO.shape
    have HC1 := Lib.hid hO.at
    have Hb1 := Lib.hid hb1
    clear hO hb1 Hr hwf
    go_wp2_with fail
    have hbx := bel_new w1 (.cells #[.int .i64 c.ins, .slice An c.next.length cn, .slice Ag c.gates.length cg, .slice Ao c.outs.length co] 26)
    have PC := Lib.hid (PCells.boxed w1 c.ins (.slice An c.next.length cn) (.slice Ag c.gates.length cg) (.slice Ao c.outs.length co) 26)
    have HC := Lib.hid (HC1.out.below hbx)
    have B := Lib.hid (Hb1.out.trans (hbx.mono Hb1.out.size))
    clear hbx
    generalize w1.alloc (.cells #[.int .i64 c.ins, .slice An c.next.length cn, .slice Ag c.gates.length cg, .slice Ao c.outs.length co] 26) = w2 at *
    obtain ⟨gb, hgb2⟩ : ∃ gb, w1.heap.size = gb := ⟨_, rfl⟩
    rw [hgb2] at PC ⊢
    clear hgb2
    obtain ⟨z, p0, p1, p2, p3⟩ := PC.out
    clear HC1 Hb1
    obtain ⟨ok, hok⟩ : ∃ ok, Cir.invI c o = ok := ⟨_, rfl⟩
    have Hok := Lib.hid hok
    clear hok
    refine wp_region_rs (quietRS Try.prog _ w2 _) quietRS_ok (by kernel_rfl) (by kernel_rfl) (by kernel_rfl) (Nat.le_of_ble_eq_true rfl) trivial trivial ?_
    apply rs_eq quietRS_ok quiet_any
    · intro ρ w' ho hK
      have ho : Only _ w2 w' := ho
      obtain ⟨h0, -⟩ := hK
      have h0' : ρ (.tmp 3) = _ := h0
      have hb := only_below ho
      have q0 := (hb.cell (p := ⟨gb, 0, none⟩) z).trans p0
      have q1 := (hb.cell (p := ⟨gb, 1, none⟩) z).trans p1
      have q2 := (hb.cell (p := ⟨gb, 2, none⟩) z).trans p2
      have q3 := (hb.cell (p := ⟨gb, 3, none⟩) z).trans p3
      go_simp
      try exact rfl
    refine rs_old quietRS_ok quiet_any _ (.inl rfl) _ rfl rfl ?_
    refine rs_call quietRS_ok quiet_any (TEq (.bool ok)) (stb_eq _ _) 19 _ _ rfl (fun ρ w' ho hK => by
      have ho : Only _ w2 w' := ho
      obtain ⟨h0, h1, h2, -⟩ := hK
      have h0' : ρ (.func 19) = .func (.func 19) #[] #[] := h0
      have h1' : ρ (.tmp 16) = _ := h1
      have h2' : ρ (.tmp 17) = _ := h2
      refine ⟨#[ρ (.tmp 16), ρ (.tmp 17)], ?_, ?_⟩
      · go_simp
      · rw [h1', h2']
        refine (implInv_any _ c o w' (HC.out.below (only_below ho))).mono ?_
        rintro e w2 ⟨rfl, hb⟩
        exact ⟨_, rfl, by rw [Hok.out]; rfl, hb⟩) ?_
    apply rs_eq quietRS_ok quiet_any
    · intro ρ w' ho hK
      have ho : Only _ w2 w' := ho
      obtain ⟨h0, -⟩ := hK
      have h0' : ρ (.tmp 3) = _ := h0
      have hb := only_below ho
      have q0 := (hb.cell (p := ⟨gb, 0, none⟩) z).trans p0
      have q1 := (hb.cell (p := ⟨gb, 1, none⟩) z).trans p1
      have q2 := (hb.cell (p := ⟨gb, 2, none⟩) z).trans p2
      have q3 := (hb.cell (p := ⟨gb, 3, none⟩) z).trans p3
      go_simp
      try exact rfl
    refine rs_old quietRS_ok quiet_any _ (.inl rfl) _ rfl rfl ?_
    refine rs_call quietRS_ok quiet_any (TEq (.bool ok)) (stb_eq _ _) 20 _ _ rfl (fun ρ w' ho hK => by
      have ho : Only _ w2 w' := ho
      obtain ⟨h0, h1, h2, -⟩ := hK
      have h0' : ρ (.func 20) = .func (.func 20) #[] #[] := h0
      have h1' : ρ (.tmp 19) = _ := h1
      have h2' : ρ (.tmp 20) = _ := h2
      refine ⟨#[ρ (.tmp 19), ρ (.tmp 20)], ?_, ?_⟩
      · go_simp
      · rw [h1', h2']
        refine (specInv_any _ c o w' (HC.out.below (only_below ho))).mono ?_
        rintro e w2 ⟨rfl, hb⟩
        exact ⟨_, rfl, by rw [Hok.out]; rfl, hb⟩) ?_
    apply rs_eq quietRS_ok quiet_any
    · intro ρ w' ho hK
      have ho : Only _ w2 w' := ho
      obtain ⟨h0, h1, -⟩ := hK
      have h0' : ρ (.tmp 18) = _ := h0
      have h1' : ρ (.tmp 21) = _ := h1
      go_simp
      try exact rfl
    intro f w9 k9 hk9 hI9 ht9 hcp9
    have E0 : f 0 = _ := ht9 0 (Nat.le_of_ble_eq_true rfl)
    have E1 : f 1 = _ := ht9 1 (Nat.le_of_ble_eq_true rfl)
    conv at E1 => rhs; whnf
    have E2 : f 2 = _ := ht9 2 (Nat.le_of_ble_eq_true rfl)
    have E3 : f 3 = _ := ht9 3 (Nat.le_of_ble_eq_true rfl)
    have E4 : f 4 = _ := ht9 4 (Nat.le_of_ble_eq_true rfl)
    conv at E4 => rhs; whnf
    have E5 : f 5 = _ := ht9 5 (Nat.le_of_ble_eq_true rfl)
    have E6 : f 6 = _ := ht9 6 (Nat.le_of_ble_eq_true rfl)
    have Ho9 : Only _ w2 w9 := hI9.2.1
    simp only [putAll, E0, E1, E2, E3, E4, E5, E6, Nat.zero_add, Nat.reduceAdd, Act.put, List.setIfInBounds_toArray, List.set_cons_succ, List.set_cons_zero]
    clear E0 E1 E2 E3 E4 E5 E6
    clear hI9 ht9 hcp9 hk9
    have hb := only_below Ho9
    clear z p0 p1 p2 p3 Ho9
    replace PC := Lib.hid (PC.out.below hb)
    replace HC := Lib.hid (HC.out.below hb)
    replace B := Lib.hid (B.out.trans (hb.mono B.out.size))
    clear hb
    obtain ⟨w3, hw3⟩ : ∃ w3, w3 = w9 := ⟨_, rfl⟩
    subst hw3
    have hoo : (ok != ok) = false := by simp
    obtain ⟨z, p0, p1, p2, p3⟩ := PC.out
    go_wp2_with fail
    refine (specValid_any _ c _ HC.out).mono ?_
    rintro e w4 ⟨rfl, hb⟩
    clear z p0 p1 p2 p3
    replace PC := Lib.hid (PC.out.below hb)
    replace HC := Lib.hid (HC.out.below hb)
    replace B := Lib.hid (B.out.trans (hb.mono B.out.size))
    clear hb
    obtain ⟨z, p0, p1, p2, p3⟩ := PC.out
    cases hv : Cir.valid c
    · clear hv
      go_wp2_with fail
      refine (alive_any _).mono ?_
      rintro e wb ⟨rfl, hb⟩
      replace B := Lib.hid (B.out.trans (hb.mono B.out.size))
      clear hb
      go_wp2_with fail
      go_ret
      exact ⟨rfl, B.out⟩
    · obtain ⟨hcd, hd⟩ := Cir.nat_ok hv
      obtain ⟨d, hde⟩ : ∃ d, d = Cir.nat c := ⟨_, rfl⟩
      rw [← hde] at hcd hd
      clear hde
      subst hcd
      have Hv := Lib.hid hv
      have Hd := Lib.hid hd
      have HIc := Lib.hid (Cir.ind_const hd)
      have HVc := Lib.hid (Cir.inv_const hd)
      clear hv hd
      have hX5 := heap_alloc_new w4 (.cells #[.int .i64 (Cir.toCz d).ins, .slice An (Cir.toCz d).next.length cn, .slice Ag (Cir.toCz d).gates.length cg, .slice Ao (Cir.toCz d).outs.length co] 26)
      have b5 := bel_new w4 (.cells #[.int .i64 (Cir.toCz d).ins, .slice An (Cir.toCz d).next.length cn, .slice Ag (Cir.toCz d).gates.length cg, .slice Ao (Cir.toCz d).outs.length co] 26)
      have z5 : (w4.alloc (.cells #[.int .i64 (Cir.toCz d).ins, .slice An (Cir.toCz d).next.length cn, .slice Ag (Cir.toCz d).gates.length cg, .slice Ao (Cir.toCz d).outs.length co] 26)).heap.size = w4.heap.size + 1 := by simp
      obtain ⟨W5, hW5⟩ : ∃ W5, w4.alloc (.cells #[.int .i64 (Cir.toCz d).ins, .slice An (Cir.toCz d).next.length cn, .slice Ag (Cir.toCz d).gates.length cg, .slice Ao (Cir.toCz d).outs.length co] 26) = W5 := ⟨_, rfl⟩
      rw [hW5] at hX5 b5 z5
      have b6 := bel_new W5 (.cells #[.int .i64 0, .int .i64 1] 3)
      have o6 := own_lit1 W5 0 3 [.int .i64 0, .int .i64 1] (Nat.zero_le _) (by simp)
      obtain ⟨W6, hW6⟩ : ∃ W6, W5.alloc (.cells #[.int .i64 0, .int .i64 1] 3) = W6 := ⟨_, rfl⟩
      rw [hW6] at b6
      rw [show W5.alloc (.cells [Value.int .i64 0, Value.int .i64 1].toArray 3) = W6 from hW6] at o6
      have hX6 := (b6.block w4.heap.size (by omega)).trans hX5
      have x3 := blk_cell hX6 3
      have f3 := blk_free hX6 3
      simp at x3
      have hX7 := heap_setCell_same W6 w4.heap.size 3 _ _ (.slice (some ⟨W5.heap.size, 0, none⟩) 2 2) hX6
      simp at hX7
      have on7 := set1_only W6 w4.heap.size 3 (.slice (some ⟨W5.heap.size, 0, none⟩) 2 2)
      have b46 := b5.trans (b6.mono b5.size)
      have b7 : Below w4.heap.size w4 (W6.setCell ⟨w4.heap.size, 3, none⟩ (.slice (some ⟨W5.heap.size, 0, none⟩) 2 2)) := Only.below b46 on7 b46.size (fun k hk => by omega)
      have o7 := own_only o6 on7 (fun g hg e => own_ne_tag o6 hX6 (by decide) (by rw [hg, e]))
      have HCx : Hid (CircAt (W6.setCell ⟨w4.heap.size, 3, none⟩ (.slice (some ⟨W5.heap.size, 0, none⟩) 2 2)) (.agg #[.int .i64 (Cir.toCz d).ins, .slice An (Cir.toCz d).next.length cn, .slice Ag (Cir.toCz d).gates.length cg, .slice (some ⟨W5.heap.size, 0, none⟩) 2 2]) (Cir.toCz (Cir.consts d))) := Lib.hid (by
        obtain ⟨vn, vg, vo, e, r1, r2, r3⟩ := HC.out.below b7
        injection e with e
        simp only [Array.mk.injEq, List.cons.injEq, and_true] at e
        obtain ⟨-, e1, e2, e3⟩ := e
        subst e1 e2 e3
        exact ⟨_, _, _, rfl, r1, r2, Row.of_own o7⟩)
      obtain ⟨W7, hW7⟩ : ∃ W7, W6.setCell ⟨w4.heap.size, 3, none⟩ (.slice (some ⟨W5.heap.size, 0, none⟩) 2 2) = W7 := ⟨_, rfl⟩
      rw [hW7] at hX7 b7 HCx
      obtain ⟨gx, hgx⟩ : ∃ gx, w4.heap.size = gx := ⟨_, rfl⟩
      have HX7 : Hid (W7.heap[gx]? = some (.cells #[.int .i64 (Cir.toCz d).ins, .slice An (Cir.toCz d).next.length cn, .slice Ag (Cir.toCz d).gates.length cg, .slice (some ⟨W5.heap.size, 0, none⟩) 2 2] 26 (0, 0))) := Lib.hid (by rw [← hgx]; exact hX7)
      have HC4 := HC
      have PC4 := PC
      replace PC := Lib.hid (PC.out.below b7)
      replace HC := Lib.hid (HC.out.below b7)
      replace B := Lib.hid (B.out.trans (b7.mono B.out.size))
      have c0 := blk_cell hX7 0
      have c1 := blk_cell hX7 1
      have c2 := blk_cell hX7 2
      have c3 := blk_cell hX7 3
      simp at c0 c1 c2 c3
      generalize hg6 : W5.heap.size = g6 at *
      have HGX := Lib.hid hgx
      clear hX5 b5 o6 hX6 on7 b46 b7 o7 hX7 HC4 PC4 hgx z5 b6
      go_wp2_with fail
      refine (implInd_any _ (Cir.toCz (Cir.consts d)) 0 1 _ HCx.out).mono ?_
      rintro e w8 ⟨rfl, hb⟩
      rw [HIc.out]
      clear c0 c1 c2 c3 z p0 p1 p2 p3
      have hX8 := (hb.block gx (blk_ltB HX7.out)).trans HX7.out
      have c0 := blk_cell hX8 0
      have c1 := blk_cell hX8 1
      have c2 := blk_cell hX8 2
      have c3 := blk_cell hX8 3
      simp at c0 c1 c2 c3
      replace HCx := Lib.hid (HCx.out.below hb)
      replace PC := Lib.hid (PC.out.below hb)
      replace HC := Lib.hid (HC.out.below hb)
      replace B := Lib.hid (B.out.trans (hb.mono B.out.size))
      clear hX8 hb HX7 HIc hW5 hW6 hW7
      rw [show w4.heap.size = gx from HGX.out]
      go_wp2_with fail
      refine (implInv_any _ (Cir.toCz (Cir.consts d)) 1 _ HCx.out).mono ?_
      rintro e wz ⟨rfl, hb⟩
      rw [HVc.out]
      clear c0 c1 c2 c3 HCx HVc
      replace PC := Lib.hid (PC.out.below hb)
      replace HC := Lib.hid (HC.out.below hb)
      replace B := Lib.hid (B.out.trans (hb.mono B.out.size))
      clear hb
      obtain ⟨z, p0, p1, p2, p3⟩ := PC.out
      by_cases hlo : o < 0
      · have dlo : decide (o < 0) = true := decide_eq_true hlo
        go_wp2_with fail
        refine wp_region_rsG [(2, some true), (9, some true), (18, some true), (22, none)] (quietRS Try.prog _ wz _) quietRS_ok (by kernel_rfl) (by kernel_rfl) (by kernel_rfl) (Nat.le_of_ble_eq_true rfl) trivial trivial ?_
        refine rs_peel ?_
        refine rs_old quietRS_ok quiet_any _ (.inl rfl) _ rfl rfl ?_
        refine rs_peel ?_
        apply rs_eq quietRS_ok quiet_any
        · intro ρ w' ho hK
          have ho : Only _ wz w' := ho
          obtain ⟨h0, h1, -⟩ := hK
          have h0' : ρ (.tmp 37) = _ := h0
          have h1' : ρ (.const (Value.int IntKind.i64 0)) = (Value.int IntKind.i64 0) := h1
          go_simp
          try exact rfl
        refine rs_peel ?_
        refine rs_same quietRS_ok quiet_any 38 1 (.inl rfl) rfl _ rfl ?_
        refine rs_skip rfl (by decide) ?_
        refine rs_old quietRS_ok quiet_any (.const undef) (.inl rfl) _ rfl rfl ?_
        refine rs_skip rfl (by decide) ?_
        refine rs_old quietRS_ok quiet_any (.const undef) (.inl rfl) _ rfl rfl ?_
        refine rs_skip rfl (by decide) ?_
        refine rs_old quietRS_ok quiet_any (.const undef) (.inl rfl) _ rfl rfl ?_
        refine rs_skip rfl (by decide) ?_
        refine rs_old quietRS_ok quiet_any (.const undef) (.inl rfl) _ rfl rfl ?_
        refine rs_skip rfl (by decide) ?_
        refine rs_old quietRS_ok quiet_any (.const undef) (.inl rfl) _ rfl rfl ?_
        refine rs_peel ?_
        apply rs_eq quietRS_ok quiet_any
        · intro ρ w' ho hK
          have ho : Only _ wz w' := ho
          obtain ⟨h0, h1, h2, -⟩ := hK
          have h0' : ρ (.tmp 39) = _ := h0
          have h1' : ρ (.const (Value.bool true)) = (Value.bool true) := h1
          have h2' : ρ (.tmp 44) = _ := h2
          go_simp
          try exact rfl
        refine rs_peel ?_
        refine rs_same quietRS_ok quiet_any 45 8 (.inl rfl) rfl _ rfl ?_
        refine rs_skip rfl (by decide) ?_
        refine rs_old quietRS_ok quiet_any (.const undef) (.inl rfl) _ rfl rfl ?_
        refine rs_skip rfl (by decide) ?_
        refine rs_old quietRS_ok quiet_any (.const undef) (.inl rfl) _ rfl rfl ?_
        refine rs_skip rfl (by decide) ?_
        refine rs_old quietRS_ok quiet_any (.const undef) (.inl rfl) _ rfl rfl ?_
        refine rs_skip rfl (by decide) ?_
        refine rs_old quietRS_ok quiet_any (.const undef) (.inl rfl) _ rfl rfl ?_
        refine rs_skip rfl (by decide) ?_
        refine rs_old quietRS_ok quiet_any (.const undef) (.inl rfl) _ rfl rfl ?_
        refine rs_skip rfl (by decide) ?_
        refine rs_old quietRS_ok quiet_any (.const undef) (.inl rfl) _ rfl rfl ?_
        refine rs_skip rfl (by decide) ?_
        refine rs_old quietRS_ok quiet_any (.const undef) (.inl rfl) _ rfl rfl ?_
        refine rs_peel ?_
        apply rs_eq quietRS_ok quiet_any
        · intro ρ w' ho hK
          have ho : Only _ wz w' := ho
          obtain ⟨h0, h1, h2, -⟩ := hK
          have h0' : ρ (.tmp 46) = _ := h0
          have h1' : ρ (.const (Value.bool true)) = (Value.bool true) := h1
          have h2' : ρ (.tmp 53) = _ := h2
          go_simp
          try exact rfl
        refine rs_peel ?_
        refine rs_same quietRS_ok quiet_any 54 17 (.inl rfl) rfl _ rfl ?_
        refine rs_skip rfl (by decide) ?_
        refine rs_old quietRS_ok quiet_any (.const undef) (.inl rfl) _ rfl rfl ?_
        refine rs_skip rfl (by decide) ?_
        refine rs_old quietRS_ok quiet_any (.const undef) (.inl rfl) _ rfl rfl ?_
        refine rs_skip rfl (by decide) ?_
        refine rs_old quietRS_ok quiet_any (.const undef) (.inl rfl) _ rfl rfl ?_
        refine rs_skip rfl (by decide) ?_
        refine rs_old quietRS_ok quiet_any (.const undef) (.inl rfl) _ rfl rfl ?_
        refine rs_skip rfl (by decide) ?_
        refine rs_old quietRS_ok quiet_any (.const undef) (.inl rfl) _ rfl rfl ?_
        refine rs_skip rfl (by decide) ?_
        refine rs_old quietRS_ok quiet_any (.const undef) (.inl rfl) _ rfl rfl ?_
        refine rs_skip rfl (by decide) ?_
        refine rs_old quietRS_ok quiet_any (.const undef) (.inl rfl) _ rfl rfl ?_
        refine rs_skip rfl (by decide) ?_
        refine rs_old quietRS_ok quiet_any (.const undef) (.inl rfl) _ rfl rfl ?_
        refine rs_peel ?_
        apply rs_eq quietRS_ok quiet_any
        · intro ρ w' ho hK
          have ho : Only _ wz w' := ho
          obtain ⟨h0, h1, h2, -⟩ := hK
          have h0' : ρ (.tmp 55) = _ := h0
          have h1' : ρ (.const (Value.bool true)) = (Value.bool true) := h1
          have h2' : ρ (.tmp 63) = _ := h2
          go_simp
          try exact rfl
        refine rs_peel ?_
        refine rs_same quietRS_ok quiet_any 64 27 (.inr rfl) rfl _ rfl ?_
        refine ⟨⟨rfl, rfl, rfl, rfl, trivial⟩, ?_⟩
        intro f w9 k9 hk9 hI9 ht9 hcp9
        have E0 : f 0 = _ := ht9 0 (Nat.le_of_ble_eq_true rfl)
        conv at E0 => rhs; whnf
        have E1 : f 1 = _ := ht9 1 (Nat.le_of_ble_eq_true rfl)
        have E2 : f 2 = _ := ht9 2 (Nat.le_of_ble_eq_true rfl)
        have E3 : f 3 = _ := ht9 3 (Nat.le_of_ble_eq_true rfl)
        conv at E3 => rhs; whnf
        have E4 : f 4 = _ := ht9 4 (Nat.le_of_ble_eq_true rfl)
        conv at E4 => rhs; whnf
        have E5 : f 5 = _ := ht9 5 (Nat.le_of_ble_eq_true rfl)
        conv at E5 => rhs; whnf
        have E6 : f 6 = _ := ht9 6 (Nat.le_of_ble_eq_true rfl)
        conv at E6 => rhs; whnf
        have E7 : f 7 = _ := ht9 7 (Nat.le_of_ble_eq_true rfl)
        conv at E7 => rhs; whnf
        have E8 : f 8 = _ := ht9 8 (Nat.le_of_ble_eq_true rfl)
        have E9 : f 9 = _ := ht9 9 (Nat.le_of_ble_eq_true rfl)
        have E10 : f 10 = _ := ht9 10 (Nat.le_of_ble_eq_true rfl)
        conv at E10 => rhs; whnf
        have E11 : f 11 = _ := ht9 11 (Nat.le_of_ble_eq_true rfl)
        conv at E11 => rhs; whnf
        have E12 : f 12 = _ := ht9 12 (Nat.le_of_ble_eq_true rfl)
        conv at E12 => rhs; whnf
        have E13 : f 13 = _ := ht9 13 (Nat.le_of_ble_eq_true rfl)
        conv at E13 => rhs; whnf
        have E14 : f 14 = _ := ht9 14 (Nat.le_of_ble_eq_true rfl)
        conv at E14 => rhs; whnf
        have E15 : f 15 = _ := ht9 15 (Nat.le_of_ble_eq_true rfl)
        conv at E15 => rhs; whnf
        have E16 : f 16 = _ := ht9 16 (Nat.le_of_ble_eq_true rfl)
        conv at E16 => rhs; whnf
        have E17 : f 17 = _ := ht9 17 (Nat.le_of_ble_eq_true rfl)
        have E18 : f 18 = _ := ht9 18 (Nat.le_of_ble_eq_true rfl)
        have E19 : f 19 = _ := ht9 19 (Nat.le_of_ble_eq_true rfl)
        conv at E19 => rhs; whnf
        have E20 : f 20 = _ := ht9 20 (Nat.le_of_ble_eq_true rfl)
        conv at E20 => rhs; whnf
        have E21 : f 21 = _ := ht9 21 (Nat.le_of_ble_eq_true rfl)
        conv at E21 => rhs; whnf
        have E22 : f 22 = _ := ht9 22 (Nat.le_of_ble_eq_true rfl)
        conv at E22 => rhs; whnf
        have E23 : f 23 = _ := ht9 23 (Nat.le_of_ble_eq_true rfl)
        conv at E23 => rhs; whnf
        have E24 : f 24 = _ := ht9 24 (Nat.le_of_ble_eq_true rfl)
        conv at E24 => rhs; whnf
        have E25 : f 25 = _ := ht9 25 (Nat.le_of_ble_eq_true rfl)
        conv at E25 => rhs; whnf
        have E26 : f 26 = _ := ht9 26 (Nat.le_of_ble_eq_true rfl)
        conv at E26 => rhs; whnf
        have E27 : f 27 = _ := ht9 27 (Nat.le_of_ble_eq_true rfl)
        have E28 : f 28 = _ := ht9 28 (Nat.le_of_ble_eq_true rfl)
        have Ho9 : Only _ wz w9 := hI9.2.1
        simp only [putAll, E0, E1, E2, E3, E4, E5, E6, E7, E8, E9, E10, E11, E12, E13, E14, E15, E16, E17, E18, E19, E20, E21, E22, E23, E24, E25, E26, E27, E28, Nat.zero_add, Nat.reduceAdd, Act.put, List.setIfInBounds_toArray, List.set_cons_succ, List.set_cons_zero]
        clear E0 E1 E2 E3 E4 E5 E6 E7 E8 E9 E10 E11 E12 E13 E14 E15 E16 E17 E18 E19 E20 E21 E22 E23 E24 E25 E26 E27 E28
        clear hI9 ht9 hcp9 hk9
        have hb := only_below Ho9
        replace B := Lib.hid (B.out.trans (hb.mono B.out.size))
        clear hb Ho9 z p0 p1 p2 p3
        go_wp2_with fail
        go_ret
        exact ⟨rfl, B.out⟩
      · have dlo : decide (o < 0) = false := decide_eq_false hlo
        obtain ⟨j, rfl⟩ : ∃ j : Nat, o = (j : Int) := ⟨o.toNat, by omega⟩
        have hlen : (Cir.toCz d).outs.length = d.outs.length := List.length_map _
        by_cases hge : d.outs.length ≤ j
        · have dge : decide ((j : Int) ≥ ((Cir.toCz d).outs.length : Int)) = true := decide_eq_true (by rw [hlen]; omega)
          have dge2 : decide (((Cir.toCz d).outs.length : Int) ≤ (j : Int)) = true := decide_eq_true (by rw [hlen]; omega)
          have dge3 : decide ((Cir.toCz d).outs.length ≤ j) = true := decide_eq_true (by rw [hlen]; omega)
          go_wp2_with fail
          refine wp_region_rsG [(2, some false), (9, some true), (18, some true), (22, none)] (quietRS Try.prog _ wz _) quietRS_ok (by kernel_rfl) (by kernel_rfl) (by kernel_rfl) (Nat.le_of_ble_eq_true rfl) trivial trivial ?_
          refine rs_peel ?_
          refine rs_old quietRS_ok quiet_any _ (.inl rfl) _ rfl rfl ?_
          refine rs_peel ?_
          apply rs_eq quietRS_ok quiet_any
          · intro ρ w' ho hK
            have ho : Only _ wz w' := ho
            obtain ⟨h0, h1, -⟩ := hK
            have h0' : ρ (.tmp 37) = _ := h0
            have h1' : ρ (.const (Value.int IntKind.i64 0)) = (Value.int IntKind.i64 0) := h1
            go_simp
            try exact rfl
          refine rs_peel ?_
          refine rs_same quietRS_ok quiet_any 38 1 (.inl rfl) rfl _ rfl ?_
          refine rs_run rfl ?_
          refine rs_old quietRS_ok quiet_any _ (.inl rfl) _ rfl rfl ?_
          refine rs_run rfl ?_
          apply rs_eq quietRS_ok quiet_any
          · intro ρ w' ho hK
            have ho : Only _ wz w' := ho
            obtain ⟨h0, -⟩ := hK
            have h0' : ρ (.tmp 3) = _ := h0
            go_simp
            try exact rfl
          refine rs_run rfl ?_
          apply rs_eq quietRS_ok quiet_any
          · intro ρ w' ho hK
            have ho : Only _ wz w' := ho
            obtain ⟨h0, -⟩ := hK
            have h0' : ρ (.tmp 41) = _ := h0
            have hb := only_below ho
            have q3 := (hb.cell (p := ⟨gb, 3, none⟩) z).trans p3
            go_simp
            try exact rfl
          refine rs_run rfl ?_
          apply rs_eq quietRS_ok quiet_any
          · intro ρ w' ho hK
            have ho : Only _ wz w' := ho
            obtain ⟨h0, -⟩ := hK
            have h0' : ρ (.tmp 42) = _ := h0
            go_simp
            try exact rfl
          refine rs_run rfl ?_
          apply rs_eq quietRS_ok quiet_any
          · intro ρ w' ho hK
            have ho : Only _ wz w' := ho
            obtain ⟨h0, h1, -⟩ := hK
            have h0' : ρ (.tmp 40) = _ := h0
            have h1' : ρ (.tmp 43) = _ := h1
            go_simp
            try exact rfl
          refine rs_peel ?_
          apply rs_eq quietRS_ok quiet_any
          · intro ρ w' ho hK
            have ho : Only _ wz w' := ho
            obtain ⟨h0, h1, h2, -⟩ := hK
            have h0' : ρ (.tmp 39) = _ := h0
            have h1' : ρ (.const (Value.bool true)) = (Value.bool true) := h1
            have h2' : ρ (.tmp 44) = _ := h2
            go_simp
            try exact rfl
          refine rs_peel ?_
          refine rs_same quietRS_ok quiet_any 45 8 (.inl rfl) rfl _ rfl ?_
          refine rs_skip rfl (by decide) ?_
          refine rs_old quietRS_ok quiet_any (.const undef) (.inl rfl) _ rfl rfl ?_
          refine rs_skip rfl (by decide) ?_
          refine rs_old quietRS_ok quiet_any (.const undef) (.inl rfl) _ rfl rfl ?_
          refine rs_skip rfl (by decide) ?_
          refine rs_old quietRS_ok quiet_any (.const undef) (.inl rfl) _ rfl rfl ?_
          refine rs_skip rfl (by decide) ?_
          refine rs_old quietRS_ok quiet_any (.const undef) (.inl rfl) _ rfl rfl ?_
          refine rs_skip rfl (by decide) ?_
          refine rs_old quietRS_ok quiet_any (.const undef) (.inl rfl) _ rfl rfl ?_
          refine rs_skip rfl (by decide) ?_
          refine rs_old quietRS_ok quiet_any (.const undef) (.inl rfl) _ rfl rfl ?_
          refine rs_skip rfl (by decide) ?_
          refine rs_old quietRS_ok quiet_any (.const undef) (.inl rfl) _ rfl rfl ?_
          refine rs_peel ?_
          apply rs_eq quietRS_ok quiet_any
          · intro ρ w' ho hK
            have ho : Only _ wz w' := ho
            obtain ⟨h0, h1, h2, -⟩ := hK
            have h0' : ρ (.tmp 46) = _ := h0
            have h1' : ρ (.const (Value.bool true)) = (Value.bool true) := h1
            have h2' : ρ (.tmp 53) = _ := h2
            go_simp
            try exact rfl
          refine rs_peel ?_
          refine rs_same quietRS_ok quiet_any 54 17 (.inl rfl) rfl _ rfl ?_
          refine rs_skip rfl (by decide) ?_
          refine rs_old quietRS_ok quiet_any (.const undef) (.inl rfl) _ rfl rfl ?_
          refine rs_skip rfl (by decide) ?_
          refine rs_old quietRS_ok quiet_any (.const undef) (.inl rfl) _ rfl rfl ?_
          refine rs_skip rfl (by decide) ?_
          refine rs_old quietRS_ok quiet_any (.const undef) (.inl rfl) _ rfl rfl ?_
          refine rs_skip rfl (by decide) ?_
          refine rs_old quietRS_ok quiet_any (.const undef) (.inl rfl) _ rfl rfl ?_
          refine rs_skip rfl (by decide) ?_
          refine rs_old quietRS_ok quiet_any (.const undef) (.inl rfl) _ rfl rfl ?_
          refine rs_skip rfl (by decide) ?_
          refine rs_old quietRS_ok quiet_any (.const undef) (.inl rfl) _ rfl rfl ?_
          refine rs_skip rfl (by decide) ?_
          refine rs_old quietRS_ok quiet_any (.const undef) (.inl rfl) _ rfl rfl ?_
          refine rs_skip rfl (by decide) ?_
          refine rs_old quietRS_ok quiet_any (.const undef) (.inl rfl) _ rfl rfl ?_
          refine rs_peel ?_
          apply rs_eq quietRS_ok quiet_any
          · intro ρ w' ho hK
            have ho : Only _ wz w' := ho
            obtain ⟨h0, h1, h2, -⟩ := hK
            have h0' : ρ (.tmp 55) = _ := h0
            have h1' : ρ (.const (Value.bool true)) = (Value.bool true) := h1
            have h2' : ρ (.tmp 63) = _ := h2
            go_simp
            try exact rfl
          refine rs_peel ?_
          refine rs_same quietRS_ok quiet_any 64 27 (.inr rfl) rfl _ rfl ?_
          refine ⟨⟨rfl, rfl, rfl, rfl, trivial⟩, ?_⟩
          intro f w9 k9 hk9 hI9 ht9 hcp9
          have E0 : f 0 = _ := ht9 0 (Nat.le_of_ble_eq_true rfl)
          conv at E0 => rhs; whnf
          have E1 : f 1 = _ := ht9 1 (Nat.le_of_ble_eq_true rfl)
          have E2 : f 2 = _ := ht9 2 (Nat.le_of_ble_eq_true rfl)
          have E3 : f 3 = _ := ht9 3 (Nat.le_of_ble_eq_true rfl)
          conv at E3 => rhs; whnf
          have E4 : f 4 = _ := ht9 4 (Nat.le_of_ble_eq_true rfl)
          have E5 : f 5 = _ := ht9 5 (Nat.le_of_ble_eq_true rfl)
          have E6 : f 6 = _ := ht9 6 (Nat.le_of_ble_eq_true rfl)
          have E7 : f 7 = _ := ht9 7 (Nat.le_of_ble_eq_true rfl)
          have E8 : f 8 = _ := ht9 8 (Nat.le_of_ble_eq_true rfl)
          have E9 : f 9 = _ := ht9 9 (Nat.le_of_ble_eq_true rfl)
          have E10 : f 10 = _ := ht9 10 (Nat.le_of_ble_eq_true rfl)
          conv at E10 => rhs; whnf
          have E11 : f 11 = _ := ht9 11 (Nat.le_of_ble_eq_true rfl)
          conv at E11 => rhs; whnf
          have E12 : f 12 = _ := ht9 12 (Nat.le_of_ble_eq_true rfl)
          conv at E12 => rhs; whnf
          have E13 : f 13 = _ := ht9 13 (Nat.le_of_ble_eq_true rfl)
          conv at E13 => rhs; whnf
          have E14 : f 14 = _ := ht9 14 (Nat.le_of_ble_eq_true rfl)
          conv at E14 => rhs; whnf
          have E15 : f 15 = _ := ht9 15 (Nat.le_of_ble_eq_true rfl)
          conv at E15 => rhs; whnf
          have E16 : f 16 = _ := ht9 16 (Nat.le_of_ble_eq_true rfl)
          conv at E16 => rhs; whnf
          have E17 : f 17 = _ := ht9 17 (Nat.le_of_ble_eq_true rfl)
          have E18 : f 18 = _ := ht9 18 (Nat.le_of_ble_eq_true rfl)
          have E19 : f 19 = _ := ht9 19 (Nat.le_of_ble_eq_true rfl)
          conv at E19 => rhs; whnf
          have E20 : f 20 = _ := ht9 20 (Nat.le_of_ble_eq_true rfl)
          conv at E20 => rhs; whnf
          have E21 : f 21 = _ := ht9 21 (Nat.le_of_ble_eq_true rfl)
          conv at E21 => rhs; whnf
          have E22 : f 22 = _ := ht9 22 (Nat.le_of_ble_eq_true rfl)
          conv at E22 => rhs; whnf
          have E23 : f 23 = _ := ht9 23 (Nat.le_of_ble_eq_true rfl)
          conv at E23 => rhs; whnf
          have E24 : f 24 = _ := ht9 24 (Nat.le_of_ble_eq_true rfl)
          conv at E24 => rhs; whnf
          have E25 : f 25 = _ := ht9 25 (Nat.le_of_ble_eq_true rfl)
          conv at E25 => rhs; whnf
          have E26 : f 26 = _ := ht9 26 (Nat.le_of_ble_eq_true rfl)
          conv at E26 => rhs; whnf
          have E27 : f 27 = _ := ht9 27 (Nat.le_of_ble_eq_true rfl)
          have E28 : f 28 = _ := ht9 28 (Nat.le_of_ble_eq_true rfl)
          have Ho9 : Only _ wz w9 := hI9.2.1
          simp only [putAll, E0, E1, E2, E3, E4, E5, E6, E7, E8, E9, E10, E11, E12, E13, E14, E15, E16, E17, E18, E19, E20, E21, E22, E23, E24, E25, E26, E27, E28, Nat.zero_add, Nat.reduceAdd, Act.put, List.setIfInBounds_toArray, List.set_cons_succ, List.set_cons_zero]
          clear E0 E1 E2 E3 E4 E5 E6 E7 E8 E9 E10 E11 E12 E13 E14 E15 E16 E17 E18 E19 E20 E21 E22 E23 E24 E25 E26 E27 E28
          clear hI9 ht9 hcp9 hk9
          have hb := only_below Ho9
          replace B := Lib.hid (B.out.trans (hb.mono B.out.size))
          clear hb Ho9 z p0 p1 p2 p3
          go_wp2_with fail
          go_ret
          exact ⟨rfl, B.out⟩
        · have dge : decide ((j : Int) ≥ ((Cir.toCz d).outs.length : Int)) = false := decide_eq_false (by rw [hlen]; omega)
          have dge2 : decide (((Cir.toCz d).outs.length : Int) ≤ (j : Int)) = false := decide_eq_false (by rw [hlen]; omega)
          have dge3 : decide ((Cir.toCz d).outs.length ≤ j) = false := decide_eq_false (by rw [hlen]; omega)
          have hlj : j < (Cir.toCz d).outs.length := by rw [hlen]; omega
          obtain ⟨l, hl⟩ := at_some (show j < d.outs.length by omega)
          have hlN := Hd.out.out l (List.mem_of_getElem? hl)
          have HR : Hid (Row wz 1 (.slice Ao (Cir.toCz d).outs.length co) (Cir.toCz d).outs.length (ints (Cir.toCz d).outs)) := Lib.hid (by
            obtain ⟨vn, vg, vo, e, r1, r2, r3⟩ := HC.out
            injection e with e
            simp only [Array.mk.injEq, List.cons.injEq, and_true] at e
            obtain ⟨-, e1, e2, e3⟩ := e
            subst e1 e2 e3
            exact r3)
          obtain ⟨b, oo, x, rfl, hbl, hx, hs⟩ := ints_open HR.out (Below.refl _ _) rfl hlj
          have hxe : x = (l : Int) := by
            have h1 := hx.out
            unfold Cir.toCz at h1
            rw [List.getElem?_map, hl] at h1
            exact (Option.some.inj h1).symm
          subst hxe
          have HCB := Lib.hid (fun w' (hb : Below wz.heap.size wz w') => canBeTrue_any _ d l w' (HC.out.below hb) Hd.out Hv.out hlN)
          cases hcb : canB d l
          · have HNv := Lib.hid (Cir.never Hd.out hl (fun st inp l1 l2 => canB_no hcb st inp l1 l2))
            rw [hcb] at HCB
            clear hx hl hlN hlen hge hcb
            go_wp2_with fail
            refine wp_region_rsG [(2, some false), (9, some false), (18, some false), (22, some true)] (quietRS Try.prog _ wz _) quietRS_ok (by kernel_rfl) (by kernel_rfl) (by kernel_rfl) (Nat.le_of_ble_eq_true rfl) trivial trivial ?_
            refine rs_peel ?_
            refine rs_old quietRS_ok quiet_any _ (.inl rfl) _ rfl rfl ?_
            refine rs_peel ?_
            apply rs_eq quietRS_ok quiet_any
            · intro ρ w' ho hK
              have ho : Only _ wz w' := ho
              obtain ⟨h0, h1, -⟩ := hK
              have h0' : ρ (.tmp 37) = _ := h0
              have h1' : ρ (.const (Value.int IntKind.i64 0)) = (Value.int IntKind.i64 0) := h1
              go_simp
              try exact rfl
            refine rs_peel ?_
            refine rs_same quietRS_ok quiet_any 38 1 (.inl rfl) rfl _ rfl ?_
            refine rs_run rfl ?_
            refine rs_old quietRS_ok quiet_any _ (.inl rfl) _ rfl rfl ?_
            refine rs_run rfl ?_
            apply rs_eq quietRS_ok quiet_any
            · intro ρ w' ho hK
              have ho : Only _ wz w' := ho
              obtain ⟨h0, -⟩ := hK
              have h0' : ρ (.tmp 3) = _ := h0
              go_simp
              try exact rfl
            refine rs_run rfl ?_
            apply rs_eq quietRS_ok quiet_any
            · intro ρ w' ho hK
              have ho : Only _ wz w' := ho
              obtain ⟨h0, -⟩ := hK
              have h0' : ρ (.tmp 41) = _ := h0
              have hb := only_below ho
              have q0 := (hb.cell (p := ⟨gb, 0, none⟩) z).trans p0
              have q1 := (hb.cell (p := ⟨gb, 1, none⟩) z).trans p1
              have q2 := (hb.cell (p := ⟨gb, 2, none⟩) z).trans p2
              have q3 := (hb.cell (p := ⟨gb, 3, none⟩) z).trans p3
              have q4 := (hb.cell (p := ⟨b, oo + j, none⟩) hbl).trans hs
              go_simp
              try exact rfl
            refine rs_run rfl ?_
            apply rs_eq quietRS_ok quiet_any
            · intro ρ w' ho hK
              have ho : Only _ wz w' := ho
              obtain ⟨h0, -⟩ := hK
              have h0' : ρ (.tmp 42) = _ := h0
              go_simp
              try exact rfl
            refine rs_run rfl ?_
            apply rs_eq quietRS_ok quiet_any
            · intro ρ w' ho hK
              have ho : Only _ wz w' := ho
              obtain ⟨h0, h1, -⟩ := hK
              have h0' : ρ (.tmp 40) = _ := h0
              have h1' : ρ (.tmp 43) = _ := h1
              go_simp
              try exact rfl
            refine rs_peel ?_
            apply rs_eq quietRS_ok quiet_any
            · intro ρ w' ho hK
              have ho : Only _ wz w' := ho
              obtain ⟨h0, h1, h2, -⟩ := hK
              have h0' : ρ (.tmp 39) = _ := h0
              have h1' : ρ (.const (Value.bool true)) = (Value.bool true) := h1
              have h2' : ρ (.tmp 44) = _ := h2
              go_simp
              try exact rfl
            refine rs_peel ?_
            refine rs_same quietRS_ok quiet_any 45 8 (.inl rfl) rfl _ rfl ?_
            refine rs_run rfl ?_
            apply rs_eq quietRS_ok quiet_any
            · intro ρ w' ho hK
              have ho : Only _ wz w' := ho
              obtain ⟨h0, -⟩ := hK
              have h0' : ρ (.tmp 3) = _ := h0
              have hb := only_below ho
              have q0 := (hb.cell (p := ⟨gb, 0, none⟩) z).trans p0
              have q1 := (hb.cell (p := ⟨gb, 1, none⟩) z).trans p1
              have q2 := (hb.cell (p := ⟨gb, 2, none⟩) z).trans p2
              have q3 := (hb.cell (p := ⟨gb, 3, none⟩) z).trans p3
              have q4 := (hb.cell (p := ⟨b, oo + j, none⟩) hbl).trans hs
              go_simp
              try exact rfl
            refine rs_run rfl ?_
            apply rs_eq quietRS_ok quiet_any
            · intro ρ w' ho hK
              have ho : Only _ wz w' := ho
              obtain ⟨h0, -⟩ := hK
              have h0' : ρ (.tmp 3) = _ := h0
              go_simp
              try exact rfl
            refine rs_run rfl ?_
            apply rs_eq quietRS_ok quiet_any
            · intro ρ w' ho hK
              have ho : Only _ wz w' := ho
              obtain ⟨h0, -⟩ := hK
              have h0' : ρ (.tmp 48) = _ := h0
              have hb := only_below ho
              have q0 := (hb.cell (p := ⟨gb, 0, none⟩) z).trans p0
              have q1 := (hb.cell (p := ⟨gb, 1, none⟩) z).trans p1
              have q2 := (hb.cell (p := ⟨gb, 2, none⟩) z).trans p2
              have q3 := (hb.cell (p := ⟨gb, 3, none⟩) z).trans p3
              have q4 := (hb.cell (p := ⟨b, oo + j, none⟩) hbl).trans hs
              go_simp
              try exact rfl
            refine rs_run rfl ?_
            refine rs_old quietRS_ok quiet_any _ (.inl rfl) _ rfl rfl ?_
            refine rs_run rfl ?_
            apply rs_eq quietRS_ok quiet_any
            · intro ρ w' ho hK
              have ho : Only _ wz w' := ho
              obtain ⟨h0, h1, -⟩ := hK
              have h0' : ρ (.tmp 49) = _ := h0
              have h1' : ρ (.tmp 50) = _ := h1
              go_simp
              try exact rfl
            refine rs_run rfl ?_
            apply rs_eq quietRS_ok quiet_any
            · intro ρ w' ho hK
              have ho : Only _ wz w' := ho
              obtain ⟨h0, -⟩ := hK
              have h0' : ρ (.tmp 51) = _ := h0
              have hb := only_below ho
              have q0 := (hb.cell (p := ⟨gb, 0, none⟩) z).trans p0
              have q1 := (hb.cell (p := ⟨gb, 1, none⟩) z).trans p1
              have q2 := (hb.cell (p := ⟨gb, 2, none⟩) z).trans p2
              have q3 := (hb.cell (p := ⟨gb, 3, none⟩) z).trans p3
              have q4 := (hb.cell (p := ⟨b, oo + j, none⟩) hbl).trans hs
              go_simp
              try exact rfl
            refine rs_run rfl ?_
            refine rs_call quietRS_ok quiet_any (TEq (.bool false)) (stb_eq _ _) 23 _ _ rfl (fun ρ w' ho hK => by
              have ho : Only _ wz w' := ho
              obtain ⟨h0, h1, h2, -⟩ := hK
              have h0' : ρ (.func 23) = .func (.func 23) #[] #[] := h0
              have h1' : ρ (.tmp 47) = _ := h1
              have h2' : ρ (.tmp 52) = _ := h2
              refine ⟨#[ρ (.tmp 47), ρ (.tmp 52)], ?_, ?_⟩
              · go_simp
              · rw [h1', h2']
                refine (HCB.out w' (only_below ho)).mono ?_
                rintro e w2 ⟨rfl, hb⟩
                exact ⟨_, rfl, rfl, hb⟩) ?_
            refine rs_peel ?_
            apply rs_eq quietRS_ok quiet_any
            · intro ρ w' ho hK
              have ho : Only _ wz w' := ho
              obtain ⟨h0, h1, h2, -⟩ := hK
              have h0' : ρ (.tmp 46) = _ := h0
              have h1' : ρ (.const (Value.bool true)) = (Value.bool true) := h1
              have h2' : ρ (.tmp 53) = _ := h2
              go_simp
              try exact rfl
            refine rs_peel ?_
            refine rs_same quietRS_ok quiet_any 54 17 (.inl rfl) rfl _ rfl ?_
            refine rs_run rfl ?_
            apply rs_eq quietRS_ok quiet_any
            · intro ρ w' ho hK
              have ho : Only _ wz w' := ho
              obtain ⟨h0, -⟩ := hK
              have h0' : ρ (.tmp 3) = _ := h0
              have hb := only_below ho
              have q0 := (hb.cell (p := ⟨gb, 0, none⟩) z).trans p0
              have q1 := (hb.cell (p := ⟨gb, 1, none⟩) z).trans p1
              have q2 := (hb.cell (p := ⟨gb, 2, none⟩) z).trans p2
              have q3 := (hb.cell (p := ⟨gb, 3, none⟩) z).trans p3
              have q4 := (hb.cell (p := ⟨b, oo + j, none⟩) hbl).trans hs
              go_simp
              try exact rfl
            refine rs_run rfl ?_
            refine rs_old quietRS_ok quiet_any _ (.inl rfl) _ rfl rfl ?_
            refine rs_run rfl ?_
            refine rs_call quietRS_ok quiet_any (TEq (.bool true)) (stb_eq _ _) 19 _ _ rfl (fun ρ w' ho hK => by
              have ho : Only _ wz w' := ho
              obtain ⟨h0, h1, h2, -⟩ := hK
              have h0' : ρ (.func 19) = .func (.func 19) #[] #[] := h0
              have h1' : ρ (.tmp 56) = _ := h1
              have h2' : ρ (.tmp 57) = _ := h2
              refine ⟨#[ρ (.tmp 56), ρ (.tmp 57)], ?_, ?_⟩
              · go_simp
              · rw [h1', h2']
                refine (implInv_any _ (Cir.toCz d) (j : Int) w' (HC.out.below (only_below ho))).mono ?_
                rintro e w2 ⟨rfl, hb⟩
                exact ⟨_, rfl, by rw [HNv.out.1]; rfl, hb⟩) ?_
            refine rs_run rfl ?_
            refine rs_same quietRS_ok quiet_any 58 21 (.inl rfl) rfl _ rfl ?_
            refine rs_run rfl ?_
            apply rs_eq quietRS_ok quiet_any
            · intro ρ w' ho hK
              have ho : Only _ wz w' := ho
              obtain ⟨h0, -⟩ := hK
              have h0' : ρ (.tmp 3) = _ := h0
              have hb := only_below ho
              have q0 := (hb.cell (p := ⟨gb, 0, none⟩) z).trans p0
              have q1 := (hb.cell (p := ⟨gb, 1, none⟩) z).trans p1
              have q2 := (hb.cell (p := ⟨gb, 2, none⟩) z).trans p2
              have q3 := (hb.cell (p := ⟨gb, 3, none⟩) z).trans p3
              have q4 := (hb.cell (p := ⟨b, oo + j, none⟩) hbl).trans hs
              go_simp
              try exact rfl
            refine rs_run rfl ?_
            refine rs_old quietRS_ok quiet_any _ (.inl rfl) _ rfl rfl ?_
            refine rs_run rfl ?_
            refine rs_call quietRS_ok quiet_any (TEq (.bool true)) (stb_eq _ _) 22 _ _ rfl (fun ρ w' ho hK => by
              have ho : Only _ wz w' := ho
              obtain ⟨h0, h1, h2, h3, -⟩ := hK
              have h0' : ρ (.func 22) = .func (.func 22) #[] #[] := h0
              have h1' : ρ (.tmp 60) = _ := h1
              have h2' : ρ (.tmp 61) = _ := h2
              have h3' : ρ (.const (Value.int IntKind.i64 1)) = (Value.int IntKind.i64 1) := h3
              refine ⟨#[ρ (.tmp 60), ρ (.tmp 61), ρ (.const (Value.int IntKind.i64 1))], ?_, ?_⟩
              · go_simp
              · rw [h1', h2', h3']
                refine (implInd_any _ (Cir.toCz d) (j : Int) 1 w' (HC.out.below (only_below ho))).mono ?_
                rintro e w2 ⟨rfl, hb⟩
                exact ⟨_, rfl, by rw [HNv.out.2]; rfl, hb⟩) ?_
            refine rs_run rfl ?_
            apply rs_eq quietRS_ok quiet_any
            · intro ρ w' ho hK
              have ho : Only _ wz w' := ho
              obtain ⟨h0, h1, h2, -⟩ := hK
              have h0' : ρ (.tmp 59) = _ := h0
              have h1' : ρ (.tmp 62) = _ := h1
              have h2' : ρ (.const (Value.bool false)) = (Value.bool false) := h2
              go_simp
              try exact rfl
            refine rs_peel ?_
            apply rs_eq quietRS_ok quiet_any
            · intro ρ w' ho hK
              have ho : Only _ wz w' := ho
              obtain ⟨h0, h1, h2, -⟩ := hK
              have h0' : ρ (.tmp 55) = _ := h0
              have h1' : ρ (.const (Value.bool true)) = (Value.bool true) := h1
              have h2' : ρ (.tmp 63) = _ := h2
              go_simp
              try exact rfl
            refine rs_peel ?_
            refine rs_same quietRS_ok quiet_any 64 27 (.inr rfl) rfl _ rfl ?_
            refine ⟨⟨rfl, rfl, rfl, rfl, trivial⟩, ?_⟩
            intro f w9 k9 hk9 hI9 ht9 hcp9
            have E0 : f 0 = _ := ht9 0 (Nat.le_of_ble_eq_true rfl)
            conv at E0 => rhs; whnf
            have E1 : f 1 = _ := ht9 1 (Nat.le_of_ble_eq_true rfl)
            have E2 : f 2 = _ := ht9 2 (Nat.le_of_ble_eq_true rfl)
            have E3 : f 3 = _ := ht9 3 (Nat.le_of_ble_eq_true rfl)
            conv at E3 => rhs; whnf
            have E4 : f 4 = _ := ht9 4 (Nat.le_of_ble_eq_true rfl)
            have E5 : f 5 = _ := ht9 5 (Nat.le_of_ble_eq_true rfl)
            have E6 : f 6 = _ := ht9 6 (Nat.le_of_ble_eq_true rfl)
            have E7 : f 7 = _ := ht9 7 (Nat.le_of_ble_eq_true rfl)
            have E8 : f 8 = _ := ht9 8 (Nat.le_of_ble_eq_true rfl)
            have E9 : f 9 = _ := ht9 9 (Nat.le_of_ble_eq_true rfl)
            have E10 : f 10 = _ := ht9 10 (Nat.le_of_ble_eq_true rfl)
            have E11 : f 11 = _ := ht9 11 (Nat.le_of_ble_eq_true rfl)
            have E12 : f 12 = _ := ht9 12 (Nat.le_of_ble_eq_true rfl)
            have E13 : f 13 = _ := ht9 13 (Nat.le_of_ble_eq_true rfl)
            conv at E13 => rhs; whnf
            have E14 : f 14 = _ := ht9 14 (Nat.le_of_ble_eq_true rfl)
            have E15 : f 15 = _ := ht9 15 (Nat.le_of_ble_eq_true rfl)
            have E16 : f 16 = _ := ht9 16 (Nat.le_of_ble_eq_true rfl)
            have E17 : f 17 = _ := ht9 17 (Nat.le_of_ble_eq_true rfl)
            have E18 : f 18 = _ := ht9 18 (Nat.le_of_ble_eq_true rfl)
            have E19 : f 19 = _ := ht9 19 (Nat.le_of_ble_eq_true rfl)
            have E20 : f 20 = _ := ht9 20 (Nat.le_of_ble_eq_true rfl)
            conv at E20 => rhs; whnf
            have E21 : f 21 = _ := ht9 21 (Nat.le_of_ble_eq_true rfl)
            have E22 : f 22 = _ := ht9 22 (Nat.le_of_ble_eq_true rfl)
            have E23 : f 23 = _ := ht9 23 (Nat.le_of_ble_eq_true rfl)
            have E24 : f 24 = _ := ht9 24 (Nat.le_of_ble_eq_true rfl)
            conv at E24 => rhs; whnf
            have E25 : f 25 = _ := ht9 25 (Nat.le_of_ble_eq_true rfl)
            have E26 : f 26 = _ := ht9 26 (Nat.le_of_ble_eq_true rfl)
            have E27 : f 27 = _ := ht9 27 (Nat.le_of_ble_eq_true rfl)
            have E28 : f 28 = _ := ht9 28 (Nat.le_of_ble_eq_true rfl)
            have Ho9 : Only _ wz w9 := hI9.2.1
            simp only [putAll, E0, E1, E2, E3, E4, E5, E6, E7, E8, E9, E10, E11, E12, E13, E14, E15, E16, E17, E18, E19, E20, E21, E22, E23, E24, E25, E26, E27, E28, Nat.zero_add, Nat.reduceAdd, Act.put, List.setIfInBounds_toArray, List.set_cons_succ, List.set_cons_zero]
            clear E0 E1 E2 E3 E4 E5 E6 E7 E8 E9 E10 E11 E12 E13 E14 E15 E16 E17 E18 E19 E20 E21 E22 E23 E24 E25 E26 E27 E28
            clear hI9 ht9 hcp9 hk9
            have hb := only_below Ho9
            replace B := Lib.hid (B.out.trans (hb.mono B.out.size))
            clear hb Ho9 z p0 p1 p2 p3
            go_wp2_with fail
            go_ret
            exact ⟨rfl, B.out⟩
          · rw [hcb] at HCB
            clear hx hl hlN hlen hge hcb
            go_wp2_with fail
            refine wp_region_rsG [(2, some false), (9, some false), (18, some true), (22, none)] (quietRS Try.prog _ wz _) quietRS_ok (by kernel_rfl) (by kernel_rfl) (by kernel_rfl) (Nat.le_of_ble_eq_true rfl) trivial trivial ?_
            refine rs_peel ?_
            refine rs_old quietRS_ok quiet_any _ (.inl rfl) _ rfl rfl ?_
            refine rs_peel ?_
            apply rs_eq quietRS_ok quiet_any
            · intro ρ w' ho hK
              have ho : Only _ wz w' := ho
              obtain ⟨h0, h1, -⟩ := hK
              have h0' : ρ (.tmp 37) = _ := h0
              have h1' : ρ (.const (Value.int IntKind.i64 0)) = (Value.int IntKind.i64 0) := h1
              go_simp
              try exact rfl
            refine rs_peel ?_
            refine rs_same quietRS_ok quiet_any 38 1 (.inl rfl) rfl _ rfl ?_
            refine rs_run rfl ?_
            refine rs_old quietRS_ok quiet_any _ (.inl rfl) _ rfl rfl ?_
            refine rs_run rfl ?_
            apply rs_eq quietRS_ok quiet_any
            · intro ρ w' ho hK
              have ho : Only _ wz w' := ho
              obtain ⟨h0, -⟩ := hK
              have h0' : ρ (.tmp 3) = _ := h0
              go_simp
              try exact rfl
            refine rs_run rfl ?_
            apply rs_eq quietRS_ok quiet_any
            · intro ρ w' ho hK
              have ho : Only _ wz w' := ho
              obtain ⟨h0, -⟩ := hK
              have h0' : ρ (.tmp 41) = _ := h0
              have hb := only_below ho
              have q0 := (hb.cell (p := ⟨gb, 0, none⟩) z).trans p0
              have q1 := (hb.cell (p := ⟨gb, 1, none⟩) z).trans p1
              have q2 := (hb.cell (p := ⟨gb, 2, none⟩) z).trans p2
              have q3 := (hb.cell (p := ⟨gb, 3, none⟩) z).trans p3
              have q4 := (hb.cell (p := ⟨b, oo + j, none⟩) hbl).trans hs
              go_simp
              try exact rfl
            refine rs_run rfl ?_
            apply rs_eq quietRS_ok quiet_any
            · intro ρ w' ho hK
              have ho : Only _ wz w' := ho
              obtain ⟨h0, -⟩ := hK
              have h0' : ρ (.tmp 42) = _ := h0
              go_simp
              try exact rfl
            refine rs_run rfl ?_
            apply rs_eq quietRS_ok quiet_any
            · intro ρ w' ho hK
              have ho : Only _ wz w' := ho
              obtain ⟨h0, h1, -⟩ := hK
              have h0' : ρ (.tmp 40) = _ := h0
              have h1' : ρ (.tmp 43) = _ := h1
              go_simp
              try exact rfl
            refine rs_peel ?_
            apply rs_eq quietRS_ok quiet_any
            · intro ρ w' ho hK
              have ho : Only _ wz w' := ho
              obtain ⟨h0, h1, h2, -⟩ := hK
              have h0' : ρ (.tmp 39) = _ := h0
              have h1' : ρ (.const (Value.bool true)) = (Value.bool true) := h1
              have h2' : ρ (.tmp 44) = _ := h2
              go_simp
              try exact rfl
            refine rs_peel ?_
            refine rs_same quietRS_ok quiet_any 45 8 (.inl rfl) rfl _ rfl ?_
            refine rs_run rfl ?_
            apply rs_eq quietRS_ok quiet_any
            · intro ρ w' ho hK
              have ho : Only _ wz w' := ho
              obtain ⟨h0, -⟩ := hK
              have h0' : ρ (.tmp 3) = _ := h0
              have hb := only_below ho
              have q0 := (hb.cell (p := ⟨gb, 0, none⟩) z).trans p0
              have q1 := (hb.cell (p := ⟨gb, 1, none⟩) z).trans p1
              have q2 := (hb.cell (p := ⟨gb, 2, none⟩) z).trans p2
              have q3 := (hb.cell (p := ⟨gb, 3, none⟩) z).trans p3
              have q4 := (hb.cell (p := ⟨b, oo + j, none⟩) hbl).trans hs
              go_simp
              try exact rfl
            refine rs_run rfl ?_
            apply rs_eq quietRS_ok quiet_any
            · intro ρ w' ho hK
              have ho : Only _ wz w' := ho
              obtain ⟨h0, -⟩ := hK
              have h0' : ρ (.tmp 3) = _ := h0
              go_simp
              try exact rfl
            refine rs_run rfl ?_
            apply rs_eq quietRS_ok quiet_any
            · intro ρ w' ho hK
              have ho : Only _ wz w' := ho
              obtain ⟨h0, -⟩ := hK
              have h0' : ρ (.tmp 48) = _ := h0
              have hb := only_below ho
              have q0 := (hb.cell (p := ⟨gb, 0, none⟩) z).trans p0
              have q1 := (hb.cell (p := ⟨gb, 1, none⟩) z).trans p1
              have q2 := (hb.cell (p := ⟨gb, 2, none⟩) z).trans p2
              have q3 := (hb.cell (p := ⟨gb, 3, none⟩) z).trans p3
              have q4 := (hb.cell (p := ⟨b, oo + j, none⟩) hbl).trans hs
              go_simp
              try exact rfl
            refine rs_run rfl ?_
            refine rs_old quietRS_ok quiet_any _ (.inl rfl) _ rfl rfl ?_
            refine rs_run rfl ?_
            apply rs_eq quietRS_ok quiet_any
            · intro ρ w' ho hK
              have ho : Only _ wz w' := ho
              obtain ⟨h0, h1, -⟩ := hK
              have h0' : ρ (.tmp 49) = _ := h0
              have h1' : ρ (.tmp 50) = _ := h1
              go_simp
              try exact rfl
            refine rs_run rfl ?_
            apply rs_eq quietRS_ok quiet_any
            · intro ρ w' ho hK
              have ho : Only _ wz w' := ho
              obtain ⟨h0, -⟩ := hK
              have h0' : ρ (.tmp 51) = _ := h0
              have hb := only_below ho
              have q0 := (hb.cell (p := ⟨gb, 0, none⟩) z).trans p0
              have q1 := (hb.cell (p := ⟨gb, 1, none⟩) z).trans p1
              have q2 := (hb.cell (p := ⟨gb, 2, none⟩) z).trans p2
              have q3 := (hb.cell (p := ⟨gb, 3, none⟩) z).trans p3
              have q4 := (hb.cell (p := ⟨b, oo + j, none⟩) hbl).trans hs
              go_simp
              try exact rfl
            refine rs_run rfl ?_
            refine rs_call quietRS_ok quiet_any (TEq (.bool true)) (stb_eq _ _) 23 _ _ rfl (fun ρ w' ho hK => by
              have ho : Only _ wz w' := ho
              obtain ⟨h0, h1, h2, -⟩ := hK
              have h0' : ρ (.func 23) = .func (.func 23) #[] #[] := h0
              have h1' : ρ (.tmp 47) = _ := h1
              have h2' : ρ (.tmp 52) = _ := h2
              refine ⟨#[ρ (.tmp 47), ρ (.tmp 52)], ?_, ?_⟩
              · go_simp
              · rw [h1', h2']
                refine (HCB.out w' (only_below ho)).mono ?_
                rintro e w2 ⟨rfl, hb⟩
                exact ⟨_, rfl, rfl, hb⟩) ?_
            refine rs_peel ?_
            apply rs_eq quietRS_ok quiet_any
            · intro ρ w' ho hK
              have ho : Only _ wz w' := ho
              obtain ⟨h0, h1, h2, -⟩ := hK
              have h0' : ρ (.tmp 46) = _ := h0
              have h1' : ρ (.const (Value.bool true)) = (Value.bool true) := h1
              have h2' : ρ (.tmp 53) = _ := h2
              go_simp
              try exact rfl
            refine rs_peel ?_
            refine rs_same quietRS_ok quiet_any 54 17 (.inl rfl) rfl _ rfl ?_
            refine rs_skip rfl (by decide) ?_
            refine rs_old quietRS_ok quiet_any (.const undef) (.inl rfl) _ rfl rfl ?_
            refine rs_skip rfl (by decide) ?_
            refine rs_old quietRS_ok quiet_any (.const undef) (.inl rfl) _ rfl rfl ?_
            refine rs_skip rfl (by decide) ?_
            refine rs_old quietRS_ok quiet_any (.const undef) (.inl rfl) _ rfl rfl ?_
            refine rs_skip rfl (by decide) ?_
            refine rs_old quietRS_ok quiet_any (.const undef) (.inl rfl) _ rfl rfl ?_
            refine rs_skip rfl (by decide) ?_
            refine rs_old quietRS_ok quiet_any (.const undef) (.inl rfl) _ rfl rfl ?_
            refine rs_skip rfl (by decide) ?_
            refine rs_old quietRS_ok quiet_any (.const undef) (.inl rfl) _ rfl rfl ?_
            refine rs_skip rfl (by decide) ?_
            refine rs_old quietRS_ok quiet_any (.const undef) (.inl rfl) _ rfl rfl ?_
            refine rs_skip rfl (by decide) ?_
            refine rs_old quietRS_ok quiet_any (.const undef) (.inl rfl) _ rfl rfl ?_
            refine rs_peel ?_
            apply rs_eq quietRS_ok quiet_any
            · intro ρ w' ho hK
              have ho : Only _ wz w' := ho
              obtain ⟨h0, h1, h2, -⟩ := hK
              have h0' : ρ (.tmp 55) = _ := h0
              have h1' : ρ (.const (Value.bool true)) = (Value.bool true) := h1
              have h2' : ρ (.tmp 63) = _ := h2
              go_simp
              try exact rfl
            refine rs_peel ?_
            refine rs_same quietRS_ok quiet_any 64 27 (.inr rfl) rfl _ rfl ?_
            refine ⟨⟨rfl, rfl, rfl, rfl, trivial⟩, ?_⟩
            intro f w9 k9 hk9 hI9 ht9 hcp9
            have E0 : f 0 = _ := ht9 0 (Nat.le_of_ble_eq_true rfl)
            conv at E0 => rhs; whnf
            have E1 : f 1 = _ := ht9 1 (Nat.le_of_ble_eq_true rfl)
            have E2 : f 2 = _ := ht9 2 (Nat.le_of_ble_eq_true rfl)
            have E3 : f 3 = _ := ht9 3 (Nat.le_of_ble_eq_true rfl)
            conv at E3 => rhs; whnf
            have E4 : f 4 = _ := ht9 4 (Nat.le_of_ble_eq_true rfl)
            have E5 : f 5 = _ := ht9 5 (Nat.le_of_ble_eq_true rfl)
            have E6 : f 6 = _ := ht9 6 (Nat.le_of_ble_eq_true rfl)
            have E7 : f 7 = _ := ht9 7 (Nat.le_of_ble_eq_true rfl)
            have E8 : f 8 = _ := ht9 8 (Nat.le_of_ble_eq_true rfl)
            have E9 : f 9 = _ := ht9 9 (Nat.le_of_ble_eq_true rfl)
            have E10 : f 10 = _ := ht9 10 (Nat.le_of_ble_eq_true rfl)
            have E11 : f 11 = _ := ht9 11 (Nat.le_of_ble_eq_true rfl)
            have E12 : f 12 = _ := ht9 12 (Nat.le_of_ble_eq_true rfl)
            have E13 : f 13 = _ := ht9 13 (Nat.le_of_ble_eq_true rfl)
            conv at E13 => rhs; whnf
            have E14 : f 14 = _ := ht9 14 (Nat.le_of_ble_eq_true rfl)
            have E15 : f 15 = _ := ht9 15 (Nat.le_of_ble_eq_true rfl)
            have E16 : f 16 = _ := ht9 16 (Nat.le_of_ble_eq_true rfl)
            have E17 : f 17 = _ := ht9 17 (Nat.le_of_ble_eq_true rfl)
            have E18 : f 18 = _ := ht9 18 (Nat.le_of_ble_eq_true rfl)
            have E19 : f 19 = _ := ht9 19 (Nat.le_of_ble_eq_true rfl)
            conv at E19 => rhs; whnf
            have E20 : f 20 = _ := ht9 20 (Nat.le_of_ble_eq_true rfl)
            conv at E20 => rhs; whnf
            have E21 : f 21 = _ := ht9 21 (Nat.le_of_ble_eq_true rfl)
            conv at E21 => rhs; whnf
            have E22 : f 22 = _ := ht9 22 (Nat.le_of_ble_eq_true rfl)
            conv at E22 => rhs; whnf
            have E23 : f 23 = _ := ht9 23 (Nat.le_of_ble_eq_true rfl)
            conv at E23 => rhs; whnf
            have E24 : f 24 = _ := ht9 24 (Nat.le_of_ble_eq_true rfl)
            conv at E24 => rhs; whnf
            have E25 : f 25 = _ := ht9 25 (Nat.le_of_ble_eq_true rfl)
            conv at E25 => rhs; whnf
            have E26 : f 26 = _ := ht9 26 (Nat.le_of_ble_eq_true rfl)
            conv at E26 => rhs; whnf
            have E27 : f 27 = _ := ht9 27 (Nat.le_of_ble_eq_true rfl)
            have E28 : f 28 = _ := ht9 28 (Nat.le_of_ble_eq_true rfl)
            have Ho9 : Only _ wz w9 := hI9.2.1
            simp only [putAll, E0, E1, E2, E3, E4, E5, E6, E7, E8, E9, E10, E11, E12, E13, E14, E15, E16, E17, E18, E19, E20, E21, E22, E23, E24, E25, E26, E27, E28, Nat.zero_add, Nat.reduceAdd, Act.put, List.setIfInBounds_toArray, List.set_cons_succ, List.set_cons_zero]
            clear E0 E1 E2 E3 E4 E5 E6 E7 E8 E9 E10 E11 E12 E13 E14 E15 E16 E17 E18 E19 E20 E21 E22 E23 E24 E25 E26 E27 E28
            clear hI9 ht9 hcp9 hk9
            have hb := only_below Ho9
            replace B := Lib.hid (B.out.trans (hb.mono B.out.size))
            clear hb Ho9 z p0 p1 p2 p3
            go_wp2_with fail
            go_ret
            exact ⟨rfl, B.out⟩
  · go_enter Try.func5, Try.ntmps5
    go_wp2_with fail
    go_ret
    exact ⟨rfl, Below.refl _ _⟩

/-! The step from the walk to the row. -/
set_option maxRecDepth 100000 in
theorem lifted (os : Os) (started : os.Started) (H : Type) (enc : TypeId × Value → H) :
    ReturnsInHanded {} Try.checked os 5 .any (Rows.fnInvariantConstantSpec.pre6 enc Try.prog Try.f5 Rows.fnInvariantConstantRow.domain false) (Rows.fnInvariantConstantSpec.post enc Try.prog Try.f5 false true false false) := by
  refine returnsInHanded_of_change (C := Try.checked) own started (by kernel_rfl) Try.func5
    (ChangeSpec.witness6 (enc := enc) (C := Try.checked) false ⟨#[], #[.slice none 0 0], []⟩ 8 (by kernel_rfl) (by kernel_rfl) (by kernel_rfl) (by kernel_rfl)) ?_
  intro W base args ds gs before hval0 hW hcnd _
  have hval : ∀ (j : Nat) t v, Try.f5.params[j]? = some t → args[j]? = some v → Value.okWide Try.prog W .any base t v := hval0
  have hW' := hW
  obtain ⟨p, q, hA0, hV, rfl, hfz, hnd⟩ := hW
  have hA : DataW.TrodAll enc Try.prog W 0 (fun _ => true) true Try.f5.params.toList args.toList ds p := hA0
  rw [Try.params5] at hA hval
  obtain ⟨v0, vs0, d0, ds0, p0, q0, hargs, rfl, rfl, h0, r0⟩ := trodAll_cons hA
  obtain ⟨rfl, rfl, rfl⟩ := trodAll_nil r0
  obtain rfl : args = #[v0] := by cases args; simp_all
  obtain ⟨rfl, rfl⟩ := trodVars_none hV
  obtain ⟨a0, len0, cap0, rfl⟩ := okWide_slice Try.underlying22 (hval 0 22 v0 rfl rfl)
  have k0 := h0
  have lt0 : ∀ x ∈ p0, x.block < W.heap.size := by obtain ⟨m, hm⟩ := k0; exact DataW.trod_lt m _ _ _ hm
  obtain ⟨z0, w0⟩ : ∃ zs, IsRow .u8 W a0 len0 cap0 zs := by
    obtain ⟨fuel, hf⟩ := h0
    rcases open_ints Try.underlying22 Try.underlying5 (by kernel_rfl) hf with ⟨hcs, _⟩ | ⟨x, l, c, zs, hcs, _, hl, hm, hz, _, hcell, hwz⟩
    · simp [Value.cells] at hcs
      obtain ⟨rfl, rfl, rfl⟩ := hcs
      exact ⟨[], .inl ⟨rfl, rfl, rfl, rfl⟩⟩
    · simp [Value.cells] at hcs
      obtain ⟨rfl, rfl, rfl⟩ := hcs
      exact ⟨zs, .inr ⟨_, rfl, hl, hm, by simpa using hz, hcell, hwz⟩⟩
  clear hA0 hval0
  refine (walk a0 len0 cap0 z0 W w0).mono fun e W' ⟨he, bel⟩ => ?_
  subst he
  exact ⟨_, rfl, _, _, _, [], _, [], hW', trodAll_mk1 (shut_bool Try.underlying4 _), (trodAll_cons_mk (Below.trod laidOut (by kernel_rfl) (of_decide_eq_true (by kernel_rfl)) k0 bel lt0) trodAll_mk0), rfl, bel.frame _, fun h => by cases h⟩

theorem over : Rows.fnInvariantConstantRow.holds Try.pinned (OpenSpec.ofChange Rows.fnInvariantConstantSpec) :=
  OpenClaim.holds_of_wide 5 Try.f5 rfl rfl rfl rfl rfl rfl rfl ⟨rfl, rfl, rfl, rfl, rfl⟩ rfl rfl rfl rfl rfl (by kernel_rfl) Try.func5 (by kernel_rfl)
    (of_decide_eq_true (by kernel_rfl)) (by unfold Func.isWrapper; first | (rw [if_pos (by decide +kernel)]; kernel_rfl) | (rw [if_neg (by decide +kernel)]; exact ⟨rfl, rfl⟩))
    (fun os started H enc _ => lifted os started H enc)

/-- The statement. -/
theorem proved : Rows.FnInvariantConstantSaid := over
#print axioms proved
end Go.Proofs.Ytkkkjbinfdohpaa.fnInvariantConstant
