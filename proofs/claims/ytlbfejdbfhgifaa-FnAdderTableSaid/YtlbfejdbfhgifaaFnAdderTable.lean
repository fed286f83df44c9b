/-
  FnAdderTable: The half adder has the tables 6 and 8; the sum has two prime implicants, the carry one.
  Conditions: none. For every input that the row reads, the Go function laws.FnAdderTable returns true and leaves its arguments as they were.
-/
import Derived.Test.YtlbfejdbfhgifaaS09
import Derived.Test.YtlbfejdbfhgifaaS03
import Derived.Test.YtlbfejdbfhgifaaS10
import Derived.Test.YtlbfejdbfhgifaaS12
import Derived.StillTailTactics
import Derived.Test.YtlbfejdbfhgifaaRows
import Derived.WalkKit
import Derived.ProofKit
import Derived.OpenShut
import Derived.ShutString
import Derived.ChangeOld
import Derived.Below
set_option linter.unusedVariables false
set_option linter.unusedSimpArgs false
namespace Go.Proofs.Ytlbfejdbfhgifaa.fnAdderTable
open Go.ChangeShapes Go.WideShapes Go.ChangeAt Go.RowKit
open Go.ChangeMaps (open_string shut_string)
set_option linter.unusedVariables false

theorem own : ownKnob Try.prog.godebug = none := by kernel_rfl
theorem laidOut : laidOutB Try.prog = true := by kernel_rfl

/-- A slice of integers that came in: nil, or a row of cells. -/
def IsRow (k : IntKind) (w : World) (a : Option Addr) (len cap : Nat) (zs : List Int) : Prop :=
  (a = none ∧ len = 0 ∧ cap = 0 ∧ zs = []) ∨
  ∃ x, a = some x ∧ len ≤ cap ∧ cap ≤ maxLen ∧ zs.length = cap ∧ (∀ i, i < zs.length → w.cell? (x.add i) = some (.int k (zs.getD i 0))) ∧ ∀ n ∈ zs, (Lit.int k n).wf = true

theorem at_t0 : Cir.tabI adder1 10 = 6 := by decide +kernel
theorem at_t1 : Cir.tabI adder1 6 = 8 := by decide +kernel
theorem at_p0 : (primesI 6 2).length = 2 := by decide +kernel
theorem at_p1 : (primesI 8 2).length = 1 := by decide +kernel
set_option maxHeartbeats 8000000 in
set_option maxRecDepth 100000 in
/-- The walk: the Go text returns true. -/
theorem walk (a0 : Option Addr) (len0 cap0 : Nat) (z0 : List Int) (w : World) (w0 : IsRow .u8 w a0 len0 cap0 z0) :
    Calls Try.prog 6 #[.slice a0 len0 cap0] w fun e w' => e = .returned (.bool true) ∧ Below w.heap.size w w' := by
  obtain ⟨bs, rfl, hwf, hr⟩ := Row.given w0
  clear w0
  by_cases hl : bs.length ≤ 1048576
  · clear hr hwf
    go_enter Try.func6, Try.ntmps6
    go_wp2_with fail
    refine (adder1_any _).mono ?_
    rintro e w1 ⟨⟨v, rfl, hC⟩, hb1⟩
    obtain ⟨vn, vg, vo, rfl, r1, r2, r3⟩ := hC
    have HC1 : Hid (CircAt w1 (.agg #[.int .i64 2, vn, vg, vo]) adder1) := Lib.hid ⟨vn, vg, vo, rfl, r1, r2, r3⟩
    obtain ⟨An, cn, rfl, -, -⟩ := Row.shape r1
    obtain ⟨Ag, cg, rfl, -, -⟩ := Row.shape r2
    obtain ⟨Ao, co, rfl, -, -⟩ := Row.shape r3
    have R3 := Lib.hid r3
    obtain ⟨bo, oo, x0, hAo, hbl, hx0, -⟩ := ints_open r3 (Below.refl _ _) rfl (show 0 < adder1.outs.length by decide)
    subst hAo
    rw [show adder1.ins = 2 from rfl, show adder1.next.length = 0 from rfl, show adder1.gates.length = 3 from rfl, show adder1.outs.length = 2 from rfl]
    have hb2 := bel_new w1 (.cells #[.int .i64 2, .slice An 0 cn, .slice Ag 3 cg, .slice (some ⟨bo, oo, none⟩) 2 co] 31)
    have PC := Lib.hid (PCells.boxed w1 2 (.slice An 0 cn) (.slice Ag 3 cg) (.slice (some ⟨bo, oo, none⟩) 2 co) 31)
    have HC : Hid (CircAt (w1.alloc (.cells #[.int .i64 2, .slice An 0 cn, .slice Ag 3 cg, .slice (some ⟨bo, oo, none⟩) 2 co] 31)) (.agg #[.int .i64 2, .slice An 0 cn, .slice Ag 3 cg, .slice (some ⟨bo, oo, none⟩) 2 co]) adder1) := Lib.hid (HC1.out.below hb2)
    have HR : Hid (Row (w1.alloc (.cells #[.int .i64 2, .slice An 0 cn, .slice Ag 3 cg, .slice (some ⟨bo, oo, none⟩) 2 co] 31)) 1 (.slice (some ⟨bo, oo, none⟩) 2 co) 2 (ints adder1.outs)) := Lib.hid (Row.below R3.out hb2)
    have B := Lib.hid (hb1.trans (hb2.mono hb1.size))
    clear r1 r2 r3 hb1 hx0 HC1 R3 hb2
    go_wp2_with fail
    generalize w1.alloc (.cells #[.int .i64 2, .slice An 0 cn, .slice Ag 3 cg, .slice (some ⟨bo, oo, none⟩) 2 co] 31) = W at *
    generalize w1.heap.size = gY at *
    have hcell : ∀ w', Below W.heap.size W w' → w'.cell? ⟨bo, oo, none⟩ = some (.int .i64 10) ∧ w'.cell? ⟨bo, oo + 1, none⟩ = some (.int .i64 6) := fun w' hb => by
      obtain ⟨b1, o1, x1, e1, -, y1, z1⟩ := ints_open HR.out hb (i := 0) rfl (by decide)
      obtain ⟨b2, o2, x2, e2, -, y2, z2⟩ := ints_open HR.out hb (i := 1) rfl (by decide)
      injection e1 with e1
      injection e1 with e3 e4
      injection e2 with e2
      injection e2 with e5 e6
      subst e3 e4 e5 e6
      have f1 : x1 = 10 := (Option.some.inj y1.out).symm
      have f2 : x2 = 6 := (Option.some.inj y2.out).symm
      subst f1 f2
      exact ⟨z1, z2⟩
    have Hcell := Lib.hid hcell
    obtain ⟨z, p0, p1, p2, p3⟩ := PC.out
    clear hcell
    refine wp_region_rsG [(4, true), (13, true), (22, true), (27, true)] (quietRS Try.prog _ W _) quietRS_ok (by kernel_rfl) (by kernel_rfl) (by kernel_rfl) (Nat.le_of_ble_eq_true rfl) trivial trivial ?_
    refine rs_peel ?_
    apply rs_eq quietRS_ok quiet_any
    · intro ρ w' ho hK
      have ho : Only _ W w' := ho
      obtain ⟨h0, -⟩ := hK
      have h0' : ρ (.tmp 3) = _ := h0
      go_simp
      try exact rfl
    refine rs_peel ?_
    apply rs_eq quietRS_ok quiet_any
    · intro ρ w' ho hK
      have ho : Only _ W w' := ho
      obtain ⟨h0, -⟩ := hK
      have h0' : ρ (.tmp 8) = _ := h0
      have hb := only_below ho
      have q0 := (hb.cell (p := ⟨gY, 0, none⟩) z).trans p0
      have q1 := (hb.cell (p := ⟨gY, 1, none⟩) z).trans p1
      have q2 := (hb.cell (p := ⟨gY, 2, none⟩) z).trans p2
      have q3 := (hb.cell (p := ⟨gY, 3, none⟩) z).trans p3
      obtain ⟨q4, q5⟩ := Hcell.out _ hb
      go_simp
      try exact rfl
    refine rs_peel ?_
    apply rs_eq quietRS_ok quiet_any
    · intro ρ w' ho hK
      have ho : Only _ W w' := ho
      obtain ⟨h0, -⟩ := hK
      have h0' : ρ (.tmp 9) = _ := h0
      go_simp
      try exact rfl
    refine rs_peel ?_
    apply rs_eq quietRS_ok quiet_any
    · intro ρ w' ho hK
      have ho : Only _ W w' := ho
      obtain ⟨h0, h1, -⟩ := hK
      have h0' : ρ (.tmp 10) = _ := h0
      have h1' : ρ (.const (Value.int IntKind.i64 2)) = (Value.int IntKind.i64 2) := h1
      go_simp
      try exact rfl
    refine rs_peel ?_
    refine rs_same quietRS_ok quiet_any 11 3 (.inl rfl) rfl _ rfl ?_
    refine rs_run rfl ?_
    apply rs_eq quietRS_ok quiet_any
    · intro ρ w' ho hK
      have ho : Only _ W w' := ho
      obtain ⟨h0, -⟩ := hK
      have h0' : ρ (.tmp 3) = _ := h0
      have hb := only_below ho
      have q0 := (hb.cell (p := ⟨gY, 0, none⟩) z).trans p0
      have q1 := (hb.cell (p := ⟨gY, 1, none⟩) z).trans p1
      have q2 := (hb.cell (p := ⟨gY, 2, none⟩) z).trans p2
      have q3 := (hb.cell (p := ⟨gY, 3, none⟩) z).trans p3
      obtain ⟨q4, q5⟩ := Hcell.out _ hb
      go_simp
      try exact rfl
    refine rs_run rfl ?_
    apply rs_eq quietRS_ok quiet_any
    · intro ρ w' ho hK
      have ho : Only _ W w' := ho
      obtain ⟨h0, -⟩ := hK
      have h0' : ρ (.tmp 3) = _ := h0
      go_simp
      try exact rfl
    refine rs_run rfl ?_
    apply rs_eq quietRS_ok quiet_any
    · intro ρ w' ho hK
      have ho : Only _ W w' := ho
      obtain ⟨h0, -⟩ := hK
      have h0' : ρ (.tmp 14) = _ := h0
      have hb := only_below ho
      have q0 := (hb.cell (p := ⟨gY, 0, none⟩) z).trans p0
      have q1 := (hb.cell (p := ⟨gY, 1, none⟩) z).trans p1
      have q2 := (hb.cell (p := ⟨gY, 2, none⟩) z).trans p2
      have q3 := (hb.cell (p := ⟨gY, 3, none⟩) z).trans p3
      obtain ⟨q4, q5⟩ := Hcell.out _ hb
      go_simp
      try exact rfl
    refine rs_run rfl ?_
    apply rs_eq quietRS_ok quiet_any
    · intro ρ w' ho hK
      have ho : Only _ W w' := ho
      obtain ⟨h0, h1, -⟩ := hK
      have h0' : ρ (.tmp 15) = _ := h0
      have h1' : ρ (.const (Value.int IntKind.i64 0)) = (Value.int IntKind.i64 0) := h1
      go_simp
      try exact rfl
    refine rs_run rfl ?_
    apply rs_eq quietRS_ok quiet_any
    · intro ρ w' ho hK
      have ho : Only _ W w' := ho
      obtain ⟨h0, -⟩ := hK
      have h0' : ρ (.tmp 16) = _ := h0
      have hb := only_below ho
      have q0 := (hb.cell (p := ⟨gY, 0, none⟩) z).trans p0
      have q1 := (hb.cell (p := ⟨gY, 1, none⟩) z).trans p1
      have q2 := (hb.cell (p := ⟨gY, 2, none⟩) z).trans p2
      have q3 := (hb.cell (p := ⟨gY, 3, none⟩) z).trans p3
      obtain ⟨q4, q5⟩ := Hcell.out _ hb
      go_simp
      try exact rfl
    refine rs_run rfl ?_
    refine rs_call quietRS_ok quiet_any (TEq (.int .i64 6)) (stb_eq _ _) 29 _ _ rfl (fun ρ w' ho hK => by
      have ho : Only _ W w' := ho
      obtain ⟨h0, h1, h2, -⟩ := hK
      have h0' : ρ (.func 29) = .func (.func 29) #[] #[] := h0
      have h1' : ρ (.tmp 13) = _ := h1
      have h2' : ρ (.tmp 17) = _ := h2
      refine ⟨#[ρ (.tmp 13), ρ (.tmp 17)], ?_, ?_⟩
      · go_simp
      · rw [h1', h2']
        refine (implTable_any _ adder1 10 w' (HC.out.below (only_below ho))).mono ?_
        rintro e w2 ⟨rfl, hb⟩
        exact ⟨_, rfl, by rw [at_t0]; rfl, hb⟩) ?_
    refine rs_run rfl ?_
    apply rs_eq quietRS_ok quiet_any
    · intro ρ w' ho hK
      have ho : Only _ W w' := ho
      obtain ⟨h0, h1, -⟩ := hK
      have h0' : ρ (.tmp 18) = _ := h0
      have h1' : ρ (.const (Value.int IntKind.i64 6)) = (Value.int IntKind.i64 6) := h1
      go_simp
      try exact rfl
    refine rs_peel ?_
    apply rs_eq quietRS_ok quiet_any
    · intro ρ w' ho hK
      have ho : Only _ W w' := ho
      obtain ⟨h0, h1, h2, -⟩ := hK
      have h0' : ρ (.tmp 12) = _ := h0
      have h1' : ρ (.tmp 19) = _ := h1
      have h2' : ρ (.const (Value.bool false)) = (Value.bool false) := h2
      go_simp
      try exact rfl
    refine rs_peel ?_
    refine rs_same quietRS_ok quiet_any 20 12 (.inl rfl) rfl _ rfl ?_
    refine rs_run rfl ?_
    apply rs_eq quietRS_ok quiet_any
    · intro ρ w' ho hK
      have ho : Only _ W w' := ho
      obtain ⟨h0, -⟩ := hK
      have h0' : ρ (.tmp 3) = _ := h0
      have hb := only_below ho
      have q0 := (hb.cell (p := ⟨gY, 0, none⟩) z).trans p0
      have q1 := (hb.cell (p := ⟨gY, 1, none⟩) z).trans p1
      have q2 := (hb.cell (p := ⟨gY, 2, none⟩) z).trans p2
      have q3 := (hb.cell (p := ⟨gY, 3, none⟩) z).trans p3
      obtain ⟨q4, q5⟩ := Hcell.out _ hb
      go_simp
      try exact rfl
    refine rs_run rfl ?_
    apply rs_eq quietRS_ok quiet_any
    · intro ρ w' ho hK
      have ho : Only _ W w' := ho
      obtain ⟨h0, -⟩ := hK
      have h0' : ρ (.tmp 3) = _ := h0
      go_simp
      try exact rfl
    refine rs_run rfl ?_
    apply rs_eq quietRS_ok quiet_any
    · intro ρ w' ho hK
      have ho : Only _ W w' := ho
      obtain ⟨h0, -⟩ := hK
      have h0' : ρ (.tmp 23) = _ := h0
      have hb := only_below ho
      have q0 := (hb.cell (p := ⟨gY, 0, none⟩) z).trans p0
      have q1 := (hb.cell (p := ⟨gY, 1, none⟩) z).trans p1
      have q2 := (hb.cell (p := ⟨gY, 2, none⟩) z).trans p2
      have q3 := (hb.cell (p := ⟨gY, 3, none⟩) z).trans p3
      obtain ⟨q4, q5⟩ := Hcell.out _ hb
      go_simp
      try exact rfl
    refine rs_run rfl ?_
    apply rs_eq quietRS_ok quiet_any
    · intro ρ w' ho hK
      have ho : Only _ W w' := ho
      obtain ⟨h0, h1, -⟩ := hK
      have h0' : ρ (.tmp 24) = _ := h0
      have h1' : ρ (.const (Value.int IntKind.i64 1)) = (Value.int IntKind.i64 1) := h1
      go_simp
      try exact rfl
    refine rs_run rfl ?_
    apply rs_eq quietRS_ok quiet_any
    · intro ρ w' ho hK
      have ho : Only _ W w' := ho
      obtain ⟨h0, -⟩ := hK
      have h0' : ρ (.tmp 25) = _ := h0
      have hb := only_below ho
      have q0 := (hb.cell (p := ⟨gY, 0, none⟩) z).trans p0
      have q1 := (hb.cell (p := ⟨gY, 1, none⟩) z).trans p1
      have q2 := (hb.cell (p := ⟨gY, 2, none⟩) z).trans p2
      have q3 := (hb.cell (p := ⟨gY, 3, none⟩) z).trans p3
      obtain ⟨q4, q5⟩ := Hcell.out _ hb
      go_simp
      try exact rfl
    refine rs_run rfl ?_
    refine rs_call quietRS_ok quiet_any (TEq (.int .i64 8)) (stb_eq _ _) 29 _ _ rfl (fun ρ w' ho hK => by
      have ho : Only _ W w' := ho
      obtain ⟨h0, h1, h2, -⟩ := hK
      have h0' : ρ (.func 29) = .func (.func 29) #[] #[] := h0
      have h1' : ρ (.tmp 22) = _ := h1
      have h2' : ρ (.tmp 26) = _ := h2
      refine ⟨#[ρ (.tmp 22), ρ (.tmp 26)], ?_, ?_⟩
      · go_simp
      · rw [h1', h2']
        refine (implTable_any _ adder1 6 w' (HC.out.below (only_below ho))).mono ?_
        rintro e w2 ⟨rfl, hb⟩
        exact ⟨_, rfl, by rw [at_t1]; rfl, hb⟩) ?_
    refine rs_run rfl ?_
    apply rs_eq quietRS_ok quiet_any
    · intro ρ w' ho hK
      have ho : Only _ W w' := ho
      obtain ⟨h0, h1, -⟩ := hK
      have h0' : ρ (.tmp 27) = _ := h0
      have h1' : ρ (.const (Value.int IntKind.i64 8)) = (Value.int IntKind.i64 8) := h1
      go_simp
      try exact rfl
    refine rs_peel ?_
    apply rs_eq quietRS_ok quiet_any
    · intro ρ w' ho hK
      have ho : Only _ W w' := ho
      obtain ⟨h0, h1, h2, -⟩ := hK
      have h0' : ρ (.tmp 21) = _ := h0
      have h1' : ρ (.tmp 28) = _ := h1
      have h2' : ρ (.const (Value.bool false)) = (Value.bool false) := h2
      go_simp
      try exact rfl
    refine rs_peel ?_
    refine rs_same quietRS_ok quiet_any 29 21 (.inl rfl) rfl _ rfl ?_
    refine rs_run rfl ?_
    refine rs_call quietRS_ok quiet_any (TOf (fun v => ∃ A c, v = .slice A 2 c)) (stb_of _ _) 30 _ _ rfl (fun ρ w' ho hK => by
      have ho : Only _ W w' := ho
      obtain ⟨h0, h1, h2, -⟩ := hK
      have h0' : ρ (.func 30) = .func (.func 30) #[] #[] := h0
      have h1' : ρ (.const (Value.int IntKind.i64 6)) = (Value.int IntKind.i64 6) := h1
      have h2' : ρ (.const (Value.int IntKind.i64 2)) = (Value.int IntKind.i64 2) := h2
      refine ⟨#[ρ (.const (Value.int IntKind.i64 6)), ρ (.const (Value.int IntKind.i64 2))], ?_, ?_⟩
      · go_simp
      · rw [h1', h2']
        refine (implPrimes_any 6 2 w').mono ?_
        rintro e w2 ⟨v2, rfl, hO, hb⟩
        exact ⟨v2, rfl, by rw [at_p0] at hO; exact slice_of_own hO, hb⟩) ?_
    refine rs_run rfl ?_
    refine rs_look quietRS_ok quiet_any (TEq (.int .i64 2)) (stb_eq _ _) (fun ρ w' ho hK => by
      obtain ⟨h0, -⟩ := hK
      obtain ⟨A, c, h0'⟩ : ∃ A c, ρ (.tmp 31) = .slice A 2 c := h0
      refine ⟨.int .i64 2, ?_, rfl⟩
      go_simp) ?_
    refine rs_run rfl ?_
    apply rs_eq quietRS_ok quiet_any
    · intro ρ w' ho hK
      have ho : Only _ W w' := ho
      obtain ⟨h0, h1, -⟩ := hK
      have h0' : ρ (.tmp 32) = _ := h0
      have h1' : ρ (.const (Value.int IntKind.i64 2)) = (Value.int IntKind.i64 2) := h1
      go_simp
      try exact rfl
    refine rs_peel ?_
    apply rs_eq quietRS_ok quiet_any
    · intro ρ w' ho hK
      have ho : Only _ W w' := ho
      obtain ⟨h0, h1, h2, -⟩ := hK
      have h0' : ρ (.tmp 30) = _ := h0
      have h1' : ρ (.tmp 33) = _ := h1
      have h2' : ρ (.const (Value.bool false)) = (Value.bool false) := h2
      go_simp
      try exact rfl
    refine rs_peel ?_
    refine rs_same quietRS_ok quiet_any 34 26 (.inl rfl) rfl _ rfl ?_
    refine rs_run rfl ?_
    refine rs_call quietRS_ok quiet_any (TOf (fun v => ∃ A c, v = .slice A 1 c)) (stb_of _ _) 30 _ _ rfl (fun ρ w' ho hK => by
      have ho : Only _ W w' := ho
      obtain ⟨h0, h1, h2, -⟩ := hK
      have h0' : ρ (.func 30) = .func (.func 30) #[] #[] := h0
      have h1' : ρ (.const (Value.int IntKind.i64 8)) = (Value.int IntKind.i64 8) := h1
      have h2' : ρ (.const (Value.int IntKind.i64 2)) = (Value.int IntKind.i64 2) := h2
      refine ⟨#[ρ (.const (Value.int IntKind.i64 8)), ρ (.const (Value.int IntKind.i64 2))], ?_, ?_⟩
      · go_simp
      · rw [h1', h2']
        refine (implPrimes_any 8 2 w').mono ?_
        rintro e w2 ⟨v2, rfl, hO, hb⟩
        exact ⟨v2, rfl, by rw [at_p1] at hO; exact slice_of_own hO, hb⟩) ?_
    refine rs_run rfl ?_
    refine rs_look quietRS_ok quiet_any (TEq (.int .i64 1)) (stb_eq _ _) (fun ρ w' ho hK => by
      obtain ⟨h0, -⟩ := hK
      obtain ⟨A, c, h0'⟩ : ∃ A c, ρ (.tmp 36) = .slice A 1 c := h0
      refine ⟨.int .i64 1, ?_, rfl⟩
      go_simp) ?_
    refine rs_run rfl ?_
    apply rs_eq quietRS_ok quiet_any
    · intro ρ w' ho hK
      have ho : Only _ W w' := ho
      obtain ⟨h0, h1, -⟩ := hK
      have h0' : ρ (.tmp 37) = _ := h0
      have h1' : ρ (.const (Value.int IntKind.i64 1)) = (Value.int IntKind.i64 1) := h1
      go_simp
      try exact rfl
    refine rs_peel ?_
    apply rs_eq quietRS_ok quiet_any
    · intro ρ w' ho hK
      have ho : Only _ W w' := ho
      obtain ⟨h0, h1, h2, -⟩ := hK
      have h0' : ρ (.tmp 35) = _ := h0
      have h1' : ρ (.tmp 38) = _ := h1
      have h2' : ρ (.const (Value.bool false)) = (Value.bool false) := h2
      go_simp
      try exact rfl
    refine rs_peel ?_
    refine rs_same quietRS_ok quiet_any 39 31 (.inr rfl) rfl _ rfl ?_
    refine ⟨⟨rfl, rfl, rfl, rfl, trivial⟩, ?_⟩
    intro f w9 k9 hk9 hI9 ht9 hcp9
    have E0 : f 0 = _ := ht9 0 (Nat.le_of_ble_eq_true rfl)
    have E1 : f 1 = _ := ht9 1 (Nat.le_of_ble_eq_true rfl)
    have E2 : f 2 = _ := ht9 2 (Nat.le_of_ble_eq_true rfl)
    have E3 : f 3 = _ := ht9 3 (Nat.le_of_ble_eq_true rfl)
    have E4 : f 4 = _ := ht9 4 (Nat.le_of_ble_eq_true rfl)
    have E5 : f 5 = _ := ht9 5 (Nat.le_of_ble_eq_true rfl)
    have E6 : f 6 = _ := ht9 6 (Nat.le_of_ble_eq_true rfl)
    have E7 : f 7 = _ := ht9 7 (Nat.le_of_ble_eq_true rfl)
    have E8 : f 8 = _ := ht9 8 (Nat.le_of_ble_eq_true rfl)
    have E9 : f 9 = _ := ht9 9 (Nat.le_of_ble_eq_true rfl)
    have E10 : f 10 = _ := ht9 10 (Nat.le_of_ble_eq_true rfl)
    have E11 : f 11 = _ := ht9 11 (Nat.le_of_ble_eq_true rfl)
    have E12 : f 12 = _ := ht9 12 (Nat.le_of_ble_eq_true rfl)
    have E13 : f 13 = _ := ht9 13 (Nat.le_of_ble_eq_true rfl)
    have E14 : f 14 = _ := ht9 14 (Nat.le_of_ble_eq_true rfl)
    have E15 : f 15 = _ := ht9 15 (Nat.le_of_ble_eq_true rfl)
    have E16 : f 16 = _ := ht9 16 (Nat.le_of_ble_eq_true rfl)
    have E17 : f 17 = _ := ht9 17 (Nat.le_of_ble_eq_true rfl)
    have E18 : f 18 = _ := ht9 18 (Nat.le_of_ble_eq_true rfl)
    have E19 : f 19 = _ := ht9 19 (Nat.le_of_ble_eq_true rfl)
    have E20 : f 20 = _ := ht9 20 (Nat.le_of_ble_eq_true rfl)
    have E21 : f 21 = _ := ht9 21 (Nat.le_of_ble_eq_true rfl)
    have E22 : f 22 = _ := ht9 22 (Nat.le_of_ble_eq_true rfl)
    have E23 : (TOf (fun v => ∃ A c, v = .slice A 2 c)) w9 (f 23) := ht9 23 (Nat.le_of_ble_eq_true rfl)
    have E24 : f 24 = _ := ht9 24 (Nat.le_of_ble_eq_true rfl)
    have E25 : f 25 = _ := ht9 25 (Nat.le_of_ble_eq_true rfl)
    have E26 : f 26 = _ := ht9 26 (Nat.le_of_ble_eq_true rfl)
    have E27 : f 27 = _ := ht9 27 (Nat.le_of_ble_eq_true rfl)
    have E28 : (TOf (fun v => ∃ A c, v = .slice A 1 c)) w9 (f 28) := ht9 28 (Nat.le_of_ble_eq_true rfl)
    have E29 : f 29 = _ := ht9 29 (Nat.le_of_ble_eq_true rfl)
    have E30 : f 30 = _ := ht9 30 (Nat.le_of_ble_eq_true rfl)
    have E31 : f 31 = _ := ht9 31 (Nat.le_of_ble_eq_true rfl)
    have E32 : f 32 = _ := ht9 32 (Nat.le_of_ble_eq_true rfl)
    have Ho9 : Only _ W w9 := hI9.2.1
    simp only [putAll, E0, E1, E2, E3, E4, E5, E6, E7, E8, E9, E10, E11, E12, E13, E14, E15, E16, E17, E18, E19, E20, E21, E22, E24, E25, E26, E27, E29, E30, E31, E32, Nat.zero_add, Nat.reduceAdd, Act.put, List.setIfInBounds_toArray, List.set_cons_succ, List.set_cons_zero]
    clear E0 E1 E2 E3 E4 E5 E6 E7 E8 E9 E10 E11 E12 E13 E14 E15 E16 E17 E18 E19 E20 E21 E22 E24 E25 E26 E27 E29 E30 E31 E32
    clear hI9 ht9 hcp9 hk9
    generalize f 23 = r23 at *
    generalize f 28 = r28 at *
    have B9 := Lib.hid (B.out.trans ((only_below Ho9).mono B.out.size))
    go_wp2_with fail
    go_ret
    exact ⟨rfl, B9.out⟩
  · go_enter Try.func6, Try.ntmps6
    go_wp2_with fail
    go_ret
    exact ⟨rfl, Below.refl _ _⟩

/-! The step from the walk to the row. -/
set_option maxRecDepth 100000 in
theorem lifted (os : Os) (started : os.Started) (H : Type) (enc : TypeId × Value → H) :
    ReturnsInHanded {} Try.checked os 6 .any (Rows.fnAdderTableSpec.pre6 enc Try.prog Try.f6 Rows.fnAdderTableRow.domain false) (Rows.fnAdderTableSpec.post enc Try.prog Try.f6 false true false false) := by
  refine returnsInHanded_of_change (C := Try.checked) own started (by kernel_rfl) Try.func6
    (ChangeSpec.witness6 (enc := enc) (C := Try.checked) false ⟨#[], #[.slice none 0 0], []⟩ 8 (by kernel_rfl) (by kernel_rfl) (by kernel_rfl) (by kernel_rfl)) ?_
  intro W base args ds gs before hval0 hW hcnd _
  have hval : ∀ (j : Nat) t v, Try.f6.params[j]? = some t → args[j]? = some v → Value.okWide Try.prog W .any base t v := hval0
  have hW' := hW
  obtain ⟨p, q, hA0, hV, rfl, hfz, hnd⟩ := hW
  have hA : DataW.TrodAll enc Try.prog W 0 (fun _ => true) true Try.f6.params.toList args.toList ds p := hA0
  rw [Try.params6] at hA hval
  obtain ⟨v0, vs0, d0, ds0, p0, q0, hargs, rfl, rfl, h0, r0⟩ := trodAll_cons hA
  obtain ⟨rfl, rfl, rfl⟩ := trodAll_nil r0
  obtain rfl : args = #[v0] := by cases args; simp_all
  obtain ⟨rfl, rfl⟩ := trodVars_none hV
  obtain ⟨a0, len0, cap0, rfl⟩ := okWide_slice Try.underlying49 (hval 0 49 v0 rfl rfl)
  have k0 := h0
  have lt0 : ∀ x ∈ p0, x.block < W.heap.size := by obtain ⟨m, hm⟩ := k0; exact DataW.trod_lt m _ _ _ hm
  obtain ⟨z0, w0⟩ : ∃ zs, IsRow .u8 W a0 len0 cap0 zs := by
    obtain ⟨fuel, hf⟩ := h0
    rcases open_ints Try.underlying49 Try.underlying5 (by kernel_rfl) hf with ⟨hcs, _⟩ | ⟨x, l, c, zs, hcs, _, hl, hm, hz, _, hcell, hwz⟩
    · simp [Value.cells] at hcs
      obtain ⟨rfl, rfl, rfl⟩ := hcs
      exact ⟨[], .inl ⟨rfl, rfl, rfl, rfl⟩⟩
    · simp [Value.cells] at hcs
      obtain ⟨rfl, rfl, rfl⟩ := hcs
      exact ⟨zs, .inr ⟨_, rfl, hl, hm, by simpa using hz, hcell, hwz⟩⟩
  clear hA0 hval0
  refine (walk a0 len0 cap0 z0 W w0).mono fun e W' ⟨he, bel⟩ => ?_
  subst he
  exact ⟨_, rfl, _, _, _, [], _, [], hW', trodAll_mk1 (shut_bool Try.underlying4 _), (trodAll_cons_mk (Below.trod laidOut (by kernel_rfl) (of_decide_eq_true (by kernel_rfl)) k0 bel lt0) trodAll_mk0), rfl, bel.frame _, fun h => by cases h⟩

theorem over : Rows.fnAdderTableRow.holds Try.pinned (OpenSpec.ofChange Rows.fnAdderTableSpec) :=
  OpenClaim.holds_of_wide 6 Try.f6 rfl rfl rfl rfl rfl rfl rfl ⟨rfl, rfl, rfl, rfl, rfl⟩ rfl rfl rfl rfl rfl (by kernel_rfl) Try.func6 (by kernel_rfl)
    (of_decide_eq_true (by kernel_rfl)) (by unfold Func.isWrapper; first | (rw [if_pos (by decide +kernel)]; kernel_rfl) | (rw [if_neg (by decide +kernel)]; exact ⟨rfl, rfl⟩))
    (fun os started H enc _ => lifted os started H enc)

/-- The statement. -/
theorem proved : Rows.FnAdderTableSaid := over
#print axioms proved
end Go.Proofs.Ytlbfejdbfhgifaa.fnAdderTable
