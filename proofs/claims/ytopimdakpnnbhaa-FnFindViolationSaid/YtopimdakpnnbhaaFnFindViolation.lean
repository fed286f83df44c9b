/-
  FnFindViolation: The program's FindViolation is the reference's; simulated, its rows of inputs give output 1 in the last clock cycle and 0 in all others; without a violation there are no rows.
  Conditions: none. For every input that the row reads, the Go function laws.FnFindViolation returns true and leaves its arguments as they were.
-/
import Derived.Test.YtopimdakpnnbhaaS07
import Derived.Test.YtopimdakpnnbhaaS05
import Derived.Test.YtopimdakpnnbhaaS08
import Derived.Test.YtopimdakpnnbhaaS09
import Derived.Test.YtopimdakpnnbhaaS06
import Derived.StillTailTactics
import Derived.Test.YtopimdakpnnbhaaRows
import Derived.WalkKit
import Derived.ProofKit
import Derived.OpenShut
import Derived.ShutString
import Derived.ChangeOld
import Derived.Below
namespace Go.Proofs.Ytopimdakpnnbhaa.fnFindViolation
open Go.ChangeShapes Go.WideShapes Go.ChangeAt Go.RowKit
open Go.ChangeMaps (open_string shut_string)
set_option linter.unusedVariables false

theorem own : ownKnob Try.prog.godebug = none := by kernel_rfl
theorem laidOut : laidOutB Try.prog = true := by kernel_rfl

/-- A slice of integers that came in: nil, or a row of cells. -/
def IsRow (k : IntKind) (w : World) (a : Option Addr) (len cap : Nat) (zs : List Int) : Prop :=
  (a = none ∧ len = 0 ∧ cap = 0 ∧ zs = []) ∨
  ∃ x, a = some x ∧ len ≤ cap ∧ cap ≤ maxLen ∧ zs.length = cap ∧ (∀ i, i < zs.length → w.cell? (x.add i) = some (.int k (zs.getD i 0))) ∧ ∀ n ∈ zs, (Lit.int k n).wf = true


set_option maxHeartbeats 8000000 in
set_option maxRecDepth 100000 in
/-- The walk: the Go text returns true. -/
theorem walk (a0 : Option Addr) (len0 cap0 : Nat) (z0 : List Int) (w : World) (w0 : IsRow .u8 w a0 len0 cap0 z0) :
    Calls Try.prog 10 #[.slice a0 len0 cap0] w fun e w' => e = .returned (.bool true) ∧ Below w.heap.size w w' := by
  obtain ⟨bs, rfl, hwf, hr⟩ := Row.given w0
  clear w0
  by_cases hl : bs.length ≤ 1048576
  · have Hr := Lib.hid hr
    clear hr
    go_enter Try.func10, Try.ntmps10
    go_wp2_with fail
    refine (drawFindViolation_any _ bs w Hr.out hwf hl).mono ?_
    rintro e w1 ⟨v1, c, o, rfl, hO, hS, ho1, ho2, hb1⟩
    obtain ⟨An, cn, Ag, cg, Ao, co, rfl⟩ := hO.shape
    have HC1 := Lib.hid hO.at
    have Hb1 := Lib.hid hb1
    clear hO hS hb1 Hr hwf
    go_wp2_with fail
    have hbx := bel_new w1 (.cells #[.int .i64 c.ins, .slice An c.next.length cn, .slice Ag c.gates.length cg, .slice Ao c.outs.length co] 26)
    have PC := Lib.hid (PCells.boxed w1 c.ins (.slice An c.next.length cn) (.slice Ag c.gates.length cg) (.slice Ao c.outs.length co) 26)
    have HC := Lib.hid (HC1.out.below hbx)
    have B := Lib.hid (Hb1.out.trans (hbx.mono Hb1.out.size))
    clear hbx
    generalize w1.alloc (.cells #[.int .i64 c.ins, .slice An c.next.length cn, .slice Ag c.gates.length cg, .slice Ao c.outs.length co] 26) = w2 at *
    obtain ⟨gb, hgb2⟩ : ∃ gb, w1.heap.size = gb := ⟨_, rfl⟩
    rw [hgb2] at PC ⊢
    clear hgb2
    obtain ⟨z, p0, p1, p2, p3⟩ := PC.out
    clear HC1 Hb1
    obtain ⟨fb, hfb⟩ : ∃ fb, (Cir.violI c o).isSome = fb := ⟨_, rfl⟩
    obtain ⟨X, hX⟩ : ∃ X, vrows (Cir.nat c).ins (Cir.violI c o) = X := ⟨_, rfl⟩
    have HFX := Lib.hid (And.intro hfb hX)
    clear hfb hX
    refine (implViol_any _ c o _ HC.out).mono ?_
    rintro e w3 ⟨v3, rfl, hO3, hb⟩
    rw [HFX.out.2] at hO3
    rw [HFX.out.1]
    have HV := Lib.hid (OwnSS.at hO3)
    obtain ⟨A3, c3, e3, -⟩ := HV.out.shape
    subst e3
    clear hO3 z p0 p1 p2 p3
    replace PC := Lib.hid (PC.out.below hb)
    replace HC := Lib.hid (HC.out.below hb)
    replace B := Lib.hid (B.out.trans (hb.mono B.out.size))
    clear hb
    obtain ⟨z, p0, p1, p2, p3⟩ := PC.out
    go_wp2_with fail
    have hb := bel_new w3 (.cells #[.bool fb, .slice A3 X.length c3] 58)
    have VC := Lib.hid (VCells.boxed w3 fb (.slice A3 X.length c3) 58)
    clear z p0 p1 p2 p3
    replace PC := Lib.hid (PC.out.below hb)
    replace HC := Lib.hid (HC.out.below hb)
    replace HV := Lib.hid (HV.out.below hb)
    replace B := Lib.hid (B.out.trans (hb.mono B.out.size))
    clear hb
    generalize w3.alloc (.cells #[.bool fb, .slice A3 X.length c3] 58) = w4 at *
    obtain ⟨gv, hgv⟩ : ∃ gv, w3.heap.size = gv := ⟨_, rfl⟩
    rw [hgv] at VC ⊢
    clear hgv
    obtain ⟨z, p0, p1, p2, p3⟩ := PC.out
    refine (specViol_any _ c o _ HC.out).mono ?_
    rintro e w5 ⟨⟨v5, rfl, hS5⟩, hb⟩
    rw [HFX.out.2] at hS5
    rw [HFX.out.1]
    have HW := Lib.hid hS5
    obtain ⟨A5, c5, e5, -⟩ := HW.out.shape
    subst e5
    clear hS5 z p0 p1 p2 p3
    replace PC := Lib.hid (PC.out.below hb)
    replace HC := Lib.hid (HC.out.below hb)
    replace HV := Lib.hid (HV.out.below hb)
    replace VC := Lib.hid (VC.out.below hb)
    replace B := Lib.hid (B.out.trans (hb.mono B.out.size))
    clear hb
    have hb := bel_new w5 (.cells #[.bool fb, .slice A5 X.length c5] 58)
    have WC := Lib.hid (VCells.boxed w5 fb (.slice A5 X.length c5) 58)
    replace PC := Lib.hid (PC.out.below hb)
    replace HC := Lib.hid (HC.out.below hb)
    replace HV := Lib.hid (HV.out.below hb)
    replace VC := Lib.hid (VC.out.below hb)
    replace HW := Lib.hid (HW.out.below hb)
    replace B := Lib.hid (B.out.trans (hb.mono B.out.size))
    clear hb
    obtain ⟨w6, hw6⟩ : ∃ w6, w5.alloc (.cells #[.bool fb, .slice A5 X.length c5] 58) = w6 := ⟨_, rfl⟩
    rw [hw6] at PC HC HV VC HW WC B
    obtain ⟨gw', hgw'⟩ : ∃ gv, w5.heap.size = gv := ⟨_, rfl⟩
    rw [hgw'] at WC
    obtain ⟨z, p0, p1, p2, p3⟩ := PC.out
    obtain ⟨zv, v0, v1⟩ := VC.out
    obtain ⟨zw, u0, u1⟩ := WC.out
    have hff : (fb != fb) = false := by simp
    go_wp2_with fail
    refine (sameRows_same _ _ X _ HV.out HW.out).mono ?_
    rintro e w7 ⟨rfl, hb⟩
    clear z p0 p1 p2 p3 zv v0 v1 zw u0 u1 WC HW hw6 hgw'
    replace PC := Lib.hid (PC.out.below hb)
    replace HC := Lib.hid (HC.out.below hb)
    replace HV := Lib.hid (HV.out.below hb)
    replace VC := Lib.hid (VC.out.below hb)
    replace B := Lib.hid (B.out.trans (hb.mono B.out.size))
    clear hb
    obtain ⟨z, p0, p1, p2, p3⟩ := PC.out
    obtain ⟨zv, v0, v1⟩ := VC.out
    cases fb
    · have hX0 : ((X.length : Int) == 0) = true := by
        obtain ⟨h1, h2⟩ := HFX.out
        have h3 : Cir.violI c o = none := by simpa using h1
        rw [← h2, h3]
        rfl
      go_wp2_with fail
      refine (alive_any _).mono ?_
      rintro e w8 ⟨rfl, hb⟩
      replace B := Lib.hid (B.out.trans (hb.mono B.out.size))
      clear hb
      go_wp2_with fail
      go_ret
      exact ⟨rfl, B.out⟩
    · obtain ⟨m, p, hv, rfl, hm, hp, hp2⟩ := Cir.violI_some HFX.out.1
      obtain ⟨hd1, hd2⟩ := Cir.nat_ok hv
      have hXp := HFX.out.2
      rw [hp2] at hXp
      obtain ⟨d, hd⟩ : ∃ d, Cir.nat c = d := ⟨_, rfl⟩
      rw [hd] at hd1 hd2 hm hp hXp
      have hXp' : X = rowsOf d.ins p := hXp.symm
      have hp9 := Cir.viol_small hd2 hp
      have hp0 := Cir.viol_pos hp
      have Hok : Hid (Cir.rowsOk (Cir.toCz d) X = true) := Lib.hid (rowsOk_of (by rw [← hd1]; exact hv) (by rw [hXp', rowsOf_length]; omega) (fun r hr => by
        rw [hXp'] at hr
        unfold rowsOf at hr
        obtain ⟨y, _, rfl⟩ := List.mem_map.1 hr
        exact Cir.bits_length _ _))
      have hXl : X.length = p.length := by rw [hXp', rowsOf_length]
      obtain ⟨S, hS⟩ : ∃ S, Cir.simL d (Cir.bits 0 d.next.length) X = S := ⟨_, rfl⟩
      have HS := Lib.hid hS
      have hSl : S.length = p.length := by rw [← hS, Cir.simL_length, hXl]
      have HQ : Hid (∀ i, i < p.length → ∃ row, S[i]? = some row ∧ row[m]? = some (i + 1 == p.length) ∧ row.length = d.outs.length) := Lib.hid (fun i hi => by
        rw [← hS, hXp']
        exact Cir.viol_sim hp hm hi)
      have Hd1 := Lib.hid hd1
      have Hd2 := Lib.hid hd2
      have hol := hd2.outss
      rw [hXl] at HV VC v1 ⊢
      obtain ⟨n, hn⟩ : ∃ n, p.length = n := ⟨_, rfl⟩
      rw [hn] at HV VC v1 hSl HQ hp9 hp0 ⊢
      clear hd1 hd2 hv hp hp2 hXp hXp' hS hd hXl hff
      go_wp2_with fail
      refine (implSim_ok _ _ d X _ (by rw [← Hd1.out]; exact HC.out) (by have := HV.out; exact this) Hd2.out Hok.out).mono ?_
      rintro e w8 ⟨⟨v8, rfl, hS8⟩, hb⟩
      rw [HS.out] at hS8
      have HU := Lib.hid hS8
      obtain ⟨A8, c8, e8, -⟩ := HU.out.shape
      rw [hSl] at e8
      subst e8
      clear hS8 z p0 p1 p2 p3 zv v0 v1 HC HV
      replace PC := Lib.hid (PC.out.below hb)
      replace VC := Lib.hid (VC.out.below hb)
      replace B := Lib.hid (B.out.trans (hb.mono B.out.size))
      clear hb
      obtain ⟨z, p0, p1, p2, p3⟩ := PC.out
      obtain ⟨zv, v0, v1⟩ := VC.out
      have hn0 : ((n : Int) == 0) = false := by rw [beq_eq_false_iff_ne]; omega
      have hnn : ((n : Int) != (n : Int)) = false := by simp
      go_wp2_with fail
      clear hn0 hnn zv v0 v1 VC z p0 p1 p2 p3 PC
      go_loop [8] (fun i => ∃ k : Nat, i = .int .i64 k ∧ k ≤ n) (fun i => n - (intOf i).toNat)
      case atStart => exact ⟨0, rfl, Nat.zero_le _⟩
      case round =>
        obtain ⟨k, rfl, hk⟩ := hrel
        by_cases hlt : k < n
        · have hdk : decide (k < n) = true := decide_eq_true hlt
          obtain ⟨row, h1, h2, h3⟩ := HQ.out k hlt
          have HU8 := HU.out
          unfold SSAt at HU8
          obtain ⟨b, o', Bx, mx, hAx, hbl, hc1, hm1, hm2, hrx⟩ := ss_open (show SSAt bools w8 (.slice A8 n c8) S from HU.out) (Below.refl _ _) h1
          cases hAx
          obtain ⟨b2, o2, c2, hB2, hbl2, hs2⟩ := boolsAt_cell (show BoolsAt w8 (.slice Bx row.length mx) row from hrx) h2
          injection hB2 with hB3 _ hB4
          subst hB3 hB4
          have hwn : IntKind.i64.wrap ((n : Int) - 1) = (n : Int) - 1 := IntWalk.i64_in _ (by omega)
          have hkn : ((k : Int) == (n : Int) - 1) = (k + 1 == n) := by rw [Bool.eq_iff_iff, beq_iff_eq, beq_iff_eq]; omega
          have hml : m < row.length := by omega
          generalize (k + 1 == n) = bb at *
          have hbb : (bb != bb) = false := by simp
          clear hrx h1 h2 HU8
          go_wp2_with fail
          go_round
          case rel => exact ⟨k + 1, by go_num, by omega⟩
          case measure => simp [intOf]; omega
        · have hdk : decide (k < n) = false := decide_eq_false (by omega)
          go_wp2_with fail
          go_ret
          exact ⟨rfl, B.out⟩
  · go_enter Try.func10, Try.ntmps10
    go_wp2_with fail
    go_ret
    exact ⟨rfl, Below.refl _ _⟩

/-! The step from the walk to the row. -/
set_option maxRecDepth 100000 in
theorem lifted (os : Os) (started : os.Started) (H : Type) (enc : TypeId × Value → H) :
    ReturnsInHanded {} Try.checked os 10 .any (Rows.fnFindViolationSpec.pre6 enc Try.prog Try.f10 Rows.fnFindViolationRow.domain false) (Rows.fnFindViolationSpec.post enc Try.prog Try.f10 false true false false) := by
  refine returnsInHanded_of_change (C := Try.checked) own started (by kernel_rfl) Try.func10
    (ChangeSpec.witness6 (enc := enc) (C := Try.checked) false ⟨#[], #[.slice none 0 0], []⟩ 8 (by kernel_rfl) (by kernel_rfl) (by kernel_rfl) (by kernel_rfl)) ?_
  intro W base args ds gs before hval0 hW hcnd _
  have hval : ∀ (j : Nat) t v, Try.f10.params[j]? = some t → args[j]? = some v → Value.okWide Try.prog W .any base t v := hval0
  have hW' := hW
  obtain ⟨p, q, hA0, hV, rfl, hfz, hnd⟩ := hW
  have hA : DataW.TrodAll enc Try.prog W 0 (fun _ => true) true Try.f10.params.toList args.toList ds p := hA0
  rw [Try.params10] at hA hval
  obtain ⟨v0, vs0, d0, ds0, p0, q0, hargs, rfl, rfl, h0, r0⟩ := trodAll_cons hA
  obtain ⟨rfl, rfl, rfl⟩ := trodAll_nil r0
  obtain rfl : args = #[v0] := by cases args; simp_all
  obtain ⟨rfl, rfl⟩ := trodVars_none hV
  obtain ⟨a0, len0, cap0, rfl⟩ := okWide_slice Try.underlying22 (hval 0 22 v0 rfl rfl)
  have k0 := h0
  have lt0 : ∀ x ∈ p0, x.block < W.heap.size := by obtain ⟨m, hm⟩ := k0; exact DataW.trod_lt m _ _ _ hm
  obtain ⟨z0, w0⟩ : ∃ zs, IsRow .u8 W a0 len0 cap0 zs := by
    obtain ⟨fuel, hf⟩ := h0
    rcases open_ints Try.underlying22 Try.underlying5 (by kernel_rfl) hf with ⟨hcs, _⟩ | ⟨x, l, c, zs, hcs, _, hl, hm, hz, _, hcell, hwz⟩
    · simp [Value.cells] at hcs
      obtain ⟨rfl, rfl, rfl⟩ := hcs
      exact ⟨[], .inl ⟨rfl, rfl, rfl, rfl⟩⟩
    · simp [Value.cells] at hcs
      obtain ⟨rfl, rfl, rfl⟩ := hcs
      exact ⟨zs, .inr ⟨_, rfl, hl, hm, by simpa using hz, hcell, hwz⟩⟩
  clear hA0 hval0
  refine (walk a0 len0 cap0 z0 W w0).mono fun e W' ⟨he, bel⟩ => ?_
  subst he
  exact ⟨_, rfl, _, _, _, [], _, [], hW', trodAll_mk1 (shut_bool Try.underlying4 _), (trodAll_cons_mk (Below.trod laidOut (by kernel_rfl) (of_decide_eq_true (by kernel_rfl)) k0 bel lt0) trodAll_mk0), rfl, bel.frame _, fun h => by cases h⟩

theorem over : Rows.fnFindViolationRow.holds Try.pinned (OpenSpec.ofChange Rows.fnFindViolationSpec) :=
  OpenClaim.holds_of_wide 10 Try.f10 rfl rfl rfl rfl rfl rfl rfl ⟨rfl, rfl, rfl, rfl, rfl⟩ rfl rfl rfl rfl rfl (by kernel_rfl) Try.func10 (by kernel_rfl)
    (of_decide_eq_true (by kernel_rfl)) (by unfold Func.isWrapper; first | (rw [if_pos (by decide +kernel)]; kernel_rfl) | (rw [if_neg (by decide +kernel)]; exact ⟨rfl, rfl⟩))
    (fun os started H enc _ => lifted os started H enc)

/-- The statement. -/
theorem proved : Rows.FnFindViolationSaid := over
#print axioms proved
end Go.Proofs.Ytopimdakpnnbhaa.fnFindViolation
