/-
  FnExactCoverTable: The program's CoverTable returns what the reference's CoverTable returns, for every list of cubes and every number, and leaves its list as it was.
  Conditions: none. For every input that the row reads, the Go function laws.FnExactCoverTable returns true and leaves its arguments as they were.
-/
import Derived.Test.YtlpellciiiflkaaTwoD
import Derived.Test.YtlpellciiiflkaaCubeS
import Derived.Test.YtlpellciiiflkaaRead
import Derived.Test.YtlpellciiiflkaaRows
import Derived.WalkKit
import Derived.ProofKit
import Derived.OpenShut
import Derived.ShutString
import Derived.ChangeOld
import Derived.Below
namespace Go.Proofs.Ytlpellciiiflkaa.fnExactCoverTable
open Go.ChangeShapes Go.WideShapes Go.ChangeAt Go.RowKit
set_option linter.unusedVariables false
theorem own : ownKnob Try.prog.godebug = none := by kernel_rfl
theorem laidOut : laidOutB Try.prog = true := by kernel_rfl

/-- The walk: the Go text returns true. -/
theorem walk (v0 : Value) (v1 : Value) (w : World) (o0 : APairs w v0) (o1 : AInt w v1) :
    Calls Try.prog 5 #[v0, v1] w fun e w' => e = .returned (.bool true) ∧ Below w.heap.size w w' := by
  obtain ⟨ks, hr, hwf⟩ := o0
  obtain ⟨n, rfl, -⟩ := o1
  have hw : ∀ k ∈ ks, WfK k := fun k hk => (hwf k hk).2
  clear hwf
  by_cases hl : ks.length ≤ 1048576
  · have hn : ((ks.length : Nat) : Int) ≤ 1048576 := by omega
    go_enter Try.func5, Try.ntmps5
    go_wp2_with fail
    refine (szCubeS_ok _ ks.length _ _ 1048576 hr (by omega) hn).mono ?_
    rintro e w' ⟨rfl, rfl⟩
    go_wp2_with fail
    refine (toCubeS_any _ ks _ hr hl).mono ?_
    rintro e w1 ⟨v1, rfl, hown1, hb1⟩
    have hr1 := Row.below hr hb1
    go_wp2_with fail
    refine (specCover_any _ ks _ _ (Row.of_own hown1) hw).mono ?_
    rintro e w2 ⟨rfl, hd2⟩
    have hb2 := hb1.trans (hd2.mono hb1.size)
    have hr2 := Row.below hr1 hd2
    go_wp2_with fail
    refine (toCubeS_any _ ks _ hr2 hl).mono ?_
    rintro e w3 ⟨v3, rfl, hown3, hb3⟩
    have hr3 := Row.below hr2 hb3
    have hb3' := hb2.trans (hb3.mono hb2.size)
    go_wp2_with fail
    refine (implCover_any _ ks _ _ (Row.of_own hown3) hw).mono ?_
    rintro e w4 ⟨rfl, hd4⟩
    have hr4 := Row.below hr3 hd4
    have hx4 := Row.below (Row.of_own hown3) hd4
    have hb4 := hb3'.trans (hd4.mono hb3'.size)
    go_wp2_with fail
    refine (toCubeS_any _ ks _ hr4 hl).mono ?_
    rintro e w5 ⟨v5, rfl, hown5, hb5⟩
    have hx5 := Row.below hx4 hb5
    have hb5' := hb4.trans (hb5.mono hb4.size)
    go_wp2_with fail
    refine (eqCubeS_any _ _ ks ks _ hx5 (Row.of_own hown5)).mono ?_
    rintro e w6 ⟨rfl, hd6⟩
    go_wp2_with fail
    go_ret
    exact ⟨rfl, hb5'.trans (hd6.mono hb5'.size)⟩
  · have hn : (1048576 : Int) < (ks.length : Nat) := by omega
    go_enter Try.func5, Try.ntmps5
    go_wp2_with fail
    refine (szCubeS_no _ ks.length _ _ 1048576 hr (by omega) hn).mono ?_
    rintro e w' ⟨rfl, rfl⟩
    go_wp2
    go_ret
    exact ⟨rfl, Below.refl _ _⟩

/-! The step from the walk to the row. -/
set_option maxRecDepth 100000 in
theorem lifted (os : Os) (started : os.Started) (H : Type) (enc : TypeId × Value → H) :
    ReturnsInHanded {} Try.checked os 5 .any (Rows.fnExactCoverTableSpec.pre6 enc Try.prog Try.f5 Rows.fnExactCoverTableRow.domain false) (Rows.fnExactCoverTableSpec.post enc Try.prog Try.f5 false true false false) := by
  refine returnsInHanded_of_change (C := Try.checked) own started (by kernel_rfl) Try.func5
    (ChangeSpec.witness6 (enc := enc) (C := Try.checked) false ⟨#[], #[.slice none 0 0, .int .i64 0], []⟩ 8 (by kernel_rfl) (by kernel_rfl) (by kernel_rfl) (by kernel_rfl)) ?_
  intro W base args ds gs before hval0 hW hcnd _
  have hval : ∀ (j : Nat) t v, Try.f5.params[j]? = some t → args[j]? = some v → Value.okWide Try.prog W .any base t v := hval0
  have hW' := hW
  obtain ⟨p, q, hA0, hV, rfl, hfz, hnd⟩ := hW
  have hA : DataW.TrodAll enc Try.prog W 0 (fun _ => true) true Try.f5.params.toList args.toList ds p := hA0
  rw [Try.params5] at hA hval
  obtain ⟨v0, vs0, d0, ds0, p0, q0, hargs, rfl, rfl, h0, r0⟩ := trodAll_cons hA
  obtain ⟨v1, vs1, d1, ds1, p1, q1, rfl, rfl, rfl, h1, r1⟩ := trodAll_cons r0
  obtain ⟨rfl, rfl, rfl⟩ := trodAll_nil r1
  obtain rfl : args = #[v0, v1] := by cases args; simp_all
  obtain ⟨rfl, rfl⟩ := trodVars_none hV
  have o0 : APairs W v0 := open_acubes (hval 0 32 v0 rfl rfl) h0
  have lt0 : ∀ x ∈ p0, x.block < W.heap.size := by obtain ⟨m, hm⟩ := h0; exact DataW.trod_lt m _ _ _ hm
  have o1 : AInt W v1 := open_aint (hval 1 3 v1 rfl rfl) h1
  have lt1 : ∀ x ∈ p1, x.block < W.heap.size := by obtain ⟨m, hm⟩ := h1; exact DataW.trod_lt m _ _ _ hm
  clear hA0 hval0
  refine (walk v0 v1 W o0 o1).mono fun e W' ⟨he, bel⟩ => ?_
  subst he
  exact ⟨_, rfl, _, _, _, [], _, [], hW', trodAll_mk1 (shut_bool Try.underlying4 _), (trodAll_cons_mk (Below.trod laidOut (by kernel_rfl) (of_decide_eq_true (by kernel_rfl)) h0 bel lt0) (trodAll_cons_mk (Below.trod laidOut (by kernel_rfl) (of_decide_eq_true (by kernel_rfl)) h1 bel lt1) trodAll_mk0)), rfl, bel.frame _, fun h => by cases h⟩

theorem over : Rows.fnExactCoverTableRow.holds Try.pinned (OpenSpec.ofChange Rows.fnExactCoverTableSpec) :=
  OpenClaim.holds_of_wide 5 Try.f5 rfl rfl rfl rfl rfl rfl rfl ⟨rfl, rfl, rfl, rfl, rfl⟩ rfl rfl rfl rfl rfl (by kernel_rfl) Try.func5 (by kernel_rfl)
    (of_decide_eq_true (by kernel_rfl)) (by unfold Func.isWrapper; first | (rw [if_pos (by decide +kernel)]; kernel_rfl) | (rw [if_neg (by decide +kernel)]; exact ⟨rfl, rfl⟩))
    (fun os started H enc _ => lifted os started H enc)

/-- The statement. -/
theorem proved : Rows.FnExactCoverTableSaid := over
#print axioms proved
end Go.Proofs.Ytlpellciiiflkaa.fnExactCoverTable
