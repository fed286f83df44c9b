/-
  FnExactCubeHas: The program's CubeHas returns what the reference's CubeHas returns, for every cube and every assignment number.
  Conditions: none. For every input that the row reads, the Go function laws.FnExactCubeHas returns true and leaves its arguments as they were.
-/
import Derived.Test.YtlpellciiiflkaaTwoA
import Derived.Test.YtlpellciiiflkaaOpen
import Derived.Test.YtlpellciiiflkaaRows
import Derived.WalkKit
import Derived.ProofKit
import Derived.OpenShut
import Derived.ShutString
import Derived.ChangeOld
import Derived.Below
namespace Go.Proofs.Ytlpellciiiflkaa.fnExactCubeHas
open Go.ChangeShapes Go.WideShapes Go.ChangeAt Go.RowKit
set_option linter.unusedVariables false
theorem own : ownKnob Try.prog.godebug = none := by kernel_rfl
theorem laidOut : laidOutB Try.prog = true := by kernel_rfl

/-- The walk: the Go text returns true. -/
theorem walk (v0 : Value) (v1 : Value) (w : World) (o0 : ACube w v0) (o1 : AnInt w v1) :
    Calls Try.prog 3 #[v0, v1] w fun e w' => e = .returned (.bool true) ∧ Below w.heap.size w w' := by
  obtain ⟨c, v, rfl⟩ := o0
  obtain ⟨x, rfl, -, -⟩ := o1
  go_enter Try.func3, Try.ntmps3
  go_wp2_with fail
  refine (toCube_any c v _).mono ?_
  rintro e w1 ⟨rfl, hb1⟩
  have b1 := Lib.hid (((Below.refl _ w).alloc (Nat.le_refl _) (.cells #[.int .i64 c, .int .i64 v] 23)).trans (hb1.mono (by simp)))
  have hc := (below_cell hb1).1 w.heap.size
  have h0 : w1.cell? ⟨w.heap.size, 0, none⟩ = some (.int .i64 c) := by rw [hc 0 (by simp)]; simp [World.cell?_alloc_new]
  have h1 : w1.cell? ⟨w.heap.size, 1, none⟩ = some (.int .i64 v) := by rw [hc 1 (by simp)]; simp [World.cell?_alloc_new]
  have hz : w.heap.size < w1.heap.size := by have := hb1.size; simp at this; omega
  clear hb1 hc
  go_wp2_with fail
  refine (specHas_any c v x _).mono ?_
  rintro e w2 ⟨rfl, hb2⟩
  have b2 := Lib.hid (b1.out.trans (hb2.mono (by omega)))
  have g0 := ((below_cell hb2).1 w.heap.size 0 hz).trans h0
  have g1 := ((below_cell hb2).1 w.heap.size 1 hz).trans h1
  have hz2 := hb2.size
  clear hb2 h0 h1
  go_wp2_with fail
  refine (toCube_any c v _).mono ?_
  rintro e w3 ⟨rfl, hb3⟩
  have b3 := Lib.hid (b2.out.trans (hb3.mono (by omega)))
  have hz3 := hb3.size
  clear hb3 g0 g1
  go_wp2_with fail
  refine (implHas_any c v x _).mono ?_
  rintro e w4 ⟨rfl, hb4⟩
  have b4 := Lib.hid (b3.out.trans (hb4.mono (by omega)))
  clear hb4
  go_wp2_with fail
  go_ret
  exact ⟨rfl, b4.out⟩

/-! The step from the walk to the row. -/
set_option maxRecDepth 100000 in
theorem lifted (os : Os) (started : os.Started) (H : Type) (enc : TypeId × Value → H) :
    ReturnsInHanded {} Try.checked os 3 .any (Rows.fnExactCubeHasSpec.pre6 enc Try.prog Try.f3 Rows.fnExactCubeHasRow.domain false) (Rows.fnExactCubeHasSpec.post enc Try.prog Try.f3 false true false false) := by
  refine returnsInHanded_of_change (C := Try.checked) own started (by kernel_rfl) Try.func3
    (ChangeSpec.witness6 (enc := enc) (C := Try.checked) false ⟨#[], #[.agg #[.int .i64 0, .int .i64 0], .int .i64 0], []⟩ 8 (by kernel_rfl) (by kernel_rfl) (by kernel_rfl) (by kernel_rfl)) ?_
  intro W base args ds gs before hval0 hW hcnd _
  have hval : ∀ (j : Nat) t v, Try.f3.params[j]? = some t → args[j]? = some v → Value.okWide Try.prog W .any base t v := hval0
  have hW' := hW
  obtain ⟨p, q, hA0, hV, rfl, hfz, hnd⟩ := hW
  have hA : DataW.TrodAll enc Try.prog W 0 (fun _ => true) true Try.f3.params.toList args.toList ds p := hA0
  rw [Try.params3] at hA hval
  obtain ⟨v0, vs0, d0, ds0, p0, q0, hargs, rfl, rfl, h0, r0⟩ := trodAll_cons hA
  obtain ⟨v1, vs1, d1, ds1, p1, q1, rfl, rfl, rfl, h1, r1⟩ := trodAll_cons r0
  obtain ⟨rfl, rfl, rfl⟩ := trodAll_nil r1
  obtain rfl : args = #[v0, v1] := by cases args; simp_all
  obtain ⟨rfl, rfl⟩ := trodVars_none hV
  have o0 : ACube W v0 := open_cube (hval 0 23 v0 rfl rfl) h0
  have lt0 : ∀ x ∈ p0, x.block < W.heap.size := by obtain ⟨m, hm⟩ := h0; exact DataW.trod_lt m _ _ _ hm
  have o1 : AnInt W v1 := open_an_int (hval 1 3 v1 rfl rfl) h1
  have lt1 : ∀ x ∈ p1, x.block < W.heap.size := by obtain ⟨m, hm⟩ := h1; exact DataW.trod_lt m _ _ _ hm
  clear hA0 hval0
  refine (walk v0 v1 W o0 o1).mono fun e W' ⟨he, bel⟩ => ?_
  subst he
  exact ⟨_, rfl, _, _, _, [], _, [], hW', trodAll_mk1 (shut_bool Try.underlying4 _), (trodAll_cons_mk (Below.trod laidOut (by kernel_rfl) (of_decide_eq_true (by kernel_rfl)) h0 bel lt0) (trodAll_cons_mk (Below.trod laidOut (by kernel_rfl) (of_decide_eq_true (by kernel_rfl)) h1 bel lt1) trodAll_mk0)), rfl, bel.frame _, fun h => by cases h⟩

theorem over : Rows.fnExactCubeHasRow.holds Try.pinned (OpenSpec.ofChange Rows.fnExactCubeHasSpec) :=
  OpenClaim.holds_of_wide 3 Try.f3 rfl rfl rfl rfl rfl rfl rfl ⟨rfl, rfl, rfl, rfl, rfl⟩ rfl rfl rfl rfl rfl (by kernel_rfl) Try.func3 (by kernel_rfl)
    (of_decide_eq_true (by kernel_rfl)) (by unfold Func.isWrapper; first | (rw [if_pos (by decide +kernel)]; kernel_rfl) | (rw [if_neg (by decide +kernel)]; exact ⟨rfl, rfl⟩))
    (fun os started H enc _ => lifted os started H enc)

/-- The statement. -/
theorem proved : Rows.FnExactCubeHasSaid := over
#print axioms proved
end Go.Proofs.Ytlpellciiiflkaa.fnExactCubeHas
