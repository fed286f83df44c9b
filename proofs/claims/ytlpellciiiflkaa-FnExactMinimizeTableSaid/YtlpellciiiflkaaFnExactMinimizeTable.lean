/-
  FnExactMinimizeTable: The program's MinimizeTable returns what the reference's MinimizeTable returns, for every table and every number of variables, in memory of its own.
  Conditions: none. For every input that the row reads, the Go function laws.FnExactMinimizeTable returns true and leaves its arguments as they were.
-/
import Derived.Test.YtlpellciiiflkaaMinC
import Derived.Test.YtlpellciiiflkaaCubeMark
import Derived.Test.YtlpellciiiflkaaRead
import Derived.Test.YtlpellciiiflkaaRows
import Derived.WalkKit
import Derived.ProofKit
import Derived.OpenShut
import Derived.ShutString
import Derived.ChangeOld
import Derived.Below
namespace Go.Proofs.Ytlpellciiiflkaa.fnExactMinimizeTable
open Go.ChangeShapes Go.WideShapes Go.ChangeAt Go.RowKit
set_option linter.unusedVariables false
theorem own : ownKnob Try.prog.godebug = none := by kernel_rfl
theorem laidOut : laidOutB Try.prog = true := by kernel_rfl
theorem cubesAt_own {w : World} {b : Nat} {e : TypeId} {v : Value} {R : List (Nat × Nat)} (h : w.ownsRow b e 2 v R.length (cubes (R.map intK))) : CubesAt w v (R.map intK) := cubesN_own h
/-- The walk: the Go text returns true. -/
theorem walk (v0 : Value) (v1 : Value) (w : World) (o0 : AInt w v0) (o1 : AInt w v1) :
    Calls Try.prog 11 #[v0, v1] w fun e w' => e = .returned (.bool true) ∧ Below w.heap.size w w' := by
  obtain ⟨t, rfl, -⟩ := o0
  obtain ⟨n, rfl, -⟩ := o1
  have hlen := Lib.hid (minimalI_len t n)
  go_enter Try.func11, Try.ntmps11
  go_wp2_with fail
  refine (specMin_any t n _).mono ?_
  rintro e w1 ⟨v0, rfl, hown0, hb1⟩
  go_wp2_with fail
  refine (implMin_any t n _).mono ?_
  rintro e w2 ⟨g0, rfl, howng, hb2⟩
  generalize hL : minimalI t n = L at *
  have HL := Lib.hid hL
  clear hL
  have hlen := hlen.out
  have hown02 := own_below hown0 hb2
  have hb12 := hb1.trans (hb2.mono hb1.size)
  have z1 := hb1.size
  have z2 := hb2.size
  have z12 : ∀ g, v0.ownBlock = some g → g < w1.heap.size := fun g hg => (hown0.lt g hg).2
  have zg : ∀ g, g0.ownBlock = some g → w1.heap.size ≤ g := fun g hg => own_ge howng g hg
  have Z := Lib.hid (And.intro z12 zg)
  have H0 := Lib.hid hown02
  have Hg := Lib.hid howng
  have HB := Lib.hid hb12
  clear hown0 hown02 howng hb12 hb1 hb2 z12 zg
  go_wp2_with fail
  refine (eqCubeS_any _ _ (L.map intK) (L.map intK) _ (cubesAt_own Hg.out) (cubesAt_own H0.out)).mono ?_
  rintro e w3 ⟨rfl, hb3⟩
  have H03 := Lib.hid (own_below H0.out hb3)
  have Hg3 := Lib.hid (own_below Hg.out hb3)
  have HB3 := Lib.hid (HB.out.trans (hb3.mono HB.out.size))
  have z3 := hb3.size
  clear hb3 H0 Hg HB
  go_wp2_with fail
  have hm := markCubeS_any w1.heap.size g0 L.length 1 _ w3 Hg3.out (by omega) (by omega)
  rw [show (((1 : Nat) : Int)) = 1 from rfl] at hm
  refine hm.mono ?_
  rintro e w4 ⟨rfl, hm4, hg4⟩
  have H04 := Lib.hid (own_kept H03.out hg4 (fun g hg h => by have h1 := Z.out.1 g hg; have h2 := Z.out.2 g h; omega))
  have Hg4 := Lib.hid hm4
  have HB4 := Lib.hid (HB3.out.grown hg4 HB3.out.size (fun k hk => by have := Z.out.2 k hk; omega))
  have z4 := hg4.size
  clear hm hm4 hg4 H03 Hg3 HB3
  go_wp2_with fail
  have hh := heldCubeS_any g0 L.length 1 w4 (Row.of_own Hg4.out) (by omega) (by omega)
  rw [show (((1 : Nat) : Int)) = 1 from rfl] at hh
  refine hh.mono ?_
  rintro e w' ⟨rfl, rfl⟩
  clear hh
  go_wp2_with fail
  refine (implMin_any t n _).mono ?_
  rintro e w5 ⟨h0, rfl, hownh, hb5⟩
  rw [HL.out] at hownh
  have H05 := Lib.hid (own_below H04.out hb5)
  have Hg5 := Lib.hid (own_below Hg4.out hb5)
  have Hh5 := Lib.hid hownh
  have HB5 := Lib.hid (HB4.out.trans (hb5.mono HB4.out.size))
  clear hb5 hownh H04 Hg4 HB4
  go_wp2_with fail
  refine (eqCubeS_any _ _ (L.map intK) (L.map intK) _ (cubesAt_own Hh5.out) (cubesAt_own H05.out)).mono ?_
  rintro e w6 ⟨rfl, hb6⟩
  have Hg6 := Lib.hid (own_below Hg5.out hb6)
  have HB6 := Lib.hid (HB5.out.trans (hb6.mono HB5.out.size))
  clear hb6 Hg5 HB5 Hh5
  go_wp2_with fail
  have hh := heldCubeS_any g0 L.length 1 w6 (Row.of_own Hg6.out) (by omega) (by omega)
  rw [show (((1 : Nat) : Int)) = 1 from rfl] at hh
  refine hh.mono ?_
  rintro e w' ⟨rfl, rfl⟩
  clear hh
  go_wp2_with fail
  go_ret
  exact ⟨rfl, HB6.out⟩

/-! The step from the walk to the row. -/
set_option maxRecDepth 100000 in
theorem lifted (os : Os) (started : os.Started) (H : Type) (enc : TypeId × Value → H) :
    ReturnsInHanded {} Try.checked os 11 .any (Rows.fnExactMinimizeTableSpec.pre6 enc Try.prog Try.f11 Rows.fnExactMinimizeTableRow.domain false) (Rows.fnExactMinimizeTableSpec.post enc Try.prog Try.f11 false true false false) := by
  refine returnsInHanded_of_change (C := Try.checked) own started (by kernel_rfl) Try.func11
    (ChangeSpec.witness6 (enc := enc) (C := Try.checked) false ⟨#[], #[.int .i64 0, .int .i64 0], []⟩ 8 (by kernel_rfl) (by kernel_rfl) (by kernel_rfl) (by kernel_rfl)) ?_
  intro W base args ds gs before hval0 hW hcnd _
  have hval : ∀ (j : Nat) t v, Try.f11.params[j]? = some t → args[j]? = some v → Value.okWide Try.prog W .any base t v := hval0
  have hW' := hW
  obtain ⟨p, q, hA0, hV, rfl, hfz, hnd⟩ := hW
  have hA : DataW.TrodAll enc Try.prog W 0 (fun _ => true) true Try.f11.params.toList args.toList ds p := hA0
  rw [Try.params11] at hA hval
  obtain ⟨v0, vs0, d0, ds0, p0, q0, hargs, rfl, rfl, h0, r0⟩ := trodAll_cons hA
  obtain ⟨v1, vs1, d1, ds1, p1, q1, rfl, rfl, rfl, h1, r1⟩ := trodAll_cons r0
  obtain ⟨rfl, rfl, rfl⟩ := trodAll_nil r1
  obtain rfl : args = #[v0, v1] := by cases args; simp_all
  obtain ⟨rfl, rfl⟩ := trodVars_none hV
  have o0 : AInt W v0 := open_aint (hval 0 3 v0 rfl rfl) h0
  have lt0 : ∀ x ∈ p0, x.block < W.heap.size := by obtain ⟨m, hm⟩ := h0; exact DataW.trod_lt m _ _ _ hm
  have o1 : AInt W v1 := open_aint (hval 1 3 v1 rfl rfl) h1
  have lt1 : ∀ x ∈ p1, x.block < W.heap.size := by obtain ⟨m, hm⟩ := h1; exact DataW.trod_lt m _ _ _ hm
  clear hA0 hval0
  refine (walk v0 v1 W o0 o1).mono fun e W' ⟨he, bel⟩ => ?_
  subst he
  exact ⟨_, rfl, _, _, _, [], _, [], hW', trodAll_mk1 (shut_bool Try.underlying4 _), (trodAll_cons_mk (Below.trod laidOut (by kernel_rfl) (of_decide_eq_true (by kernel_rfl)) h0 bel lt0) (trodAll_cons_mk (Below.trod laidOut (by kernel_rfl) (of_decide_eq_true (by kernel_rfl)) h1 bel lt1) trodAll_mk0)), rfl, bel.frame _, fun h => by cases h⟩

theorem over : Rows.fnExactMinimizeTableRow.holds Try.pinned (OpenSpec.ofChange Rows.fnExactMinimizeTableSpec) :=
  OpenClaim.holds_of_wide 11 Try.f11 rfl rfl rfl rfl rfl rfl rfl ⟨rfl, rfl, rfl, rfl, rfl⟩ rfl rfl rfl rfl rfl (by kernel_rfl) Try.func11 (by kernel_rfl)
    (of_decide_eq_true (by kernel_rfl)) (by unfold Func.isWrapper; first | (rw [if_pos (by decide +kernel)]; kernel_rfl) | (rw [if_neg (by decide +kernel)]; exact ⟨rfl, rfl⟩))
    (fun os started H enc _ => lifted os started H enc)

/-- The statement. -/
theorem proved : Rows.FnExactMinimizeTableSaid := over
#print axioms proved
end Go.Proofs.Ytlpellciiiflkaa.fnExactMinimizeTable
