/-
  FnTableExample: The table 231 of three variables has six prime implicants and a cover of three or four of them; the table 0 has none, the table 255 one.
  Conditions: none. For every input that the row reads, the Go function laws.FnTableExample returns true and leaves its arguments as they were.
-/
import Derived.Test.YtlpellciiiflkaaMinC
import Derived.Test.YtlpellciiiflkaaRows
import Derived.WalkKit
import Derived.ProofKit
import Derived.OpenShut
import Derived.ShutString
import Derived.ChangeOld
import Derived.Below
namespace Go.Proofs.Ytlpellciiiflkaa.fnTableExample
open Go.ChangeShapes Go.WideShapes Go.ChangeAt Go.RowKit
open Go.ChangeMaps (open_string shut_string)
set_option linter.unusedVariables false

theorem own : ownKnob Try.prog.godebug = none := by kernel_rfl
theorem laidOut : laidOutB Try.prog = true := by kernel_rfl

/-- A slice of integers that came in: nil, or a row of cells. -/
def IsRow (k : IntKind) (w : World) (a : Option Addr) (len cap : Nat) (zs : List Int) : Prop :=
  (a = none ∧ len = 0 ∧ cap = 0 ∧ zs = []) ∨
  ∃ x, a = some x ∧ len ≤ cap ∧ cap ≤ maxLen ∧ zs.length = cap ∧ (∀ i, i < zs.length → w.cell? (x.add i) = some (.int k (zs.getD i 0))) ∧ ∀ n ∈ zs, (Lit.int k n).wf = true

theorem ex_p6 : (primesI 231 3).length = 6 := by decide +kernel
theorem ex_m : 3 ≤ (minimalI 231 3).length ∧ (minimalI 231 3).length ≤ 4 := by decide +kernel
theorem ex_c : coverI 3 ((minimalI 231 3).map intK) = 231 := by decide +kernel
theorem ex_p0 : (primesI 0 3).length = 0 := by decide +kernel
theorem ex_p1 : (primesI 255 3).length = 1 := by decide +kernel
theorem ex_wf : ∀ k ∈ (minimalI 231 3).map intK, -9223372036854775808 ≤ k.2 ∧ k.2 ≤ 9223372036854775807 := by decide +kernel
/-- A list of cubes that came back, as a slice. -/
theorem shape_own {w : World} {b n : Nat} {e : TypeId} {v : Value} {cs : List Value} (h : w.ownsRow b e 2 v n cs) : ∃ A c, v = .slice A n c := by
  obtain ⟨A, c, hv, _⟩ := (Row.of_own h).shape
  exact ⟨A, c, hv⟩
/-- The walk: the Go text returns true. -/
theorem walk (a0 : Option Addr) (len0 cap0 : Nat) (z0 : List Int) (w : World) (w0 : IsRow .u8 w a0 len0 cap0 z0) :
    Calls Try.prog 6 #[.slice a0 len0 cap0] w fun e w' => e = .returned (.bool true) ∧ Below w.heap.size w w' := by
  obtain ⟨bs, rfl, hwf, hr⟩ := Row.given w0
  clear w0
  by_cases hl : bs.length ≤ 1048576
  · clear hwf hr
    go_enter Try.func6, Try.ntmps6
    go_wp2_with fail
    refine (implPrimes_any 231 3 _).mono ?_
    rintro e w1 ⟨v1, rfl, hown1, hb1⟩
    obtain ⟨A1, c1, rfl⟩ := shape_own hown1
    rw [ex_p6]
    have B1 := Lib.hid hb1
    clear hown1 hb1
    go_wp2_with fail
    refine (implMin_any 231 3 _).mono ?_
    rintro e w2 ⟨v2, rfl, hown2, hb2⟩
    obtain ⟨A2, c2, rfl⟩ := shape_own hown2
    have hc := implCover_any _ ((minimalI 231 3).map intK) 3 w2 (cubesN_own hown2) ex_wf
    rw [ex_c] at hc
    have B2 := Lib.hid (B1.out.trans (hb2.mono B1.out.size))
    obtain ⟨m1, m2⟩ := ex_m
    generalize (minimalI 231 3).length = m at *
    clear hown2 hb2
    go_wp2_with fail
    refine hc.mono ?_
    rintro e w3 ⟨rfl, hb3⟩
    have B3 := Lib.hid (B2.out.trans (hb3.mono B2.out.size))
    clear hb3 hc B1 B2
    go_wp2_with fail
    refine (implPrimes_any 0 3 _).mono ?_
    rintro e w4 ⟨v4, rfl, hown4, hb4⟩
    obtain ⟨A4, c4, rfl⟩ := shape_own hown4
    rw [ex_p0]
    have B4 := Lib.hid (B3.out.trans (hb4.mono B3.out.size))
    clear hown4 hb4 B3
    go_wp2_with fail
    refine (implPrimes_any 255 3 _).mono ?_
    rintro e w5 ⟨v5, rfl, hown5, hb5⟩
    obtain ⟨A5, c5, rfl⟩ := shape_own hown5
    rw [ex_p1]
    have B5 := Lib.hid (B4.out.trans (hb5.mono B4.out.size))
    clear hown5 hb5 B4
    go_wp2_with fail
    go_ret
    exact ⟨rfl, B5.out⟩
  · go_enter Try.func6, Try.ntmps6
    go_wp2
    go_ret
    exact ⟨rfl, Below.refl _ _⟩

/-! The step from the walk to the row. -/
set_option maxRecDepth 100000 in
theorem lifted (os : Os) (started : os.Started) (H : Type) (enc : TypeId × Value → H) :
    ReturnsInHanded {} Try.checked os 6 .any (Rows.fnTableExampleSpec.pre6 enc Try.prog Try.f6 Rows.fnTableExampleRow.domain false) (Rows.fnTableExampleSpec.post enc Try.prog Try.f6 false true false false) := by
  refine returnsInHanded_of_change (C := Try.checked) own started (by kernel_rfl) Try.func6
    (ChangeSpec.witness6 (enc := enc) (C := Try.checked) false ⟨#[], #[.slice none 0 0], []⟩ 8 (by kernel_rfl) (by kernel_rfl) (by kernel_rfl) (by kernel_rfl)) ?_
  intro W base args ds gs before hval0 hW hcnd _
  have hval : ∀ (j : Nat) t v, Try.f6.params[j]? = some t → args[j]? = some v → Value.okWide Try.prog W .any base t v := hval0
  have hW' := hW
  obtain ⟨p, q, hA0, hV, rfl, hfz, hnd⟩ := hW
  have hA : DataW.TrodAll enc Try.prog W 0 (fun _ => true) true Try.f6.params.toList args.toList ds p := hA0
  rw [Try.params6] at hA hval
  obtain ⟨v0, vs0, d0, ds0, p0, q0, hargs, rfl, rfl, h0, r0⟩ := trodAll_cons hA
  obtain ⟨rfl, rfl, rfl⟩ := trodAll_nil r0
  obtain rfl : args = #[v0] := by cases args; simp_all
  obtain ⟨rfl, rfl⟩ := trodVars_none hV
  obtain ⟨a0, len0, cap0, rfl⟩ := okWide_slice Try.underlying28 (hval 0 28 v0 rfl rfl)
  have k0 := h0
  have lt0 : ∀ x ∈ p0, x.block < W.heap.size := by obtain ⟨m, hm⟩ := k0; exact DataW.trod_lt m _ _ _ hm
  obtain ⟨z0, w0⟩ : ∃ zs, IsRow .u8 W a0 len0 cap0 zs := by
    obtain ⟨fuel, hf⟩ := h0
    rcases open_ints Try.underlying28 Try.underlying5 (by kernel_rfl) hf with ⟨hcs, _⟩ | ⟨x, l, c, zs, hcs, _, hl, hm, hz, _, hcell, hwz⟩
    · simp [Value.cells] at hcs
      obtain ⟨rfl, rfl, rfl⟩ := hcs
      exact ⟨[], .inl ⟨rfl, rfl, rfl, rfl⟩⟩
    · simp [Value.cells] at hcs
      obtain ⟨rfl, rfl, rfl⟩ := hcs
      exact ⟨zs, .inr ⟨_, rfl, hl, hm, by simpa using hz, hcell, hwz⟩⟩
  clear hA0 hval0
  refine (walk a0 len0 cap0 z0 W w0).mono fun e W' ⟨he, bel⟩ => ?_
  subst he
  exact ⟨_, rfl, _, _, _, [], _, [], hW', trodAll_mk1 (shut_bool Try.underlying4 _), (trodAll_cons_mk (Below.trod laidOut (by kernel_rfl) (of_decide_eq_true (by kernel_rfl)) k0 bel lt0) trodAll_mk0), rfl, bel.frame _, fun h => by cases h⟩

theorem over : Rows.fnTableExampleRow.holds Try.pinned (OpenSpec.ofChange Rows.fnTableExampleSpec) :=
  OpenClaim.holds_of_wide 6 Try.f6 rfl rfl rfl rfl rfl rfl rfl ⟨rfl, rfl, rfl, rfl, rfl⟩ rfl rfl rfl rfl rfl (by kernel_rfl) Try.func6 (by kernel_rfl)
    (of_decide_eq_true (by kernel_rfl)) (by unfold Func.isWrapper; first | (rw [if_pos (by decide +kernel)]; kernel_rfl) | (rw [if_neg (by decide +kernel)]; exact ⟨rfl, rfl⟩))
    (fun os started H enc _ => lifted os started H enc)

/-- The statement. -/
theorem proved : Rows.FnTableExampleSaid := over
#print axioms proved
end Go.Proofs.Ytlpellciiiflkaa.fnTableExample
