/-
  FnCubeHas: Of the sixteen assignments of four variables a drawn cube is true for 16 divided by 2 to the number of its variables; the program's CubeHas is the reference's.
  Conditions: none. For every input that the row reads, the Go function laws.FnCubeHas returns true and leaves its arguments as they were.
-/
import Derived.Test.YtlpellciiiflkaaTwoDraw
import Derived.Test.YtlpellciiiflkaaShr
import Derived.Test.YtlpellciiiflkaaRows
import Derived.WalkKit
import Derived.ProofKit
import Derived.OpenShut
import Derived.ShutString
import Derived.ChangeOld
import Derived.Below
namespace Go.Proofs.Ytlpellciiiflkaa.fnCubeHas
open Go.ChangeShapes Go.WideShapes Go.ChangeAt Go.RowKit
open Go.ChangeMaps (open_string shut_string)
set_option linter.unusedVariables false

theorem own : ownKnob Try.prog.godebug = none := by kernel_rfl
theorem laidOut : laidOutB Try.prog = true := by kernel_rfl

/-- A slice of integers that came in: nil, or a row of cells. -/
def IsRow (k : IntKind) (w : World) (a : Option Addr) (len cap : Nat) (zs : List Int) : Prop :=
  (a = none ∧ len = 0 ∧ cap = 0 ∧ zs = []) ∨
  ∃ x, a = some x ∧ len ≤ cap ∧ cap ≤ maxLen ∧ zs.length = cap ∧ (∀ i, i < zs.length → w.cell? (x.add i) = some (.int k (zs.getD i 0))) ∧ ∀ n ∈ zs, (Lit.int k n).wf = true

/-- For how many of the first y assignments the cube is true. -/
def cntK (k : Nat × Nat) : Nat → Nat
  | 0 => 0
  | y + 1 => if Two.has k y then cntK k y + 1 else cntK k y
/-- 16 halved for each of the first v variables that occur. -/
def wantK (C : Nat) : Nat → Nat
  | 0 => 16
  | v + 1 => if C.testBit v then wantK C v / 2 else wantK C v
theorem cntK_le (k : Nat × Nat) : ∀ y, cntK k y ≤ y
  | 0 => Nat.le_refl _
  | y + 1 => by rw [cntK]; have := cntK_le k y; split <;> omega
theorem wantK_le (C : Nat) : ∀ v, wantK C v ≤ 16
  | 0 => Nat.le_refl _
  | v + 1 => by rw [wantK]; have := wantK_le C v; split <;> omega
theorem cnt_want_all : ∀ C, C < 16 → ∀ P, P < 16 → cntK (C, P &&& C) 16 = wantK C 4 := by decide +kernel
/-- The walk: the Go text returns true. -/
theorem walk (a0 : Option Addr) (len0 cap0 : Nat) (z0 : List Int) (w : World) (w0 : IsRow .u8 w a0 len0 cap0 z0) :
    Calls Try.prog 4 #[.slice a0 len0 cap0] w fun e w' => e = .returned (.bool true) ∧ Below w.heap.size w w' := by
  obtain ⟨bs, rfl, hwf, hr⟩ := Row.given w0
  clear w0
  by_cases hl : bs.length ≤ 1048576
  · have Hr := Lib.hid hr
    clear hr
    go_enter Try.func4, Try.ntmps4
    go_wp2_with fail
    refine (drawCube_any _ bs w Hr.out hwf hl).mono ?_
    rintro e w1 ⟨C, P, x, rfl, hC, hP, hx0, hx1, hb1⟩
    have Hb1 := Lib.hid hb1
    clear hb1 Hr hwf
    have hz := Hb1.out.size
    go_wp2_with fail
    have hi := implHas_any C ((P &&& C : Nat) : Int) x
    have hs := specHas_any C ((P &&& C : Nat) : Int) x
    obtain ⟨W2, hW2⟩ : ∃ W2, W2 = w1.alloc (.cells #[.int .i64 C, .int .i64 ((P &&& C : Nat) : Int)] 25) := ⟨_, rfl⟩
    have z2 : w1.heap.size < W2.heap.size := by rw [hW2]; simp
    have d0 : W2.cell? ⟨w1.heap.size, 0, none⟩ = some (.int .i64 C) := by rw [hW2]; exact World.cell?_alloc_new _ _ _ 0
    have d1 : W2.cell? ⟨w1.heap.size, 1, none⟩ = some (.int .i64 ((P &&& C : Nat) : Int)) := by rw [hW2]; exact World.cell?_alloc_new _ _ _ 1
    have hb2 : Below w.heap.size w W2 := by rw [hW2]; exact Hb1.out.alloc hz _
    rw [← hW2]
    have c0 := gw_cell d0 z2
    have c1 := gw_cell d1 z2
    clear hW2
    have Hi := Lib.hid hi
    have Hs := Lib.hid hs
    clear hi hs
    refine wp_region_grow (by kernel_rfl) (by kernel_rfl) ?_
    repeat (go_big_quiet_step (first | (go_at_call 15; exact grow_call (Hi.out _)) | (go_at_call 13; exact grow_call (Hs.out _))))
    refine wpQuiet_nil ?_
    intro _ hw'
    obtain ⟨nq, hw''⟩ := hw'
    subst hw''
    have hgq := gw_below nq
    generalize gw nq = wq at *
    clear nq
    clear c0 c1 Hi Hs
    have c0 := (hgq.cell (p := ⟨w1.heap.size, 0, none⟩) z2).trans d0
    have c1 := (hgq.cell (p := ⟨w1.heap.size, 1, none⟩) z2).trans d1
    have B := Lib.hid (hb2.trans (hgq.mono hb2.size))
    have zq := hgq.size
    clear d0 d1 hb2 hgq Hb1
    generalize w1.heap.size = g at *
    go_wp2_with fail
    go_loopw [5, 6] (fun n y wr => ∃ Y N : Nat, Y ≤ 16 ∧ y = .int .i64 Y ∧ n = .int .i64 N ∧ N ≤ Y ∧ Hid (N = cntK (C, P &&& C) Y) ∧ Below wq.heap.size wq wr) (fun _ y _ => 16 - (intOf y).toNat)
    case atStart => exact ⟨0, 0, by omega, rfl, rfl, Nat.le_refl _, Lib.hid rfl, Below.refl _ _⟩
    case round =>
      obtain ⟨Y, N, hY, rfl, rfl, hN, hNe, hb⟩ := hrel
      have q0 := (hb.cell (p := ⟨g, 0, none⟩) (by simp only; omega)).trans c0
      have q1 := (hb.cell (p := ⟨g, 1, none⟩) (by simp only; omega)).trans c1
      have Hb := Lib.hid hb
      clear hb c0 c1
      by_cases hlt : Y < 16
      · have hh := hasI_nat C (P &&& C) Y (by omega) (by omega)
        have Hh := Lib.hid hh
        clear hh
        cases hhas : Two.has (C, P &&& C) Y
        · have Hc := Lib.hid hhas
          clear hhas
          go_wp2_with (go_at_call 15; refine (implHas_any _ _ _ _).mono ?_; rintro e w' ⟨rfl, hb'⟩; rw [Hh.out, Hc.out])
          go_roundw
          case rel => exact ⟨Y + 1, N, by omega, by go_num, rfl, by omega, Lib.hid (by rw [cntK, Hc.out, if_neg (by simp)]; exact hNe.out), Hb.out.trans (hb'.mono Hb.out.size)⟩
          case measure => simp [intOf]; omega
        · have Hc := Lib.hid hhas
          clear hhas
          go_wp2_with (go_at_call 15; refine (implHas_any _ _ _ _).mono ?_; rintro e w' ⟨rfl, hb'⟩; rw [Hh.out, Hc.out])
          go_roundw
          case rel => exact ⟨Y + 1, N + 1, by omega, by go_num, by go_num, by omega, Lib.hid (by rw [cntK, Hc.out, if_pos rfl, hNe.out]), Hb.out.trans (hb'.mono Hb.out.size)⟩
          case measure => simp [intOf]; omega
      · obtain rfl : Y = 16 := by omega
        have B2 := Lib.hid (B.out.trans (Hb.out.mono (by have := B.out.size; omega)))
        have hres : Hid (N = wantK C 4) := Lib.hid (by rw [hNe.out, cnt_want_all C hC P hP])
        obtain ⟨W3, rfl⟩ : ∃ W3 : World, W3 = wr := ⟨_, rfl⟩
        clear Hb hNe B
        go_wp2_with fail
        go_loop [7, 8] (fun n v => ∃ V K : Nat, V ≤ 4 ∧ v = .int .i64 V ∧ n = .int .i64 K ∧ K ≤ 16 ∧ Hid (K = wantK C V)) (fun _ v => 4 - (intOf v).toNat)
        case atStart => exact ⟨0, 16, by omega, rfl, rfl, by omega, Lib.hid rfl⟩
        case round =>
          obtain ⟨V, K, hV, rfl, rfl, hK, hKe⟩ := hrel
          by_cases hlt : V < 4
          · have hs := shr_odd C V
            cases hc : C.testBit V
            · rw [hc] at hs
              have Hc := Lib.hid hc
              clear hc
              go_wp2_with fail
              go_round
              case rel => exact ⟨V + 1, K, by omega, by go_num, rfl, hK, Lib.hid (by rw [wantK, Hc.out, if_neg (by simp)]; exact hKe.out)⟩
              case measure => simp [intOf]; omega
            · rw [hc] at hs
              have Hc := Lib.hid hc
              clear hc
              go_wp2_with fail
              go_round
              case rel => exact ⟨V + 1, K / 2, by omega, by go_num, by go_num, by omega, Lib.hid (by rw [wantK, Hc.out, if_pos rfl, hKe.out])⟩
              case measure => simp [intOf]; omega
          · obtain rfl : V = 4 := by omega
            have d0 : ((N : Int) == (K : Int)) = true := by rw [hres.out, hKe.out]; simp
            go_wp2_with (go_at_call 15; refine (implHas_any _ _ _ _).mono ?_; rintro e w' ⟨rfl, hb'⟩)
            go_ret
            exact ⟨rfl, B2.out.trans (hb'.mono B2.out.size)⟩
  · go_enter Try.func4, Try.ntmps4
    go_wp2
    go_ret
    exact ⟨rfl, Below.refl _ _⟩

/-! The step from the walk to the row. -/
set_option maxRecDepth 100000 in
theorem lifted (os : Os) (started : os.Started) (H : Type) (enc : TypeId × Value → H) :
    ReturnsInHanded {} Try.checked os 4 .any (Rows.fnCubeHasSpec.pre6 enc Try.prog Try.f4 Rows.fnCubeHasRow.domain false) (Rows.fnCubeHasSpec.post enc Try.prog Try.f4 false true false false) := by
  refine returnsInHanded_of_change (C := Try.checked) own started (by kernel_rfl) Try.func4
    (ChangeSpec.witness6 (enc := enc) (C := Try.checked) false ⟨#[], #[.slice none 0 0], []⟩ 8 (by kernel_rfl) (by kernel_rfl) (by kernel_rfl) (by kernel_rfl)) ?_
  intro W base args ds gs before hval0 hW hcnd _
  have hval : ∀ (j : Nat) t v, Try.f4.params[j]? = some t → args[j]? = some v → Value.okWide Try.prog W .any base t v := hval0
  have hW' := hW
  obtain ⟨p, q, hA0, hV, rfl, hfz, hnd⟩ := hW
  have hA : DataW.TrodAll enc Try.prog W 0 (fun _ => true) true Try.f4.params.toList args.toList ds p := hA0
  rw [Try.params4] at hA hval
  obtain ⟨v0, vs0, d0, ds0, p0, q0, hargs, rfl, rfl, h0, r0⟩ := trodAll_cons hA
  obtain ⟨rfl, rfl, rfl⟩ := trodAll_nil r0
  obtain rfl : args = #[v0] := by cases args; simp_all
  obtain ⟨rfl, rfl⟩ := trodVars_none hV
  obtain ⟨a0, len0, cap0, rfl⟩ := okWide_slice Try.underlying28 (hval 0 28 v0 rfl rfl)
  have k0 := h0
  have lt0 : ∀ x ∈ p0, x.block < W.heap.size := by obtain ⟨m, hm⟩ := k0; exact DataW.trod_lt m _ _ _ hm
  obtain ⟨z0, w0⟩ : ∃ zs, IsRow .u8 W a0 len0 cap0 zs := by
    obtain ⟨fuel, hf⟩ := h0
    rcases open_ints Try.underlying28 Try.underlying5 (by kernel_rfl) hf with ⟨hcs, _⟩ | ⟨x, l, c, zs, hcs, _, hl, hm, hz, _, hcell, hwz⟩
    · simp [Value.cells] at hcs
      obtain ⟨rfl, rfl, rfl⟩ := hcs
      exact ⟨[], .inl ⟨rfl, rfl, rfl, rfl⟩⟩
    · simp [Value.cells] at hcs
      obtain ⟨rfl, rfl, rfl⟩ := hcs
      exact ⟨zs, .inr ⟨_, rfl, hl, hm, by simpa using hz, hcell, hwz⟩⟩
  clear hA0 hval0
  refine (walk a0 len0 cap0 z0 W w0).mono fun e W' ⟨he, bel⟩ => ?_
  subst he
  exact ⟨_, rfl, _, _, _, [], _, [], hW', trodAll_mk1 (shut_bool Try.underlying4 _), (trodAll_cons_mk (Below.trod laidOut (by kernel_rfl) (of_decide_eq_true (by kernel_rfl)) k0 bel lt0) trodAll_mk0), rfl, bel.frame _, fun h => by cases h⟩

theorem over : Rows.fnCubeHasRow.holds Try.pinned (OpenSpec.ofChange Rows.fnCubeHasSpec) :=
  OpenClaim.holds_of_wide 4 Try.f4 rfl rfl rfl rfl rfl rfl rfl ⟨rfl, rfl, rfl, rfl, rfl⟩ rfl rfl rfl rfl rfl (by kernel_rfl) Try.func4 (by kernel_rfl)
    (of_decide_eq_true (by kernel_rfl)) (by unfold Func.isWrapper; first | (rw [if_pos (by decide +kernel)]; kernel_rfl) | (rw [if_neg (by decide +kernel)]; exact ⟨rfl, rfl⟩))
    (fun os started H enc _ => lifted os started H enc)

/-- The statement. -/
theorem proved : Rows.FnCubeHasSaid := over
#print axioms proved
end Go.Proofs.Ytlpellciiiflkaa.fnCubeHas
