/-
  FnMachineValid: A machine with one state and outputs 0 is valid, the zero machine is not, and a valid machine with the last row of outputs removed is invalid; the program's MachineValid answers as the reference's on every drawn machine.
  Conditions: none. For every input that the row reads, the Go function laws.FnMachineValid returns true and leaves its arguments as they were.
-/
import Derived.Test.YtmlmnelbphjfbaaS06
import Derived.Test.YtmlmnelbphjfbaaRows
import Derived.WalkKit
import Derived.ProofKit
import Derived.OpenShut
import Derived.ShutString
import Derived.ChangeOld
import Derived.Below
set_option linter.unusedVariables false
set_option linter.unusedSimpArgs false
namespace Go.Proofs.Ytmlmnelbphjfbaa.fnMachineValid
open Go.ChangeShapes Go.WideShapes Go.ChangeAt Go.RowKit
open Go.ChangeMaps (open_string shut_string)
set_option linter.unusedVariables false

theorem own : ownKnob Try.prog.godebug = none := by kernel_rfl
theorem laidOut : laidOutB Try.prog = true := by kernel_rfl

/-- A slice of integers that came in: nil, or a row of cells. -/
def IsRow (k : IntKind) (w : World) (a : Option Addr) (len cap : Nat) (zs : List Int) : Prop :=
  (a = none ∧ len = 0 ∧ cap = 0 ∧ zs = []) ∨
  ∃ x, a = some x ∧ len ≤ cap ∧ cap ≤ maxLen ∧ zs.length = cap ∧ (∀ i, i < zs.length → w.cell? (x.add i) = some (.int k (zs.getD i 0))) ∧ ∀ n ∈ zs, (Lit.int k n).wf = true

theorem ssat_take {α : Type} {enc : List α → List Value} {w : World} {A : Option Addr} {c k : Nat} {xss : List (List α)} (h : SSAt enc w (.slice A xss.length c) xss) (hk : k ≤ xss.length) : SSAt enc w (.slice A k c) (xss.take k) := by
  obtain ⟨vs, h1, ⟨r1, A', c', r2, r3, r4, r5⟩, h3⟩ := h
  injection r2 with e1 e2 e3
  subst e1 e3
  refine ⟨vs.take k, by rw [List.length_take, List.length_take, h1], ⟨by rw [List.length_take, List.length_take]; omega, A, c, by rw [List.length_take, Nat.min_eq_left hk], by rw [List.length_take]; omega, r4, fun hp => ?_⟩, fun i x u hx hu => ?_⟩
  · rw [List.length_take] at hp
    obtain ⟨b, o, hA, hb, hc⟩ := r5 (by omega)
    exact ⟨b, o, hA, hb, fun j u hu => hc j u (by rw [List.getElem?_take] at hu; split at hu; exact hu; cases hu)⟩
  · rw [List.getElem?_take] at hx hu
    split at hx
    · rename_i hi
      rw [if_pos hi] at hu
      exact h3 i x u hx hu
    · cases hx
def oneM : Mz := ⟨0, [[0]], [[0]]⟩
theorem one_valid : Mac.valid oneM = true := by decide +kernel
theorem zero_valid : Mac.valid ⟨0, [], []⟩ = false := by decide +kernel
theorem less_valid {m : Mz} (h : Mac.valid m = true) : 1 ≤ m.out.length ∧ Mac.valid ⟨m.ins, m.next, m.out.take (m.out.length - 1)⟩ = false := by
  have hs := h
  unfold Mac.valid at hs
  rw [Bool.and_eq_true] at hs
  have h0 := hs.1
  unfold Mac.sizes at h0
  rw [decide_eq_true_eq] at h0
  refine ⟨by omega, ?_⟩
  unfold Mac.valid Mac.sizes
  rw [decide_eq_false (by simp only [List.length_take]; omega)]
  rfl
theorem ss_lit1 {w : World} {b g : Nat} (hb : b < w.heap.size) (hg : g < w.heap.size) (h1 : w.heap[b]? = some (.cells #[.int .i64 0] 3 (0, 0))) (h2 : w.heap[g]? = some (.cells #[.slice (some ⟨b, 0, none⟩) 1 1] 28 (0, 0))) : SSAt ints w (.slice (some ⟨g, 0, none⟩) 1 1) [[0]] := by
  refine ⟨[.slice (some ⟨b, 0, none⟩) 1 1], rfl, ⟨rfl, _, 1, rfl, Nat.le_refl _, by unfold maxLen; omega, fun _ => ⟨g, 0, rfl, hg, fun j u hu => ?_⟩⟩, fun i x u hx hu => ?_⟩
  · match j, hu with
    | 0, hu => obtain rfl := Option.some.inj hu; exact blk_cell h2 0
    | j + 1, hu => simp at hu
  · match i, hx, hu with
    | 0, hx, hu =>
      obtain rfl := Option.some.inj hx
      obtain rfl := Option.some.inj hu
      exact ⟨rfl, _, 1, rfl, Nat.le_refl _, by unfold maxLen; omega, fun _ => ⟨b, 0, rfl, hb, fun j u hu => by
        match j, hu with
        | 0, hu => obtain rfl := Option.some.inj hu; exact blk_cell h1 0
        | j + 1, hu => simp [ints] at hu⟩⟩
    | i + 1, hx, hu => simp at hx
set_option maxHeartbeats 16000000 in
set_option maxRecDepth 100000 in
/-- The walk: the Go text returns true. -/
theorem walk (a0 : Option Addr) (len0 cap0 : Nat) (z0 : List Int) (w : World) (w0 : IsRow .u8 w a0 len0 cap0 z0) :
    Calls Try.prog 3 #[.slice a0 len0 cap0] w fun e w' => e = .returned (.bool true) ∧ Below w.heap.size w w' := by
  obtain ⟨bs, rfl, hwf, hr⟩ := Row.given w0
  clear w0
  by_cases hl : bs.length ≤ 1048576
  · have Hr := Lib.hid hr
    clear hr
    go_enter Try.func3, Try.ntmps3
    go_wp2_with fail
    refine (drawMachV_any _ bs w Hr.out hwf hl).mono ?_
    rintro e w1 ⟨v1, m, rfl, hm, hb1⟩
    obtain ⟨An, cn, Ao, co, rfl, hcnm, hcom, hcn1, hco1⟩ := hm.shape
    have hbx := bel_new w1 (.cells #[.int .i64 m.ins, .slice An m.next.length cn, .slice Ao m.out.length co] 25)
    have PC := Lib.hid (MCells.boxed w1 m.ins (.slice An m.next.length cn) (.slice Ao m.out.length co) 25)
    have HC := Lib.hid (hm.below hbx)
    have B := Lib.hid (hb1.trans (hbx.mono hb1.size))
    clear hm hb1 Hr hwf hbx
    unfold maxLen at hcnm hcom
    go_wp2_with fail
    generalize w1.alloc (.cells #[.int .i64 m.ins, .slice An m.next.length cn, .slice Ao m.out.length co] 25) = w2 at *
    obtain ⟨gb, hgb⟩ : ∃ gb, w1.heap.size = gb := ⟨_, rfl⟩
    rw [hgb] at PC ⊢
    clear hgb
    obtain ⟨z, p0, p1, p2⟩ := PC.out
    refine (implMValid_any _ m _ HC.out).mono ?_
    rintro e w3 ⟨rfl, hb⟩
    clear z p0 p1 p2
    replace PC := Lib.hid (PC.out.below hb)
    replace HC := Lib.hid (HC.out.below hb)
    replace B := Lib.hid (B.out.trans (hb.mono B.out.size))
    clear hb
    obtain ⟨z, p0, p1, p2⟩ := PC.out
    obtain ⟨ok, hok⟩ : ∃ ok, Mac.valid m = ok := ⟨_, rfl⟩
    rw [hok]
    have Hok := Lib.hid hok
    clear hok
    go_wp2_with fail
    refine (specMValid_any _ m _ HC.out).mono ?_
    rintro e w4 ⟨rfl, hb⟩
    rw [Hok.out]
    clear z p0 p1 p2
    replace PC := Lib.hid (PC.out.below hb)
    replace HC := Lib.hid (HC.out.below hb)
    replace B := Lib.hid (B.out.trans (hb.mono B.out.size))
    clear hb
    have hoo : (ok != ok) = false := by simp
    have b1 := bel_new w4 (.cells #[.int .i64 0] 3)
    have b2 := bel_new (w4.alloc (.cells #[.int .i64 0] 3)) (.cells #[.slice (some ⟨w4.heap.size, 0, none⟩) 1 1] 28)
    have b3 := bel_new ((w4.alloc (.cells #[.int .i64 0] 3)).alloc (.cells #[.slice (some ⟨w4.heap.size, 0, none⟩) 1 1] 28)) (.cells #[.int .i64 0] 3)
    have b4 := bel_new (((w4.alloc (.cells #[.int .i64 0] 3)).alloc (.cells #[.slice (some ⟨w4.heap.size, 0, none⟩) 1 1] 28)).alloc (.cells #[.int .i64 0] 3)) (.cells #[.slice (some ⟨w4.heap.size + 1 + 1, 0, none⟩) 1 1] 28)
    have b5 := bel_new ((((w4.alloc (.cells #[.int .i64 0] 3)).alloc (.cells #[.slice (some ⟨w4.heap.size, 0, none⟩) 1 1] 28)).alloc (.cells #[.int .i64 0] 3)).alloc (.cells #[.slice (some ⟨w4.heap.size + 1 + 1, 0, none⟩) 1 1] 28)) (.cells #[.int .i64 0, .slice (some ⟨w4.heap.size + 1, 0, none⟩) 1 1, .slice (some ⟨w4.heap.size + 1 + 1 + 1, 0, none⟩) 1 1] 25)
    have a1 := heap_alloc_new w4 (.cells #[.int .i64 0] 3)
    have a2 := heap_alloc_new (w4.alloc (.cells #[.int .i64 0] 3)) (.cells #[.slice (some ⟨w4.heap.size, 0, none⟩) 1 1] 28)
    have a3 := heap_alloc_new ((w4.alloc (.cells #[.int .i64 0] 3)).alloc (.cells #[.slice (some ⟨w4.heap.size, 0, none⟩) 1 1] 28)) (.cells #[.int .i64 0] 3)
    have a4 := heap_alloc_new (((w4.alloc (.cells #[.int .i64 0] 3)).alloc (.cells #[.slice (some ⟨w4.heap.size, 0, none⟩) 1 1] 28)).alloc (.cells #[.int .i64 0] 3)) (.cells #[.slice (some ⟨w4.heap.size + 1 + 1, 0, none⟩) 1 1] 28)
    rw [World.size_alloc] at a2
    rw [World.size_alloc, World.size_alloc] at a3
    rw [World.size_alloc, World.size_alloc, World.size_alloc] at a4
    have c1 := (b5.block _ (by simp <;> omega)).trans ((b4.block _ (by simp <;> omega)).trans ((b3.block _ (by simp <;> omega)).trans ((b2.block _ (by simp)).trans a1)))
    have c2 := (b5.block _ (by simp <;> omega)).trans ((b4.block _ (by simp <;> omega)).trans ((b3.block _ (by simp)).trans a2))
    have c3 := (b5.block _ (by simp <;> omega)).trans ((b4.block _ (by simp)).trans a3)
    have c4 := (b5.block _ (by simp)).trans a4
    have HOne : Hid (MachAt (((((w4.alloc (.cells #[.int .i64 0] 3)).alloc (.cells #[.slice (some ⟨w4.heap.size, 0, none⟩) 1 1] 28)).alloc (.cells #[.int .i64 0] 3)).alloc (.cells #[.slice (some ⟨w4.heap.size + 1 + 1, 0, none⟩) 1 1] 28)).alloc (.cells #[.int .i64 0, .slice (some ⟨w4.heap.size + 1, 0, none⟩) 1 1, .slice (some ⟨w4.heap.size + 1 + 1 + 1, 0, none⟩) 1 1] 25)) (.agg #[.int .i64 0, .slice (some ⟨w4.heap.size + 1, 0, none⟩) 1 1, .slice (some ⟨w4.heap.size + 1 + 1 + 1, 0, none⟩) 1 1]) oneM) := Lib.hid ⟨_, _, rfl, ss_lit1 (by simp <;> omega) (by simp <;> omega) c1 c2, ss_lit1 (by simp <;> omega) (by simp <;> omega) c3 c4⟩
    have PO := Lib.hid (MCells.boxed ((((w4.alloc (.cells #[.int .i64 0] 3)).alloc (.cells #[.slice (some ⟨w4.heap.size, 0, none⟩) 1 1] 28)).alloc (.cells #[.int .i64 0] 3)).alloc (.cells #[.slice (some ⟨w4.heap.size + 1 + 1, 0, none⟩) 1 1] 28)) 0 (.slice (some ⟨w4.heap.size + 1, 0, none⟩) 1 1) (.slice (some ⟨w4.heap.size + 1 + 1 + 1, 0, none⟩) 1 1) 25)
    have hbb : Below w4.heap.size w4 (((((w4.alloc (.cells #[.int .i64 0] 3)).alloc (.cells #[.slice (some ⟨w4.heap.size, 0, none⟩) 1 1] 28)).alloc (.cells #[.int .i64 0] 3)).alloc (.cells #[.slice (some ⟨w4.heap.size + 1 + 1, 0, none⟩) 1 1] 28)).alloc (.cells #[.int .i64 0, .slice (some ⟨w4.heap.size + 1, 0, none⟩) 1 1, .slice (some ⟨w4.heap.size + 1 + 1 + 1, 0, none⟩) 1 1] 25)) := (((b1.trans (b2.mono b1.size)).trans (b3.mono (by simp <;> omega))).trans (b4.mono (by simp <;> omega))).trans (b5.mono (by simp <;> omega))
    have Hbb := Lib.hid hbb
    clear a1 a2 a3 a4 c1 c2 c3 c4 b1 b2 b3 b4 b5 hbb
    obtain ⟨z, p0, p1, p2⟩ := PC.out
    go_wp2_with fail
    clear z p0 p1 p2
    replace PC := Lib.hid (PC.out.below Hbb.out)
    replace HC := Lib.hid (HC.out.below Hbb.out)
    replace B := Lib.hid (B.out.trans (Hbb.out.mono B.out.size))
    generalize ((((w4.alloc (.cells #[.int .i64 0] 3)).alloc (.cells #[.slice (some ⟨w4.heap.size, 0, none⟩) 1 1] 28)).alloc (.cells #[.int .i64 0] 3)).alloc (.cells #[.slice (some ⟨w4.heap.size + 1 + 1, 0, none⟩) 1 1] 28)).alloc (.cells #[.int .i64 0, .slice (some ⟨w4.heap.size + 1, 0, none⟩) 1 1, .slice (some ⟨w4.heap.size + 1 + 1 + 1, 0, none⟩) 1 1] 25) = w5 at *
    clear PO Hbb
    refine (implMValid_any _ oneM _ HOne.out).mono ?_
    rintro e w6 ⟨rfl, hb⟩
    rw [one_valid]
    replace PC := Lib.hid (PC.out.below hb)
    replace HC := Lib.hid (HC.out.below hb)
    replace B := Lib.hid (B.out.trans (hb.mono B.out.size))
    clear hb HOne
    go_wp2_with fail
    refine (implMValid_any _ ⟨0, [], []⟩ _ ⟨_, _, rfl, (SSIn.nil ints (From 0) _).at, (SSIn.nil ints (From 0) _).at⟩).mono ?_
    rintro e w7 ⟨rfl, hb⟩
    rw [zero_valid]
    replace PC := Lib.hid (PC.out.below hb)
    replace HC := Lib.hid (HC.out.below hb)
    replace B := Lib.hid (B.out.trans (hb.mono B.out.size))
    clear hb
    obtain ⟨z, p0, p1, p2⟩ := PC.out
    cases ok
    · go_wp2_with fail
      go_ret
      exact ⟨rfl, B.out⟩
    · obtain ⟨hl1, hless⟩ := less_valid Hok.out
      have Hless := Lib.hid hless
      have hw1 : IntKind.i64.wrap ((m.out.length : Int) - 1) = ((m.out.length - 1 : Nat) : Int) := by rw [IntWalk.i64_in _ (by omega)]; omega
      have hq1 : (0 : Int) ≤ ((m.out.length - 1 : Nat) : Int) := by omega
      have hq2 : m.out.length - 1 ≤ co := by omega
      obtain ⟨L, hL⟩ : ∃ L, m.out.length - 1 = L := ⟨_, rfl⟩
      rw [hL] at hw1 hq1 hq2
      have hLm : L ≤ m.out.length := by omega
      have hbx := bel_new w7 (.cells #[.int .i64 m.ins, .slice An m.next.length cn, .slice Ao m.out.length co] 25)
      have hsx : (w7.alloc (.cells #[.int .i64 m.ins, .slice An m.next.length cn, .slice Ao m.out.length co] 25)).heap.size = w7.heap.size + 1 := by simp
      have PC8 := Lib.hid (PC.out.below hbx)
      obtain ⟨y, q0, q1, q2⟩ := PC8.out
      have hgg : gb ≠ w7.heap.size := by omega
      have hgg2 : w7.heap.size ≠ gb := by omega
      rw [hL] at hless
      have Hless := Lib.hid hless
      obtain ⟨un, uo, huv, rn1, ro1⟩ := HC.out
      simp only [Value.agg.injEq, Array.mk.injEq, List.cons.injEq, and_true, true_and] at huv
      obtain ⟨rfl, rfl⟩ := huv
      have HLs : Hid (MachAt (w7.alloc (.cells #[.int .i64 m.ins, .slice An m.next.length cn, .slice Ao L co] 25)) (.agg #[.int .i64 m.ins, .slice An m.next.length cn, .slice Ao L co]) ⟨m.ins, m.next, m.out.take L⟩) := Lib.hid ⟨_, _, rfl, rn1.below (bel_new _ _), (ssat_take ro1 hLm).below (bel_new _ _)⟩
      have hb8 := bel_new w7 (.cells #[.int .i64 m.ins, .slice An m.next.length cn, .slice Ao L co] 25)
      have B8 := Lib.hid (B.out.trans (hb8.mono B.out.size))
      clear hless hbx rn1 ro1 hb8
      go_wp2_with fail
      refine (implMValid_any _ ⟨m.ins, m.next, m.out.take L⟩ _ HLs.out).mono ?_
      rintro e w9 ⟨rfl, hb⟩
      rw [Hless.out]
      have B9 := Lib.hid (B8.out.trans (hb.mono B8.out.size))
      clear hb
      go_wp2_with fail
      go_ret
      exact ⟨rfl, B9.out⟩
  · go_enter Try.func3, Try.ntmps3
    go_wp2_with fail
    go_ret
    exact ⟨rfl, Below.refl _ _⟩

/-! The step from the walk to the row. -/
set_option maxRecDepth 100000 in
theorem lifted (os : Os) (started : os.Started) (H : Type) (enc : TypeId × Value → H) :
    ReturnsInHanded {} Try.checked os 3 .any (Rows.fnMachineValidSpec.pre6 enc Try.prog Try.f3 Rows.fnMachineValidRow.domain false) (Rows.fnMachineValidSpec.post enc Try.prog Try.f3 false true false false) := by
  refine returnsInHanded_of_change (C := Try.checked) own started (by kernel_rfl) Try.func3
    (ChangeSpec.witness6 (enc := enc) (C := Try.checked) false ⟨#[], #[.slice none 0 0], []⟩ 8 (by kernel_rfl) (by kernel_rfl) (by kernel_rfl) (by kernel_rfl)) ?_
  intro W base args ds gs before hval0 hW hcnd _
  have hval : ∀ (j : Nat) t v, Try.f3.params[j]? = some t → args[j]? = some v → Value.okWide Try.prog W .any base t v := hval0
  have hW' := hW
  obtain ⟨p, q, hA0, hV, rfl, hfz, hnd⟩ := hW
  have hA : DataW.TrodAll enc Try.prog W 0 (fun _ => true) true Try.f3.params.toList args.toList ds p := hA0
  rw [Try.params3] at hA hval
  obtain ⟨v0, vs0, d0, ds0, p0, q0, hargs, rfl, rfl, h0, r0⟩ := trodAll_cons hA
  obtain ⟨rfl, rfl, rfl⟩ := trodAll_nil r0
  obtain rfl : args = #[v0] := by cases args; simp_all
  obtain ⟨rfl, rfl⟩ := trodVars_none hV
  obtain ⟨a0, len0, cap0, rfl⟩ := okWide_slice Try.underlying22 (hval 0 22 v0 rfl rfl)
  have k0 := h0
  have lt0 : ∀ x ∈ p0, x.block < W.heap.size := by obtain ⟨m, hm⟩ := k0; exact DataW.trod_lt m _ _ _ hm
  obtain ⟨z0, w0⟩ : ∃ zs, IsRow .u8 W a0 len0 cap0 zs := by
    obtain ⟨fuel, hf⟩ := h0
    rcases open_ints Try.underlying22 Try.underlying5 (by kernel_rfl) hf with ⟨hcs, _⟩ | ⟨x, l, c, zs, hcs, _, hl, hm, hz, _, hcell, hwz⟩
    · simp [Value.cells] at hcs
      obtain ⟨rfl, rfl, rfl⟩ := hcs
      exact ⟨[], .inl ⟨rfl, rfl, rfl, rfl⟩⟩
    · simp [Value.cells] at hcs
      obtain ⟨rfl, rfl, rfl⟩ := hcs
      exact ⟨zs, .inr ⟨_, rfl, hl, hm, by simpa using hz, hcell, hwz⟩⟩
  clear hA0 hval0
  refine (walk a0 len0 cap0 z0 W w0).mono fun e W' ⟨he, bel⟩ => ?_
  subst he
  exact ⟨_, rfl, _, _, _, [], _, [], hW', trodAll_mk1 (shut_bool Try.underlying4 _), (trodAll_cons_mk (Below.trod laidOut (by kernel_rfl) (of_decide_eq_true (by kernel_rfl)) k0 bel lt0) trodAll_mk0), rfl, bel.frame _, fun h => by cases h⟩

theorem over : Rows.fnMachineValidRow.holds Try.pinned (OpenSpec.ofChange Rows.fnMachineValidSpec) :=
  OpenClaim.holds_of_wide 3 Try.f3 rfl rfl rfl rfl rfl rfl rfl ⟨rfl, rfl, rfl, rfl, rfl⟩ rfl rfl rfl rfl rfl (by kernel_rfl) Try.func3 (by kernel_rfl)
    (of_decide_eq_true (by kernel_rfl)) (by unfold Func.isWrapper; first | (rw [if_pos (by decide +kernel)]; kernel_rfl) | (rw [if_neg (by decide +kernel)]; exact ⟨rfl, rfl⟩))
    (fun os started H enc _ => lifted os started H enc)

/-- The statement. -/
theorem proved : Rows.FnMachineValidSaid := over
#print axioms proved
end Go.Proofs.Ytmlmnelbphjfbaa.fnMachineValid
