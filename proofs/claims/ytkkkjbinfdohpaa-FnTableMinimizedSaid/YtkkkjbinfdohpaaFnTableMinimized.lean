/-
  FnTableMinimized: The cover of a drawn literal's table has the literal's values.
  Conditions: none. For every input that the row reads, the Go function laws.FnTableMinimized returns true and leaves its arguments as they were.
-/
import Derived.Test.YtkkkjbinfdohpaaS04
import Derived.Test.YtkkkjbinfdohpaaS06
import Derived.StillTailTactics
import Derived.Test.YtkkkjbinfdohpaaRows
import Derived.WalkKit
import Derived.ProofKit
import Derived.OpenShut
import Derived.ShutString
import Derived.ChangeOld
import Derived.Below
set_option linter.unusedVariables false
set_option linter.unusedSimpArgs false
namespace Go.Proofs.Ytkkkjbinfdohpaa.fnTableMinimized
open Go.ChangeShapes Go.WideShapes Go.ChangeAt Go.RowKit
open Go.ChangeMaps (open_string shut_string)
set_option linter.unusedVariables false

theorem own : ownKnob Try.prog.godebug = none := by kernel_rfl
theorem laidOut : laidOutB Try.prog = true := by kernel_rfl

/-- A slice of integers that came in: nil, or a row of cells. -/
def IsRow (k : IntKind) (w : World) (a : Option Addr) (len cap : Nat) (zs : List Int) : Prop :=
  (a = none ∧ len = 0 ∧ cap = 0 ∧ zs = []) ∨
  ∃ x, a = some x ∧ len ≤ cap ∧ cap ≤ maxLen ∧ zs.length = cap ∧ (∀ i, i < zs.length → w.cell? (x.add i) = some (.int k (zs.getD i 0))) ∧ ∀ n ∈ zs, (Lit.int k n).wf = true

theorem any_take_snoc {α : Type} {f : α → Bool} {L : List α} {k : Nat} {a : α} (h : L[k]? = some a) : (L.take (k + 1)).any f = ((L.take k).any f || f a) := by
  rw [take_snoc h]
  simp
set_option maxHeartbeats 8000000 in
set_option maxRecDepth 100000 in
/-- The walk: the Go text returns true. -/
theorem walk (a0 : Option Addr) (len0 cap0 : Nat) (z0 : List Int) (w : World) (w0 : IsRow .u8 w a0 len0 cap0 z0) :
    Calls Try.prog 3 #[.slice a0 len0 cap0] w fun e w' => e = .returned (.bool true) ∧ Below w.heap.size w w' := by
  obtain ⟨bs, rfl, hwf, hr⟩ := Row.given w0
  clear w0
  by_cases hl : bs.length ≤ 1048576
  · have Hr := Lib.hid hr
    clear hr
    go_enter Try.func3, Try.ntmps3
    go_wp2_with fail
    refine (drawTableOf_any _ bs w Hr.out hwf hl).mono ?_
    rintro e w1 ⟨v1, c, l, rfl, hO, hS, hl1, hl2, hb1⟩
    obtain ⟨An, cn, Ag, cg, Ao, co, rfl⟩ := hO.shape
    have HC1 := Lib.hid hO.at
    have Hb1 := Lib.hid hb1
    clear hO hS hb1 Hr hwf
    go_wp2_with fail
    have hbx := bel_new w1 (.cells #[.int .i64 c.ins, .slice An c.next.length cn, .slice Ag c.gates.length cg, .slice Ao c.outs.length co] 26)
    have PC := Lib.hid (PCells.boxed w1 c.ins (.slice An c.next.length cn) (.slice Ag c.gates.length cg) (.slice Ao c.outs.length co) 26)
    have HC := Lib.hid (HC1.out.below hbx)
    have B := Lib.hid (Hb1.out.trans (hbx.mono Hb1.out.size))
    clear hbx
    generalize w1.alloc (.cells #[.int .i64 c.ins, .slice An c.next.length cn, .slice Ag c.gates.length cg, .slice Ao c.outs.length co] 26) = w2 at *
    obtain ⟨gb, hgb2⟩ : ∃ gb, w1.heap.size = gb := ⟨_, rfl⟩
    rw [hgb2] at PC ⊢
    clear hgb2
    obtain ⟨z, p0, p1, p2, p3⟩ := PC.out
    clear HC1 Hb1
    obtain ⟨t, ht⟩ : ∃ t, Cir.tabI c l = t := ⟨_, rfl⟩
    refine (implTable_any _ c l _ HC.out).mono ?_
    rintro e w3 ⟨rfl, hb⟩
    rw [ht]
    clear z p0 p1 p2 p3
    replace PC := Lib.hid (PC.out.below hb)
    replace HC := Lib.hid (HC.out.below hb)
    replace B := Lib.hid (B.out.trans (hb.mono B.out.size))
    clear hb
    obtain ⟨z, p0, p1, p2, p3⟩ := PC.out
    have Ht := Lib.hid ht
    clear ht
    go_wp2_with fail
    refine (specTable_any _ c l _ HC.out).mono ?_
    rintro e w4 ⟨rfl, hb⟩
    rw [Ht.out]
    clear z p0 p1 p2 p3
    replace PC := Lib.hid (PC.out.below hb)
    replace HC := Lib.hid (HC.out.below hb)
    replace B := Lib.hid (B.out.trans (hb.mono B.out.size))
    clear hb
    obtain ⟨z, p0, p1, p2, p3⟩ := PC.out
    have htt : (t != t) = false := by simp
    by_cases hc : Cir.valid c = true ∧ c.next = [] ∧ Cir.isLit l (Cir.vars c) = true
    · obtain ⟨d, m, hcd, hlm, hd, hn, hm, htab⟩ := table_ok hc
      have hv : Cir.valid (Cir.toCz d) = true := by rw [← hcd]; exact hc.1
      have htT : t = ((Cir.tab d m (2 ^ d.ins) : Nat) : Int) := by rw [← Ht.out]; exact htab
      have hci : c.ins = ((d.ins : Nat) : Int) := by rw [hcd]; rfl
      have hany : ∀ x, x < 2 ^ d.ins → (minimalI (Cir.tab d m (2 ^ d.ins) : Nat) (d.ins : Nat)).any (Two.has · x) = Cir.litA d m x := fun x hx => tab_any hd hn hx
      have hbd := minimal_bd (T := Cir.tab d m (2 ^ d.ins)) hd.ins
      have hlen := minimalI_len (Cir.tab d m (2 ^ d.ins) : Nat) (d.ins : Nat)
      have hN := hd.ins
      have hLV : ∀ (x : Nat) (v : Value) w', x ≤ 1000000 → CircAt w' v c → Calls Try.prog 13 #[v, .int .i64 (m : Nat), .int .i64 (x : Nat)] w' fun e w'' => e = .returned (.bool (Cir.litA d m x)) ∧ Below w'.heap.size w' w'' := fun x v w' hx h => litValue_ok v d m x w' (by rw [← hcd]; exact h) hd hv hm hx
      have hMI := fun w' => implMin_any (Cir.tab d m (2 ^ d.ins) : Nat) (d.ins : Nat) w'
      subst hlm htT
      rw [hci] at PC HC p0
      have HLV := Lib.hid hLV
      have HMI := Lib.hid hMI
      have HA := Lib.hid hany
      have HBd := Lib.hid hbd
      clear hc hcd hd hn hm htab hv hci hany hbd hLV hMI Ht
      unfold MinOut at HMI
      generalize Cir.litA d m = lv at *
      generalize Cir.tab d m (2 ^ d.ins) = T at *
      generalize d.ins = N at *
      generalize minimalI (T : Nat) (N : Nat) = L at *
      have h4 : 2 ^ N ≤ 16 := Nat.pow_le_pow_right (show 0 < 2 by decide) hN
      obtain ⟨M, hM⟩ : ∃ M, M = 2 ^ N := ⟨_, rfl⟩
      have e2 : (2 : Int) ^ N = (M : Int) := by rw [hM]; exact two_pow N
      rw [← hM] at h4 HA
      have hwM := IntWalk.i64_in (M : Int) (by omega)
      have hwu : IntKind.u64.wrap (N : Int) = N := by rw [IntKind.wrap_u64]; omega
      have dT : decide ((T : Int) < 0) = false := decide_eq_false (by omega)
      clear hM
      go_wp2_with fail
      refine (HMI.out _).mono ?_
      rintro e w5 ⟨v5, rfl, ho5, hb⟩
      obtain ⟨A5, c5, e5⟩ := slice_of_own ho5
      subst e5
      clear z p0 p1 p2 p3 HMI
      replace PC := Lib.hid (PC.out.below hb)
      replace HC := Lib.hid (HC.out.below hb)
      replace B := Lib.hid (B.out.trans (hb.mono B.out.size))
      clear hb
      have HR : Hid (CubesN w5 (.slice A5 L.length c5) L) := Lib.hid (cubesN_own ho5)
      clear ho5
      go_wp2_with fail
      go_loopw [7] (fun i wr => ∃ x : Nat, x ≤ M ∧ i = .int .i64 x ∧ Hid (Below w5.heap.size w5 wr)) (fun i _ => M - (intOf i).toNat)
      case atStart => exact ⟨0, Nat.zero_le _, rfl, Lib.hid (Below.refl _ _)⟩
      case round =>
        obtain ⟨x, hx, rfl, HB⟩ := hrel
        obtain ⟨z, p0, p1, p2, p3⟩ := PC.out.below HB.out
        by_cases hlt : x < M
        · have hxM := HA.out x hlt
          have HX := Lib.hid hxM
          clear hxM
          go_wp2_with fail
          go_loopw [8, 9] (fun h j w' => ∃ k : Nat, k ≤ L.length ∧ j = .int .i64 k ∧ h = .bool ((L.take k).any (Two.has · x)) ∧ Hid (Below w5.heap.size w5 w')) (fun _ j _ => L.length - (intOf j).toNat)
          case atStart => exact ⟨0, Nat.zero_le _, rfl, by simp, HB⟩
          case round =>
            clear z p0 p1 p2 p3
            obtain ⟨k, hk, rfl, rfl, HBk⟩ := hrel
            by_cases hlk : k < L.length
            · obtain ⟨b, o, q, rfl, hbl, hq, hs1, hs2⟩ := cubesN_open HR.out HBk.out rfl hlk
              have hb2 := HBd.out q (List.mem_of_getElem? hq.out)
              have Hsn := Lib.hid (any_take_snoc (f := (Two.has · x)) hq.out)
              have Hhas := Lib.hid (hasI_nat q.1 q.2 x (by omega) (by omega))
              obtain ⟨q1, hq1⟩ : ∃ q1, q.1 = q1 := ⟨_, rfl⟩
              obtain ⟨q2, hq2⟩ : ∃ q2, q.2 = q2 := ⟨_, rfl⟩
              have hqe : q = (q1, q2) := by rw [← hq1, ← hq2]
              rw [hqe] at Hsn Hhas hs1 hs2
              have Hk := Lib.hid (rfl : (L.take k).any (Two.has · x) = (L.take k).any (Two.has · x))
              clear hb2 hq1 hq2 hqe hq
              generalize hbb : (L.take k).any (Two.has · x) = bb at *
              clear hbb Hk
              have hwk : IntKind.i64.wrap ((k : Int) + 1) = (k : Int) + 1 := IntWalk.i64_in _ (by omega)
              cases bb
              · go_wp2_with fail
                refine (implHas_any (q1 : Nat) (q2 : Nat) (x : Nat) _).mono ?_
                rintro e w7 ⟨rfl, hb⟩
                rw [show hasI (q1 : Nat) (q2 : Nat) (x : Nat) = Two.has (q1, q2) x from Hhas.out]
                have HBk' := Lib.hid (HBk.out.trans (hb.mono HBk.out.size))
                clear hb HBk
                go_wp2_with fail
                go_roundw
                case rel => exact ⟨k + 1, by omega, by go_num, by rw [Hsn.out]; simp, HBk'⟩
                case measure => simp [intOf]; omega
              · go_wp2_with fail
                go_roundw
                case rel => exact ⟨k + 1, by omega, by go_num, by rw [Hsn.out]; simp, HBk⟩
                case measure => simp [intOf]; omega
            · obtain rfl : k = L.length := by omega
              rw [List.take_length, HX.out]
              obtain ⟨z, p0, p1, p2, p3⟩ := PC.out.below HBk.out
              have HL := Lib.hid (HLV.out x (.agg #[.int .i64 (N : Nat), .slice An c.next.length cn, .slice Ag c.gates.length cg, .slice Ao c.outs.length co]) _ (by omega) (HC.out.below HBk.out))
              generalize lv x = bx at *
              clear HX
              cases bx
              all_goals
                go_wp2_with fail
                refine HL.out.mono ?_
                rintro e w8 ⟨rfl, hb⟩
                have HB8 := Lib.hid (HBk.out.trans (hb.mono HBk.out.size))
                clear hb HBk z p0 p1 p2 p3 HL
                go_wp2_with fail
                go_roundw
                case rel => exact ⟨x + 1, by omega, by go_num, HB8⟩
                case measure => simp [intOf]; omega
        · obtain rfl : x = M := by omega
          go_wp2_with fail
          go_ret
          exact ⟨rfl, B.out.trans (HB.out.mono B.out.size)⟩
    · obtain ⟨-, h1⟩ := table_no hc
      rw [Ht.out] at h1
      subst h1
      clear hc
      go_wp2_with fail
      refine (alive_any _).mono ?_
      rintro e wb ⟨rfl, hb⟩
      replace B := Lib.hid (B.out.trans (hb.mono B.out.size))
      clear hb
      go_wp2_with fail
      go_ret
      exact ⟨rfl, B.out⟩
  · go_enter Try.func3, Try.ntmps3
    go_wp2_with fail
    go_ret
    exact ⟨rfl, Below.refl _ _⟩

/-! The step from the walk to the row. -/
set_option maxRecDepth 100000 in
theorem lifted (os : Os) (started : os.Started) (H : Type) (enc : TypeId × Value → H) :
    ReturnsInHanded {} Try.checked os 3 .any (Rows.fnTableMinimizedSpec.pre6 enc Try.prog Try.f3 Rows.fnTableMinimizedRow.domain false) (Rows.fnTableMinimizedSpec.post enc Try.prog Try.f3 false true false false) := by
  refine returnsInHanded_of_change (C := Try.checked) own started (by kernel_rfl) Try.func3
    (ChangeSpec.witness6 (enc := enc) (C := Try.checked) false ⟨#[], #[.slice none 0 0], []⟩ 8 (by kernel_rfl) (by kernel_rfl) (by kernel_rfl) (by kernel_rfl)) ?_
  intro W base args ds gs before hval0 hW hcnd _
  have hval : ∀ (j : Nat) t v, Try.f3.params[j]? = some t → args[j]? = some v → Value.okWide Try.prog W .any base t v := hval0
  have hW' := hW
  obtain ⟨p, q, hA0, hV, rfl, hfz, hnd⟩ := hW
  have hA : DataW.TrodAll enc Try.prog W 0 (fun _ => true) true Try.f3.params.toList args.toList ds p := hA0
  rw [Try.params3] at hA hval
  obtain ⟨v0, vs0, d0, ds0, p0, q0, hargs, rfl, rfl, h0, r0⟩ := trodAll_cons hA
  obtain ⟨rfl, rfl, rfl⟩ := trodAll_nil r0
  obtain rfl : args = #[v0] := by cases args; simp_all
  obtain ⟨rfl, rfl⟩ := trodVars_none hV
  obtain ⟨a0, len0, cap0, rfl⟩ := okWide_slice Try.underlying22 (hval 0 22 v0 rfl rfl)
  have k0 := h0
  have lt0 : ∀ x ∈ p0, x.block < W.heap.size := by obtain ⟨m, hm⟩ := k0; exact DataW.trod_lt m _ _ _ hm
  obtain ⟨z0, w0⟩ : ∃ zs, IsRow .u8 W a0 len0 cap0 zs := by
    obtain ⟨fuel, hf⟩ := h0
    rcases open_ints Try.underlying22 Try.underlying5 (by kernel_rfl) hf with ⟨hcs, _⟩ | ⟨x, l, c, zs, hcs, _, hl, hm, hz, _, hcell, hwz⟩
    · simp [Value.cells] at hcs
      obtain ⟨rfl, rfl, rfl⟩ := hcs
      exact ⟨[], .inl ⟨rfl, rfl, rfl, rfl⟩⟩
    · simp [Value.cells] at hcs
      obtain ⟨rfl, rfl, rfl⟩ := hcs
      exact ⟨zs, .inr ⟨_, rfl, hl, hm, by simpa using hz, hcell, hwz⟩⟩
  clear hA0 hval0
  refine (walk a0 len0 cap0 z0 W w0).mono fun e W' ⟨he, bel⟩ => ?_
  subst he
  exact ⟨_, rfl, _, _, _, [], _, [], hW', trodAll_mk1 (shut_bool Try.underlying4 _), (trodAll_cons_mk (Below.trod laidOut (by kernel_rfl) (of_decide_eq_true (by kernel_rfl)) k0 bel lt0) trodAll_mk0), rfl, bel.frame _, fun h => by cases h⟩

theorem over : Rows.fnTableMinimizedRow.holds Try.pinned (OpenSpec.ofChange Rows.fnTableMinimizedSpec) :=
  OpenClaim.holds_of_wide 3 Try.f3 rfl rfl rfl rfl rfl rfl rfl ⟨rfl, rfl, rfl, rfl, rfl⟩ rfl rfl rfl rfl rfl (by kernel_rfl) Try.func3 (by kernel_rfl)
    (of_decide_eq_true (by kernel_rfl)) (by unfold Func.isWrapper; first | (rw [if_pos (by decide +kernel)]; kernel_rfl) | (rw [if_neg (by decide +kernel)]; exact ⟨rfl, rfl⟩))
    (fun os started H enc _ => lifted os started H enc)

/-- The statement. -/
theorem proved : Rows.FnTableMinimizedSaid := over
#print axioms proved
end Go.Proofs.Ytkkkjbinfdohpaa.fnTableMinimized
