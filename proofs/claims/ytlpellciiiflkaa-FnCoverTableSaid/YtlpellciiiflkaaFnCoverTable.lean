/-
  FnCoverTable: The program's CoverTable is the reference's; the table of a list is the disjunction of the tables of its cubes, whatever their order.
  Conditions: none. For every input that the row reads, the Go function laws.FnCoverTable returns true and leaves its arguments as they were.
-/
import Derived.Test.YtlpellciiiflkaaDrawC
import Derived.Test.YtlpellciiiflkaaRows
import Derived.WalkKit
import Derived.ProofKit
import Derived.OpenShut
import Derived.ShutString
import Derived.ChangeOld
import Derived.Below
namespace Go.Proofs.Ytlpellciiiflkaa.fnCoverTable
open Go.ChangeShapes Go.WideShapes Go.ChangeAt Go.RowKit
open Go.ChangeMaps (open_string shut_string)
set_option linter.unusedVariables false

theorem own : ownKnob Try.prog.godebug = none := by kernel_rfl
theorem laidOut : laidOutB Try.prog = true := by kernel_rfl

/-- A slice of integers that came in: nil, or a row of cells. -/
def IsRow (k : IntKind) (w : World) (a : Option Addr) (len cap : Nat) (zs : List Int) : Prop :=
  (a = none ∧ len = 0 ∧ cap = 0 ∧ zs = []) ∨
  ∃ x, a = some x ∧ len ≤ cap ∧ cap ≤ maxLen ∧ zs.length = cap ∧ (∀ i, i < zs.length → w.cell? (x.add i) = some (.int k (zs.getD i 0))) ∧ ∀ n ∈ zs, (Lit.int k n).wf = true

theorem cover_pos {N : Nat} {ks : List (Int × Int)} (hN : N ≤ 4) (hw : ∀ k ∈ ks, WfK k) (h : ¬ coverI N ks < 0) : ∃ L : List (Nat × Nat), ks = L.map intK ∧ ∀ k ∈ L, k.1 < 2 ^ N ∧ k.2 < 16 ∧ Two.fine k = true := by
  have hall : ∀ k ∈ ks, okI N k = true := by
    unfold coverI at h
    split at h
    · unfold covFrom at h
      rw [Int.toNat_natCast] at h
      split at h
      · rename_i ha
        exact List.all_eq_true.1 ha
      · omega
    · omega
  clear h
  induction ks with
  | nil => exact ⟨[], rfl, by simp⟩
  | cons k ks ih =>
    obtain ⟨L, hL, hg⟩ := ih (fun q hq => hw q (List.mem_cons_of_mem _ hq)) (fun q hq => hall q (List.mem_cons_of_mem _ hq))
    obtain ⟨C, V, hk, h1, h2, h3, h4⟩ := okI_nat hN (hw k (by simp)) (hall k (by simp))
    refine ⟨(C, V) :: L, by rw [hL, hk]; rfl, fun q hq => ?_⟩
    rcases List.mem_cons.1 hq with rfl | hq
    · exact ⟨h1, by simp only; omega, h4⟩
    · exact hg q hq
theorem table_small {N : Nat} (hN : N ≤ 4) (L : List (Nat × Nat)) : Two.tableOf L N < 65536 := by
  refine Nat.lt_of_lt_of_le (Two.tableOf_lt L N) ?_
  have h3 : 2 ^ N ≤ 16 := Nat.pow_le_pow_right (show 0 < 2 by decide) hN
  exact Nat.pow_le_pow_right (show 0 < 2 by decide) h3
theorem table_drop {L : List (Nat × Nat)} {j : Nat} {k : Nat × Nat} (N : Nat) (h : L[j]? = some k) : Two.tableOf (L.drop j) N = Two.tableOf (L.drop (j + 1)) N ||| Two.tableOf [k] N := by
  have e : L.drop j = [k] ++ L.drop (j + 1) := by
    obtain ⟨hk, rfl⟩ := List.getElem?_eq_some_iff.1 h
    exact List.drop_eq_getElem_cons hk
  rw [e, Two.tableOf_append, Nat.or_comm]
theorem turn_drop {L : List (Nat × Nat)} {j : Nat} {k : Nat × Nat} (h : L[j]? = some k) : cubes ((L.drop j).reverse.map intK) = cubes ((L.drop (j + 1)).reverse.map intK) ++ [.int .i64 k.1, .int .i64 k.2] := by
  have e : L.drop j = [k] ++ L.drop (j + 1) := by
    obtain ⟨hk, rfl⟩ := List.getElem?_eq_some_iff.1 h
    exact List.drop_eq_getElem_cons hk
  rw [e, List.reverse_append, List.map_append, cubes_append]
  rfl
set_option maxHeartbeats 16000000 in
set_option maxRecDepth 100000 in
/-- The walk: the Go text returns true. -/
theorem walk (a0 : Option Addr) (len0 cap0 : Nat) (z0 : List Int) (w : World) (w0 : IsRow .u8 w a0 len0 cap0 z0) :
    Calls Try.prog 7 #[.slice a0 len0 cap0] w fun e w' => e = .returned (.bool true) ∧ Below w.heap.size w w' := by
  obtain ⟨bs, rfl, hwf, hr⟩ := Row.given w0
  clear w0
  by_cases hl : bs.length ≤ 1048576
  · have Hr := Lib.hid hr
    clear hr
    go_enter Try.func7, Try.ntmps7
    go_wp2_with fail
    refine (drawCover_any _ bs w Hr.out hwf hl).mono ?_
    rintro e w1 ⟨v1, ks, N, rfl, hN, hlen, hwk, hc1, hb1⟩
    have Hwk := Lib.hid hwk
    have Hc1 := Lib.hid hc1
    have Hb1 := Lib.hid hb1
    clear hwk hc1 hb1 Hr hwf
    go_wp2_with fail
    refine (implCover_any _ ks N _ Hc1.out Hwk.out).mono ?_
    rintro e w2 ⟨rfl, hb2⟩
    have Hc2 : Hid (CubesAt w2 v1 ks) := Lib.hid (Row.below Hc1.out hb2)
    have Hb2 := Lib.hid (Hb1.out.trans (hb2.mono Hb1.out.size))
    clear hb2 Hc1 Hb1
    go_wp2_with fail
    refine (specCover_any _ ks N _ Hc2.out Hwk.out).mono ?_
    rintro e w3 ⟨rfl, hb3⟩
    have Hc3 : Hid (CubesAt w3 v1 ks) := Lib.hid (Row.below Hc2.out hb3)
    have Hb3 := Lib.hid (Hb2.out.trans (hb3.mono Hb2.out.size))
    clear hb3 Hc2 Hb2
    by_cases hneg : coverI N ks < 0
    · generalize coverI N ks = T at *
      clear Hc3
      go_wp2_with fail
      refine (alive_any _).mono ?_
      rintro e w6 ⟨rfl, hb6⟩
      go_wp2_with fail
      go_ret
      exact ⟨rfl, Hb3.out.trans (hb6.mono Hb3.out.size)⟩
    · obtain ⟨L, rfl, hL⟩ := cover_pos hN Hwk.out hneg
      have HL := Lib.hid hL
      clear hL Hwk hneg
      rw [List.length_map] at hlen
      have Hc : Hid (CubesN w3 v1 L) := Lib.hid Hc3.out
      clear Hc3
      have hcv := cover_nat hN (by omega) (fun k hk => ⟨(HL.out k hk).1, (HL.out k hk).2.2⟩)
      rw [hcv]
      have HT : Hid (Two.tableOf (L.drop 0) N = Two.tableOf L N) := Lib.hid rfl
      have HT2 : Hid (Two.tableOf L.reverse N = Two.tableOf L N) := Lib.hid (Two.tableOf_reverse _ _)
      have hTl := table_small hN L
      generalize Two.tableOf L N = T at *
      clear hcv
      obtain ⟨A, c, hv, hcn, hcm⟩ := Row.shape Hc.out
      rw [List.length_map] at hv hcn
      subst hv
      unfold maxLen at hcm
      go_wp2_with fail
      go_loopw [6, 7, 8] (fun s v i wr => ∃ (vv : Value) (j : Nat) (x : Int), vv = v ∧ j ≤ L.length ∧ x = (j : Int) - 1 ∧ i = .int .i64 x ∧ s = .int .i64 (Two.tableOf (L.drop j) N : Nat) ∧ Hid (wr.ownsRow w3.heap.size 25 2 v (L.length - j) (cubes ((L.drop j).reverse.map intK))) ∧ Below w3.heap.size w3 wr) (fun _ _ i _ => (intOf i + 1).toNat)
      case atStart =>
        refine ⟨_, L.length, _, rfl, Nat.le_refl _, rfl, rfl, ?_, Lib.hid ?_, (Below.refl _ _).alloc (Nat.le_refl _) _⟩
        · rw [List.drop_length]; rfl
        · rw [List.drop_length, Nat.sub_self]
          exact World.ownsRow_lit (base := w3.heap.size) (e := 25) (size := 2) w3 #[] 0 (Nat.le_refl _) (by unfold maxLen; omega) rfl
      case round =>
        obtain ⟨vv, j, x, hvv, hj, hxj, rfl, rfl, Ho, hb⟩ := hrel
        subst hvv
        have Hb := Lib.hid hb
        by_cases h0 : j = 0
        · subst h0
          obtain rfl : x = -1 := by omega
          have Hturn : Hid (CubesN wr vv L.reverse) := Lib.hid (cubesN_own (by have := Ho.out; rw [List.drop_zero, Nat.sub_zero, ← List.length_reverse] at this; exact this))
          have hcc := implCover_any vv (L.reverse.map intK) N wr Hturn.out (fun q hq => by
            obtain ⟨q', hq', rfl⟩ := List.mem_map.1 hq
            have := (HL.out q' (List.mem_reverse.1 hq')).2.1
            unfold WfK intK
            simp only
            omega)
          rw [cover_nat hN (by rw [List.length_reverse]; omega) (fun k hk => ⟨(HL.out k (List.mem_reverse.1 hk)).1, (HL.out k (List.mem_reverse.1 hk)).2.2⟩), HT2.out] at hcc
          rw [HT.out]
          have hTT : ((T : Int) == (T : Int)) = true := by simp
          clear hb hxj
          go_wp2_with fail
          refine hcc.mono ?_
          rintro e w6 ⟨rfl, hb6⟩
          go_wp2_with fail
          go_ret
          exact ⟨ret_bool (by simp), Hb3.out.trans ((Hb.out.trans (hb6.mono Hb.out.size)).mono Hb3.out.size)⟩
        · obtain ⟨i, rfl⟩ : ∃ i, j = i + 1 := ⟨j - 1, by omega⟩
          obtain rfl : x = (i : Int) := by omega
          have hlt : i < L.length := by omega
          obtain ⟨b, o, k, rfl, hbl, hx, hs1, hs2⟩ := cubesN_open Hc.out hb rfl hlt
          have Hsub := Lib.hid (cubesN_sub Hc.out hb rfl hx.out)
          obtain ⟨hk1, hk2, hkf⟩ := HL.out k (List.mem_of_getElem? hx.out)
          have hcc := implCover_any _ ([k].map intK) N wr Hsub.out (fun q hq => by
            obtain ⟨q', hq', rfl⟩ := List.mem_map.1 hq
            rw [List.mem_singleton.1 hq']
            unfold WfK intK
            simp only
            omega)
          rw [cover_nat hN (by simp) (fun q hq => by rw [List.mem_singleton.1 hq]; exact ⟨hk1, hkf⟩)] at hcc
          have Hd := Lib.hid (table_drop N hx.out)
          have Ht := Lib.hid (turn_drop hx.out)
          have hor := i64_or_nat (Two.tableOf (L.drop (i + 1)) N) (Two.tableOf [k] N) (by have := table_small hN (L.drop (i + 1)); omega) (by have := table_small hN [k]; omega)
          rw [← Hd.out] at hor
          clear hk1 hkf
          generalize Two.tableOf [k] N = tk at *
          generalize Two.tableOf (L.drop (i + 1)) N = S at *
          have hic : i < c := by omega
          have hwr : IntKind.i64.wrap ((i : Int) + 1) = (i : Int) + 1 := IntWalk.i64_in _ (by omega)
          have hp0 : (0 : Int) ≤ (i : Int) + 1 := by omega
          have hp2 : ((i : Int) + 1).toNat = i + 1 := by omega
          have hp3 : (i : Int) + 1 ≤ (c : Int) := by omega
          have hp4 : i + 1 ≤ c := by omega
          have hz := hb.size
          clear hb hxj h0
          go_wp2_with fail
          refine hcc.mono ?_
          rintro e w5 ⟨rfl, hb5⟩
          have e1 := (hb5.cell (p := ⟨b, o + i * 2, none⟩) (by simp only; omega)).trans hs1
          have e2 := (hb5.cell (p := ⟨b, o + i * 2 + 1, none⟩) (by simp only; omega)).trans hs2
          have Hb5 := Lib.hid (Hb.out.trans (hb5.mono hz))
          have Ho5 := Lib.hid (own_below Ho.out hb5)
          have hz5 := Hb5.out.size
          have Hlit := Lib.hid (Row.of_own (World.ownsRow_lit (base := w5.heap.size) (e := 25) (size := 2) w5 #[.int .i64 (k.1 : Int), .int .i64 (k.2 : Int)] 1 (Nat.le_refl _) (by unfold maxLen; omega) rfl))
          clear hcc hb5 hs1 hs2 Hb Ho
          go_wp2_with (at_builtin; refine append_cubes_at rfl (.tmp 45) (.tmp 50) rfl w3.heap.size _ (L.length - (i + 1)) _ rfl (Ho5.out.alloc _) _ 1 [.int .i64 (k.1 : Int), .int .i64 (k.2 : Int)] rfl Hlit.out (by simp [Value.oneCell']) (by omega) (by simp; omega) ?_; intro v7 w7 hown7 hg7 hat7; have Ho7 := Lib.hid hown7; have Hg7 := Lib.hid hg7; clear hown7 hg7 hat7)
          go_roundw
          case rel =>
            refine ⟨_, i, (i : Int) - 1, rfl, by omega, rfl, by go_num, rfl, Lib.hid ?_, (Hb5.out.alloc Hb5.out.size _).grown Hg7.out (Hb5.out.alloc Hb5.out.size _).size (fun q hq => (Ho5.out.lt q hq).1)⟩
            rw [Ht.out, show L.length - i = L.length - (i + 1) + 1 by omega]
            exact Ho7.out
          case measure => simp [intOf] <;> omega
  · go_enter Try.func7, Try.ntmps7
    go_wp2
    go_ret
    exact ⟨rfl, Below.refl _ _⟩

/-! The step from the walk to the row. -/
set_option maxRecDepth 100000 in
theorem lifted (os : Os) (started : os.Started) (H : Type) (enc : TypeId × Value → H) :
    ReturnsInHanded {} Try.checked os 7 .any (Rows.fnCoverTableSpec.pre6 enc Try.prog Try.f7 Rows.fnCoverTableRow.domain false) (Rows.fnCoverTableSpec.post enc Try.prog Try.f7 false true false false) := by
  refine returnsInHanded_of_change (C := Try.checked) own started (by kernel_rfl) Try.func7
    (ChangeSpec.witness6 (enc := enc) (C := Try.checked) false ⟨#[], #[.slice none 0 0], []⟩ 8 (by kernel_rfl) (by kernel_rfl) (by kernel_rfl) (by kernel_rfl)) ?_
  intro W base args ds gs before hval0 hW hcnd _
  have hval : ∀ (j : Nat) t v, Try.f7.params[j]? = some t → args[j]? = some v → Value.okWide Try.prog W .any base t v := hval0
  have hW' := hW
  obtain ⟨p, q, hA0, hV, rfl, hfz, hnd⟩ := hW
  have hA : DataW.TrodAll enc Try.prog W 0 (fun _ => true) true Try.f7.params.toList args.toList ds p := hA0
  rw [Try.params7] at hA hval
  obtain ⟨v0, vs0, d0, ds0, p0, q0, hargs, rfl, rfl, h0, r0⟩ := trodAll_cons hA
  obtain ⟨rfl, rfl, rfl⟩ := trodAll_nil r0
  obtain rfl : args = #[v0] := by cases args; simp_all
  obtain ⟨rfl, rfl⟩ := trodVars_none hV
  obtain ⟨a0, len0, cap0, rfl⟩ := okWide_slice Try.underlying28 (hval 0 28 v0 rfl rfl)
  have k0 := h0
  have lt0 : ∀ x ∈ p0, x.block < W.heap.size := by obtain ⟨m, hm⟩ := k0; exact DataW.trod_lt m _ _ _ hm
  obtain ⟨z0, w0⟩ : ∃ zs, IsRow .u8 W a0 len0 cap0 zs := by
    obtain ⟨fuel, hf⟩ := h0
    rcases open_ints Try.underlying28 Try.underlying5 (by kernel_rfl) hf with ⟨hcs, _⟩ | ⟨x, l, c, zs, hcs, _, hl, hm, hz, _, hcell, hwz⟩
    · simp [Value.cells] at hcs
      obtain ⟨rfl, rfl, rfl⟩ := hcs
      exact ⟨[], .inl ⟨rfl, rfl, rfl, rfl⟩⟩
    · simp [Value.cells] at hcs
      obtain ⟨rfl, rfl, rfl⟩ := hcs
      exact ⟨zs, .inr ⟨_, rfl, hl, hm, by simpa using hz, hcell, hwz⟩⟩
  clear hA0 hval0
  refine (walk a0 len0 cap0 z0 W w0).mono fun e W' ⟨he, bel⟩ => ?_
  subst he
  exact ⟨_, rfl, _, _, _, [], _, [], hW', trodAll_mk1 (shut_bool Try.underlying4 _), (trodAll_cons_mk (Below.trod laidOut (by kernel_rfl) (of_decide_eq_true (by kernel_rfl)) k0 bel lt0) trodAll_mk0), rfl, bel.frame _, fun h => by cases h⟩

theorem over : Rows.fnCoverTableRow.holds Try.pinned (OpenSpec.ofChange Rows.fnCoverTableSpec) :=
  OpenClaim.holds_of_wide 7 Try.f7 rfl rfl rfl rfl rfl rfl rfl ⟨rfl, rfl, rfl, rfl, rfl⟩ rfl rfl rfl rfl rfl (by kernel_rfl) Try.func7 (by kernel_rfl)
    (of_decide_eq_true (by kernel_rfl)) (by unfold Func.isWrapper; first | (rw [if_pos (by decide +kernel)]; kernel_rfl) | (rw [if_neg (by decide +kernel)]; exact ⟨rfl, rfl⟩))
    (fun os started H enc _ => lifted os started H enc)

/-- The statement. -/
theorem proved : Rows.FnCoverTableSaid := over
#print axioms proved
end Go.Proofs.Ytlpellciiiflkaa.fnCoverTable
