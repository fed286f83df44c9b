import Derived.Test.YtlpellciiiflkaaTwoC
import Derived.Test.YtlpellciiiflkaaLone
namespace Go.Proofs.Ytlpellciiiflkaa
open Go.RowKit
def orRow (l : List (Nat × Nat)) (x t : Nat) : Nat := l.foldl (fun t k => if Two.has k x then t ||| 2 ^ x else t) t
def specTab (l : List (Nat × Nat)) : Nat → Nat
  | 0 => 0
  | m + 1 => orRow l m (specTab l m)
theorem orRow_bit (x i : Nat) : ∀ (l : List (Nat × Nat)) (t : Nat), (orRow l x t).testBit i = (t.testBit i || (decide (x = i) && l.any (Two.has · x)))
  | [], t => by simp [orRow]
  | k :: l, t => by
    have ih := orRow_bit x i l
    unfold orRow at ih ⊢
    rw [List.foldl_cons, ih, List.any_cons]
    split
    · rename_i h
      rw [Nat.testBit_or, Nat.testBit_two_pow, h]
      cases t.testBit i <;> cases decide (x = i) <;> simp
    · rename_i h
      simp [h]
theorem specTab_bit (l : List (Nat × Nat)) : ∀ m i, (specTab l m).testBit i = (decide (i < m) && l.any (Two.has · i))
  | 0, i => by simp [specTab]
  | m + 1, i => by
    rw [specTab, orRow_bit, specTab_bit l m i]
    by_cases e : m = i
    · subst e; simp
    · have : decide (i < m + 1) = decide (i < m) := decide_eq_decide.2 ⟨fun h => by omega, fun h => by omega⟩
      simp [e, this]
theorem specTab_eq (l : List (Nat × Nat)) (n : Nat) : specTab l (2 ^ n) = Two.tableOf l n := by
  apply Nat.eq_of_testBit_eq
  intro i
  rw [specTab_bit, Two.tableOf_bit]
theorem fold_map {N : Nat} : ∀ (ks : List (Int × Int)) (t : Nat), ks.foldl (fun t k => Two.addTo (natK k) t (2 ^ N)) t = (ks.map natK).foldl (fun t k => Two.addTo k t (2 ^ N)) t
  | [], _ => rfl
  | k :: ks, t => by rw [List.foldl_cons, List.map_cons, List.foldl_cons, fold_map ks]
theorem covFrom_all {N : Nat} {ks : List (Int × Int)} (h : ks.all (okI N) = true) : covFrom N ks 0 = (Two.tableOf (ks.map natK) N : Int) := by
  rw [covFrom, if_pos h, fold_map]; rfl
theorem orRow_lt {x : Nat} (hx : x ≤ 15) : ∀ (l : List (Nat × Nat)) {t : Nat}, t < 65536 → orRow l x t < 65536
  | [], t, h => h
  | k :: l, t, h => by
    unfold orRow
    rw [List.foldl_cons]
    have : 2 ^ x < 65536 := Nat.lt_of_le_of_lt (Nat.pow_le_pow_right (by decide) hx) (by decide)
    refine orRow_lt hx l ?_
    split
    · exact Nat.or_lt_two_pow (n := 16) h this
    · exact h
theorem specTab_lt (l : List (Nat × Nat)) : ∀ {m : Nat}, m ≤ 16 → specTab l m < 65536
  | 0, _ => by simp [specTab]
  | m + 1, h => by
    rw [specTab]
    exact orRow_lt (by omega) l (specTab_lt l (by omega))
theorem take_all_snoc {N : Nat} {ks : List (Int × Int)} {k : Nat} {x : Int × Int} (h : ks[k]? = some x) (hk : (ks.take k).all (okI N) = true) (hx : okI N x = true) : (ks.take (k + 1)).all (okI N) = true := by
  rw [take_snoc h, List.all_append, hk]
  simp [hx]
theorem all_bad {N : Nat} {ks : List (Int × Int)} {k : Nat} {x : Int × Int} (h : ks[k]? = some x) (hx : okI N x = false) : covFrom N ks 0 = -1 := by
  rw [covFrom, if_neg]
  intro hall
  have := List.all_eq_true.1 hall x (List.mem_of_getElem? h)
  rw [hx] at this
  cases this
theorem okI_false2 {N : Nat} {k : Int × Int} (hw : WfK k) (h : okI N k = false) : decide (0 ≤ k.1 ∧ k.1 ≤ (2 : Int) ^ N - 1) = false ∨ (decide (0 ≤ k.1 ∧ k.1 ≤ (2 : Int) ^ N - 1) = true ∧ (bits .and .i64 k.2 k.1 != k.2) = true) := by
  by_cases g : 0 ≤ k.1 ∧ k.1 ≤ (2 : Int) ^ N - 1
  · right
    refine ⟨decide_eq_true g, ?_⟩
    rw [bne_iff_ne]
    intro e
    have := (andNot_iff hw.1 hw.2).2 e
    unfold okI at h
    rw [Bool.and_eq_false_iff, decide_eq_false_iff_not, beq_eq_false_iff_ne] at h
    rcases h with h | h
    · omega
    · exact h this
  · exact .inl (decide_eq_false g)
theorem okI_true2 {N : Nat} {k : Int × Int} (hw : WfK k) (h : okI N k = true) : decide (0 ≤ k.1 ∧ k.1 ≤ (2 : Int) ^ N - 1) = true ∧ (bits .and .i64 k.2 k.1 != k.2) = false := by
  unfold okI at h
  rw [Bool.and_eq_true, decide_eq_true_eq, beq_iff_eq] at h
  refine ⟨decide_eq_true ⟨h.1.1, by omega⟩, ?_⟩
  have := (andNot_iff hw.1 hw.2).1 h.2
  rw [this]
  simp

theorem specCover_any (v : Value) (ks : List (Int × Int)) (n : Int) (w : World) (h : CubesAt w v ks) (hw : ∀ k ∈ ks, WfK k) :
    Calls Try.prog 18 #[v, .int .i64 n] w
      fun e w' => e = .returned (.int .i64 (coverI n ks)) ∧ Below w.heap.size w w' := by
  obtain ⟨A, c, hv, hc, hcm⟩ := h.shape
  subst hv
  unfold maxLen at hcm
  by_cases hn : 0 ≤ n ∧ n ≤ 4 ∧ ks.length ≤ 100
  · obtain ⟨h1, h2, h3⟩ := hn
    obtain ⟨N, rfl⟩ := Int.eq_ofNat_of_zero_le h1
    have hst : Hid (coverI N ks = covFrom N ks 0) := Lib.hid (by rw [coverI, if_pos ⟨h1, h2, h3⟩]; rfl)
    obtain ⟨M, hM, e, hp, hp0⟩ : ∃ M : Nat, Hid (2 ^ N = M) ∧ (2 : Int) ^ N = (M : Int) ∧ M ≤ 16 ∧ 1 ≤ M := ⟨2 ^ N, Lib.hid rfl, two_pow N, Nat.pow_le_pow_right (show 0 < 2 by decide) (show N ≤ 4 by omega), Nat.one_le_two_pow⟩
    generalize coverI N ks = res at hst ⊢
    have h4 : N ≤ 4 := by omega
    have d0 : decide (0 ≤ (N : Int) ∧ (N : Int) ≤ 4) = true := decide_eq_true ⟨h1, h2⟩
    go_enter Try.func18, Try.ntmps18
    go_wp2_with (go_at_call 35; refine (l1In_any _ _ _ _).mono ?_; rintro e w' ⟨rfl, rfl⟩)
    go_loopw [6] (fun i wr => ∃ k : Nat, k ≤ ks.length ∧ i = .int .i64 k ∧ Hid ((ks.take k).all (okI N) = true) ∧ Below w.heap.size w wr) (fun i _ => ks.length - (intOf i).toNat)
    case atStart => exact ⟨0, Nat.zero_le _, rfl, Lib.hid rfl, Below.refl _ _⟩
    case round =>
      obtain ⟨k, hk, rfl, hall, hb⟩ := hrel
      by_cases hlt : k < ks.length
      · obtain ⟨b, o, ⟨cc, cv⟩, rfl, hbl, hx, hs1, hs2⟩ := cubes_open h hb rfl hlt
        have hwf := hw _ (List.mem_of_getElem? hx.out)
        have Hb := Lib.hid hb
        have hz1 : IntKind.i64.wrap (M : Int) = M := IntWalk.i64_in _ (by omega)
        have hz2 : IntKind.i64.wrap ((M : Int) - 1) = M - 1 := IntWalk.i64_in _ (by omega)
        clear h hb hw
        cases hok : okI N (cc, cv)
        · rw [all_bad hx.out hok] at hst
          rcases okI_false2 hwf hok with d1 | ⟨d1, d2⟩
          · rw [e] at d1
            simp only at d1
            clear hx hok
            go_wp2
            go_quiet ((go_at_call 35; exact quietS (l1In_any _ _ _ _)))
            clear hz1 hz2
            go_wp2
            go_ret
            exact ⟨ret_int hst.out.symm, bel_drewN Hb.out _⟩
          · rw [e] at d1
            simp only at d1 d2
            clear hx hok
            go_wp2
            go_quiet ((go_at_call 35; exact quietS (l1In_any _ _ _ _)))
            clear hz1 hz2
            go_wp2
            go_ret
            exact ⟨ret_int hst.out.symm, bel_drewN Hb.out _⟩
        · obtain ⟨d1, d2⟩ := okI_true2 hwf hok
          rw [e] at d1
          simp only at d1 d2
          have Hok := Lib.hid hok
          clear hok
          go_wp2
          go_quiet ((go_at_call 35; exact quietS (l1In_any _ _ _ _)))
          clear hz1 hz2
          go_wp2
          go_roundw
          case rel => exact ⟨k + 1, by omega, by go_num, Lib.hid (take_all_snoc hx.out hall.out Hok.out), bel_drewN Hb.out _⟩
          case measure => simp [intOf]; omega
      · have hall' : ks.all (okI N) = true := by
          have := hall.out
          rwa [List.take_of_length_le (by omega)] at this
        rw [covFrom_all hall'] at hst
        have Hall := Lib.hid hall'
        have B1 := Lib.hid hb
        clear hall hall' d0 hb
        obtain ⟨W1, rfl⟩ : ∃ W1 : World, W1 = wr := ⟨_, rfl⟩
        go_wp2
        go_loopw [5, 7] (fun t x wq => ∃ X T : Nat, X ≤ M ∧ x = .int .i64 X ∧ t = .int .i64 T ∧ T < 65536 ∧ Hid (T = specTab (ks.map natK) X) ∧ Below w.heap.size w wq) (fun _ x _ => M - (intOf x).toNat)
        case atStart => exact ⟨0, 0, by omega, rfl, rfl, by omega, Lib.hid rfl, B1.out⟩
        case round =>
          obtain ⟨X, T, hX, rfl, rfl, hT, hTe, hq⟩ := hrel
          by_cases hxl : X < M
          · have hpx : 2 ^ X < 65536 := Nat.lt_of_le_of_lt (Nat.pow_le_pow_right (by decide) (show X ≤ 15 by omega)) (by decide)
            have hpe : (2 : Int) ^ X = ((2 ^ X : Nat) : Int) := two_pow X
            generalize hy : 2 ^ X = Y at hpx hpe
            have HY := Lib.hid hy
            clear hy
            have B2 := Lib.hid hq
            clear B1 hq
            obtain ⟨W2, rfl⟩ : ∃ W2 : World, W2 = wr := ⟨_, rfl⟩
            go_wp2
            go_loopw [5, 8] (fun t i wq => ∃ k T2 : Nat, k ≤ ks.length ∧ i = .int .i64 k ∧ t = .int .i64 T2 ∧ T2 < 65536 ∧ Hid (T2 = orRow ((ks.take k).map natK) X T) ∧ Below w.heap.size w wq) (fun _ i _ => ks.length - (intOf i).toNat)
            case atStart => exact ⟨0, T, by omega, rfl, rfl, hT, Lib.hid rfl, B2.out⟩
            case round =>
              obtain ⟨k, T2, hk, rfl, rfl, hT2, hT2e, hq⟩ := hrel
              by_cases hlt : k < ks.length
              · obtain ⟨b, o, ⟨cc, cv⟩, rfl, hbl, hx, hs1, hs2⟩ := cubes_open h hq rfl hlt
                have hwf := hw _ (List.mem_of_getElem? hx.out)
                have Hq := Lib.hid hq
                clear h hq hw
                obtain ⟨C, V, e1, g3, g4, g5, g6⟩ := okI_nat h4 hwf (List.all_eq_true.1 Hall.out _ (List.mem_of_getElem? hx.out))
                injection e1 with e1 e2
                subst e1 e2
                have hh := hasI_nat C V X (by omega) (by omega)
                clear g3 g6
                cases hhas : Two.has (C, V) X
                · rw [hhas] at hh
                  have Hh := Lib.hid hh
                  have Hs := Lib.hid hhas
                  clear hh hhas
                  go_wp2_with (go_at_call 13; refine (specHas_any _ _ _ _).mono ?_; rintro e w' ⟨rfl, hb'⟩; rw [Hh.out])
                  go_roundw
                  case rel => exact ⟨k + 1, T2, by omega, by go_num, rfl, hT2, Lib.hid (by rw [take_snoc hx.out, List.map_append, orRow, List.foldl_append]; show T2 = if Two.has (C, V) X = true then _ else orRow _ X T; rw [Hs.out, if_neg (by simp)]; exact hT2e.out), Hq.out.trans (hb'.mono Hq.out.size)⟩
                  case measure => simp [intOf]; omega
                · rw [hhas] at hh
                  have Hh := Lib.hid hh
                  have Hs := Lib.hid hhas
                  clear hh hhas
                  go_wp2_with (go_at_call 13; refine (specHas_any _ _ _ _).mono ?_; rintro e w' ⟨rfl, hb'⟩; rw [Hh.out])
                  go_roundw
                  case rel =>
                    have hor := i64_or_nat T2 Y (by omega) (by omega)
                    exact ⟨k + 1, T2 ||| Y, by omega, by go_num, by rw [hor], Nat.or_lt_two_pow (n := 16) hT2 hpx, Lib.hid (by rw [take_snoc hx.out, List.map_append, orRow, List.foldl_append]; show T2 ||| Y = if Two.has (C, V) X = true then orRow _ X T ||| 2 ^ X else _; rw [Hs.out, if_pos rfl, HY.out, hT2e.out]), Hq.out.trans (hb'.mono Hq.out.size)⟩
                  case measure => simp [intOf]; omega
              · have hte := hT2e.out
                rw [List.take_of_length_le (by omega)] at hte
                have HT2 := Lib.hid hte
                have Hq := Lib.hid hq
                clear hte hT2e hq
                go_wp2
                go_roundw
                case rel => exact ⟨X + 1, T2, by omega, by go_num, rfl, hT2, Lib.hid (by rw [specTab, ← hTe.out]; exact HT2.out), Hq.out⟩
                case measure => simp [intOf]; omega
          · obtain rfl : X = M := by omega
            have hfin : (T : Int) = res := by rw [hst.out, hTe.out, ← hM.out, specTab_eq]
            have Hfin := Lib.hid hfin
            clear hfin
            go_wp2
            go_ret
            exact ⟨ret_int Hfin.out, hq⟩
  · rw [coverI, if_neg hn]
    have hn' : ¬(0 ≤ n ∧ n ≤ 4) ∨ (0 ≤ n ∧ n ≤ 4 ∧ (100 : Int) < ks.length) := by omega
    clear hn
    rcases hn' with g | ⟨g0, g1, g2⟩
    · have d0 : decide (0 ≤ n ∧ n ≤ 4) = false := decide_eq_false g
      go_enter Try.func18, Try.ntmps18
      go_wp2_with (go_at_call 35; refine (l1In_any _ _ _ _).mono ?_; rintro e w' ⟨rfl, rfl⟩)
      go_ret
      exact ⟨rfl, Below.refl _ _⟩
    · have d0 : decide (0 ≤ n ∧ n ≤ 4) = true := decide_eq_true ⟨g0, g1⟩
      go_enter Try.func18, Try.ntmps18
      go_wp2_with (go_at_call 35; refine (l1In_any _ _ _ _).mono ?_; rintro e w' ⟨rfl, rfl⟩)
      go_ret
      exact ⟨rfl, Below.refl _ _⟩
end Go.Proofs.Ytlpellciiiflkaa
