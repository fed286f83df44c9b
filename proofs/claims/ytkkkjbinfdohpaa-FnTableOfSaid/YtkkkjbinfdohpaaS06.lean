import Derived.Test.YtkkkjbinfdohpaaS05
import Derived.Test.YtkkkjbinfdohpaaS03
import Derived.Test.YtkkkjbinfdohpaaS04
import Derived.Test.YtkkkjbinfdohpaaProg
import Derived.Test.YtkkkjbinfdohpaaS01
import Derived.Maps.Views
import Derived.Maps.OwnOps
import Derived.Maps.RangeWalk
import Derived.DeepKeys4
import Derived.Test.YtkkkjbinfdohpaaS02
set_option linter.unusedVariables false
set_option linter.unusedSimpArgs false
namespace Go.Proofs.Ytkkkjbinfdohpaa
open Go.RowKit
theorem minF_step {T N i : Nat} (L : List (Nat × Nat)) : Two.minF T N L (i + 1) = Two.minF T N (if Two.covers (L.eraseIdx i) T N then L.eraseIdx i else L) i := rfl
theorem implMin_any (t n : Int) (w : World) : Calls Try.prog 11 #[.int .i64 t, .int .i64 n] w (MinOut t n w) := by
  cases hf : fitsT t n
  · have hp : primesI t n = [] := by unfold primesI; rw [hf]; rfl
    have hm : minimalI t n = [] := by unfold minimalI; rw [hf]; rfl
    have Hp := Lib.hid hp
    have Hm := Lib.hid hm
    clear hp hm hf
    go_enter Try.func11, Try.ntmps11
    go_wp2_with fail
    refine (implPrimes_any t n _).mono ?_
    rintro e w1 ⟨v, rfl, hown, hb⟩
    rw [Hp.out] at hown
    obtain ⟨A, c, hv, hc, hcm⟩ := (Row.of_own hown).shape
    have HO := Lib.hid hown
    have HB := Lib.hid hb
    clear hown hb
    subst hv
    go_wp2_with fail
    go_loop [5, 6] (fun v i => v = .slice A 0 c ∧ i = .int .i64 (-1)) (fun _ _ => 0)
    case atStart => exact ⟨rfl, rfl⟩
    case round =>
      obtain ⟨rfl, rfl⟩ := hrel
      go_wp2_with fail
      go_ret
      exact ⟨_, rfl, by rw [Hm.out]; exact HO.out, HB.out⟩
  · obtain ⟨T, N, rfl, rfl, hN, hT2, hT⟩ := fitsT_nat hf
    have hp : primesI T N = Two.primes T N := by unfold primesI; rw [hf]; rfl
    have hm : minimalI T N = Two.minF T N (Two.primes T N) (Two.primes T N).length := by unfold minimalI; rw [hf]; rfl
    have Hp := Lib.hid hp
    have Hm := Lib.hid hm
    have HT2 := Lib.hid hT2
    have hlen := Two.primes_length (t := T) hN
    have Hmem : Hid (∀ k ∈ Two.primes T N, k.1 < 2 ^ N ∧ Two.fine k = true ∧ k.1 < 65536) := Lib.hid fun k hk => mem_primes_bd hN hk
    have Hwi : Hid (∀ k ∈ Two.primes T N, Two.within k T N = true) := Lib.hid (Two.primes_within T N)
    clear hp hm hf hT2
    go_enter Try.func11, Try.ntmps11
    go_wp2_with fail
    refine (implPrimes_any T N _).mono ?_
    rintro e w1 ⟨v, rfl, hown, hb⟩
    rw [Hp.out] at hown
    generalize Two.primes T N = Pr at *
    obtain ⟨A, c, hv, hc, hcm⟩ := (Row.of_own hown).shape
    have HO := Lib.hid hown
    have HB := Lib.hid hb
    clear hown hb
    subst hv
    unfold maxLen at hcm
    go_wp2_with fail
    go_loopw [5, 6] (fun v i wr => ∃ (j : Nat) (L : List (Nat × Nat)), j ≤ L.length ∧ L.length ≤ 81 ∧ i = .int .i64 ((j : Int) - 1) ∧ Hid (minimalI T N = Two.minF T N L j) ∧ Hid (∀ k ∈ L, k ∈ Pr) ∧ wr.ownsRow w.heap.size 35 2 v L.length (cubes (L.map intK)) ∧ Below w.heap.size w wr) (fun _ i _ => (intOf i + 1).toNat)
    case atStart => exact ⟨Pr.length, Pr, Nat.le_refl _, hlen, rfl, Hm, Lib.hid fun _ h => h, HO.out, HB.out⟩
    case round =>
      obtain ⟨j, L, hj, hL, rfl, hres, hsub, hown, hb⟩ := hrel
      have Hb := Lib.hid hb
      have Hown := Lib.hid hown
      have hz := hb.size
      clear hb hown HO HB
      by_cases hj0 : 0 < j
      · obtain ⟨i, rfl⟩ : ∃ i, j = i + 1 := ⟨j - 1, by omega⟩
        have hji : (((i + 1 : Nat) : Int) - 1) = (i : Int) := by omega
        rw [hji]
        clear hji
        have hlm : (L.map intK).length = L.length := List.length_map _
        have Hlm := Lib.hid hlm
        obtain ⟨A2, c2, hv2, hc2, hcm2⟩ := (Row.of_own Hown.out).shape
        subst hv2
        unfold maxLen at hcm2
        go_wp2_with fail
        have hcl := clone_any w.heap.size _ (L.map intK) wr (by rw [hlm]; exact Hown.out) (by rw [hlm]; omega)
        refine hcl.mono ?_
        rintro e w2 ⟨v2, rfl, hown2, hb2⟩
        clear hcl
        obtain ⟨g, cap, hv, hgb, hgl, hnc, hcm3⟩ := own_open hown2 (by omega)
        subst hv
        rw [hlm] at hown2
        have Ho2 := Lib.hid hown2
        have HoL2 := Lib.hid (own_below Hown.out hb2)
        have Hb2 := Lib.hid (Hb.out.trans (hb2.mono hz))
        clear hown2 hb2 hlm
        go_wp2_with fail
        have hdel := delete_any wr.heap.size g cap (L.map intK) i w2 (by rw [Hlm.out]; exact Ho2.out) (by rw [Hlm.out]; omega) (by rw [Hlm.out]; omega)
        rw [Hlm.out] at hdel
        refine hdel.mono ?_
        rintro e w3 ⟨v3, rfl, hown3, hg3⟩
        clear hdel
        rw [erase_map, List.length_map] at hown3
        have Ho3 := Lib.hid (own_mono hown3 hz)
        have HoL3 := Lib.hid (own_kept HoL2.out hg3 (fun q hq h => by
          have h1 := (Hown.out.lt q hq).2
          have h2 := Option.some.inj h
          omega))
        have Hb3 := Lib.hid (Hb2.out.grown hg3 Hb2.out.size (fun k hk => by have h2 := Option.some.inj hk; omega))
        have hz3 := Hb3.out.size
        clear hown3 hg3 Ho2 HoL2 Hb2 Hown Hb
        have hsub' : ∀ k ∈ L.eraseIdx i, k ∈ Pr := fun k hk => hsub.out k (List.mem_of_mem_eraseIdx hk)
        have hlen' : (L.eraseIdx i).length = i + (L.length - (i + 1)) := by rw [List.length_eraseIdx_of_lt (by omega)]; omega
        have hcov : coverI N ((L.eraseIdx i).map intK) = (Two.tableOf (L.eraseIdx i) N : Int) := cover_nat hN (by omega) (fun k hk => ⟨(Hmem.out k (hsub' k hk)).1, (Hmem.out k (hsub' k hk)).2.1⟩)
        have hiff := Two.table_covers (l := L.eraseIdx i) HT2.out (fun k hk => Hwi.out k (hsub' k hk))
        have hstep := minF_step (T := T) (N := N) (i := i) L
        have Hsub' := Lib.hid hsub'
        have Hlen' := Lib.hid hlen'
        have hcc := implCover_any v3 ((L.eraseIdx i).map intK) N w3 (cubesN_own Ho3.out) (fun k hk => by
          obtain ⟨k', hk', rfl⟩ := List.mem_map.1 hk
          obtain ⟨h1, h2, h3⟩ := Hmem.out k' (Hsub'.out k' hk')
          have hle : k'.2 ≤ k'.1 := by
            have h4 : k'.2 &&& k'.1 = k'.2 := by unfold Two.fine at h2; rwa [beq_iff_eq] at h2
            rw [← h4]
            exact Nat.and_le_right
          unfold WfK intK
          simp only
          omega)
        clear hsub' hlen'
        cases hc : Two.covers (L.eraseIdx i) T N
        · rw [hc, if_neg (by simp)] at hstep
          rw [hcov] at hcc
          have hne : ((Two.tableOf (L.eraseIdx i) N : Int) == (T : Int)) = false := by
            rw [beq_eq_false_iff_ne]
            intro e
            have := hiff.1 (Int.ofNat.inj e)
            rw [hc] at this
            cases this
          have Hst := Lib.hid hstep
          generalize (Two.tableOf (L.eraseIdx i) N : Int) = R at *
          clear hcov hiff hstep hc
          go_wp2_with fail
          refine hcc.mono ?_
          rintro e w4 ⟨rfl, hb4⟩
          have HoL4 := Lib.hid (own_below HoL3.out hb4)
          have Hb4 := Lib.hid (Hb3.out.trans (hb4.mono hz3))
          clear hcc hb4 Ho3 HoL3 Hb3
          go_wp2_with fail
          go_roundw
          case rel => exact ⟨i, L, by omega, hL, rfl, Lib.hid (by rw [hres.out, Hst.out]), hsub, HoL4.out, Hb4.out⟩
          case measure => simp [intOf] <;> omega
        · rw [hc, if_pos rfl] at hstep
          rw [hcov, hiff.2 hc] at hcc
          have Hst := Lib.hid hstep
          clear hcov hiff hstep hc
          go_wp2_with fail
          refine hcc.mono ?_
          rintro e w4 ⟨rfl, hb4⟩
          have Ho4 := Lib.hid (own_below Ho3.out hb4)
          have Hb4 := Lib.hid (Hb3.out.trans (hb4.mono hz3))
          clear hcc hb4 Ho3 HoL3 Hb3
          go_wp2_with fail
          go_roundw
          case rel => exact ⟨i, L.eraseIdx i, by rw [Hlen'.out]; omega, by rw [Hlen'.out]; omega, rfl, Lib.hid (by rw [hres.out, Hst.out]), Hsub', Ho4.out, Hb4.out⟩
          case measure => simp [intOf] <;> omega
      · obtain rfl : j = 0 := by omega
        have HR : Hid (minimalI T N = L) := Lib.hid hres.out
        go_wp2_with fail
        go_ret
        exact ⟨_, rfl, by rw [HR.out]; exact Hown.out, Hb.out⟩
theorem minimalI_len (t n : Int) : (minimalI t n).length ≤ 81 := by
  cases hf : fitsT t n
  · unfold minimalI; rw [hf]; simp
  · obtain ⟨T, N, rfl, rfl, hN, _⟩ := fitsT_nat hf
    unfold minimalI; rw [hf]
    exact Nat.le_trans (Two.minF_length _ _) (Two.primes_length hN)
theorem primesI_len (t n : Int) : (primesI t n).length ≤ 81 := by
  cases hf : fitsT t n
  · unfold primesI; rw [hf]; simp
  · obtain ⟨T, N, rfl, rfl, hN, _⟩ := fitsT_nat hf
    unfold primesI; rw [hf]
    exact Two.primes_length hN
end Go.Proofs.Ytkkkjbinfdohpaa

namespace Go.Proofs.Ytkkkjbinfdohpaa
open Go.RowKit
set_option maxRecDepth 100000
/-! The value of a literal for an assignment. -/
def Cir.litA (d : Ci) (l x : Nat) : Bool := Cir.lit (Cir.vals d (Cir.bits (x / 2 ^ d.ins) d.next.length) (Cir.bits x d.ins)) l
set_option maxHeartbeats 4000000 in
theorem litValue_ok (v : Value) (d : Ci) (l x : Nat) (w : World) (h : CircAt w v (Cir.toCz d)) (hd : Cir.Ok d) (hv : Cir.valid (Cir.toCz d) = true) (hl : l < 2 * Cir.nvars d) (hx : x ≤ 1000000) :
    Calls Try.prog 13 #[v, .int .i64 l, .int .i64 x] w fun e w' => e = .returned (.bool (Cir.litA d l x)) ∧ Below w.heap.size w w' := by
  have l1 := hd.ins
  have l2 := hd.nexts
  have l3 := hd.gatess
  have hnv : Cir.nvars d ≤ 22 := by unfold Cir.nvars Cir.nfirst; omega
  have HC := Lib.hid h
  obtain ⟨vn, vg, vo, rfl, r1, r2, r3⟩ := h
  obtain ⟨An, cn, rfl, hcn, hcmn⟩ := NatsAt.shape (xs := d.next) r1
  have hins : (Cir.toCz d).ins = (d.ins : Int) := rfl
  rw [hins] at HC ⊢
  have hb0 := bel_new w (.cells #[.int .i64 d.ins, .slice An d.next.length cn, vg, vo] 26)
  have HC0 := Lib.hid (HC.out.below hb0)
  have PC := Lib.hid (PCells.boxed w d.ins (.slice An d.next.length cn) vg vo 26)
  have B := Lib.hid hb0
  have Hd := Lib.hid hd
  have Hv := Lib.hid hv
  have hq : (x : Int) / 2 ^ d.ins = ((x / 2 ^ d.ins : Nat) : Int) := by rw [Int.natCast_ediv, two_pow]
  have hxq : x / 2 ^ d.ins ≤ 1000000 := Nat.le_trans (Nat.div_le_self _ _) hx
  obtain ⟨R, hR⟩ : ∃ R, Cir.litA d l x = R := ⟨_, rfl⟩
  have HR : Hid (Cir.lit (Cir.vals d (Cir.bits (x / 2 ^ d.ins) d.next.length) (Cir.bits x d.ins)) l = R) := Lib.hid hR
  rw [hR]
  obtain ⟨xq, hxqe⟩ : ∃ xq, x / 2 ^ d.ins = xq := ⟨_, rfl⟩
  rw [hxqe] at hq hxq HR
  have HVL := Lib.hid (Cir.vals_length d (st := Cir.bits xq d.next.length) (inp := Cir.bits x d.ins) (Cir.bits_length _ _) (Cir.bits_length _ _))
  clear r1 r2 r3 hd hv hb0 hcn hcmn hins hxqe hR HC
  go_enter Try.func13, Try.ntmps13
  go_wp2_with fail
  generalize w.alloc (.cells #[.int .i64 d.ins, .slice An d.next.length cn, vg, vo] 26) = W at *
  obtain ⟨z, p0, p1, p2, p3⟩ := PC.out
  refine wp_region_rs (quietRS Try.prog _ W _) quietRS_ok (by kernel_rfl) (by kernel_rfl) (by kernel_rfl) (Nat.le_of_ble_eq_true rfl) trivial trivial ?_
  apply rs_eq quietRS_ok quiet_any
  · intro ρ w' ho hK
    have ho : Only _ W w' := ho
    obtain ⟨h0, -⟩ := hK
    have h0' : ρ (.tmp 3) = _ := h0
    have hb := only_below ho
    have q0 := (hb.cell (p := ⟨w.heap.size, 0, none⟩) z).trans p0
    have q1 := (hb.cell (p := ⟨w.heap.size, 1, none⟩) z).trans p1
    have q2 := (hb.cell (p := ⟨w.heap.size, 2, none⟩) z).trans p2
    have q3 := (hb.cell (p := ⟨w.heap.size, 3, none⟩) z).trans p3
    go_simp
    try exact rfl
  refine rs_old quietRS_ok quiet_any _ (.inl rfl) _ rfl rfl ?_
  apply rs_eq quietRS_ok quiet_any
  · intro ρ w' ho hK
    have ho : Only _ W w' := ho
    obtain ⟨h0, -⟩ := hK
    have h0' : ρ (.tmp 3) = _ := h0
    go_simp
    try exact rfl
  apply rs_eq quietRS_ok quiet_any
  · intro ρ w' ho hK
    have ho : Only _ W w' := ho
    obtain ⟨h0, -⟩ := hK
    have h0' : ρ (.tmp 10) = _ := h0
    have hb := only_below ho
    have q0 := (hb.cell (p := ⟨w.heap.size, 0, none⟩) z).trans p0
    have q1 := (hb.cell (p := ⟨w.heap.size, 1, none⟩) z).trans p1
    have q2 := (hb.cell (p := ⟨w.heap.size, 2, none⟩) z).trans p2
    have q3 := (hb.cell (p := ⟨w.heap.size, 3, none⟩) z).trans p3
    go_simp
    try exact rfl
  apply rs_eq quietRS_ok quiet_any
  · intro ρ w' ho hK
    have ho : Only _ W w' := ho
    obtain ⟨h0, h1, -⟩ := hK
    have h0' : ρ (.tmp 9) = _ := h0
    have h1' : ρ (.tmp 11) = _ := h1
    go_simp
    try exact rfl
  apply rs_eq quietRS_ok quiet_any
  · intro ρ w' ho hK
    have ho : Only _ W w' := ho
    obtain ⟨h0, -⟩ := hK
    have h0' : ρ (.tmp 3) = _ := h0
    go_simp
    try exact rfl
  apply rs_eq quietRS_ok quiet_any
  · intro ρ w' ho hK
    have ho : Only _ W w' := ho
    obtain ⟨h0, -⟩ := hK
    have h0' : ρ (.tmp 13) = _ := h0
    have hb := only_below ho
    have q0 := (hb.cell (p := ⟨w.heap.size, 0, none⟩) z).trans p0
    have q1 := (hb.cell (p := ⟨w.heap.size, 1, none⟩) z).trans p1
    have q2 := (hb.cell (p := ⟨w.heap.size, 2, none⟩) z).trans p2
    have q3 := (hb.cell (p := ⟨w.heap.size, 3, none⟩) z).trans p3
    go_simp
    try exact rfl
  apply rs_eq quietRS_ok quiet_any
  · intro ρ w' ho hK
    have ho : Only _ W w' := ho
    obtain ⟨h0, -⟩ := hK
    have h0' : ρ (.tmp 14) = _ := h0
    go_simp
    try exact rfl
  refine rs_call quietRS_ok quiet_any (TBools (Cir.bits xq d.next.length)) (stb_bools _) 52 _ _ rfl (fun ρ w' ho hK => by
    have ho : Only _ W w' := ho
    obtain ⟨h0, h1, h2, -⟩ := hK
    have h0' : ρ (.func 52) = .func (.func 52) #[] #[] := h0
    have h1' : ρ (.tmp 12) = _ := h1
    have h2' : ρ (.tmp 15) = _ := h2
    refine ⟨#[ρ (.tmp 12), ρ (.tmp 15)], ?_, ?_⟩
    · go_simp
    · rw [h1', h2']
      refine (bits_any xq d.next.length w' (by omega) (by omega)).mono ?_
      rintro e w2 ⟨v2, rfl, hO, hb⟩
      exact ⟨v2, rfl, Row.of_own hO, hb⟩) ?_
  refine rs_old quietRS_ok quiet_any _ (.inl rfl) _ rfl rfl ?_
  apply rs_eq quietRS_ok quiet_any
  · intro ρ w' ho hK
    have ho : Only _ W w' := ho
    obtain ⟨h0, -⟩ := hK
    have h0' : ρ (.tmp 3) = _ := h0
    go_simp
    try exact rfl
  apply rs_eq quietRS_ok quiet_any
  · intro ρ w' ho hK
    have ho : Only _ W w' := ho
    obtain ⟨h0, -⟩ := hK
    have h0' : ρ (.tmp 18) = _ := h0
    have hb := only_below ho
    have q0 := (hb.cell (p := ⟨w.heap.size, 0, none⟩) z).trans p0
    have q1 := (hb.cell (p := ⟨w.heap.size, 1, none⟩) z).trans p1
    have q2 := (hb.cell (p := ⟨w.heap.size, 2, none⟩) z).trans p2
    have q3 := (hb.cell (p := ⟨w.heap.size, 3, none⟩) z).trans p3
    go_simp
    try exact rfl
  refine rs_call quietRS_ok quiet_any (TBools (Cir.bits x d.ins)) (stb_bools _) 52 _ _ rfl (fun ρ w' ho hK => by
    have ho : Only _ W w' := ho
    obtain ⟨h0, h1, h2, -⟩ := hK
    have h0' : ρ (.func 52) = .func (.func 52) #[] #[] := h0
    have h1' : ρ (.tmp 17) = _ := h1
    have h2' : ρ (.tmp 19) = _ := h2
    refine ⟨#[ρ (.tmp 17), ρ (.tmp 19)], ?_, ?_⟩
    · go_simp
    · rw [h1', h2']
      refine (bits_any x d.ins w' (by omega) (by omega)).mono ?_
      rintro e w2 ⟨v2, rfl, hO, hb⟩
      exact ⟨v2, rfl, Row.of_own hO, hb⟩) ?_
  refine rs_call quietRS_ok quiet_any (TBools (Cir.vals d (Cir.bits xq d.next.length) (Cir.bits x d.ins))) (stb_bools _) 51 _ _ rfl (fun ρ w' ho hK => by
    have ho : Only _ W w' := ho
    obtain ⟨h0, h1, h2, h3, -⟩ := hK
    have h0' : ρ (.func 51) = .func (.func 51) #[] #[] := h0
    have h1' : ρ (.tmp 8) = _ := h1
    have h2' : (TBools (Cir.bits xq d.next.length)) w' (ρ (.tmp 16)) := h2
    have h3' : (TBools (Cir.bits x d.ins)) w' (ρ (.tmp 20)) := h3
    refine ⟨#[ρ (.tmp 8), ρ (.tmp 16), ρ (.tmp 20)], ?_, ?_⟩
    · go_simp
    · rw [h1']
      refine (evalVars_ok _ _ _ d _ _ w' (HC0.out.below (only_below ho)) Hd.out Hv.out h2' h3' (Cir.bits_length _ _) (Cir.bits_length _ _)).mono ?_
      rintro e w2 ⟨v2, rfl, hO, hb⟩
      exact ⟨v2, rfl, Row.of_own hO, hb⟩) ?_
  refine rs_same quietRS_ok quiet_any 21 13 (.inr rfl) rfl _ rfl ?_
  intro f w9 k9 hk9 hI9 ht9 hcp9
  have E0 : f 0 = _ := ht9 0 (Nat.le_of_ble_eq_true rfl)
  have E1 : f 1 = _ := ht9 1 (Nat.le_of_ble_eq_true rfl)
  conv at E1 => rhs; whnf
  have E2 : f 2 = _ := ht9 2 (Nat.le_of_ble_eq_true rfl)
  have E3 : f 3 = _ := ht9 3 (Nat.le_of_ble_eq_true rfl)
  have E4 : f 4 = _ := ht9 4 (Nat.le_of_ble_eq_true rfl)
  have E5 : f 5 = _ := ht9 5 (Nat.le_of_ble_eq_true rfl)
  have E6 : f 6 = _ := ht9 6 (Nat.le_of_ble_eq_true rfl)
  have E7 : f 7 = _ := ht9 7 (Nat.le_of_ble_eq_true rfl)
  have E8 : (TBools (Cir.bits xq d.next.length)) w9 (f 8) := ht9 8 (Nat.le_of_ble_eq_true rfl)
  have E9 : f 9 = _ := ht9 9 (Nat.le_of_ble_eq_true rfl)
  conv at E9 => rhs; whnf
  have E10 : f 10 = _ := ht9 10 (Nat.le_of_ble_eq_true rfl)
  have E11 : f 11 = _ := ht9 11 (Nat.le_of_ble_eq_true rfl)
  have E12 : (TBools (Cir.bits x d.ins)) w9 (f 12) := ht9 12 (Nat.le_of_ble_eq_true rfl)
  have E13 : (TBools (Cir.vals d (Cir.bits xq d.next.length) (Cir.bits x d.ins))) w9 (f 13) := ht9 13 (Nat.le_of_ble_eq_true rfl)
  have E14 : (TBools (Cir.vals d (Cir.bits xq d.next.length) (Cir.bits x d.ins))) w9 (f 14) := ht9 14 (Nat.le_of_ble_eq_true rfl)
  have Ho9 : Only _ W w9 := hI9.2.1
  have C14 : f 14 = f 13 := (hcp9 14 _ 21 13 rfl rfl rfl rfl).2
  simp only [putAll, E0, E1, E2, E3, E4, E5, E6, E7, E9, E10, E11, C14, Nat.zero_add, Nat.reduceAdd, Act.put, List.setIfInBounds_toArray, List.set_cons_succ, List.set_cons_zero]
  clear E0 E1 E2 E3 E4 E5 E6 E7 E9 E10 E11
  clear hI9 ht9 hcp9 hk9
  generalize f 8 = r8 at *
  generalize f 12 = r12 at *
  generalize f 13 = r13 at *
  have hb9 := only_below Ho9
  replace B := Lib.hid (B.out.trans (hb9.mono B.out.size))
  have HB9 := Lib.hid (show BoolsAt w9 r13 (Cir.vals d (Cir.bits xq d.next.length) (Cir.bits x d.ins)) from E13)
  clear hb9 Ho9 E8 E12 E13 z p0 p1 p2 p3 PC HC0 hq
  obtain ⟨V, hV⟩ : ∃ V, Cir.vals d (Cir.bits xq d.next.length) (Cir.bits x d.ins) = V := ⟨_, rfl⟩
  rw [hV] at HB9 HVL HR
  have hi : l / 2 < V.length := by rw [HVL.out]; omega
  obtain ⟨u, hu⟩ : ∃ u, V[l / 2]? = some u := ⟨_, List.getElem?_eq_getElem hi⟩
  have HL : Hid (R = (u != (l % 2 == 1))) := Lib.hid (HR.out.symm.trans (lit_of hu))
  obtain ⟨b, o, c', rfl, hbl, hs⟩ := boolsAt_cell HB9.out hu
  have hqd : (l : Int).tdiv 2 = ((l / 2 : Nat) : Int) := by rw [Int.tdiv_eq_ediv_of_nonneg (by omega)]; omega
  have hm := tmod_two l
  have he : (((l % 2 : Nat) : Int) == 1) = (l % 2 == 1) := by
    rw [Bool.eq_iff_iff, beq_iff_eq, beq_iff_eq]
    omega
  have hqb : l / 2 ≤ 1000000 := by omega
  clear hV hu HB9 HVL HR
  generalize V.length = n at *
  generalize l / 2 = q at *
  generalize l % 2 = r at *
  have hwr : IntKind.i64.wrap (q : Int) = q := IntWalk.i64_in _ (by omega)
  obtain ⟨bb, hbb⟩ : ∃ bb, (r == 1) = bb := ⟨_, rfl⟩
  rw [hbb] at he HL
  clear hbb
  go_wp2_with fail
  go_ret
  exact ⟨ret_bool HL.out.symm, B.out⟩
end Go.Proofs.Ytkkkjbinfdohpaa

namespace Go.Proofs.Ytkkkjbinfdohpaa
/-! The cover of a literal's table has the literal's values. -/
theorem Cir.tab_bit (c : Ci) (l : Nat) : ∀ k x, (Cir.tab c l k).testBit x = (decide (x < k) && Cir.lit (Cir.vals c [] (Cir.bits x c.ins)) l)
  | 0, x => by simp [Cir.tab]
  | k + 1, x => by
    have ih := Cir.tab_bit c l k x
    rw [Cir.tab]
    by_cases h : Cir.lit (Cir.vals c [] (Cir.bits k c.ins)) l = true
    · rw [if_pos h, ← Cir.tab_or, Nat.testBit_or, ih, Nat.testBit_two_pow]
      by_cases hx : k = x
      · subst hx
        simp [h]
      · have e1 : decide (x < k + 1) = decide (x < k) := by
          rw [decide_eq_decide]; omega
        rw [e1]
        simp [hx]
    · rw [if_neg h, Nat.add_zero, ih]
      by_cases hx : x = k
      · subst hx
        have h' : Cir.lit (Cir.vals c [] (Cir.bits x c.ins)) l = false := by simpa using h
        simp [h']
      · have e1 : decide (x < k + 1) = decide (x < k) := by
          rw [decide_eq_decide]; omega
        rw [e1]
theorem minimal_any {T N x : Nat} (hN : N ≤ 4) (hT : T < 2 ^ 2 ^ N) (hx : x < 2 ^ N) : (minimalI (T : Nat) (N : Nat)).any (Two.has · x) = T.testBit x := by
  have hf : fitsT (T : Nat) (N : Nat) = true := by
    unfold fitsT
    rw [decide_eq_true_eq]
    refine ⟨by omega, by omega, by omega, ?_⟩
    rw [Int.toNat_natCast]
    exact_mod_cast hT
  have hp : minimalI (T : Nat) (N : Nat) = Two.minF T N (Two.primes T N) (Two.primes T N).length := by unfold minimalI; rw [hf]; rfl
  rw [hp]
  have hc := Two.minF_covers (t := T) (n := N) (Two.primes T N).length (Two.primes T N) (Two.primes_cover hN)
  cases hb : T.testBit x
  · rw [List.any_eq_false]
    intro k hk hh
    have h1 := (Two.mem_implicants.1 (Two.mem_primes.1 (Two.minF_sub _ _ k hk)).1).2.2.2
    have h2 := (Two.within_iff k T N).1 h1 x hx hh
    rw [hb] at h2
    cases h2
  · exact Two.covers_iff.1 hc x hx hb
theorem tab_any {d : Ci} {m x : Nat} (hd : Cir.Ok d) (hn : d.next = []) (hx : x < 2 ^ d.ins) : (minimalI (Cir.tab d m (2 ^ d.ins) : Nat) (d.ins : Nat)).any (Two.has · x) = Cir.litA d m x := by
  rw [minimal_any hd.ins (Cir.tab_lt d m (2 ^ d.ins)) hx, Cir.tab_bit]
  unfold Cir.litA
  rw [hn]
  simp [hx, Cir.bits]
theorem minimal_bd {T N : Nat} (hN : N ≤ 4) : ∀ k ∈ minimalI (T : Nat) (N : Nat), k.1 < 16 ∧ k.2 < 16 := by
  intro k hk
  unfold minimalI at hk
  split at hk
  · have h1 := Two.mem_implicants.1 (Two.mem_primes.1 (Two.minF_sub _ _ k hk)).1
    rw [Int.toNat_natCast, Int.toNat_natCast] at h1
    have h6 : 2 ^ N ≤ 16 := Nat.pow_le_pow_right (show 0 < 2 by decide) hN
    exact ⟨by omega, by omega⟩
  · cases hk
end Go.Proofs.Ytkkkjbinfdohpaa

namespace Go.Proofs.Ytkkkjbinfdohpaa
open Go.RowKit Go.Maps
set_option maxRecDepth 100000
/-! Sets of natural numbers: maps of int to bool that the call has made, and in which only 'true' is stored. -/
theorem set_keyed : Keyed Try.prog 3 := int_keyed Try.underlying3
/-- Block b is a map of at most n entries; the elements are those of S. -/
def SetAt (w : World) (b n : Nat) (S : Nat → Bool) : Prop := ∃ D : DataW Unit, w.ownsMap Try.prog 3 (plainElem Try.prog 4) b n D ∧ IsMap D ∧ (∀ x : Nat, D.atKey (.int .i64 (x : Int)) (.lit (.bool false)) = .lit (.bool (S x))) ∧ (∀ kl, Maps.has D kl = true → ∃ x : Nat, kl = .int .i64 (x : Int) ∧ S x = true ∧ (x : Int) ≤ 9223372036854775807) ∧ ∀ x : Nat, S x = true → Maps.has D (.int .i64 (x : Int)) = true
theorem SetAt.lt {w : World} {b n : Nat} {S : Nat → Bool} (h : SetAt w b n S) : b < w.heap.size := by
  obtain ⟨D, h1, _⟩ := h
  exact h1.lt
theorem SetAt.only {E : Nat → Prop} {w w' : World} {b n : Nat} {S : Nat → Bool} (h : SetAt w b n S) (ho : Only E w w') (hE : ¬ E b) : SetAt w' b n S := by
  have hl := h.lt
  obtain ⟨D, ⟨es, clock, h1, h2, h3, h4⟩, h5⟩ := h
  exact ⟨D, ⟨es, clock, (ho.block b hl hE).trans h1, h2, h3, h4⟩, h5⟩
theorem SetAt.below {w w' : World} {b n : Nat} {S : Nat → Bool} (h : SetAt w b n S) (hb : Below w.heap.size w w') : SetAt w' b n S :=
  h.only (E := fun _ => False) ⟨hb.os, hb.tape, hb.output, hb.size, fun k hk _ => hb.block k hk⟩ id
theorem SetAt.mono {w : World} {b n n' : Nat} {S : Nat → Bool} (h : SetAt w b n S) (hn : n ≤ n') : SetAt w b n' S := by
  obtain ⟨D, h1, h2⟩ := h
  exact ⟨D, h1.mono hn, h2⟩
theorem SetAt.congr {w : World} {b n : Nat} {S S' : Nat → Bool} (h : SetAt w b n S) (he : ∀ x, S x = S' x) : SetAt w b n S' := by
  rwa [← funext he]
theorem setAt_made (w : World) : SetAt (w.alloc (.map #[] 0)) w.heap.size 0 (fun _ => false) :=
  ⟨.map [], World.ownsMap_made w _ _ _, isMap_empty, fun x => rfl, fun kl h => (by cases h), fun x h => (by cases h)⟩
theorem i64_wf {x : Nat} (h : (x : Int) ≤ 9223372036854775807) : (Lit.int .i64 (x : Int)).wf = true := by
  simp [Lit.wf, IntKind.min, IntKind.max, IntKind.signed, IntKind.bits]
  omega
theorem i64_ne {x y : Nat} (h : x ≠ y) : Lit.int .i64 (x : Int) ≠ Lit.int .i64 (y : Int) := by
  intro e
  injection e with e1 e2
  exact h (by omega)
section
variable (w : World) {ops : Array Oper} {rest : List Oper} {o : Oper} {a : Act} {Q : Exit → Act → World → Prop}
theorem zero_bool (w : World) : (zeroValue 4).run Try.prog w = .ok (.bool false) w := by kernel_rfl
/-- seen[x] -/
theorem wpList_look_set (hg : o.guard = none) (m x : Operand) (hop : o.op = Op.lookup 92 m x false) (b n : Nat) (S : Nat → Bool) (hm : a.eval m = .map (some b)) (h : SetAt w b n S) (k : Nat) (hk : (k : Int) ≤ 9223372036854775807) (hx : a.eval x = .int .i64 (k : Int))
    (hK : wpList Try.prog ops Q rest (a.put o.dst (.bool (S k))) w) : wpList Try.prog ops Q (o :: rest) a w := by
  refine wpList_plain hg fun K' hK' => ?_
  obtain ⟨D, h1, h2, h3, -⟩ := h
  obtain ⟨v, ps, hrun, hv⟩ := h1.lookup set_keyed Try.underlying92 (zero_bool w) (plainElem_bool Try.underlying4 false) (keyOf_int_mk Try.underlying3 (i64_wf hk))
  rw [h3 k] at hv
  have hvb : v = .bool (S k) := by
    unfold plainElem at hv
    rw [Try.underlying4] at hv
    cases v <;> simp at hv
    rw [hv.1]
  subst hvb
  unfold Oper.wp
  simp [execOp, hop, hm, hx, hrun, Result.andThen]
  exact hK' _ _ hK
/-- seen[x] = true -/
theorem wpList_add_set (hg : o.guard = none) (m x v : Operand) (hop : o.op = Op.mapUpdate 92 m x v ∨ o.op = Op.insert 92 m x v) (b n : Nat) (S : Nat → Bool) (hm : a.eval m = .map (some b)) (h : SetAt w b n S) (hn : n ≤ 1000000) (k : Nat) (hk : (k : Int) ≤ 9223372036854775807) (hx : a.eval x = .int .i64 (k : Int)) (hv : a.eval v = .bool true)
    (hK : ∀ w', SetAt w' b (n + 1) (fun z => S z || z == k) → w.grownBy w' (some b) → wpList Try.prog ops Q rest (a.put o.dst undef) w') : wpList Try.prog ops Q (o :: rest) a w := by
  refine wpList_plain hg fun K' hK' => ?_
  obtain ⟨D, h1, h2, h3, h4, h5⟩ := h
  have hkey := keyOf_int_mk (P := Try.prog) Try.underlying3 (i64_wf hk)
  obtain ⟨w', hrun, r1, r2⟩ := h1.update set_keyed Try.underlying92 (by unfold maxLen; omega) hkey (plainElem_bool Try.underlying4 true)
  have hlit : WideAt.IsKeyLit (.int .i64 (k : Int)) := set_keyed.key hkey
  unfold Oper.wp
  have hq : SetAt w' b (n + 1) (fun z => S z || z == k) := by
    refine ⟨_, r1, h2.put _ _, fun x => ?_, fun kl hh => ?_, fun x hS => ?_⟩
    · by_cases hxk : x = k
      · subst hxk
        rw [atKey_put_same h2 hlit]
        simp
      · rw [atKey_put_other (i64_ne hxk), h3 x]
        have : (x == k) = false := by simpa using hxk
        simp [this]
    · by_cases hkl : kl = .int .i64 (k : Int)
      · exact ⟨k, hkl, by simp, hk⟩
      · rw [has_put_other hkl] at hh
        obtain ⟨x, e1, e2, e3⟩ := h4 kl hh
        exact ⟨x, e1, by simp [e2], e3⟩
    · by_cases hxk : x = k
      · subst hxk
        exact has_put_same h2 hlit _
      · rw [has_put_other (i64_ne hxk)]
        have h6 : (x == k) = false := by simpa using hxk
        simp [h6] at hS
        exact h5 x hS
  have hw2 := hK w' hq r2
  rcases hop with hop | hop
  · simp [execOp, hop, hm, hx, hv, hrun, Result.andThen]
    exact hK' _ _ hw2
  · simp [execOp, hop, hm, hx, hv, hrun, Result.andThen]
    exact hK' _ _ hw2
end
end Go.Proofs.Ytkkkjbinfdohpaa

namespace Go.Proofs.Ytkkkjbinfdohpaa
open Go.RowKit Go.Maps
set_option maxRecDepth 100000
/-! Maps of gates to numbers, made by the call: the table of known gates. -/
theorem gmap_laidOut : laidOutB Try.prog = true := by kernel_rfl
theorem gmap_row : (64 : TypeId) < Try.prog.types.size := of_decide_eq_true (by kernel_rfl)
theorem gmap_deep : Try.prog.keyTypeAt 2 64 = true := by kernel_rfl
theorem gmap_deepT : Try.prog.keyType 64 = true := by kernel_rfl
theorem gmap_wide : (match Try.prog.underlying 64 with | some (.array _ _) | some (.struct _) => true | _ => false) = true := by kernel_rfl
theorem gmap_keyed : Keyed Try.prog 64 := Keyed.of_law (deep_law_laid gmap_laidOut (m := 2) (by omega) gmap_row gmap_deep gmap_wide)
theorem gmap_cells : Try.prog.cellsOf 64 = 2 := by kernel_rfl
theorem gmap_cellsI : Try.prog.cellsOf 3 = 1 := by kernel_rfl
/-- The key of a gate. -/
def gkey (x y : Nat) : Value := .agg #[.int .i64 (x : Int), .int .i64 (y : Int)]
theorem gkey_some {x y : Nat} (hx : (x : Int) ≤ 9223372036854775807) (hy : (y : Int) ≤ 9223372036854775807) : ∃ l, keyOf Try.prog 64 (gkey x y) = some l := by
  obtain ⟨m, hm⟩ : ∃ m, Try.prog.types.size = m + 1 := ⟨_, (Nat.succ_pred_eq_of_pos (Nat.lt_of_le_of_lt (Nat.zero_le _) gmap_row)).symm⟩
  have h2 : (gkey x y).formed Try.prog 64 = true := by
    simp [gkey, Value.formed, Try.underlying64, gmap_cells]
  unfold keyOf
  rw [Try.underlying64]
  simp only [gmap_deepT, h2, Bool.and_self, if_true, hm]
  simp [Program.keyLits, gkey, Try.underlying64, Try.underlying3, Value.cells, gmap_cells, gmap_cellsI, i64_wf hx, i64_wf hy]
theorem gkey_inj {x y x' y' : Nat} (h : gkey x y = gkey x' y') : x = x' ∧ y = y' := by
  unfold gkey at h
  simp at h
  omega
theorem gkey_ne {x y x' y' : Nat} {l l' : Lit} (h : keyOf Try.prog 64 (gkey x y) = some l) (h' : keyOf Try.prog 64 (gkey x' y') = some l') (hne : ¬ (x = x' ∧ y = y')) : l ≠ l' := by
  intro e
  subst e
  exact hne (gkey_inj (gmap_keyed.inj h h'))
/-- Block b is a map of at most n gates; f tells what is known of a gate. -/
def GAt (w : World) (b n : Nat) (f : Nat → Nat → Option Nat) : Prop := ∃ D : DataW Unit, w.ownsMap Try.prog 64 (plainElem Try.prog 3) b n D ∧ IsMap D ∧ ∀ x y l, keyOf Try.prog 64 (gkey x y) = some l → Maps.has D l = (f x y).isSome ∧ D.atKey l (.lit (.int .i64 0)) = .lit (.int .i64 (((f x y).getD 0 : Nat) : Int))
theorem GAt.lt {w : World} {b n : Nat} {f : Nat → Nat → Option Nat} (h : GAt w b n f) : b < w.heap.size := by
  obtain ⟨D, h1, _⟩ := h
  exact h1.lt
theorem GAt.only {E : Nat → Prop} {w w' : World} {b n : Nat} {f : Nat → Nat → Option Nat} (h : GAt w b n f) (ho : Only E w w') (hE : ¬ E b) : GAt w' b n f := by
  have hl := h.lt
  obtain ⟨D, ⟨es, clock, h1, h2, h3, h4⟩, h5⟩ := h
  exact ⟨D, ⟨es, clock, (ho.block b hl hE).trans h1, h2, h3, h4⟩, h5⟩
theorem GAt.mono {w : World} {b n n' : Nat} {f : Nat → Nat → Option Nat} (h : GAt w b n f) (hn : n ≤ n') : GAt w b n' f := by
  obtain ⟨D, h1, h2⟩ := h
  exact ⟨D, h1.mono hn, h2⟩
theorem gAt_made (w : World) : GAt (w.alloc (.map #[] 0)) w.heap.size 0 (fun _ _ => none) :=
  ⟨.map [], World.ownsMap_made w _ _ _, isMap_empty, fun x y l h => ⟨rfl, rfl⟩⟩
section
variable (w : World) {ops : Array Oper} {rest : List Oper} {o : Oper} {a : Act} {Q : Exit → Act → World → Prop}
theorem zero_int (w : World) : (zeroValue 3).run Try.prog w = .ok (.int .i64 0) w := by kernel_rfl
end
end Go.Proofs.Ytkkkjbinfdohpaa

namespace Go.Proofs.Ytkkkjbinfdohpaa
open Go.RowKit Go.Maps
set_option maxRecDepth 100000
/-! Maps of diagram nodes (three numbers) to numbers and to booleans, made by the call. -/
theorem nmap_laidOut : laidOutB Try.prog = true := by kernel_rfl
theorem nmap_row : (81 : TypeId) < Try.prog.types.size := of_decide_eq_true (by kernel_rfl)
theorem nmap_deep : Try.prog.keyTypeAt 2 81 = true := by kernel_rfl
theorem nmap_deepT : Try.prog.keyType 81 = true := by kernel_rfl
theorem nmap_wide : (match Try.prog.underlying 81 with | some (.array _ _) | some (.struct _) => true | _ => false) = true := by kernel_rfl
theorem nmap_keyed : Keyed Try.prog 81 := Keyed.of_law (deep_law_laid nmap_laidOut (m := 2) (by omega) nmap_row nmap_deep nmap_wide)
theorem nmap_cells : Try.prog.cellsOf 81 = 3 := by kernel_rfl
theorem nmap_cellsI : Try.prog.cellsOf 3 = 1 := by kernel_rfl
abbrev Nd := Nat × Nat × Nat
def NdOk (x : Nd) : Prop := x.1 ≤ 1000000 ∧ x.2.1 ≤ 1000000 ∧ x.2.2 ≤ 1000000
/-- The key of a node. -/
def nkey (x : Nd) : Value := .agg #[.int .i64 (x.1 : Int), .int .i64 (x.2.1 : Int), .int .i64 (x.2.2 : Int)]
theorem nkey_some {x : Nd} (h : NdOk x) : ∃ l, keyOf Try.prog 81 (nkey x) = some l := by
  obtain ⟨h1, h2, h3⟩ := h
  obtain ⟨m, hm⟩ : ∃ m, Try.prog.types.size = m + 1 := ⟨_, (Nat.succ_pred_eq_of_pos (Nat.lt_of_le_of_lt (Nat.zero_le _) nmap_row)).symm⟩
  have hf : (nkey x).formed Try.prog 81 = true := by
    simp [nkey, Value.formed, Try.underlying81, nmap_cells]
  unfold keyOf
  rw [Try.underlying81]
  simp only [nmap_deepT, hf, Bool.and_self, if_true, hm]
  simp [Program.keyLits, nkey, Try.underlying81, Try.underlying3, Value.cells, nmap_cells, nmap_cellsI, i64_wf (x := x.1) (by omega), i64_wf (x := x.2.1) (by omega), i64_wf (x := x.2.2) (by omega)]
theorem nkey_inj {x y : Nd} (h : nkey x = nkey y) : x = y := by
  obtain ⟨a, b, c⟩ := x
  obtain ⟨a', b', c'⟩ := y
  unfold nkey at h
  simp at h
  obtain ⟨h1, h2, h3⟩ := h
  have e1 : a = a' := by omega
  have e2 : b = b' := by omega
  have e3 : c = c' := by omega
  rw [e1, e2, e3]
theorem nkey_ne {x y : Nd} {l l' : Lit} (h : keyOf Try.prog 81 (nkey x) = some l) (h' : keyOf Try.prog 81 (nkey y) = some l') (hne : x ≠ y) : l ≠ l' := by
  intro e
  subst e
  exact hne (nkey_inj (nmap_keyed.inj h h'))
/-- Block b is a map of at most n nodes; f tells what is known of a node. -/
def NAt (w : World) (b n : Nat) (f : Nd → Option Nat) : Prop := ∃ D : DataW Unit, w.ownsMap Try.prog 81 (plainElem Try.prog 3) b n D ∧ IsMap D ∧ ∀ x l, keyOf Try.prog 81 (nkey x) = some l → Maps.has D l = (f x).isSome ∧ D.atKey l (.lit (.int .i64 0)) = .lit (.int .i64 (((f x).getD 0 : Nat) : Int))
theorem NAt.lt {w : World} {b n : Nat} {f : Nd → Option Nat} (h : NAt w b n f) : b < w.heap.size := by
  obtain ⟨D, h1, _⟩ := h
  exact h1.lt
theorem NAt.only {E : Nat → Prop} {w w' : World} {b n : Nat} {f : Nd → Option Nat} (h : NAt w b n f) (ho : Only E w w') (hE : ¬ E b) : NAt w' b n f := by
  have hl := h.lt
  obtain ⟨D, ⟨es, clock, h1, h2, h3, h4⟩, h5⟩ := h
  exact ⟨D, ⟨es, clock, (ho.block b hl hE).trans h1, h2, h3, h4⟩, h5⟩
theorem NAt.below {w w' : World} {b n : Nat} {f : Nd → Option Nat} (h : NAt w b n f) (hb : Below w.heap.size w w') : NAt w' b n f :=
  h.only (E := fun _ => False) ⟨hb.os, hb.tape, hb.output, hb.size, fun k hk _ => hb.block k hk⟩ id
theorem nAt_made (w : World) : NAt (w.alloc (.map #[] 0)) w.heap.size 0 (fun _ => none) :=
  ⟨.map [], World.ownsMap_made w _ _ _, isMap_empty, fun x l h => ⟨rfl, rfl⟩⟩
section
variable (w : World) {ops : Array Oper} {rest : List Oper} {o : Oper} {a : Act} {Q : Exit → Act → World → Prop}
/-- at, ok := known[n] -/
theorem NAt.look {w : World} {b n : Nat} {f : Nd → Option Nat} (h : NAt w b n f) {x : Nd} (hx : NdOk x) :
    (Instr.lookup 84 (.map (some b)) (nkey x) true).run Try.prog w = .ok (.tuple #[.int .i64 (((f x).getD 0 : Nat) : Int), .bool (f x).isSome]) w := by
  obtain ⟨D, ⟨es, clock, hb, F, hs, hD⟩, h2, h3⟩ := h
  obtain ⟨l, hl⟩ := nkey_some hx
  obtain ⟨h4, h5⟩ := h3 x l hl
  rcases Maps.fit_look true nmap_keyed Try.underlying84 (zero_int w) hb F hl with ⟨hrun, _, hat⟩ | ⟨e0, y0, hm0, _, hrun, hRv, hat, _⟩
  · rw [hrun]
    have e1 : Maps.has D l = false := by subst hD; exact has_false_of_atKey hat
    rw [e1] at h4
    cases hf : f x with
    | none => simp
    | some v => rw [hf] at h4; simp at h4
  · rw [hrun]
    obtain ⟨c, e2, e3, e4⟩ := plainElem_int_inv Try.underlying3 hRv
    have e1 : Maps.has D l = true := by subst hD; exact has_true_of_atKey hat
    rw [e1] at h4
    have e5 := hat (.lit (.int .i64 0))
    rw [← hD, h5, e3] at e5
    injection e5 with e6
    injection e6 with e7 e8
    rw [e2, ← e8, ← h4]
    simp
/-- known[n] = v -/
theorem NAt.add {w : World} {b n : Nat} {f : Nd → Option Nat} (h : NAt w b n f) (hn : n ≤ 1000000) {x : Nd} {v : Nat} (hx : NdOk x) (hv : (v : Int) ≤ 9223372036854775807) :
    ∃ w', (Instr.mapUpdate 84 (.map (some b)) (nkey x) (.int .i64 (v : Int))).run Try.prog w = .ok () w' ∧ NAt w' b (n + 1) (fun y => if y = x then some v else f y) ∧ w.grownBy w' (some b) := by
  obtain ⟨D, h1, h2, h3⟩ := h
  obtain ⟨l, hl⟩ := nkey_some hx
  obtain ⟨w', hrun, r1, r2⟩ := h1.update nmap_keyed Try.underlying84 (by unfold maxLen; omega) hl (plainElem_int Try.underlying3 (i64_wf hv))
  have hlit : WideAt.IsKeyLit l := nmap_keyed.key hl
  refine ⟨w', hrun, ⟨_, r1, h2.put _ _, fun y l' hl' => ?_⟩, r2⟩
  by_cases e : y = x
  · subst e
    rw [hl] at hl'
    injection hl' with hl'
    subst hl'
    rw [has_put_same h2 hlit, atKey_put_same h2 hlit]
    simp
  · have hne := nkey_ne hl' hl e
    dsimp only
    rw [has_put_other hne, atKey_put_other hne, if_neg e]
    exact h3 y l' hl'
theorem wpList_add_node (w : World) {ops : Array Oper} {rest : List Oper} {o : Oper} {a : Act} {Q : Exit → Act → World → Prop} (hg : o.guard = none) (m x v : Operand) (hop : o.op = Op.mapUpdate 84 m x v) (b n : Nat) (f : Nd → Option Nat) (hm : a.eval m = .map (some b)) (h : NAt w b n f) (hn : n ≤ 1000000) (X : Nd) (V : Nat) (hX : NdOk X) (hV : V ≤ 10000000) (hx : a.eval x = .agg #[.int .i64 (X.1 : Int), .int .i64 (X.2.1 : Int), .int .i64 (X.2.2 : Int)]) (hv : a.eval v = .int .i64 (V : Int))
    (hK : ∀ w', NAt w' b (n + 1) (fun y => if y = X then some V else f y) → w.grownBy w' (some b) → wpList Try.prog ops Q rest (a.put o.dst undef) w') : wpList Try.prog ops Q (o :: rest) a w := by
  refine wpList_plain hg fun K' hK' => ?_
  obtain ⟨w', hrun, r1, r2⟩ := h.add hn (x := X) (v := V) hX (by omega)
  unfold nkey at hrun
  unfold Oper.wp
  simp [execOp, hop, hm, hx, hv, hrun, Result.andThen]
  exact hK' _ _ (hK w' r1 r2)
/-! Sets of nodes. -/
def NSet (w : World) (b n : Nat) (S : Nd → Bool) : Prop := ∃ D : DataW Unit, w.ownsMap Try.prog 81 (plainElem Try.prog 4) b n D ∧ IsMap D ∧ ∀ x l, keyOf Try.prog 81 (nkey x) = some l → D.atKey l (.lit (.bool false)) = .lit (.bool (S x))
theorem NSet.lt {w : World} {b n : Nat} {S : Nd → Bool} (h : NSet w b n S) : b < w.heap.size := by
  obtain ⟨D, h1, _⟩ := h
  exact h1.lt
theorem NSet.only {E : Nat → Prop} {w w' : World} {b n : Nat} {S : Nd → Bool} (h : NSet w b n S) (ho : Only E w w') (hE : ¬ E b) : NSet w' b n S := by
  have hl := h.lt
  obtain ⟨D, ⟨es, clock, h1, h2, h3, h4⟩, h5⟩ := h
  exact ⟨D, ⟨es, clock, (ho.block b hl hE).trans h1, h2, h3, h4⟩, h5⟩
theorem NSet.below {w w' : World} {b n : Nat} {S : Nd → Bool} (h : NSet w b n S) (hb : Below w.heap.size w w') : NSet w' b n S :=
  h.only (E := fun _ => False) ⟨hb.os, hb.tape, hb.output, hb.size, fun k hk _ => hb.block k hk⟩ id
theorem nSet_made (w : World) : NSet (w.alloc (.map #[] 0)) w.heap.size 0 (fun _ => false) :=
  ⟨.map [], World.ownsMap_made w _ _ _, isMap_empty, fun x l h => rfl⟩
/-- known[x] -/
theorem NSet.look {w : World} {b n : Nat} {S : Nd → Bool} (h : NSet w b n S) {x : Nd} (hx : NdOk x) :
    (Instr.lookup 122 (.map (some b)) (nkey x) false).run Try.prog w = .ok (.bool (S x)) w := by
  obtain ⟨D, h1, h2, h3⟩ := h
  obtain ⟨l, hl⟩ := nkey_some hx
  obtain ⟨v, ps, hrun, hv⟩ := h1.lookup nmap_keyed Try.underlying122 (zero_bool w) (plainElem_bool Try.underlying4 false) hl
  rw [h3 x l hl] at hv
  have hvb : v = .bool (S x) := by
    unfold plainElem at hv
    rw [Try.underlying4] at hv
    cases v <;> simp at hv
    rw [hv.1]
  subst hvb
  exact hrun
/-- known[x] = true -/
theorem wpList_set_node (w : World) {ops : Array Oper} {rest : List Oper} {o : Oper} {a : Act} {Q : Exit → Act → World → Prop} (hg : o.guard = none) (m x v : Operand) (hop : o.op = Op.mapUpdate 122 m x v) (b n : Nat) (S : Nd → Bool) (hm : a.eval m = .map (some b)) (h : NSet w b n S) (hn : n ≤ 1000000) (X : Nd) (hX : NdOk X) (hx : a.eval x = .agg #[.int .i64 (X.1 : Int), .int .i64 (X.2.1 : Int), .int .i64 (X.2.2 : Int)]) (hv : a.eval v = .bool true)
    (hK : ∀ w', NSet w' b (n + 1) (fun y => S y || decide (y = X)) → w.grownBy w' (some b) → wpList Try.prog ops Q rest (a.put o.dst undef) w') : wpList Try.prog ops Q (o :: rest) a w := by
  refine wpList_plain hg fun K' hK' => ?_
  obtain ⟨D, h1, h2, h3⟩ := h
  obtain ⟨l, hl⟩ := nkey_some hX
  obtain ⟨w', hrun, r1, r2⟩ := h1.update nmap_keyed Try.underlying122 (by unfold maxLen; omega) hl (plainElem_bool Try.underlying4 true)
  have hlit : WideAt.IsKeyLit l := nmap_keyed.key hl
  have hq : NSet w' b (n + 1) (fun y => S y || decide (y = X)) := by
    refine ⟨_, r1, h2.put _ _, fun y l' hl' => ?_⟩
    by_cases e : y = X
    · subst e
      rw [hl] at hl'
      injection hl' with hl'
      subst hl'
      rw [atKey_put_same h2 hlit]
      simp
    · rw [atKey_put_other (nkey_ne hl' hl e), h3 y l' hl']
      simp [e]
  unfold nkey at hrun
  unfold Oper.wp
  simp [execOp, hop, hm, hx, hv, hrun, Result.andThen]
  exact hK' _ _ (hK w' hq r2)
end
end Go.Proofs.Ytkkkjbinfdohpaa

namespace Go.Proofs.Ytkkkjbinfdohpaa
/-! Binary decision diagrams, plainly. -/
namespace Bdd
/-- What is known of a node: its number, if it stands behind the first two. -/
def kn (NS : List Nd) (x : Nd) : Option Nat := ((NS.drop 2).findIdx? (· == x)).map (· + 2)
def add (NS : List Nd) (x : Nd) : Nat × List Nd :=
  if x.2.1 = x.2.2 then (x.2.1, NS) else match kn NS x with
    | some i => (i, NS)
    | none => (NS.length, NS ++ [x])
def bld (T : List Bool) (n : Nat) : Nat → Nat → List Nd → Nat × List Nd
  | 0, x, NS => (if T.getD x false then 1 else 0, NS)
  | f + 1, x, NS => add (bld T n f (x + 2 ^ (n - (f + 1))) (bld T n f x NS).2).2 (n - (f + 1), (bld T n f x NS).1, (bld T n f (x + 2 ^ (n - (f + 1))) (bld T n f x NS).2).1)
structure NOk (n : Nat) (NS : List Nd) : Prop where
  two : 2 ≤ NS.length
  zero : NS[0]? = some (0, 0, 0)
  one : NS[1]? = some (0, 0, 0)
  nd : ∀ i v l h, 2 ≤ i → NS[i]? = some (v, l, h) → l < i ∧ h < i ∧ l ≠ h ∧ v < n ∧ (∀ c, c = l ∨ c = h → 2 ≤ c → ∀ y, NS[c]? = some y → v < y.1)
  dup : ∀ i j x, 2 ≤ i → i < j → NS[i]? = some x → NS[j]? ≠ some x
theorem kn_some {NS : List Nd} {x : Nd} {i : Nat} (h : kn NS x = some i) : 2 ≤ i ∧ NS[i]? = some x := by
  unfold kn at h
  rw [Option.map_eq_some_iff] at h
  obtain ⟨j, hj, rfl⟩ := h
  rw [List.findIdx?_eq_some_iff_getElem] at hj
  obtain ⟨h1, h2, -⟩ := hj
  refine ⟨by omega, ?_⟩
  have e : (NS.drop 2)[j] = x := by simpa using h2
  rw [List.getElem_drop] at e
  rw [show j + 2 = 2 + j from by omega, List.getElem?_eq_getElem (by simp at h1; omega), e]
theorem kn_none {NS : List Nd} {x : Nd} (h : kn NS x = none) {i : Nat} (hi : 2 ≤ i) : NS[i]? ≠ some x := by
  intro e
  unfold kn at h
  rw [Option.map_eq_none_iff, List.findIdx?_eq_none_iff] at h
  have := h x (by
    refine List.mem_of_getElem? (i := i - 2) ?_
    rw [List.getElem?_drop, show 2 + (i - 2) = i from by omega]
    exact e)
  simp at this
theorem kn_snoc {NS : List Nd} {x : Nd} (h2 : 2 ≤ NS.length) (h : kn NS x = none) : kn (NS ++ [x]) = fun y => if y = x then some NS.length else kn NS y := by
  funext y
  unfold kn at h ⊢
  rw [List.drop_append_of_le_length h2, List.findIdx?_append]
  rw [Option.map_eq_none_iff] at h
  by_cases e : y = x
  · subst e
    rw [h, if_pos rfl]
    simp
    omega
  · rw [if_neg e]
    cases hf : (NS.drop 2).findIdx? (· == y) with
    | some i => simp
    | none =>
      have : (x == y) = false := by simpa using fun h => e h.symm
      simp [List.findIdx?_cons, this]
/-- One node or none is added behind the others. -/
theorem add_prefix (NS : List Nd) (x : Nd) : ∃ m, (add NS x).2 = NS ++ m ∧ m.length ≤ 1 := by
  unfold add
  split
  · exact ⟨[], by simp, by simp⟩
  · split
    · exact ⟨[], by simp, by simp⟩
    · exact ⟨[x], rfl, by simp⟩
theorem bld_prefix (T : List Bool) (n : Nat) : ∀ f x NS, ∃ m, (bld T n f x NS).2 = NS ++ m ∧ m.length + 1 ≤ 2 ^ f
  | 0, x, NS => ⟨[], by simp [bld], by simp⟩
  | f + 1, x, NS => by
    obtain ⟨m1, h1, l1⟩ := bld_prefix T n f x NS
    obtain ⟨m2, h2, l2⟩ := bld_prefix T n f (x + 2 ^ (n - (f + 1))) (bld T n f x NS).2
    obtain ⟨m3, h3, l3⟩ := add_prefix (bld T n f (x + 2 ^ (n - (f + 1))) (bld T n f x NS).2).2 (n - (f + 1), (bld T n f x NS).1, (bld T n f (x + 2 ^ (n - (f + 1))) (bld T n f x NS).2).1)
    refine ⟨m1 ++ m2 ++ m3, ?_, ?_⟩
    · rw [bld, h3, h2, h1]
      simp
    · rw [List.length_append, List.length_append, Nat.pow_succ]
      omega
/-- The value of a node, k steps at most. -/
def ev (NS : List Nd) : Nat → Nat → Nat → Bool
  | 0, i, _ => i == 1
  | k + 1, i, y => if i ≤ 1 then i == 1 else ev NS k (if y.testBit (NS.getD i (0, 0, 0)).1 then (NS.getD i (0, 0, 0)).2.2 else (NS.getD i (0, 0, 0)).2.1) y
theorem getD_of {NS : List Nd} {i : Nat} (h : i < NS.length) : NS[i]? = some (NS.getD i (0, 0, 0)) := by
  rw [List.getD_eq_getElem?_getD, List.getElem?_eq_getElem h]; rfl
theorem ev_more {n : Nat} {NS : List Nd} (h : NOk n NS) {y : Nat} : ∀ k i, i < NS.length → i ≤ k → ev NS (k + 1) i y = ev NS k i y
  | 0, i, hi, hk => by
    have : i = 0 := by omega
    subst this
    simp [ev]
  | k + 1, i, hi, hk => by
    rw [ev]
    conv => rhs; rw [ev]
    by_cases h1 : i ≤ 1
    · rw [if_pos h1, if_pos h1]
    · rw [if_neg h1, if_neg h1]
      have hx := getD_of hi
      generalize NS.getD i (0, 0, 0) = q at hx ⊢
      obtain ⟨v, l, r⟩ := q
      obtain ⟨a, b, _, _⟩ := h.nd i v l r (by omega) hx
      simp only
      split
      · exact ev_more h k _ (by omega) (by omega)
      · exact ev_more h k _ (by omega) (by omega)
theorem ev_le {n : Nat} {NS : List Nd} (h : NOk n NS) {y i : Nat} (hi : i < NS.length) : ∀ d k, i ≤ k → ev NS (k + d) i y = ev NS k i y
  | 0, _, _ => rfl
  | d + 1, k, hk => by rw [← Nat.add_assoc, ev_more h _ i hi (by omega), ev_le h hi d k hk]
theorem ev_eq {n : Nat} {NS : List Nd} (h : NOk n NS) {y i k : Nat} (hi : i < NS.length) (hk : i ≤ k) : ev NS k i y = ev NS i i y := by
  have := ev_le h hi (k - i) (y := y) i (Nat.le_refl _)
  rwa [show i + (k - i) = k from by omega] at this
theorem ev_app {n : Nat} {NS m : List Nd} (h : NOk n NS) {y : Nat} : ∀ k i, i < NS.length → ev (NS ++ m) k i y = ev NS k i y
  | 0, _, _ => rfl
  | k + 1, i, hi => by
    rw [ev, ev]
    have e : (NS ++ m).getD i (0, 0, 0) = NS.getD i (0, 0, 0) := by
      rw [List.getD_eq_getElem?_getD, List.getElem?_append_left hi, ← List.getD_eq_getElem?_getD]
    rw [e]
    by_cases h1 : i ≤ 1
    · rw [if_pos h1, if_pos h1]
    · rw [if_neg h1, if_neg h1]
      have hx := getD_of hi
      generalize NS.getD i (0, 0, 0) = q at hx ⊢
      obtain ⟨v, l, r⟩ := q
      obtain ⟨a, b, _, _⟩ := h.nd i v l r (by omega) hx
      simp only
      split
      · exact ev_app h k _ (by omega)
      · exact ev_app h k _ (by omega)
/-- A node's place: a constant, or a node that tests v or a later variable. -/
def At (NS : List Nd) (v i : Nat) : Prop := i < NS.length ∧ (2 ≤ i → ∀ y, NS[i]? = some y → v ≤ y.1)
theorem At.app {NS m : List Nd} {v i : Nat} (h : At NS v i) : At (NS ++ m) v i :=
  ⟨by rw [List.length_append]; have := h.1; omega, fun hi y hy => h.2 hi y (by rwa [List.getElem?_append_left h.1] at hy)⟩
theorem add_ok {n v l h : Nat} {NS : List Nd} (hN : NOk n NS) (hv : v < n) (hl : At NS (v + 1) l) (hh : At NS (v + 1) h) : NOk n (add NS (v, l, h)).2 ∧ At (add NS (v, l, h)).2 v (add NS (v, l, h)).1 ∧
    ∀ y, ev (add NS (v, l, h)).2 (add NS (v, l, h)).1 (add NS (v, l, h)).1 y = ev NS (if y.testBit v then h else l) (if y.testBit v then h else l) y := by
  unfold add
  by_cases he : l = h
  · rw [if_pos he]
    refine ⟨hN, ⟨hl.1, fun hi y hy => by have := hl.2 hi y hy; omega⟩, fun y => ?_⟩
    simp only
    rw [← he]
    simp
  · rw [if_neg he]
    cases hk : kn NS (v, l, h) with
    | some i =>
      obtain ⟨h1, h2⟩ := kn_some hk
      have hi := (List.getElem?_eq_some_iff.1 h2).1
      obtain ⟨a, b, _, _⟩ := hN.nd i v l h h1 h2
      refine ⟨hN, ⟨hi, fun _ y hy => by rw [h2] at hy; rw [← Option.some.inj hy]; exact Nat.le_refl _⟩, fun y => ?_⟩
      simp only
      obtain ⟨j, rfl⟩ : ∃ j, i = j + 1 := ⟨i - 1, by omega⟩
      have hg : NS.getD (j + 1) (0, 0, 0) = (v, l, h) := by rw [List.getD_eq_getElem?_getD, h2]; rfl
      rw [ev, if_neg (by omega), hg]
      simp only
      split
      · exact ev_eq hN hh.1 (by omega)
      · exact ev_eq hN hl.1 (by omega)
    | none =>
      have h2 := hN.two
      have hN' : NOk n (NS ++ [(v, l, h)]) := by
        refine ⟨by rw [List.length_append]; omega, by rw [List.getElem?_append_left (by omega)]; exact hN.zero, by rw [List.getElem?_append_left (by omega)]; exact hN.one, fun i v' l' h' hi hg => ?_, fun i j x hi hj hg hg' => ?_⟩
        · rcases Nat.lt_or_ge i NS.length with hlt | hge
          · rw [List.getElem?_append_left hlt] at hg
            obtain ⟨a, b, c, d, e⟩ := hN.nd i v' l' h' hi hg
            refine ⟨a, b, c, d, fun q hq hq2 y hy => e q hq hq2 y ?_⟩
            rwa [List.getElem?_append_left (by rcases hq with rfl | rfl <;> omega)] at hy
          · have hil := (List.getElem?_eq_some_iff.1 hg).1
            rw [List.length_append, List.length_singleton] at hil
            obtain rfl : i = NS.length := by omega
            rw [List.getElem?_append_right (Nat.le_refl _), Nat.sub_self] at hg
            have hg := Option.some.inj hg
            injection hg with e1 e2
            injection e2 with e2 e3
            subst e1 e2 e3
            refine ⟨hl.1, hh.1, he, hv, fun q hq hq2 y hy => ?_⟩
            rcases hq with rfl | rfl
            · rw [List.getElem?_append_left hl.1] at hy
              exact hl.2 hq2 y hy
            · rw [List.getElem?_append_left hh.1] at hy
              exact hh.2 hq2 y hy
        · have hjl := (List.getElem?_eq_some_iff.1 hg').1
          rw [List.length_append, List.length_singleton] at hjl
          rw [List.getElem?_append_left (by omega)] at hg
          rcases Nat.lt_or_ge j NS.length with hlt | hge
          · rw [List.getElem?_append_left hlt] at hg'
            exact hN.dup i j x hi hj hg hg'
          · obtain rfl : j = NS.length := by omega
            rw [List.getElem?_append_right (Nat.le_refl _), Nat.sub_self] at hg'
            rw [← Option.some.inj hg'] at hg
            exact kn_none hk hi hg
      have hlen : NS.length < (NS ++ [(v, l, h)]).length := by rw [List.length_append]; simp
      have hg : (NS ++ [(v, l, h)])[NS.length]? = some (v, l, h) := by rw [List.getElem?_append_right (Nat.le_refl _), Nat.sub_self]; rfl
      refine ⟨hN', ⟨hlen, fun _ y hy => by simp only at hy; rw [hg] at hy; rw [← Option.some.inj hy]; exact Nat.le_refl _⟩, fun y => ?_⟩
      simp only
      obtain ⟨j, hj⟩ : ∃ j, NS.length = j + 1 := ⟨NS.length - 1, by omega⟩
      have hg2 : (NS ++ [(v, l, h)]).getD (j + 1) (0, 0, 0) = (v, l, h) := by rw [List.getD_eq_getElem?_getD, ← hj, hg]; rfl
      rw [hj, ev, if_neg (by omega), hg2]
      simp only
      split
      · rw [ev_app hN j _ hh.1]
        exact ev_eq hN hh.1 (by have := hh.1; omega)
      · rw [ev_app hN j _ hl.1]
        exact ev_eq hN hl.1 (by have := hl.1; omega)
theorem bld_ok (T : List Bool) (n : Nat) : ∀ f x NS, f ≤ n → NOk n NS → NOk n (bld T n f x NS).2 ∧ At (bld T n f x NS).2 (n - f) (bld T n f x NS).1 ∧
    ∀ y, y < 2 ^ n → ev (bld T n f x NS).2 (bld T n f x NS).1 (bld T n f x NS).1 y = T.getD (x + 2 ^ (n - f) * (y / 2 ^ (n - f))) false
  | 0, x, NS, _, hN => by
    have h2 := hN.two
    rw [bld]
    refine ⟨hN, ⟨?_, fun hi => ?_⟩, fun y hy => ?_⟩
    · simp only; split <;> omega
    · simp only at hi; split at hi <;> omega
    · rw [Nat.sub_zero, Nat.div_eq_of_lt hy, Nat.mul_zero, Nat.add_zero]
      cases T.getD x false <;> simp [ev]
  | f + 1, x, NS, hf, hN => by
    obtain ⟨a1, a2, a3⟩ := bld_ok T n f x NS (by omega) hN
    obtain ⟨m2, e2, -⟩ := bld_prefix T n f (x + 2 ^ (n - (f + 1))) (bld T n f x NS).2
    obtain ⟨b1, b2, b3⟩ := bld_ok T n f (x + 2 ^ (n - (f + 1))) (bld T n f x NS).2 (by omega) a1
    rw [bld]
    generalize hlo : bld T n f x NS = lo at a1 a2 a3 e2 b1 b2 b3 ⊢
    generalize hhi : bld T n f (x + 2 ^ (n - (f + 1))) lo.2 = hi at e2 b1 b2 b3 ⊢
    have hvn : n - f = n - (f + 1) + 1 := by omega
    rw [hvn] at a2 b2 a3 b3
    have a2' : At hi.2 (n - (f + 1) + 1) lo.1 := by rw [e2]; exact a2.app
    have hlo2 : ∀ y, ev hi.2 lo.1 lo.1 y = ev lo.2 lo.1 lo.1 y := fun y => by rw [e2]; exact ev_app a1 _ _ a2.1
    obtain ⟨c1, c2, c3⟩ := add_ok b1 (show n - (f + 1) < n by omega) a2' b2
    refine ⟨c1, c2, fun y hy => ?_⟩
    rw [c3 y]
    generalize hv : n - (f + 1) = v at *
    have hbit : y / 2 ^ v = 2 * (y / 2 ^ (v + 1)) + (if y.testBit v then 1 else 0) := by
      rw [Nat.pow_succ, ← Nat.div_div_eq_div_mul]
      have h1 : y.testBit v = decide (y / 2 ^ v % 2 = 1) := by rw [Nat.testBit_eq_decide_div_mod_eq]
      rw [h1]
      generalize y / 2 ^ v = q
      by_cases h : q % 2 = 1
      · simp [h]; omega
      · simp [h]; omega
    rw [hbit]
    by_cases hb : y.testBit v = true
    · rw [if_pos hb, if_pos hb, b3 y hy]
      congr 1
      rw [Nat.pow_succ, Nat.mul_add, ← Nat.mul_assoc]
      omega
    · rw [if_neg hb, if_neg hb, hlo2 y, a3 y hy]
      congr 1
      rw [Nat.pow_succ, Nat.mul_add, ← Nat.mul_assoc]
      omega
end Bdd
end Go.Proofs.Ytkkkjbinfdohpaa

namespace Go.Proofs.Ytkkkjbinfdohpaa
open Go.RowKit
/-! Drawn regions whose last operations come behind all the others, one after another. -/
section
variable {P : Program} {ops : Array Oper}
theorem ready_of {m : Nat} {om : Oper} (hB : rgB ops = true) (hom : ops[m]? = some om) {listed : Array Bool} (hsz : listed.size = ops.size) (hall : ∀ i, i < m → listed.getD i false = true) (hmf : listed.getD m false = false) : m ∈ Region.ready .any ops listed := by
  have hil : m < listed.size := by have := (Array.getElem?_eq_some_iff.1 hom).1; omega
  refine mem_ready.2 ⟨by simpa [Array.getD, hil] using hmf, om, hom, fun e he hbn => hall e.on ((rgB_ok hB hom).back e he hbn)⟩
theorem anc_open {listed : Array Bool} (L : Shut ops (fun i => listed.getD i false)) {i : Nat} {o : Oper} (ho : ops[i]? = some o) (hr : ∀ e ∈ o.after, Region.binds .any e = true → listed.getD e.on false = true) {j : Nat} (hj : j < i) (ha : ancB ops 16 j i = true) : listed.getD j false = true := by
  rw [show (16 : Nat) = 15 + 1 from rfl, ancB, Bool.or_eq_true] at ha
  rcases ha with ha | ha
  · exact absurd (by simpa using ha) (Nat.ne_of_lt hj)
  · simp only [ho, Option.map_some, Option.getD_some, Array.any_eq_true] at ha
    obtain ⟨q, hq, ha⟩ := ha
    rw [Bool.and_eq_true] at ha
    exact ancB_shut L 15 j _ ha.2 (hr _ (Array.getElem_mem hq) ha.1)
theorem getD_setT {listed : Array Bool} {i : Nat} (hil : i < listed.size) : (fun j => (listed.setIfInBounds i true).getD j false) = fun j => if j = i then true else listed.getD j false := by
  funext j
  by_cases e : j = i
  · subst e; simp [hil]
  · simp only [e, if_false]
    exact getD_set_ne false (fun h => e h.symm)
theorem open_less {listed : Array Bool} {i : Nat} (hlt : i < ops.size) (hil : i < listed.size) (h1 : listed.getD i false = false) : open_ ops (listed.setIfInBounds i true) < open_ ops listed := by
  have eL := getD_setT hil
  refine countP_lt (fun x _ hx => ?_) ⟨i, List.mem_range.2 hlt, by simpa using h1, ?_⟩
  · have : (listed.setIfInBounds i true).getD x false = if x = i then true else listed.getD x false := congrFun eL x
    rw [this] at hx
    by_cases e : x = i
    · simp [e] at hx
    · simpa [e] using hx
  · have : (listed.setIfInBounds i true).getD i false = if i = i then true else listed.getD i false := congrFun eL i
    rw [this]
    simp
theorem wpAny_chain {Q : Exit → Act → World → Prop} (hB : rgB ops = true) {m : Nat} (hlast : ∀ i, m ≤ i → i < ops.size → ∀ j, m ≤ j → j < i → ancB ops 16 j i = true) :
    ∀ (l : List Oper) (k fuel : Nat) (listed : Array Bool) (a : Act) (w : World), m ≤ k → ops.toList.drop k = l → listed.size = ops.size → (∀ j, j < ops.size → listed.getD j false = decide (j < k)) → Shut ops (fun i => listed.getD i false) → open_ ops listed ≤ fuel → wpList P ops Q l a w → wpAny P .any ops Q fuel listed a w
  | [], k, fuel, listed, a, w, _, hl, hsz, hd, _, _, h => by
    have hk : ops.size ≤ k := by
      rcases Nat.lt_or_ge k ops.size with h' | h'
      · have := congrArg List.length hl
        simp at this
        omega
      · exact h'
    exact wpAny_done (ready_nil hsz fun j hj => by rw [hd j hj]; exact decide_eq_true (by omega)) h fuel
  | o :: l, k, fuel, listed, a, w, hm, hl, hsz, hd, hC, hf, h => by
    have hk : k < ops.size := by
      rcases Nat.lt_or_ge k ops.size with h' | h'
      · exact h'
      · rw [List.drop_eq_nil_of_le (by simpa using h')] at hl; cases hl
    rw [List.drop_eq_getElem_cons (by simpa using hk)] at hl
    injection hl with h1 h2
    have ho : ops[k]? = some o := by
      rw [← h1, ← Array.getElem?_toList, List.getElem?_eq_getElem]
    have hkf : listed.getD k false = false := by rw [hd k hk]; exact decide_eq_false (by omega)
    cases fuel with
    | zero =>
      exfalso
      have hpos : 0 < open_ ops listed := List.countP_pos_iff.2 ⟨k, List.mem_range.2 hk, by simp [hkf]⟩
      omega
    | succ fuel =>
      refine ⟨fun hr => ?_, fun i hi => ?_⟩
      · have := ready_of hB ho hsz (fun i hi => by rw [hd i (by omega)]; exact decide_eq_true hi) hkf
        rw [hr] at this
        cases this
      · obtain ⟨g1, o', ho', hr⟩ := mem_ready.1 hi
        have hlt := (Array.getElem?_eq_some_iff.1 ho').1
        have hil : i < listed.size := by omega
        have g1' : listed.getD i false = false := by simpa [Array.getD, hil] using g1
        have hki : k ≤ i := by
          rcases Nat.lt_or_ge i k with h' | h'
          · rw [hd i hlt, decide_eq_true h'] at g1'; cases g1'
          · exact h'
        have hik : i = k := by
          rcases Nat.lt_or_ge k i with h' | h'
          · have := anc_open hC ho' hr h' (hlast i (by omega) hlt k hm h')
            rw [hkf] at this; cases this
          · omega
        subst hik
        obtain rfl := Option.some.inj (ho'.symm.trans ho)
        have eL := getD_setT hil
        unfold wpList at h
        have hgd := (rgB_ok hB ho).guard
        rw [if_pos (by simp [Region.wanted, hgd])] at h
        unfold wpOp
        simp only [ho]
        rw [if_pos (by simp [Region.wanted, hgd])]
        refine h.imp (Oper.wp_mono fun a' w' hq => ?_) id
        refine wpAny_chain hB hlast l (i + 1) fuel _ a' w' (by omega) h2 (by simpa using hsz) (fun j hj => ?_) ?_ ?_ hq
        · have : (listed.setIfInBounds i true).getD j false = if j = i then true else listed.getD j false := congrFun eL j
          rw [this, hd j hj]
          by_cases e : j = i
          · subst e; simp
          · simp only [e, if_false]
            by_cases e2 : j < i
            · rw [decide_eq_true e2, decide_eq_true (by omega)]
            · rw [decide_eq_false e2, decide_eq_false (by omega)]
        · rw [eL]
          intro j p hj hp e he hb
          by_cases ej : j = i
          · subst ej
            obtain rfl := Option.some.inj (ho.symm.trans hp)
            have := hr e he hb
            by_cases ee : e.on = j <;> simp [ee, this]
          · simp only [ej, if_false] at hj
            have := hC j p hj hp e he hb
            by_cases ee : e.on = i <;> simp [ee, this]
        · have := open_less hlt hil g1'
          omega
theorem rg_tail {Q : Exit → Act → World → Prop} {τ : Nat → World → Value → Prop} {d m : Nat} {I : Nat → Option Value → World → Prop} {G : World → World → Prop} {a0 : Act} (hB : rgB ops = true) (hS : (ops.all fun o => match o.dst with | some t => decide (t < a0.tmps.size) | none => true) = true)
    (hm : m < ops.size) (hlast : ∀ i, m ≤ i → i < ops.size → ∀ j, j < i → ancB ops 16 j i = true)
    (hG : ∀ i v w w', τ i w v → G w w' → τ i w' v)
    (hstep : ∀ i o, i < m → ops[i]? = some o → ∀ k ov ρ w, k < ops.size → I k ov w → (ancB ops 8 i d = true → ov = none) → Known ops τ a0 ρ w i o.op.operands.toList → Good P o ρ w fun v w' => τ i w' v ∧ I (k + 1) (if i = d then some v else ov) w' ∧ G w w')
    (hd : d < m) (hend : ∀ f w' k, k ≤ ops.size → I k (some (f d)) w' → (∀ i, i < m → τ i w' (f i)) → Copies ops (fun j => decide (j < m)) f → wpList P ops Q (ops.toList.drop m) (putAll (ops.toList.take m) f 0 a0) w') :
    ∀ (fuel : Nat) (listed : Array Bool) (a : Act) (w : World) (k : Nat), k + fuel = ops.size → listed.size = ops.size → open_ ops listed ≤ fuel → (∀ i, m ≤ i → i < ops.size → listed.getD i false = false) → Inv ops τ d (I k) a0 (fun i => listed.getD i false) a w → wpAny P .any ops Q fuel listed a w := by
  obtain ⟨om, hom⟩ : ∃ om, ops[m]? = some om := ⟨_, Array.getElem?_eq_getElem hm⟩
  intro fuel
  induction fuel with
  | zero =>
    intro listed a w k hk hsz hc hmf h
    exfalso
    have hpos : 0 < open_ ops listed := List.countP_pos_iff.2 ⟨m, List.mem_range.2 hm, by simp [hmf m (Nat.le_refl _) hm]⟩
    omega
  | succ fuel ih =>
    intro listed a w k hk0 hsz hc hmf h
    have hnil : Region.ready .any ops listed = [] → False := by
      intro hr
      have hall : ∀ i, i < m → listed.getD i false = true := by
        intro i
        induction i using Nat.strongRecOn with
        | _ i ihi =>
          intro hi
          rcases hb : listed.getD i false with _ | _
          · exfalso
            have hi' : i < ops.size := by omega
            have hmm : i ∈ Region.ready .any ops listed := mem_ready.2 ⟨by
              have : i < listed.size := by omega
              simpa [Array.getD, this] using hb, ops[i], Array.getElem?_eq_getElem hi', fun e he hbn => ihi e.on ((rgB_ok hB (Array.getElem?_eq_getElem hi')).back e he hbn) (by
                have := (rgB_ok hB (Array.getElem?_eq_getElem hi')).back e he hbn
                omega)⟩
            rw [hr] at hmm
            cases hmm
          · rfl
      have := ready_of hB hom hsz hall (hmf m (Nat.le_refl _) hm)
      rw [hr] at this
      cases this
    refine ⟨fun hr => (hnil hr).elim, fun i hi => ?_⟩
    obtain ⟨h1, o, ho, hr⟩ := mem_ready.1 hi
    have hlt := (Array.getElem?_eq_some_iff.1 ho).1
    have hil : i < listed.size := by omega
    have h1' : listed.getD i false = false := by simpa [Array.getD, hil] using h1
    have eL := getD_setT hil
    rcases Nat.lt_or_ge i m with hltm | hge
    · unfold wpOp
      simp only [ho]
      rw [if_pos (by simp [Region.wanted, (rgB_ok hB ho).guard])]
      have hk := h.known hB hS ho h1' hr
      have hcopy : ∀ (f : Nat → Value), Is ops a0 (fun i => listed.getD i false) f a → ∀ t j, o.op = .assign (.tmp t) → writer ops i t = some j → listed.getD j false = true ∧ a.eval (.tmp t) = f j := fun f hf t j ha hw => h.copy hB hS ho h1' hr hf ha hw
      obtain ⟨hC, f, hf, hI, hτ, hcp⟩ := h
      have hg := hstep i o hltm ho k _ a.eval w (by omega) hI (fun e => if_neg (fun hdl => by have := ancB_shut hC 8 i d e hdl; rw [h1'] at this; cases this)) hk
      refine .inl (Good.wp hg.assign fun v w' ⟨⟨hv, hI', hgw⟩, hva⟩ => ?_)
      refine ih _ _ _ (k + 1) (by omega) (by simpa using hsz) ?_ ?_ ?_
      · have := open_less hlt hil h1'
        omega
      · intro j hj1 hj2
        have : (listed.setIfInBounds i true).getD j false = if j = i then true else listed.getD j false := congrFun eL j
        rw [this, if_neg (by omega)]
        exact hmf j hj1 hj2
      · rw [eL]
        refine ⟨fun j p hj hp e he hb => ?_, _, hf.step hB ho h1' v, ?_, fun j hj => ?_, fun j p t q hj hp ha hw => ?_⟩
        · by_cases ej : j = i
          · subst ej
            obtain rfl := Option.some.inj (ho.symm.trans hp)
            have := hr e he hb
            by_cases ee : e.on = j <;> simp [ee, this]
          · simp only [ej, if_false] at hj
            have := hC j p hj hp e he hb
            by_cases ee : e.on = i <;> simp [ee, this]
        · by_cases ed : i = d
          · subst ed
            simpa using hI'
          · simpa [ed, show ¬ d = i from fun h => ed h.symm] using hI'
        · by_cases ej : j = i
          · subst ej
            exact ⟨hlt, by simpa using hv⟩
          · simp only [ej, if_false] at hj ⊢
            exact ⟨(hτ j hj).1, hG j _ _ _ (hτ j hj).2 hgw⟩
        · have hqj : q < j := List.mem_range.1 (List.mem_of_find?_eq_some hw)
          by_cases ej : j = i
          · subst ej
            obtain rfl := Option.some.inj (ho.symm.trans hp)
            obtain ⟨h5, h6⟩ := hcopy f hf t q ha hw
            have hne : q ≠ j := by omega
            exact ⟨by simp only [hne, if_false]; exact h5, by simp only [hne, if_false, if_true]; rw [hva _ ha, h6]⟩
          · simp only [ej, if_false] at hj ⊢
            obtain ⟨h5, h6⟩ := hcp j p t q hj hp ha hw
            have h5' : listed.getD q false = true := h5
            have hne : q ≠ i := fun e => by rw [e, h1'] at h5'; cases h5'
            simp only [hne, if_false]
            exact ⟨h5, h6⟩
    · obtain ⟨hC, f, hf, hI, hτ, hcp⟩ := h
      have him : i = m := by
        rcases Nat.lt_or_ge m i with h' | h'
        · have := anc_open hC ho hr h' (hlast i hge hlt m h')
          rw [hmf m (Nat.le_refl _) hm] at this; cases this
        · omega
      subst him
      have hall : ∀ j, j < i → listed.getD j false = true := fun j hj => anc_open hC ho hr hj (hlast i (Nat.le_refl _) hlt j hj)
      have hI : I k (some (f d)) w := by simpa [hall d hd] using hI
      have eLt : ∀ j, j < ops.size → (listed.getD j false = true ↔ j < i) := by
        intro j hj
        constructor
        · intro hl
          rcases Nat.lt_or_ge j i with h5 | h5
          · exact h5
          · rw [hmf j h5 hj] at hl; cases hl
        · exact hall j
      have e1 : Is ops a0 (fun j => decide (j < i)) f a := ⟨hf.defers, hf.size, fun j p t hj hp hd2 hl => hf.mine j p t (hall j (by simpa using hj)) hp hd2 hl,
        fun t ht => hf.old t fun j p hj hp => ht j p (by
          have hjs := (Array.getElem?_eq_some_iff.1 hp).1
          simpa using (eLt j hjs).1 hj) hp⟩
      have e0 : Is ops a0 (fun j => decide (j < 0)) f a0 := ⟨rfl, rfl, fun _ _ _ h => by simp at h, fun _ _ => rfl⟩
      have hlen : (ops.toList.take i).length = i := by simp; omega
      have e2 := putSome_is hB (ops.toList.take i) 0 a0 (by rw [hlen]; rfl) e0
      rw [hlen, Nat.zero_add] at e2
      have he : a = putAll (ops.toList.take i) f 0 a0 := e1.same e2
      have hgo := hend f w k (by omega) hI (fun j hj => (hτ j (hall j hj)).2) (fun j p t q hj hp ha hw => by
        have hj' : j < i := by simpa using hj
        obtain ⟨h5, h6⟩ := hcp j p t q (hall j hj') hp ha hw
        exact ⟨by simpa using (eLt q (hτ q h5).1).1 h5, h6⟩)
      rw [← he] at hgo
      have := wpAny_chain (P := P) hB (fun i h1 h2 j _ hj => hlast i h1 h2 j hj) _ i (fuel + 1) listed a w (Nat.le_refl _) rfl hsz (fun j hj => by
        by_cases e : j < i
        · rw [hall j e, decide_eq_true e]
        · rw [hmf j (by omega) hj, decide_eq_false e]) hC hc hgo
      exact this.2 i hi
end
/-- THE RULE: the operations from the m-th on are taken by themselves, behind all the others. -/
theorem wp_region_rst {id : Nat} {Q : Exit → Act → World → Prop} (S : RS) (hO : S.Ok) (hm : S.P.follows .mixedOrders = true) (hB : rgB S.ops = true) (hS : (S.ops.all fun o => match o.dst with | some t => decide (t < S.a0.tmps.size) | none => true) = true)
    (m : Nat) (rest : List Oper) (hrest : S.ops.toList.drop m = rest) (hsz : Nat.ble (m + 1) S.ops.size = true) (hlast : ((List.range S.ops.size).all fun i => decide (i < m) || (List.range i).all fun j => ancB S.ops 16 j i) = true) (hd : S.d < m)
    (hr : RdO S.rd 0 S.w0) (hJ : S.J none S.w0)
    (h : RSeq S (fun τ => ∀ f w' k, k ≤ S.ops.size → S.I k (some (f S.d)) w' → (∀ i, i < m → tys τ i w' (f i)) → Copies S.ops (fun j => decide (j < m)) f → wpList S.P S.ops Q rest (putAll (S.ops.toList.take m) f 0 S.a0) w') (S.ops.toList.take m) 0 []) : (Code.region id S.ops true).wp S.P Q S.a0 S.w0 := by
  subst hrest
  have hsz := Nat.le_of_ble_eq_true hsz
  have hlen : (S.ops.toList.take m).length = m := by simp; omega
  obtain ⟨τ, _, h3, h4, h5⟩ := rseq_types_l (S.ops.toList.take m) [] (by rw [hlen]; rfl) (by simp) h
  have hl : ∀ i, m ≤ i → i < S.ops.size → ∀ j, j < i → ancB S.ops 16 j i = true := fun i h1 h2 j hj => by
    have := List.all_eq_true.1 hlast i (List.mem_range.2 h2)
    rw [Bool.or_eq_true] at this
    rcases this with h' | h'
    · have := of_decide_eq_true h'; omega
    · exact List.all_eq_true.1 h' j (List.mem_range.2 hj)
  refine wp_region_any hm (rg_tail (τ := tys τ) (d := S.d) (m := m) (I := S.I) (G := Only S.E) (a0 := S.a0) hB hS hsz hl (fun i v w w' ht hg => tys_stb h3 i v w w' ht hg) (fun i o hi ho => h5 i o (Nat.zero_le _) (by rw [hlen]; simpa using hi) ho) hd (fun f w' k hk hI ht hc => h4 f w' k hk hI ht hc) S.ops.size (Array.replicate S.ops.size false) S.a0 _ 0 (by omega) (by simp) ?_ ?_ ?_)
  · unfold open_
    exact Nat.le_trans List.countP_le_length (by simp)
  · intro i h1 h2
    simp [Array.getD, h2]
  · have e : (fun i => (Array.replicate S.ops.size false).getD i false) = fun _ => false := by
      funext i
      by_cases h : i < S.ops.size <;> simp [Array.getD, h]
    rw [e]
    refine ⟨(fun j o hj => (by cases hj)), ⟨fun _ => undef, Is.start S.a0 _, ⟨?_, Only.drew _ _, hO.keep _ _ _ hJ (Only.drew _ _)⟩, (fun i hi => (by cases hi)), (fun i o t j hi => (by cases hi))⟩⟩
    cases hrd : S.rd with
    | none => trivial
    | some x =>
      rw [hrd] at hr
      exact Rd.drew1 hr
end Go.Proofs.Ytkkkjbinfdohpaa

namespace Go.Proofs.Ytkkkjbinfdohpaa
open Go.RowKit
/-! Drawn regions with a copy: append onto an empty literal. -/
section
variable {P : Program}
theorem run_append_lit (w : World) (base : Nat) (t ty e : TypeId) (i : TypeInfo) (z : Value) (size bytes : Nat) (ht : P.underlying t = some (.slice e)) (hi : P.info? e = some i) (hz : i.zero = some z)
    (hsize : i.size = size) (hby : i.bytes = bytes) (hzs : z.cells.size = size) (hsz : 0 < size)
    (g : Nat) (hg : w.heap[g]? = some (.cells #[] e (0, 0))) (sv : Value) (m : Nat) (news : List Value) (hr : Row w size sv m news) (h1 : ∀ u ∈ news, u.oneCell' = true)
    (h63 : m ≤ maxLen) (hbytes : m * bytes ≤ 140737488355328) (hbase : base ≤ g) :
    ∃ v' w', (Builtin.append_ #[t, t] ty #[.slice (some ⟨g, 0, none⟩) 0 0, sv]).run P w = .ok v' w' ∧ w'.ownsRow base e size v' m news ∧ Below w.heap.size w w' := by
  have hgl : g < w.heap.size := (Array.getElem?_eq_some_iff.1 hg).1
  have hown : w.ownsRow base e size (.slice (some ⟨g, 0, none⟩) 0 0) 0 [] := ⟨by simp, .inr ⟨g, 0, #[], rfl, hbase, hg, Nat.le_refl _, by unfold maxLen; omega, by simp, by simp⟩⟩
  obtain ⟨hl, A, c, rfl, hc1, hc2, hcell⟩ := hr
  subst hsize
  subst hby
  rcases Nat.eq_zero_or_pos m with h0 | h0
  · subst h0
    have hn : news = [] := List.eq_nil_of_length_eq_zero (by simpa using hl)
    subst hn
    cases A with
    | none =>
      refine ⟨_, w, ?_, hown, Below.refl _ _⟩
      simp [Builtin.append_, run_underlying ht, sizeOf, typeInfo, hi, Builtin.lenOf, Builtin.firstCells, storeCells]
    | some a =>
      have hr := run_append_room (P := P) w t ty e i ht hi g 0 0 #[] hg a 0 c [] (by simp) (fun j u h => by simp at h) (fun u h => by simp at h) (Nat.le_refl _) (by simp)
      refine ⟨_, _, hr, ⟨by simp, .inr ⟨g, 0, _, rfl, hbase, setRow_heap w g #[] _ e _ hg, Nat.le_refl _, by unfold maxLen; omega, by simp, by simp⟩⟩, ⟨rfl, rfl, rfl, by simp, fun k hk => ?_⟩⟩
      by_cases e' : k = g
      · subst e'
        rw [setRow_heap w k #[] _ e _ hg, hg]
        simp
      · exact setRow_other w g k _ e'
  · obtain ⟨b, o, hA, _, hc⟩ := hcell h0
    subst hA
    have hr := run_append_grow (P := P) w t ty e i z ht hi hz ⟨g, 0, none⟩ 0 0 [] (by simp) (fun j u h => by simp at h) ⟨b, o, none⟩ m c news hl (fun j u hj => by rw [Go.WideShapes.add_plain]; exact hc j u hj) (by omega) (by unfold maxLen at h63; omega) (growslice_fits (by omega) (by rw [Nat.zero_add]; exact hbytes))
    have hge := grownCap_ge w (0 + m) 0 e
    have hcm : grownCap w (0 + m) 0 e ≤ maxLen := grownCap_le_maxLen w (0 + m) 0 e (by omega)
    rw [Nat.zero_add] at hr hge hcm
    refine ⟨_, _, hr, ⟨by rw [hl], .inr ⟨w.heap.size, _, _, rfl, by omega, heap_alloc_new w.drew _, hge, hcm, ?_, ?_⟩⟩, ⟨rfl, rfl, rfl, by simp, fun k hk => heap_alloc_old w.drew _ hk⟩⟩
    · simp only [Array.size_append, List.size_toArray, size_zeroCells, hzs, hl, List.length_nil, Nat.zero_add, ← Nat.add_mul]
      congr 1
      omega
    · simp only [Array.toList_append, List.nil_append]
      rw [← hl]
      exact List.take_left
end
def TLit0 (B : Nat) (e : TypeId) : Ty := fun w v => ∃ g, v = .slice (some ⟨g, 0, none⟩) 0 0 ∧ B ≤ g ∧ w.heap[g]? = some (.cells #[] e (0, 0))
theorem stb_lit0 {E : Nat → Prop} {B : Nat} (hE : ∀ g, E g → g < B) (e : TypeId) : Stb E (TLit0 B e) := fun v w w' ⟨g, h1, h2, h3⟩ ho =>
  ⟨g, h1, h2, (ho.block g (Array.getElem?_eq_some_iff.1 h3).1 (fun h => by have := hE g h; omega)).trans h3⟩
section
variable {S : RS} {Fin : List Ty → Prop} {o : Oper} {l : List Oper} {i : Nat} {τs : List Ty}
/-- An empty literal. -/
theorem rs_build0 (hO : S.Ok) (hid : i ≠ S.d ∨ ∀ ov w, S.J ov w) (e : TypeId)
    (h : ∀ ρ w, (execOp ρ o).run S.P w = .ok (.value (.slice (some ⟨w.heap.size, 0, none⟩) 0 0)) (w.alloc (.cells #[] e)))
    (rest : RSeq S Fin l (i + 1) (TLit0 S.w0.heap.size e :: τs)) : RSeq S Fin (o :: l) i τs :=
  rs_alloc hO hid _ (stb_lit0 hO.low e) (fun ρ w hon _ => ⟨_, _, h ρ w, w.heap.size, rfl, hon.size, heap_alloc_new _ _⟩) rest
/-- A copy. -/
theorem rs_appendF (hO : S.Ok) (hid : i ≠ S.d ∨ ∀ ov w, S.J ov w) (e t : TypeId) (size m : Nat) (sv : Value) (news : List Value) (hrd : S.rd = none)
    (x y : Nat) (ho : o.op = .call { callee := .builtin .append, args := #[.tmp x, .tmp y], argTypes := #[t, t] }) (jx jy : Nat) (hx : writer S.ops i x = some jx) (hy : writer S.ops i y = some jy) (hTx : tys τs jx = TLit0 S.w0.heap.size e) (hTy : tys τs jy = TEq sv)
    (hrow : ∀ w, Only S.E S.w0 w → Row w size sv m news)
    (inf : TypeInfo) (z : Value) (bytes : Nat) (ht : S.P.underlying t = some (.slice e)) (hi : S.P.info? e = some inf) (hz : inf.zero = some z) (hsize : inf.size = size) (hby : inf.bytes = bytes) (hzs : z.cells.size = size) (hsz : 0 < size) (h63 : m ≤ 1000000) (hbb : bytes ≤ 1000) (hone : ∀ u ∈ news, u.oneCell' = true)
    (rest : RSeq S Fin l (i + 1) (TOwn S.w0.heap.size e size m news :: τs)) : RSeq S Fin (o :: l) i τs := by
  refine rs_plain hO hid _ (stb_own hO.low e size m news) (fun k ρ w _ hr hon hK => ?_) rest
  rw [ho] at hK
  have h1 := hK.1
  have h2 := hK.2.1
  rw [hx] at h1
  rw [hy] at h2
  simp only [hTx] at h1
  simp only [hTy] at h2
  obtain ⟨g, h1', hB, hg⟩ := h1
  have h2' : ρ (.tmp y) = sv := h2
  obtain ⟨v', w', hrun, hown', hbl⟩ := run_append_lit (P := S.P) w S.w0.heap.size t o.type e inf z size bytes ht hi hz hsize hby hzs hsz g hg sv m news (hrow w hon) hone (by unfold maxLen; omega) (Nat.le_trans (Nat.mul_le_mul h63 hbb) (by decide)) hB
  have hre : (execOp ρ o).run S.P w = .ok (.value v') w' := by
    unfold execOp
    simp only [ho, resolve, invoke, builtin, Sem.run_bind, Sem.run_pure, Result.andThen_ok, List.map_toArray, List.map_cons, List.map_nil, h1', h2', hrun]
  unfold Good
  rw [hre]
  refine ⟨hown', ?_, Only.of_below _ hbl⟩
  rw [hrd]; trivial
end
end Go.Proofs.Ytkkkjbinfdohpaa

namespace Go.Proofs.Ytkkkjbinfdohpaa
open Go.RowKit
/-! Slices of slices of the call's own, whose blocks are among a set. -/
section
variable {α : Type} {enc : List α → List Value} {w w' : World} {v : Value} {xss : List (List α)}
/-- A slice of the call's own whose elements are slices of the call's own, all in blocks apart; tO and ti: the types of the cells; its blocks are among E. -/
def OwnSE (enc : List α → List Value) (tO ti : TypeId) (B : Nat) (E : Nat → Prop) (w : World) (v : Value) (xss : List (List α)) : Prop :=
  ∃ vs : List Value, vs.length = xss.length ∧ w.ownsRow B tO 1 v xss.length vs ∧ (∀ (i : Nat) (x : List α) (u : Value), xss[i]? = some x → vs[i]? = some u → w.ownsRow B ti 1 u x.length (enc x)) ∧
    vs.Pairwise Apart ∧ (∀ u ∈ vs, Apart u v) ∧ (∀ g, v.ownBlock = some g → E g) ∧ ∀ u ∈ vs, ∀ g, u.ownBlock = some g → E g
variable {tO ti : TypeId} {B : Nat} {E : Nat → Prop}
theorem OwnSE.at (h : OwnSE enc tO ti B E w v xss) : SSAt enc w v xss := by
  obtain ⟨vs, h1, h2, h3, _⟩ := h
  exact ⟨vs, h1, Row.of_own h2, fun i x u hx hu => Row.of_own (h3 i x u hx hu)⟩
theorem OwnSE.nil (enc : List α → List Value) (tO ti : TypeId) (B : Nat) (E : Nat → Prop) (w : World) : OwnSE enc tO ti B E w (.slice none 0 0) [] :=
  ⟨[], rfl, World.ownsRow_nil _ _ _ _, by simp, List.Pairwise.nil, by simp, by simp [Value.ownBlock], by simp⟩
theorem OwnSE.below (h : OwnSE enc tO ti B E w v xss) (hb : Below w.heap.size w w') : OwnSE enc tO ti B E w' v xss := by
  obtain ⟨vs, h1, h2, h3, h4⟩ := h
  exact ⟨vs, h1, own_below h2 hb, fun i x u hx hu => own_below (h3 i x u hx hu) hb, h4⟩
theorem OwnSE.mono {B' : Nat} {E' : Nat → Prop} (h : OwnSE enc tO ti B E w v xss) (hB : B' ≤ B) (hT : ∀ g, E g → E' g) : OwnSE enc tO ti B' E' w v xss := by
  obtain ⟨vs, h1, h2, h3, h4, h5, h6, h7⟩ := h
  exact ⟨vs, h1, own_mono h2 hB, fun i x u hx hu => own_mono (h3 i x u hx hu) hB, h4, h5, fun g hg => hT g (h6 g hg), fun u hu g hg => hT g (h7 u hu g hg)⟩
theorem OwnSE.only {X : Nat → Prop} (h : OwnSE enc tO ti B E w v xss) (ho : Only X w w') (hE : ∀ g, B ≤ g → E g → ¬ X g) : OwnSE enc tO ti B E w' v xss := by
  obtain ⟨vs, h1, h2, h3, h4, h5, h6, h7⟩ := h
  refine ⟨vs, h1, own_only h2 ho fun g hg => hE g (h2.lt g hg).1 (h6 g hg), fun i x u hx hu => own_only (h3 i x u hx hu) ho fun g hg => hE g ((h3 i x u hx hu).lt g hg).1 (h7 u (List.mem_of_getElem? hu) g hg), h4, h5, h6, h7⟩
/-- An element more, behind an append. -/
theorem OwnSE.snoc {v2 u : Value} {x : List α} {vs : List Value} (h1 : vs.length = xss.length) (h2 : w.ownsRow B tO 1 v2 (xss.length + 1) (vs ++ [u])) (h3 : ∀ (i : Nat) (x : List α) (u : Value), xss[i]? = some x → vs[i]? = some u → w.ownsRow B ti 1 u x.length (enc x))
    (hu : w.ownsRow B ti 1 u x.length (enc x)) (h4 : vs.Pairwise Apart) (h5 : ∀ z ∈ vs, Apart z v2) (h6 : ∀ z ∈ vs, Apart z u) (h7 : Apart u v2) (t2 : ∀ g, v2.ownBlock = some g → E g) (t1 : ∀ z ∈ vs, ∀ g, z.ownBlock = some g → E g) (t0 : ∀ g, u.ownBlock = some g → E g) :
    OwnSE enc tO ti B E w v2 (xss ++ [x]) := by
  refine ⟨vs ++ [u], by simp [h1], by simpa using h2, fun i x' u' hx' hu' => ?_, ?_, ?_, t2, ?_⟩
  · rcases Nat.lt_or_ge i xss.length with hi | hi
    · rw [List.getElem?_append_left hi] at hx'
      rw [List.getElem?_append_left (by omega)] at hu'
      exact h3 i _ _ hx' hu'
    · rw [List.getElem?_append_right hi] at hx'
      rw [List.getElem?_append_right (by omega), h1] at hu'
      rcases hj : i - xss.length with _ | j
      · rw [hj] at hx' hu'
        simp at hx' hu'
        subst hx' hu'
        exact hu
      · rw [hj] at hx'
        simp at hx'
  · rw [List.pairwise_append]
    exact ⟨h4, by simp, fun a ha b hb => by rw [List.mem_singleton.1 hb]; exact h6 a ha⟩
  · intro z hz
    rcases List.mem_append.1 hz with h | h
    · exact h5 z h
    · rw [List.mem_singleton.1 h]; exact h7
  · intro z hz
    rcases List.mem_append.1 hz with h | h
    · exact t1 z h
    · rw [List.mem_singleton.1 h]; exact t0
/-- An element of which the cells turn. -/
theorem OwnSE.update {j : Nat} {x' : List α} {vs : List Value} {u : Value} (h1 : vs.length = xss.length) (h2 : w.ownsRow B tO 1 v xss.length vs) (h3 : ∀ (i : Nat) (x : List α) (u : Value), xss[i]? = some x → vs[i]? = some u → w.ownsRow B ti 1 u x.length (enc x))
    (h4 : vs.Pairwise Apart) (h5 : ∀ u ∈ vs, Apart u v) (h6 : ∀ g, v.ownBlock = some g → E g) (h7 : ∀ u ∈ vs, ∀ g, u.ownBlock = some g → E g) (hu : vs[j]? = some u) (hg : w.grownBy w' u.ownBlock) (hx : w'.ownsRow B ti 1 u x'.length (enc x')) :
    OwnSE enc tO ti B E w' v (xss.set j x') := by
  have hum := List.mem_of_getElem? hu
  refine ⟨vs, by simp [h1], by rw [List.length_set]; exact own_kept h2 hg fun g hg' e => h5 u hum g e hg', fun i x u' hi hu' => ?_, h4, h5, h6, h7⟩
  by_cases hij : j = i
  · subst hij
    rw [hu] at hu'
    obtain rfl := Option.some.inj hu'
    rw [List.getElem?_set] at hi
    simp at hi
    obtain ⟨_, rfl⟩ := hi
    exact hx
  · rw [List.getElem?_set_ne hij] at hi
    refine own_kept (h3 i x u' hi hu') hg fun g hg' e => ?_
    have hp := List.pairwise_iff_getElem.1 h4
    obtain ⟨hjl, rfl⟩ := List.getElem?_eq_some_iff.1 hu
    obtain ⟨hil, rfl⟩ := List.getElem?_eq_some_iff.1 hu'
    rcases Nat.lt_or_ge j i with hlt | hge
    · exact hp j i hjl hil hlt g e hg'
    · exact hp i j hil hjl (by omega) g hg' e
end
theorem OwnSE.raw {α : Type} {enc : List α → List Value} {tO ti : TypeId} {B : Nat} {E : Nat → Prop} {w : World} {v : Value} {xss : List (List α)} (hl : ∀ x, (enc x).length = x.length) (h : OwnSE enc tO ti B E w v xss) : OwnSE id tO ti B E w v (xss.map enc) := by
  obtain ⟨vs, h1, h2, h3, h4⟩ := h
  refine ⟨vs, by simp [h1], by simpa using h2, fun i x u hx hu => ?_, h4⟩
  rw [List.getElem?_map] at hx
  obtain ⟨x', hx', rfl⟩ := Option.map_eq_some_iff.1 hx
  rw [hl]
  exact h3 i x' u hx' hu
/-- A row more, behind an append. -/
theorem se_append {α : Type} {enc : List α → List Value} {tO ti : TypeId} {B : Nat} {E : Nat → Prop} {w w' : World} {v v' u : Value} {x : List α} {xss : List (List α)} {vs : List Value}
    (q1 : vs.length = xss.length) (q3 : ∀ (i : Nat) (x : List α) (u : Value), xss[i]? = some x → vs[i]? = some u → w.ownsRow B ti 1 u x.length (enc x)) (q4 : vs.Pairwise Apart) (q5 : ∀ u ∈ vs, Apart u v) (q6 : ∀ g, v.ownBlock = some g → E g) (q7 : ∀ u ∈ vs, ∀ g, u.ownBlock = some g → E g)
    (hu : w.ownsRow B ti 1 u x.length (enc x)) (hne : ∀ g, u.ownBlock = some g → ¬ E g) (hown : w'.ownsRow B tO 1 v' (xss.length + 1) (vs ++ [u])) (hg : w.grownBy w' v.ownBlock) (hat : v'.ownBlock = v.ownBlock ∨ v'.ownBlock = some w.heap.size) :
    OwnSE enc tO ti B (fun g => E g ∨ u.ownBlock = some g ∨ v'.ownBlock = some g) w' v' (xss ++ [x]) := by
  have hvs : ∀ z ∈ vs, ∀ g, z.ownBlock = some g → g < w.heap.size := fun z hz g hg => by
    obtain ⟨i, hi, rfl⟩ := List.mem_iff_getElem.1 hz
    exact ((q3 i _ _ (List.getElem?_eq_getElem (by omega)) (List.getElem?_eq_getElem hi)).lt g hg).2
  have huv : Apart u v' := fun g h1 h2 => by
    rcases hat with e | e
    · rw [e] at h2
      exact hne g h1 (q6 g h2)
    · rw [e] at h2
      have h3 := (hu.lt g h1).2
      have h4 := Option.some.inj h2
      omega
  have hzv : ∀ z ∈ vs, Apart z v' := fun z hz g h1 h2 => by
    rcases hat with e | e
    · rw [e] at h2
      exact q5 z hz g h1 h2
    · rw [e] at h2
      have h3 := hvs z hz g h1
      have h4 := Option.some.inj h2
      omega
  refine OwnSE.snoc (vs := vs) q1 hown (fun i x' u' hx hu' => own_kept (q3 i x' u' hx hu') hg fun g h1 h2 => q5 u' (List.mem_of_getElem? hu') g h1 h2) (own_kept hu hg fun g h1 h2 => hne g h1 (q6 g h2)) q4 hzv (fun z hz g h1 h2 => hne g h2 (q7 z hz g h1)) huv (fun g h => .inr (.inr h)) (fun z hz g h => .inl (q7 z hz g h)) (fun g h => .inr (.inl h))
theorem apart_new {w : World} {v v' u : Value} (h : Apart v u) (hat : v'.ownBlock = v.ownBlock ∨ v'.ownBlock = some w.heap.size) (hu : ∀ g, u.ownBlock = some g → g < w.heap.size) : Apart v' u := fun g h1 h2 => by
  rcases hat with e | e
  · rw [e] at h1
    exact h g h1 h2
  · rw [e] at h1
    have h3 := hu g h2
    have h4 := Option.some.inj h1
    omega
theorem OwnSS.se {α : Type} {enc : List α → List Value} {tO ti : TypeId} {B T : Nat} {w : World} {v : Value} {xss : List (List α)} (h : OwnSS enc tO ti B T w v xss) : OwnSE enc tO ti B (fun g => B ≤ g ∧ g < T) w v xss := by
  obtain ⟨vs, h1, h2, h3, h4, h5, h6, h7⟩ := h
  refine ⟨vs, h1, h2, h3, h4, h5, fun g hg => ⟨(h2.lt g hg).1, h6 g hg⟩, fun u hu g hg => ⟨?_, h7 u hu g hg⟩⟩
  obtain ⟨i, hi, rfl⟩ := List.mem_iff_getElem.1 hu
  exact ((h3 i _ _ (List.getElem?_eq_getElem (by omega)) (List.getElem?_eq_getElem hi)).lt g hg).1
end Go.Proofs.Ytkkkjbinfdohpaa

namespace Go.Proofs.Ytkkkjbinfdohpaa
open Go.RowKit
/-- What marking a slice of ints comes to. -/
def MarkedInts (B : Nat) (v : Value) (n k : Nat) (w : World) (e : Ending) (w' : World) : Prop :=
  e = .returned (.int .i64 ((k + n : Nat) : Int)) ∧ w'.ownsRow B 3 1 v n (runI k n) ∧ w.grownBy w' v.ownBlock
end Go.Proofs.Ytkkkjbinfdohpaa

namespace Go.Proofs.Ytkkkjbinfdohpaa
open Go.RowKit
set_option maxRecDepth 100000
/-! Slices of slices of ints. -/
theorem info_ints : (Try.prog.info? 23).map (fun i => (i.zero, i.size, i.bytes)) = some (some (.slice none 0 0), 1, 24) := by kernel_rfl
def OwnIntSS (B T : Nat) (w : World) (v : Value) (xss : List (List Int)) : Prop := OwnSS ints 23 3 B T w v xss
end Go.Proofs.Ytkkkjbinfdohpaa

namespace Go.Proofs.Ytkkkjbinfdohpaa
open Go.RowKit
set_option maxRecDepth 100000
theorem take_eq_get {α : Type} {xs ys : List α} {k : Nat} {x : α} (h : xs.take k = ys.take k) (hx : xs[k]? = some x) (hy : ys[k]? = some x) : xs.take (k + 1) = ys.take (k + 1) := by
  rw [take_snoc hx, take_snoc hy, h]
/-- Rows of values of the call's own, all apart, of such lengths. -/
def OwnIntSE (B : Nat) (E : Nat → Prop) (w : World) (v : Value) (xss : List (List Int)) : Prop := OwnSE ints 23 3 B E w v xss
def OwnVS (B : Nat) (E : Nat → Prop) (w : World) (v : Value) (rows : List (List Value)) : Prop := OwnSE id 23 3 B E w v rows
theorem OwnIntSE.raw {B : Nat} {E : Nat → Prop} {w : World} {v : Value} {xss : List (List Int)} (h : OwnIntSE B E w v xss) : OwnVS B E w v (xss.map ints) := OwnSE.raw ints_length h
/-- What marking comes to. -/
def MarkedSS (B : Nat) (E : Nat → Prop) (v : Value) (ns : List Nat) (k : Nat) (w : World) (e : Ending) (w' : World) : Prop :=
  e = .returned (.int .i64 ((k + ns.sum : Nat) : Int)) ∧ OwnVS B E w' v (runs k ns) ∧ Only (fun g => B ≤ g ∧ E g) w w'
theorem lens_get {rows : List (List Value)} {ns : List Nat} (hl : rows.map List.length = ns) {j : Nat} {n : Nat} (h : ns[j]? = some n) : ∃ r, rows[j]? = some r ∧ r.length = n := by
  subst hl
  rw [List.getElem?_map] at h
  obtain ⟨r, hr, rfl⟩ := Option.map_eq_some_iff.1 h
  exact ⟨r, hr, rfl⟩
end Go.Proofs.Ytkkkjbinfdohpaa

namespace Go.Proofs.Ytkkkjbinfdohpaa
/-! Machines, plainly. -/
/-- A machine as it lies in memory. -/
structure Mz where
  ins : Int
  next : List (List Int)
  out : List (List Int)
namespace Mac
def lenOk (ins : Int) (r : List Int) : Bool := decide ((r.length : Int) = ((2 ^ ins.toNat : Nat) : Int))
def inOk (limit x : Int) : Bool := decide (0 ≤ x ∧ x < limit)
def rowOk (ins limit : Int) (r : List Int) : Bool := lenOk ins r && r.all (inOk limit)
def sizes (m : Mz) : Bool := decide (0 ≤ m.ins ∧ m.ins ≤ 4 ∧ 1 ≤ m.next.length ∧ m.next.length ≤ 8 ∧ m.out.length = m.next.length)
def valid (m : Mz) : Bool := sizes m && (m.next.all (rowOk m.ins m.next.length) && m.out.all (rowOk m.ins 8))
/-- Row by row, as the reference looks at it. -/
def entOk (n : Int) (p : Int × Int) : Bool := inOk n p.1 && inOk 8 p.2
def pairOk (ins n : Int) (p : List Int × List Int) : Bool := lenOk ins p.1 && lenOk ins p.2 && (p.1.zip p.2).all (entOk n)
theorem all_zip {α β : Type} (f : α → Bool) (g : β → Bool) : ∀ (l : List α) (l' : List β), l.length = l'.length → (l.zip l').all (fun p => f p.1 && g p.2) = (l.all f && l'.all g)
  | [], [], _ => rfl
  | a :: l, b :: l', h => by
    rw [List.zip_cons_cons, List.all_cons, List.all_cons, List.all_cons, all_zip f g l l' (by simpa using h)]
    cases f a <;> cases g b <;> simp
  | [], _ :: _, h => by simp at h
  | _ :: _, [], h => by simp at h
theorem pair_row (ins n : Int) (p : List Int × List Int) : pairOk ins n p = (rowOk ins n p.1 && rowOk ins 8 p.2) := by
  unfold pairOk rowOk
  cases h1 : lenOk ins p.1
  · simp
  · cases h2 : lenOk ins p.2
    · simp
    · unfold lenOk at h1 h2
      rw [decide_eq_true_eq] at h1 h2
      have := all_zip (inOk n) (inOk 8) p.1 p.2 (by omega)
      simp only [Bool.true_and]
      exact this
theorem valid_zip (m : Mz) : valid m = (sizes m && (m.next.zip m.out).all (pairOk m.ins m.next.length)) := by
  unfold valid
  cases h : sizes m
  · rfl
  · unfold sizes at h
    rw [decide_eq_true_eq] at h
    rw [show (pairOk m.ins m.next.length) = fun p => rowOk m.ins m.next.length p.1 && rowOk m.ins 8 p.2 from funext (pair_row _ _), all_zip _ _ _ _ h.2.2.2.2.symm]
theorem sizes_cases {m : Mz} (h : sizes m = false) : m.ins < 0 ∨ (0 ≤ m.ins ∧ 4 < m.ins) ∨ (0 ≤ m.ins ∧ m.ins ≤ 4 ∧ (m.next.length : Int) < 1) ∨ (0 ≤ m.ins ∧ m.ins ≤ 4 ∧ (1 : Int) ≤ m.next.length ∧ (8 : Int) < m.next.length) ∨ (0 ≤ m.ins ∧ m.ins ≤ 4 ∧ (1 : Int) ≤ m.next.length ∧ (m.next.length : Int) ≤ 8 ∧ (m.out.length : Int) ≠ m.next.length) := by
  unfold sizes at h
  rw [decide_eq_false_iff_not] at h
  omega
theorem all_dropG {α : Type} {p : α → Bool} {l : List α} {k : Nat} {x : α} (h : l[k]? = some x) : (l.drop k).all p = (p x && (l.drop (k + 1)).all p) := by
  obtain ⟨hk, rfl⟩ := List.getElem?_eq_some_iff.1 h
  rw [List.drop_eq_getElem_cons hk, List.all_cons]
theorem zip_get {α β : Type} {l : List α} {l' : List β} {k : Nat} {x : α} {y : β} (h : l[k]? = some x) (h' : l'[k]? = some y) : (l.zip l')[k]? = some (x, y) := by
  rw [List.getElem?_zip_eq_some]
  exact ⟨h, h'⟩
end Mac
end Go.Proofs.Ytkkkjbinfdohpaa
