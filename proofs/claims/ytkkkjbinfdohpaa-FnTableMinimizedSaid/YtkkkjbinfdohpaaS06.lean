import Derived.Test.YtkkkjbinfdohpaaS05
import Derived.Test.YtkkkjbinfdohpaaS03
import Derived.Test.YtkkkjbinfdohpaaS04
import Derived.Test.YtkkkjbinfdohpaaProg
import Derived.Test.YtkkkjbinfdohpaaS01
import Derived.Lib.SmallJoins
import Derived.ProofKit
import Derived.Deep.Slices
import Derived.Deep.Fields
import Derived.ChangeSame
import Derived.Test.YtkkkjbinfdohpaaS02
import Derived.RegionTactic
set_option linter.unusedVariables false
set_option linter.unusedSimpArgs false
namespace Go.Proofs.Ytkkkjbinfdohpaa
open Go.RowKit
theorem minF_step {T N i : Nat} (L : List (Nat × Nat)) : Two.minF T N L (i + 1) = Two.minF T N (if Two.covers (L.eraseIdx i) T N then L.eraseIdx i else L) i := rfl
theorem implMin_any (t n : Int) (w : World) : Calls Try.prog 11 #[.int .i64 t, .int .i64 n] w (MinOut t n w) := by
  cases hf : fitsT t n
  · have hp : primesI t n = [] := by unfold primesI; rw [hf]; rfl
    have hm : minimalI t n = [] := by unfold minimalI; rw [hf]; rfl
    have Hp := Lib.hid hp
    have Hm := Lib.hid hm
    clear hp hm hf
    go_enter Try.func11, Try.ntmps11
    go_wp2_with fail
    refine (implPrimes_any t n _).mono ?_
    rintro e w1 ⟨v, rfl, hown, hb⟩
    rw [Hp.out] at hown
    obtain ⟨A, c, hv, hc, hcm⟩ := (Row.of_own hown).shape
    have HO := Lib.hid hown
    have HB := Lib.hid hb
    clear hown hb
    subst hv
    go_wp2_with fail
    go_loop [5, 6] (fun v i => v = .slice A 0 c ∧ i = .int .i64 (-1)) (fun _ _ => 0)
    case atStart => exact ⟨rfl, rfl⟩
    case round =>
      obtain ⟨rfl, rfl⟩ := hrel
      go_wp2_with fail
      go_ret
      exact ⟨_, rfl, by rw [Hm.out]; exact HO.out, HB.out⟩
  · obtain ⟨T, N, rfl, rfl, hN, hT2, hT⟩ := fitsT_nat hf
    have hp : primesI T N = Two.primes T N := by unfold primesI; rw [hf]; rfl
    have hm : minimalI T N = Two.minF T N (Two.primes T N) (Two.primes T N).length := by unfold minimalI; rw [hf]; rfl
    have Hp := Lib.hid hp
    have Hm := Lib.hid hm
    have HT2 := Lib.hid hT2
    have hlen := Two.primes_length (t := T) hN
    have Hmem : Hid (∀ k ∈ Two.primes T N, k.1 < 2 ^ N ∧ Two.fine k = true ∧ k.1 < 65536) := Lib.hid fun k hk => mem_primes_bd hN hk
    have Hwi : Hid (∀ k ∈ Two.primes T N, Two.within k T N = true) := Lib.hid (Two.primes_within T N)
    clear hp hm hf hT2
    go_enter Try.func11, Try.ntmps11
    go_wp2_with fail
    refine (implPrimes_any T N _).mono ?_
    rintro e w1 ⟨v, rfl, hown, hb⟩
    rw [Hp.out] at hown
    generalize Two.primes T N = Pr at *
    obtain ⟨A, c, hv, hc, hcm⟩ := (Row.of_own hown).shape
    have HO := Lib.hid hown
    have HB := Lib.hid hb
    clear hown hb
    subst hv
    unfold maxLen at hcm
    go_wp2_with fail
    go_loopw [5, 6] (fun v i wr => ∃ (j : Nat) (L : List (Nat × Nat)), j ≤ L.length ∧ L.length ≤ 81 ∧ i = .int .i64 ((j : Int) - 1) ∧ Hid (minimalI T N = Two.minF T N L j) ∧ Hid (∀ k ∈ L, k ∈ Pr) ∧ wr.ownsRow w.heap.size 35 2 v L.length (cubes (L.map intK)) ∧ Below w.heap.size w wr) (fun _ i _ => (intOf i + 1).toNat)
    case atStart => exact ⟨Pr.length, Pr, Nat.le_refl _, hlen, rfl, Hm, Lib.hid fun _ h => h, HO.out, HB.out⟩
    case round =>
      obtain ⟨j, L, hj, hL, rfl, hres, hsub, hown, hb⟩ := hrel
      have Hb := Lib.hid hb
      have Hown := Lib.hid hown
      have hz := hb.size
      clear hb hown HO HB
      by_cases hj0 : 0 < j
      · obtain ⟨i, rfl⟩ : ∃ i, j = i + 1 := ⟨j - 1, by omega⟩
        have hji : (((i + 1 : Nat) : Int) - 1) = (i : Int) := by omega
        rw [hji]
        clear hji
        have hlm : (L.map intK).length = L.length := List.length_map _
        have Hlm := Lib.hid hlm
        obtain ⟨A2, c2, hv2, hc2, hcm2⟩ := (Row.of_own Hown.out).shape
        subst hv2
        unfold maxLen at hcm2
        go_wp2_with fail
        have hcl := clone_any w.heap.size _ (L.map intK) wr (by rw [hlm]; exact Hown.out) (by rw [hlm]; omega)
        refine hcl.mono ?_
        rintro e w2 ⟨v2, rfl, hown2, hb2⟩
        clear hcl
        obtain ⟨g, cap, hv, hgb, hgl, hnc, hcm3⟩ := own_open hown2 (by omega)
        subst hv
        rw [hlm] at hown2
        have Ho2 := Lib.hid hown2
        have HoL2 := Lib.hid (own_below Hown.out hb2)
        have Hb2 := Lib.hid (Hb.out.trans (hb2.mono hz))
        clear hown2 hb2 hlm
        go_wp2_with fail
        have hdel := delete_any wr.heap.size g cap (L.map intK) i w2 (by rw [Hlm.out]; exact Ho2.out) (by rw [Hlm.out]; omega) (by rw [Hlm.out]; omega)
        rw [Hlm.out] at hdel
        refine hdel.mono ?_
        rintro e w3 ⟨v3, rfl, hown3, hg3⟩
        clear hdel
        rw [erase_map, List.length_map] at hown3
        have Ho3 := Lib.hid (own_mono hown3 hz)
        have HoL3 := Lib.hid (own_kept HoL2.out hg3 (fun q hq h => by
          have h1 := (Hown.out.lt q hq).2
          have h2 := Option.some.inj h
          omega))
        have Hb3 := Lib.hid (Hb2.out.grown hg3 Hb2.out.size (fun k hk => by have h2 := Option.some.inj hk; omega))
        have hz3 := Hb3.out.size
        clear hown3 hg3 Ho2 HoL2 Hb2 Hown Hb
        have hsub' : ∀ k ∈ L.eraseIdx i, k ∈ Pr := fun k hk => hsub.out k (List.mem_of_mem_eraseIdx hk)
        have hlen' : (L.eraseIdx i).length = i + (L.length - (i + 1)) := by rw [List.length_eraseIdx_of_lt (by omega)]; omega
        have hcov : coverI N ((L.eraseIdx i).map intK) = (Two.tableOf (L.eraseIdx i) N : Int) := cover_nat hN (by omega) (fun k hk => ⟨(Hmem.out k (hsub' k hk)).1, (Hmem.out k (hsub' k hk)).2.1⟩)
        have hiff := Two.table_covers (l := L.eraseIdx i) HT2.out (fun k hk => Hwi.out k (hsub' k hk))
        have hstep := minF_step (T := T) (N := N) (i := i) L
        have Hsub' := Lib.hid hsub'
        have Hlen' := Lib.hid hlen'
        have hcc := implCover_any v3 ((L.eraseIdx i).map intK) N w3 (cubesN_own Ho3.out) (fun k hk => by
          obtain ⟨k', hk', rfl⟩ := List.mem_map.1 hk
          obtain ⟨h1, h2, h3⟩ := Hmem.out k' (Hsub'.out k' hk')
          have hle : k'.2 ≤ k'.1 := by
            have h4 : k'.2 &&& k'.1 = k'.2 := by unfold Two.fine at h2; rwa [beq_iff_eq] at h2
            rw [← h4]
            exact Nat.and_le_right
          unfold WfK intK
          simp only
          omega)
        clear hsub' hlen'
        cases hc : Two.covers (L.eraseIdx i) T N
        · rw [hc, if_neg (by simp)] at hstep
          rw [hcov] at hcc
          have hne : ((Two.tableOf (L.eraseIdx i) N : Int) == (T : Int)) = false := by
            rw [beq_eq_false_iff_ne]
            intro e
            have := hiff.1 (Int.ofNat.inj e)
            rw [hc] at this
            cases this
          have Hst := Lib.hid hstep
          generalize (Two.tableOf (L.eraseIdx i) N : Int) = R at *
          clear hcov hiff hstep hc
          go_wp2_with fail
          refine hcc.mono ?_
          rintro e w4 ⟨rfl, hb4⟩
          have HoL4 := Lib.hid (own_below HoL3.out hb4)
          have Hb4 := Lib.hid (Hb3.out.trans (hb4.mono hz3))
          clear hcc hb4 Ho3 HoL3 Hb3
          go_wp2_with fail
          go_roundw
          case rel => exact ⟨i, L, by omega, hL, rfl, Lib.hid (by rw [hres.out, Hst.out]), hsub, HoL4.out, Hb4.out⟩
          case measure => simp [intOf] <;> omega
        · rw [hc, if_pos rfl] at hstep
          rw [hcov, hiff.2 hc] at hcc
          have Hst := Lib.hid hstep
          clear hcov hiff hstep hc
          go_wp2_with fail
          refine hcc.mono ?_
          rintro e w4 ⟨rfl, hb4⟩
          have Ho4 := Lib.hid (own_below Ho3.out hb4)
          have Hb4 := Lib.hid (Hb3.out.trans (hb4.mono hz3))
          clear hcc hb4 Ho3 HoL3 Hb3
          go_wp2_with fail
          go_roundw
          case rel => exact ⟨i, L.eraseIdx i, by rw [Hlen'.out]; omega, by rw [Hlen'.out]; omega, rfl, Lib.hid (by rw [hres.out, Hst.out]), Hsub', Ho4.out, Hb4.out⟩
          case measure => simp [intOf] <;> omega
      · obtain rfl : j = 0 := by omega
        have HR : Hid (minimalI T N = L) := Lib.hid hres.out
        go_wp2_with fail
        go_ret
        exact ⟨_, rfl, by rw [HR.out]; exact Hown.out, Hb.out⟩
theorem minimalI_len (t n : Int) : (minimalI t n).length ≤ 81 := by
  cases hf : fitsT t n
  · unfold minimalI; rw [hf]; simp
  · obtain ⟨T, N, rfl, rfl, hN, _⟩ := fitsT_nat hf
    unfold minimalI; rw [hf]
    exact Nat.le_trans (Two.minF_length _ _) (Two.primes_length hN)
theorem primesI_len (t n : Int) : (primesI t n).length ≤ 81 := by
  cases hf : fitsT t n
  · unfold primesI; rw [hf]; simp
  · obtain ⟨T, N, rfl, rfl, hN, _⟩ := fitsT_nat hf
    unfold primesI; rw [hf]
    exact Two.primes_length hN
end Go.Proofs.Ytkkkjbinfdohpaa

namespace Go.Proofs.Ytkkkjbinfdohpaa
open Go.RowKit
set_option maxRecDepth 100000
/-! The value of a literal for an assignment. -/
def Cir.litA (d : Ci) (l x : Nat) : Bool := Cir.lit (Cir.vals d (Cir.bits (x / 2 ^ d.ins) d.next.length) (Cir.bits x d.ins)) l
set_option maxHeartbeats 4000000 in
theorem litValue_ok (v : Value) (d : Ci) (l x : Nat) (w : World) (h : CircAt w v (Cir.toCz d)) (hd : Cir.Ok d) (hv : Cir.valid (Cir.toCz d) = true) (hl : l < 2 * Cir.nvars d) (hx : x ≤ 1000000) :
    Calls Try.prog 13 #[v, .int .i64 l, .int .i64 x] w fun e w' => e = .returned (.bool (Cir.litA d l x)) ∧ Below w.heap.size w w' := by
  have l1 := hd.ins
  have l2 := hd.nexts
  have l3 := hd.gatess
  have hnv : Cir.nvars d ≤ 22 := by unfold Cir.nvars Cir.nfirst; omega
  have HC := Lib.hid h
  obtain ⟨vn, vg, vo, rfl, r1, r2, r3⟩ := h
  obtain ⟨An, cn, rfl, hcn, hcmn⟩ := NatsAt.shape (xs := d.next) r1
  have hins : (Cir.toCz d).ins = (d.ins : Int) := rfl
  rw [hins] at HC ⊢
  have hb0 := bel_new w (.cells #[.int .i64 d.ins, .slice An d.next.length cn, vg, vo] 26)
  have HC0 := Lib.hid (HC.out.below hb0)
  have PC := Lib.hid (PCells.boxed w d.ins (.slice An d.next.length cn) vg vo 26)
  have B := Lib.hid hb0
  have Hd := Lib.hid hd
  have Hv := Lib.hid hv
  have hq : (x : Int) / 2 ^ d.ins = ((x / 2 ^ d.ins : Nat) : Int) := by rw [Int.natCast_ediv, two_pow]
  have hxq : x / 2 ^ d.ins ≤ 1000000 := Nat.le_trans (Nat.div_le_self _ _) hx
  obtain ⟨R, hR⟩ : ∃ R, Cir.litA d l x = R := ⟨_, rfl⟩
  have HR : Hid (Cir.lit (Cir.vals d (Cir.bits (x / 2 ^ d.ins) d.next.length) (Cir.bits x d.ins)) l = R) := Lib.hid hR
  rw [hR]
  obtain ⟨xq, hxqe⟩ : ∃ xq, x / 2 ^ d.ins = xq := ⟨_, rfl⟩
  rw [hxqe] at hq hxq HR
  have HVL := Lib.hid (Cir.vals_length d (st := Cir.bits xq d.next.length) (inp := Cir.bits x d.ins) (Cir.bits_length _ _) (Cir.bits_length _ _))
  clear r1 r2 r3 hd hv hb0 hcn hcmn hins hxqe hR HC
  go_enter Try.func13, Try.ntmps13
  go_wp2_with fail
  generalize w.alloc (.cells #[.int .i64 d.ins, .slice An d.next.length cn, vg, vo] 26) = W at *
  obtain ⟨z, p0, p1, p2, p3⟩ := PC.out
  refine wp_region_rs (quietRS Try.prog _ W _) quietRS_ok (by kernel_rfl) (by kernel_rfl) (by kernel_rfl) (Nat.le_of_ble_eq_true rfl) trivial trivial ?_
  apply rs_eq quietRS_ok quiet_any
  · intro ρ w' ho hK
    have ho : Only _ W w' := ho
    obtain ⟨h0, -⟩ := hK
    have h0' : ρ (.tmp 3) = _ := h0
    have hb := only_below ho
    have q0 := (hb.cell (p := ⟨w.heap.size, 0, none⟩) z).trans p0
    have q1 := (hb.cell (p := ⟨w.heap.size, 1, none⟩) z).trans p1
    have q2 := (hb.cell (p := ⟨w.heap.size, 2, none⟩) z).trans p2
    have q3 := (hb.cell (p := ⟨w.heap.size, 3, none⟩) z).trans p3
    go_simp
    try exact rfl
  refine rs_old quietRS_ok quiet_any _ (.inl rfl) _ rfl rfl ?_
  apply rs_eq quietRS_ok quiet_any
  · intro ρ w' ho hK
    have ho : Only _ W w' := ho
    obtain ⟨h0, -⟩ := hK
    have h0' : ρ (.tmp 3) = _ := h0
    go_simp
    try exact rfl
  apply rs_eq quietRS_ok quiet_any
  · intro ρ w' ho hK
    have ho : Only _ W w' := ho
    obtain ⟨h0, -⟩ := hK
    have h0' : ρ (.tmp 10) = _ := h0
    have hb := only_below ho
    have q0 := (hb.cell (p := ⟨w.heap.size, 0, none⟩) z).trans p0
    have q1 := (hb.cell (p := ⟨w.heap.size, 1, none⟩) z).trans p1
    have q2 := (hb.cell (p := ⟨w.heap.size, 2, none⟩) z).trans p2
    have q3 := (hb.cell (p := ⟨w.heap.size, 3, none⟩) z).trans p3
    go_simp
    try exact rfl
  apply rs_eq quietRS_ok quiet_any
  · intro ρ w' ho hK
    have ho : Only _ W w' := ho
    obtain ⟨h0, h1, -⟩ := hK
    have h0' : ρ (.tmp 9) = _ := h0
    have h1' : ρ (.tmp 11) = _ := h1
    go_simp
    try exact rfl
  apply rs_eq quietRS_ok quiet_any
  · intro ρ w' ho hK
    have ho : Only _ W w' := ho
    obtain ⟨h0, -⟩ := hK
    have h0' : ρ (.tmp 3) = _ := h0
    go_simp
    try exact rfl
  apply rs_eq quietRS_ok quiet_any
  · intro ρ w' ho hK
    have ho : Only _ W w' := ho
    obtain ⟨h0, -⟩ := hK
    have h0' : ρ (.tmp 13) = _ := h0
    have hb := only_below ho
    have q0 := (hb.cell (p := ⟨w.heap.size, 0, none⟩) z).trans p0
    have q1 := (hb.cell (p := ⟨w.heap.size, 1, none⟩) z).trans p1
    have q2 := (hb.cell (p := ⟨w.heap.size, 2, none⟩) z).trans p2
    have q3 := (hb.cell (p := ⟨w.heap.size, 3, none⟩) z).trans p3
    go_simp
    try exact rfl
  apply rs_eq quietRS_ok quiet_any
  · intro ρ w' ho hK
    have ho : Only _ W w' := ho
    obtain ⟨h0, -⟩ := hK
    have h0' : ρ (.tmp 14) = _ := h0
    go_simp
    try exact rfl
  refine rs_call quietRS_ok quiet_any (TBools (Cir.bits xq d.next.length)) (stb_bools _) 52 _ _ rfl (fun ρ w' ho hK => by
    have ho : Only _ W w' := ho
    obtain ⟨h0, h1, h2, -⟩ := hK
    have h0' : ρ (.func 52) = .func (.func 52) #[] #[] := h0
    have h1' : ρ (.tmp 12) = _ := h1
    have h2' : ρ (.tmp 15) = _ := h2
    refine ⟨#[ρ (.tmp 12), ρ (.tmp 15)], ?_, ?_⟩
    · go_simp
    · rw [h1', h2']
      refine (bits_any xq d.next.length w' (by omega) (by omega)).mono ?_
      rintro e w2 ⟨v2, rfl, hO, hb⟩
      exact ⟨v2, rfl, Row.of_own hO, hb⟩) ?_
  refine rs_old quietRS_ok quiet_any _ (.inl rfl) _ rfl rfl ?_
  apply rs_eq quietRS_ok quiet_any
  · intro ρ w' ho hK
    have ho : Only _ W w' := ho
    obtain ⟨h0, -⟩ := hK
    have h0' : ρ (.tmp 3) = _ := h0
    go_simp
    try exact rfl
  apply rs_eq quietRS_ok quiet_any
  · intro ρ w' ho hK
    have ho : Only _ W w' := ho
    obtain ⟨h0, -⟩ := hK
    have h0' : ρ (.tmp 18) = _ := h0
    have hb := only_below ho
    have q0 := (hb.cell (p := ⟨w.heap.size, 0, none⟩) z).trans p0
    have q1 := (hb.cell (p := ⟨w.heap.size, 1, none⟩) z).trans p1
    have q2 := (hb.cell (p := ⟨w.heap.size, 2, none⟩) z).trans p2
    have q3 := (hb.cell (p := ⟨w.heap.size, 3, none⟩) z).trans p3
    go_simp
    try exact rfl
  refine rs_call quietRS_ok quiet_any (TBools (Cir.bits x d.ins)) (stb_bools _) 52 _ _ rfl (fun ρ w' ho hK => by
    have ho : Only _ W w' := ho
    obtain ⟨h0, h1, h2, -⟩ := hK
    have h0' : ρ (.func 52) = .func (.func 52) #[] #[] := h0
    have h1' : ρ (.tmp 17) = _ := h1
    have h2' : ρ (.tmp 19) = _ := h2
    refine ⟨#[ρ (.tmp 17), ρ (.tmp 19)], ?_, ?_⟩
    · go_simp
    · rw [h1', h2']
      refine (bits_any x d.ins w' (by omega) (by omega)).mono ?_
      rintro e w2 ⟨v2, rfl, hO, hb⟩
      exact ⟨v2, rfl, Row.of_own hO, hb⟩) ?_
  refine rs_call quietRS_ok quiet_any (TBools (Cir.vals d (Cir.bits xq d.next.length) (Cir.bits x d.ins))) (stb_bools _) 51 _ _ rfl (fun ρ w' ho hK => by
    have ho : Only _ W w' := ho
    obtain ⟨h0, h1, h2, h3, -⟩ := hK
    have h0' : ρ (.func 51) = .func (.func 51) #[] #[] := h0
    have h1' : ρ (.tmp 8) = _ := h1
    have h2' : (TBools (Cir.bits xq d.next.length)) w' (ρ (.tmp 16)) := h2
    have h3' : (TBools (Cir.bits x d.ins)) w' (ρ (.tmp 20)) := h3
    refine ⟨#[ρ (.tmp 8), ρ (.tmp 16), ρ (.tmp 20)], ?_, ?_⟩
    · go_simp
    · rw [h1']
      refine (evalVars_ok _ _ _ d _ _ w' (HC0.out.below (only_below ho)) Hd.out Hv.out h2' h3' (Cir.bits_length _ _) (Cir.bits_length _ _)).mono ?_
      rintro e w2 ⟨v2, rfl, hO, hb⟩
      exact ⟨v2, rfl, Row.of_own hO, hb⟩) ?_
  refine rs_same quietRS_ok quiet_any 21 13 (.inr rfl) rfl _ rfl ?_
  intro f w9 k9 hk9 hI9 ht9 hcp9
  have E0 : f 0 = _ := ht9 0 (Nat.le_of_ble_eq_true rfl)
  have E1 : f 1 = _ := ht9 1 (Nat.le_of_ble_eq_true rfl)
  conv at E1 => rhs; whnf
  have E2 : f 2 = _ := ht9 2 (Nat.le_of_ble_eq_true rfl)
  have E3 : f 3 = _ := ht9 3 (Nat.le_of_ble_eq_true rfl)
  have E4 : f 4 = _ := ht9 4 (Nat.le_of_ble_eq_true rfl)
  have E5 : f 5 = _ := ht9 5 (Nat.le_of_ble_eq_true rfl)
  have E6 : f 6 = _ := ht9 6 (Nat.le_of_ble_eq_true rfl)
  have E7 : f 7 = _ := ht9 7 (Nat.le_of_ble_eq_true rfl)
  have E8 : (TBools (Cir.bits xq d.next.length)) w9 (f 8) := ht9 8 (Nat.le_of_ble_eq_true rfl)
  have E9 : f 9 = _ := ht9 9 (Nat.le_of_ble_eq_true rfl)
  conv at E9 => rhs; whnf
  have E10 : f 10 = _ := ht9 10 (Nat.le_of_ble_eq_true rfl)
  have E11 : f 11 = _ := ht9 11 (Nat.le_of_ble_eq_true rfl)
  have E12 : (TBools (Cir.bits x d.ins)) w9 (f 12) := ht9 12 (Nat.le_of_ble_eq_true rfl)
  have E13 : (TBools (Cir.vals d (Cir.bits xq d.next.length) (Cir.bits x d.ins))) w9 (f 13) := ht9 13 (Nat.le_of_ble_eq_true rfl)
  have E14 : (TBools (Cir.vals d (Cir.bits xq d.next.length) (Cir.bits x d.ins))) w9 (f 14) := ht9 14 (Nat.le_of_ble_eq_true rfl)
  have Ho9 : Only _ W w9 := hI9.2.1
  have C14 : f 14 = f 13 := (hcp9 14 _ 21 13 rfl rfl rfl rfl).2
  simp only [putAll, E0, E1, E2, E3, E4, E5, E6, E7, E9, E10, E11, C14, Nat.zero_add, Nat.reduceAdd, Act.put, List.setIfInBounds_toArray, List.set_cons_succ, List.set_cons_zero]
  clear E0 E1 E2 E3 E4 E5 E6 E7 E9 E10 E11
  clear hI9 ht9 hcp9 hk9
  generalize f 8 = r8 at *
  generalize f 12 = r12 at *
  generalize f 13 = r13 at *
  have hb9 := only_below Ho9
  replace B := Lib.hid (B.out.trans (hb9.mono B.out.size))
  have HB9 := Lib.hid (show BoolsAt w9 r13 (Cir.vals d (Cir.bits xq d.next.length) (Cir.bits x d.ins)) from E13)
  clear hb9 Ho9 E8 E12 E13 z p0 p1 p2 p3 PC HC0 hq
  obtain ⟨V, hV⟩ : ∃ V, Cir.vals d (Cir.bits xq d.next.length) (Cir.bits x d.ins) = V := ⟨_, rfl⟩
  rw [hV] at HB9 HVL HR
  have hi : l / 2 < V.length := by rw [HVL.out]; omega
  obtain ⟨u, hu⟩ : ∃ u, V[l / 2]? = some u := ⟨_, List.getElem?_eq_getElem hi⟩
  have HL : Hid (R = (u != (l % 2 == 1))) := Lib.hid (HR.out.symm.trans (lit_of hu))
  obtain ⟨b, o, c', rfl, hbl, hs⟩ := boolsAt_cell HB9.out hu
  have hqd : (l : Int).tdiv 2 = ((l / 2 : Nat) : Int) := by rw [Int.tdiv_eq_ediv_of_nonneg (by omega)]; omega
  have hm := tmod_two l
  have he : (((l % 2 : Nat) : Int) == 1) = (l % 2 == 1) := by
    rw [Bool.eq_iff_iff, beq_iff_eq, beq_iff_eq]
    omega
  have hqb : l / 2 ≤ 1000000 := by omega
  clear hV hu HB9 HVL HR
  generalize V.length = n at *
  generalize l / 2 = q at *
  generalize l % 2 = r at *
  have hwr : IntKind.i64.wrap (q : Int) = q := IntWalk.i64_in _ (by omega)
  obtain ⟨bb, hbb⟩ : ∃ bb, (r == 1) = bb := ⟨_, rfl⟩
  rw [hbb] at he HL
  clear hbb
  go_wp2_with fail
  go_ret
  exact ⟨ret_bool HL.out.symm, B.out⟩
end Go.Proofs.Ytkkkjbinfdohpaa

namespace Go.Proofs.Ytkkkjbinfdohpaa
/-! The cover of a literal's table has the literal's values. -/
theorem Cir.tab_bit (c : Ci) (l : Nat) : ∀ k x, (Cir.tab c l k).testBit x = (decide (x < k) && Cir.lit (Cir.vals c [] (Cir.bits x c.ins)) l)
  | 0, x => by simp [Cir.tab]
  | k + 1, x => by
    have ih := Cir.tab_bit c l k x
    rw [Cir.tab]
    by_cases h : Cir.lit (Cir.vals c [] (Cir.bits k c.ins)) l = true
    · rw [if_pos h, ← Cir.tab_or, Nat.testBit_or, ih, Nat.testBit_two_pow]
      by_cases hx : k = x
      · subst hx
        simp [h]
      · have e1 : decide (x < k + 1) = decide (x < k) := by
          rw [decide_eq_decide]; omega
        rw [e1]
        simp [hx]
    · rw [if_neg h, Nat.add_zero, ih]
      by_cases hx : x = k
      · subst hx
        have h' : Cir.lit (Cir.vals c [] (Cir.bits x c.ins)) l = false := by simpa using h
        simp [h']
      · have e1 : decide (x < k + 1) = decide (x < k) := by
          rw [decide_eq_decide]; omega
        rw [e1]
theorem minimal_any {T N x : Nat} (hN : N ≤ 4) (hT : T < 2 ^ 2 ^ N) (hx : x < 2 ^ N) : (minimalI (T : Nat) (N : Nat)).any (Two.has · x) = T.testBit x := by
  have hf : fitsT (T : Nat) (N : Nat) = true := by
    unfold fitsT
    rw [decide_eq_true_eq]
    refine ⟨by omega, by omega, by omega, ?_⟩
    rw [Int.toNat_natCast]
    exact_mod_cast hT
  have hp : minimalI (T : Nat) (N : Nat) = Two.minF T N (Two.primes T N) (Two.primes T N).length := by unfold minimalI; rw [hf]; rfl
  rw [hp]
  have hc := Two.minF_covers (t := T) (n := N) (Two.primes T N).length (Two.primes T N) (Two.primes_cover hN)
  cases hb : T.testBit x
  · rw [List.any_eq_false]
    intro k hk hh
    have h1 := (Two.mem_implicants.1 (Two.mem_primes.1 (Two.minF_sub _ _ k hk)).1).2.2.2
    have h2 := (Two.within_iff k T N).1 h1 x hx hh
    rw [hb] at h2
    cases h2
  · exact Two.covers_iff.1 hc x hx hb
theorem tab_any {d : Ci} {m x : Nat} (hd : Cir.Ok d) (hn : d.next = []) (hx : x < 2 ^ d.ins) : (minimalI (Cir.tab d m (2 ^ d.ins) : Nat) (d.ins : Nat)).any (Two.has · x) = Cir.litA d m x := by
  rw [minimal_any hd.ins (Cir.tab_lt d m (2 ^ d.ins)) hx, Cir.tab_bit]
  unfold Cir.litA
  rw [hn]
  simp [hx, Cir.bits]
theorem minimal_bd {T N : Nat} (hN : N ≤ 4) : ∀ k ∈ minimalI (T : Nat) (N : Nat), k.1 < 16 ∧ k.2 < 16 := by
  intro k hk
  unfold minimalI at hk
  split at hk
  · have h1 := Two.mem_implicants.1 (Two.mem_primes.1 (Two.minF_sub _ _ k hk)).1
    rw [Int.toNat_natCast, Int.toNat_natCast] at h1
    have h6 : 2 ^ N ≤ 16 := Nat.pow_le_pow_right (show 0 < 2 by decide) hN
    exact ⟨by omega, by omega⟩
  · cases hk
end Go.Proofs.Ytkkkjbinfdohpaa

namespace Go.Proofs.Ytkkkjbinfdohpaa
set_option maxRecDepth 100000
open Go.RowKit Go.Joins Go.ChangeShapes Go.WideShapes Go.ChangeAt Go.Deep
/-! Arguments that are slices, whatever their elements. -/
theorem flat_at {α : Type} {size : Nat} : ∀ {els : List (List α)}, (∀ e ∈ els, e.length = size) → ∀ {j : Nat} {u : α}, els.flatten[j]? = some u → ∃ (i r : Nat) (e : List α), j = i * size + r ∧ r < size ∧ els[i]? = some e ∧ e[r]? = some u
  | [], _, j, u, h => by simp at h
  | e :: els, hl, j, u, h => by
    have he := hl e (by simp)
    rw [List.flatten_cons, List.getElem?_append] at h
    split at h
    · rename_i hlt
      exact ⟨0, j, e, by omega, by omega, rfl, h⟩
    · rename_i hge
      obtain ⟨i, r, e', hj, hr, hi, hu⟩ := flat_at (fun e' h' => hl e' (List.mem_cons_of_mem _ h')) h
      refine ⟨i + 1, r, e', ?_, hr, by simpa using hi, hu⟩
      rw [Nat.add_mul]
      omega
theorem flat_length {α : Type} {size : Nat} : ∀ {els : List (List α)}, (∀ e ∈ els, e.length = size) → els.flatten.length = els.length * size
  | [], _ => by simp
  | e :: els, h => by
    rw [List.flatten_cons, List.length_append, flat_length (fun e' h' => h e' (List.mem_cons_of_mem _ h')), h e (by simp), List.length_cons, Nat.add_mul]
    omega
section
variable {H : Type} {enc : TypeId × Value → H} {P : Program} {w : World} {base : Nat} {spare : Nat → Bool} {held : Bool}
theorem slice_rd {t e : TypeId} {size fuel : Nat} {cs : List Value} {x : DataW H × List MemPlace} (ht : P.underlying t = some (.slice e)) (hc : P.cellsOf e = size) (hs : 0 < size) (G : List Value → Prop)
    (hG : ∀ n cs' y, cs'.length = size → DataW.trod enc P w base spare held n e cs' = some y → G cs') (h : DataW.trod enc P w base spare held fuel t cs = some x) :
    ∃ (A : Option Addr) (n c : Nat) (els : List (List Value)), cs = [.slice A n c] ∧ Row w size (.slice A n c) n els.flatten ∧ els.length = n ∧ (∀ e ∈ els, e.length = size) ∧ ∀ e ∈ els, G e := by
  rcases open_slice ht h with ⟨rfl, _⟩ | ⟨a, len, cap, m, n, D, Pl, rfl, hb, hl, hm, hmm, _, hx⟩
  · exact ⟨none, 0, 0, [], rfl, Row.nil w size, rfl, by simp, by simp⟩
  · have hx' : ∀ i, i < len → ∃ cs', cs'.length = size ∧ (∀ j, j < size → w.cell? (a.add (i * size + j)) = cs'[j]?) ∧ G cs' := by
      intro i hi
      have him : i < m := by rw [hmm]; split <;> omega
      obtain ⟨cs', h1, h2⟩ := hx i him
      rw [hc] at h1
      obtain ⟨_, h3, h4⟩ := World.cells?_some h1
      refine ⟨cs', h3, fun j hj => ?_, hG _ _ _ h3 h2⟩
      rw [← Go.Deep.add_add]
      exact h4 j hj
    let f : Nat → List Value := fun i => if h : i < len then (hx' i h).choose else []
    have hf : ∀ i, i < len → (f i).length = size ∧ (∀ j, j < size → w.cell? (a.add (i * size + j)) = (f i)[j]?) ∧ G (f i) := by
      intro i hi
      have := (hx' i hi).choose_spec
      simp only [f, hi, dite_true]
      exact this
    have hel : ∀ e ∈ (List.range len).map f, e.length = size := by
      intro e he
      obtain ⟨i, hi, rfl⟩ := List.mem_map.1 he
      exact (hf i (List.mem_range.1 hi)).1
    refine ⟨some a, len, cap, (List.range len).map f, rfl, ⟨by rw [flat_length hel]; simp, some a, cap, rfl, hl, hm, fun hn => ?_⟩, by simp, hel, fun e he => ?_⟩
    · obtain ⟨b, off, spot⟩ := a
      obtain ⟨h5, h6, _⟩ := hf 0 hn
      have h0 := h6 0 hs
      rw [List.getElem?_eq_getElem (by omega)] at h0
      have hspot : spot = none := by simpa [Addr.add] using World.cell?_spot h0
      subst hspot
      refine ⟨b, off, rfl, ?_, fun j u hu => ?_⟩
      · rcases Nat.lt_or_ge b w.heap.size with hl | hl
        · exact hl
        · simp [World.cell?, Addr.add, Array.getElem?_eq_none hl] at h0
      · obtain ⟨i, r, e', rfl, hr, hi, hu'⟩ := flat_at hel hu
        have hil : i < len := by
          obtain ⟨hi', _⟩ := List.getElem?_eq_some_iff.1 hi
          simpa using hi'
        have : e' = f i := by simpa [hil] using hi.symm
        subst this
        rw [← Go.WideShapes.add_plain, (hf i hil).2.1 r hr]
        exact hu'
    · obtain ⟨i, hi, rfl⟩ := List.mem_map.1 he
      exact (hf i (List.mem_range.1 hi)).2.2
end
def WfI (x : Int) : Prop := -9223372036854775808 ≤ x ∧ x ≤ 9223372036854775807
theorem wf_i {x : Int} (h : (Lit.int .i64 x).wf = true) : WfI x := by
  have := Go.bounds_i64 h
  unfold WfI
  omega
/-- What the cells of the elements come to. -/
theorem els_of {α : Type} (f : α → List Value) (G : α → Prop) : ∀ {els : List (List Value)}, (∀ e ∈ els, ∃ x, e = f x ∧ G x) → ∃ xs : List α, els.flatten = xs.flatMap f ∧ xs.length = els.length ∧ ∀ x ∈ xs, G x
  | [], _ => ⟨[], rfl, rfl, by simp⟩
  | e :: els, h => by
    obtain ⟨xs, h1, h2, h3⟩ := els_of f G (fun e' h' => h e' (List.mem_cons_of_mem _ h'))
    obtain ⟨x, rfl, hx⟩ := h e (by simp)
    refine ⟨x :: xs, by simp [h1], by simp [h2], ?_⟩
    intro y hy
    rcases List.mem_cons.1 hy with e | hy
    · exact e ▸ hx
    · exact h3 y hy
theorem flatMap_one {α : Type} (f : α → Value) : ∀ xs : List α, (xs.flatMap fun x => [f x]) = xs.map f
  | [] => rfl
  | x :: xs => by rw [List.flatMap_cons, flatMap_one f xs]; rfl
/-- What is known of an argument's cells. -/
def GInts (w : World) (cs : List Value) : Prop := ∃ (A : Option Addr) (n c : Nat) (xs : List Int), cs = [.slice A n c] ∧ IntsAt w (.slice A n c) xs ∧ xs.length = n ∧ ∀ x ∈ xs, WfI x
def GBools (w : World) (cs : List Value) : Prop := ∃ (A : Option Addr) (n c : Nat) (xs : List Bool), cs = [.slice A n c] ∧ BoolsAt w (.slice A n c) xs ∧ xs.length = n
def GPairs (w : World) (cs : List Value) : Prop := ∃ (A : Option Addr) (n c : Nat) (xs : List (Int × Int)), cs = [.slice A n c] ∧ CubesAt w (.slice A n c) xs ∧ xs.length = n ∧ ∀ x ∈ xs, WfI x.1 ∧ WfI x.2
section
variable {H : Type} {enc : TypeId × Value → H} {w : World} {base : Nat} {spare : Nat → Bool} {held : Bool}
theorem rd_int {n : Nat} {cs : List Value} {y : DataW H × List MemPlace} (h : DataW.trod enc Try.prog w base spare held n 3 cs = some y) : ∃ x, cs = [.int .i64 x] ∧ WfI x := by
  obtain ⟨x, e, _, hw⟩ := DataW.trod_int Try.underlying3 h
  exact ⟨x, e, wf_i hw⟩
theorem rd_bool {n : Nat} {cs : List Value} {y : DataW H × List MemPlace} (h : DataW.trod enc Try.prog w base spare held n 4 cs = some y) : ∃ x, cs = [.bool x] := by
  obtain ⟨x, e, _⟩ := DataW.trod_bool Try.underlying4 h
  exact ⟨x, e⟩
theorem rd_ints {n : Nat} {cs : List Value} {y : DataW H × List MemPlace} (h : DataW.trod enc Try.prog w base spare held n 23 cs = some y) : GInts w cs := by
  obtain ⟨A, n, c, els, rfl, hr, rfl, _, hg⟩ := slice_rd (size := 1) Try.underlying23 (by kernel_rfl) (by decide) (fun cs => ∃ x, cs = [.int .i64 x] ∧ WfI x) (fun _ _ _ _ h => rd_int h) h
  obtain ⟨xs, h1, h2, h3⟩ := els_of (fun x : Int => [Value.int .i64 x]) WfI hg
  rw [flatMap_one] at h1
  exact ⟨A, _, c, xs, rfl, by rw [h1, ← h2] at hr; rw [← h2]; exact hr, h2, h3⟩
theorem rd_bools {n : Nat} {cs : List Value} {y : DataW H × List MemPlace} (h : DataW.trod enc Try.prog w base spare held n 69 cs = some y) : GBools w cs := by
  obtain ⟨A, n, c, els, rfl, hr, rfl, _, hg⟩ := slice_rd (size := 1) Try.underlying69 (by kernel_rfl) (by decide) (fun cs => ∃ x, cs = [.bool x]) (fun _ _ _ _ h => rd_bool h) h
  obtain ⟨xs, h1, h2, _⟩ := els_of (fun x : Bool => [Value.bool x]) (fun _ => True) (fun e he => by obtain ⟨x, hx⟩ := hg e he; exact ⟨x, hx, trivial⟩)
  rw [flatMap_one] at h1
  exact ⟨A, _, c, xs, rfl, by rw [h1, ← h2] at hr; rw [← h2]; exact hr, h2⟩
theorem rd_pair {t : TypeId} {f0 f1 : Field} (hs : Try.prog.underlying t = some (.struct #[f0, f1])) (h0 : f0.type = 3) (h1 : f1.type = 3) (hone : oneCellFields Try.prog #[f0, f1] = true) (hC : Try.prog.cellsOf t = 2) {n : Nat} {cs : List Value} {y : DataW H × List MemPlace} (hl : cs.length = 2) (h : DataW.trod enc Try.prog w base spare held n t cs = some y) : ∃ x : Int × Int, cs = [.int .i64 x.1, .int .i64 x.2] ∧ WfI x.1 ∧ WfI x.2 := by
  match cs, hl with
  | [c0, c1], _ =>
    obtain ⟨xs, n, _, hx, _, hlen, hg⟩ := DataW.trod_struct hs h
    obtain ⟨o0, k0⟩ := hone_of hone 0 f0 rfl
    obtain ⟨o1, k1⟩ := hone_of hone 1 f1 rfl
    match xs, hlen with
    | [y0, y1], _ =>
      have g0 : DataW.trod enc Try.prog w base spare held n f0.type [c0] = some y0 := by simpa [Value.cells, o0, k0] using hg 0 f0 rfl
      have g1 : DataW.trod enc Try.prog w base spare held n f1.type [c1] = some y1 := by simpa [Value.cells, o1, k1] using hg 1 f1 rfl
      rw [h0] at g0
      rw [h1] at g1
      obtain ⟨a, e0, w0⟩ := rd_int g0
      obtain ⟨b, e1, w1⟩ := rd_int g1
      injection e0 with e0
      injection e1 with e1
      subst e0 e1
      exact ⟨(a, b), rfl, w0, w1⟩
theorem rd_pairs {t e : TypeId} {f0 f1 : Field} (ht : Try.prog.underlying t = some (.slice e)) (hs : Try.prog.underlying e = some (.struct #[f0, f1])) (h0 : f0.type = 3) (h1 : f1.type = 3) (hone : oneCellFields Try.prog #[f0, f1] = true) (hC : Try.prog.cellsOf e = 2) {n : Nat} {cs : List Value} {y : DataW H × List MemPlace} (h : DataW.trod enc Try.prog w base spare held n t cs = some y) : GPairs w cs := by
  obtain ⟨A, n, c, els, rfl, hr, rfl, _, hg⟩ := slice_rd (size := 2) ht hC (by decide) (fun cs => ∃ x : Int × Int, cs = [.int .i64 x.1, .int .i64 x.2] ∧ WfI x.1 ∧ WfI x.2) (fun _ _ _ hl h => rd_pair hs h0 h1 hone hC hl h) h
  obtain ⟨xs, g1, g2, g3⟩ := els_of (fun x : Int × Int => [Value.int .i64 x.1, Value.int .i64 x.2]) (fun x => WfI x.1 ∧ WfI x.2) hg
  exact ⟨A, _, c, xs, rfl, by rw [g1, ← g2] at hr; rw [← g2]; exact hr, g2, g3⟩
end
theorem slice_val {P : Program} {w : World} {r : Reach} {b0 : Nat} {t e : TypeId} {v : Value} (ht : P.underlying t = some (.slice e)) (hv : Value.okWide P w r b0 t v) : ∃ A n c, v = .slice A n c := by
  simp only [Value.okWide, ht, Cell.okWide] at hv
  cases v <;> simp_all [Cell.ok]
section
variable {H : Type} {enc : TypeId × Value → H} {w : World} {r : Reach} {b0 base : Nat} {spare : Nat → Bool} {held : Bool} {v : Value} {d : DataW H} {p : List MemPlace}
/-- Arguments: an int, a slice of ints, of booleans, of pairs of ints. -/
def AInt (_ : World) (v : Value) : Prop := ∃ x : Int, v = .int .i64 x ∧ WfI x
theorem open_aint (hv : Value.okWide Try.prog w r b0 3 v) (h : DataW.Trod enc Try.prog w base spare held 3 v d p) : AInt w v := by
  obtain ⟨x, rfl, rfl, rfl, hw⟩ := open_int Try.underlying3 hv h
  exact ⟨x, rfl, wf_i hw⟩
def AInts (w : World) (v : Value) : Prop := ∃ xs : List Int, IntsAt w v xs ∧ ∀ x ∈ xs, WfI x
theorem open_aints (hv : Value.okWide Try.prog w r b0 23 v) (h : DataW.Trod enc Try.prog w base spare held 23 v d p) : AInts w v := by
  obtain ⟨A, n, c, rfl⟩ := slice_val Try.underlying23 hv
  obtain ⟨m, hm⟩ := h
  obtain ⟨A', n', c', xs, e, h1, h2, h3⟩ := rd_ints hm
  simp [Value.cells] at e
  obtain ⟨rfl, rfl, rfl⟩ := e
  exact ⟨xs, h1, h3⟩
def ABools (w : World) (v : Value) : Prop := ∃ xs : List Bool, BoolsAt w v xs
theorem open_abools (hv : Value.okWide Try.prog w r b0 69 v) (h : DataW.Trod enc Try.prog w base spare held 69 v d p) : ABools w v := by
  obtain ⟨A, n, c, rfl⟩ := slice_val Try.underlying69 hv
  obtain ⟨m, hm⟩ := h
  obtain ⟨A', n', c', xs, e, h1, h2⟩ := rd_bools hm
  simp [Value.cells] at e
  obtain ⟨rfl, rfl, rfl⟩ := e
  exact ⟨xs, h1⟩
def APairs (w : World) (v : Value) : Prop := ∃ xs : List (Int × Int), CubesAt w v xs ∧ ∀ x ∈ xs, WfI x.1 ∧ WfI x.2
end
end Go.Proofs.Ytkkkjbinfdohpaa

namespace Go.Proofs.Ytkkkjbinfdohpaa
set_option maxRecDepth 100000
open Go.RowKit Go.Joins Go.ChangeShapes Go.WideShapes Go.ChangeAt Go.Deep
section
variable {H : Type} {enc : TypeId × Value → H} {w : World} {r : Reach} {b0 base : Nat} {spare : Nat → Bool} {held : Bool} {v : Value} {d : DataW H} {p : List MemPlace}
/-- A circuit, as an argument. -/
def ACirc (w : World) (v : Value) : Prop := ∃ c : Cz, CircAt w v c ∧ WfI c.ins ∧ (∀ x ∈ c.next, WfI x) ∧ (∀ x ∈ c.gates, WfI x.1 ∧ WfI x.2) ∧ (∀ x ∈ c.outs, WfI x)
end
theorem CircAt.shape {w : World} {v : Value} {c : Cz} (h : CircAt w v c) : ∃ An cn Ag cg Ao co, v = .agg #[.int .i64 c.ins, .slice An c.next.length cn, .slice Ag c.gates.length cg, .slice Ao c.outs.length co] := by
  obtain ⟨vn, vg, vo, rfl, r1, r2, r3⟩ := h
  obtain ⟨An, cn, rfl, -⟩ := Row.shape r1
  obtain ⟨Ag, cg, rfl, -⟩ := Row.shape r2
  obtain ⟨Ao, co, rfl, -⟩ := Row.shape r3
  exact ⟨An, cn, Ag, cg, Ao, co, rfl⟩
def TCirc (c : Cz) : Ty := fun w v => CircAt w v c
theorem stb_circ (c : Cz) : Stb (fun _ => False) (TCirc c) := fun _ _ _ h ho => h.below (only_below ho)
/-- A circuit in a box of the law's. -/
structure BoxC (w : World) (g : Nat) (c : Cz) (vn vg vo : Value) : Prop where
  pc : PCells w g c.ins vn vg vo
  at_ : CircAt w (.agg #[.int .i64 c.ins, vn, vg, vo]) c
theorem BoxC.below {w w' : World} {g : Nat} {c : Cz} {vn vg vo : Value} (h : BoxC w g c vn vg vo) (hb : Below w.heap.size w w') : BoxC w' g c vn vg vo := ⟨h.pc.below hb, h.at_.below hb⟩
theorem BoxC.made {w : World} {c : Cz} {vn vg vo : Value} (t : TypeId) (h : CircAt w (.agg #[.int .i64 c.ins, vn, vg, vo]) c) : BoxC (w.alloc (.cells #[.int .i64 c.ins, vn, vg, vo] t)) w.heap.size c vn vg vo :=
  ⟨PCells.boxed _ _ _ _ _ _, h.below ((Below.refl _ _).alloc (Nat.le_refl _) _)⟩
end Go.Proofs.Ytkkkjbinfdohpaa

namespace Go.Proofs.Ytkkkjbinfdohpaa
open Go.RowKit
/-! alive: the circuit without anything is valid. -/

theorem append_nil_nil (w : World) : (Builtin.append_ #[23, 23] 23 #[.slice none 0 0, .slice none 0 0]).run Try.prog w = .ok (.slice none 0 0) w := by kernel_rfl

theorem roots_zero (g : Nat) (w : World) (h1 : w.cell? ⟨g, 1, none⟩ = some (.slice none 0 0)) (h3 : w.cell? ⟨g, 3, none⟩ = some (.slice none 0 0)) :
    Calls Try.prog 81 #[.pointer (some ⟨g, 0, none⟩)] w fun e w' => e = .returned (.slice none 0 0) ∧ Drew w w' := by
  have hap := append_nil_nil
  go_enter Try.func81, Try.ntmps81
  go_wp2_with fail
  go_quiet (fail)
  go_wp2_with fail
  go_ret
  exact ⟨rfl, Drew.by _ _⟩

theorem valid_zero (w : World) : Calls Try.prog 38 #[.agg #[.int .i64 0, .slice none 0 0, .slice none 0 0, .slice none 0 0]] w fun e w' => e = .returned (.bool true) ∧ Below w.heap.size w w' := by
  go_enter Try.func38, Try.ntmps38
  go_wp2
  go_loop [44] (fun i => i = .int .i64 0) (fun _ => 0)
  case atStart => rfl
  case round =>
    obtain rfl := hrel
    go_wp2_with fail
    refine (roots_zero w.heap.size _ ?_ ?_).mono ?_
    · simp [World.cell?_alloc_new]
    · simp [World.cell?_alloc_new]
    rintro e w' ⟨rfl, hd⟩
    go_wp2
    go_loop [68] (fun i => i = .int .i64 0) (fun _ => 0)
    case atStart => rfl
    case round =>
      obtain rfl := hrel
      go_wp2
      go_ret
      exact ⟨rfl, ((Below.refl _ _).alloc (Nat.le_refl _) _).trans (hd.below _)⟩

theorem alive_any (w : World) : Calls Try.prog 10 #[] w fun e w' => e = .returned (.bool true) ∧ Below w.heap.size w w' := by
  go_enter Try.func10, Try.ntmps10
  go_wp2_with (go_at_call 38; refine (valid_zero _).mono ?_; rintro e w' ⟨rfl, hb⟩)
  go_ret
  exact ⟨rfl, hb⟩
end Go.Proofs.Ytkkkjbinfdohpaa
