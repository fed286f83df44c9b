import Derived.Test.YtdgminjbgjbamaaS04
import Derived.Test.YtdgminjbgjbamaaS02
import Derived.Test.YtdgminjbgjbamaaS01
set_option linter.unusedVariables false
set_option linter.unusedSimpArgs false
namespace Go.Proofs.Ytdgminjbgjbamaa
open Go.RowKit
set_option maxRecDepth 100000
/-! Reachable, by the reference; both, for all circuits. -/
set_option maxHeartbeats 4000000 in
theorem specReach_ok (v : Value) (d : Ci) (w : World) (h : CircAt w v (Cir.toCz d)) (hd : Cir.Ok d) (hv : Cir.valid (Cir.toCz d) = true) :
    Calls Try.prog 50 #[v] w (OwnInts (nats (Cir.reach d)) w) := by
  have l1 := hd.ins
  have l2 := hd.nexts
  have HC := Lib.hid h
  obtain ⟨vn, vg, vo, rfl, r1, r2, r3⟩ := h
  have hins : (Cir.toCz d).ins = (d.ins : Int) := rfl
  rw [hins] at HC ⊢
  have B0 := Lib.hid (bel_new w (.cells #[.int .i64 d.ins, vn, vg, vo] 26))
  have hsz : (w.alloc (.cells #[.int .i64 d.ins, vn, vg, vo] 26)).heap.size = w.heap.size + 1 := by simp
  have PC := Lib.hid (PCells.boxed w d.ins vn vg vo 26)
  obtain ⟨z, p0, p1, p2, p3⟩ := PC.out
  have HC := Lib.hid (HC.out.below B0.out)
  have HV := Lib.hid (specValid_any _ _ _ HC.out)
  rw [hv] at HV
  have Hd := Lib.hid hd
  obtain ⟨M, e, hM⟩ : ∃ M : Nat, (2 : Int) ^ d.ins = (M : Int) ∧ M = 2 ^ d.ins := ⟨2 ^ d.ins, two_pow d.ins, rfl⟩
  have hM16 : M ≤ 16 := by rw [hM]; exact Nat.pow_le_pow_right (show 0 < 2 by decide) l1
  have hwM := IntWalk.i64_in (M : Int) (by omega)
  have HM := Lib.hid hM
  clear r1 r2 r3 hd hins hM hv
  go_enter Try.func50, Try.ntmps50
  go_wp2_with fail
  generalize w.alloc (.cells #[.int .i64 d.ins, vn, vg, vo] 26) = W at *
  refine HV.out.mono ?_
  rintro e w1 ⟨rfl, hb1⟩
  have B1 := Lib.hid (B0.out.trans (hb1.mono B0.out.size))
  have HC1 := Lib.hid (HC.out.below hb1)
  have PC1 := Lib.hid (PC.out.below hb1)
  have z1 := hb1.size
  clear hb1 p0 p1 p2 p3 z HV HC PC
  have Hlit : Hid ((w1.alloc (.cells #[.int .i64 0] 3)).ownsRow w1.heap.size 3 1 (.slice (some ⟨w1.heap.size, 0, none⟩) 1 1) 1 [.int .i64 0]) := Lib.hid (World.ownsRow_lit (base := w1.heap.size) (e := 3) (size := 1) w1 #[.int .i64 0] 1 (Nat.le_refl _) (by unfold maxLen; omega) rfl)
  have Bm : Hid (Below w1.heap.size w1 (w1.alloc (.cells #[.int .i64 0] 3))) := Lib.hid ((Below.refl _ _).alloc (Nat.le_refl _) _)
  have hR0 : Hid (Cir.reach d = Cir.bfs d (9 - 0) 0 [0]) := Lib.hid rfl
  generalize Cir.reach d = res at *
  go_wp2_with fail
  go_loopw [3, 4] (fun v i wr => ∃ (vv : Value) (k : Nat) (l : List Nat), vv = v ∧ i = .int .i64 k ∧ k ≤ l.length ∧ l.length ≤ 8 ∧ Hid (Cir.Sts d l) ∧ Hid (res = Cir.bfs d (9 - k) k l) ∧ Hid (wr.ownsRow w1.heap.size 3 1 v l.length (nints l)) ∧ Below w1.heap.size w1 wr) (fun v i _ => 8 - (intOf i).toNat)
  case atStart => exact ⟨_, 0, [0], rfl, rfl, by simp, by simp, Lib.hid (Cir.Sts.zero d), hR0, Hlit, Bm.out⟩
  case round =>
    obtain ⟨vv, k, l, hvv, rfl, hk, hl8, Hst, hres, Ho, hb⟩ := hrel
    subst hvv
    clear Hlit Bm hR0
    obtain ⟨A, c, rfl, hc, hcm⟩ := NatsAt.shape (own_nats Ho.out)
    unfold maxLen at hcm
    have Hb := Lib.hid hb
    have hzb := hb.size
    clear hb
    by_cases hlt : k < l.length
    · obtain ⟨s, hs⟩ := at_some hlt
      have hs8 : s < 8 := by
        have h1 := Hst.out.lt s (List.mem_of_getElem? hs)
        have h2 : 2 ^ d.next.length ≤ 2 ^ 3 := Nat.pow_le_pow_right (show 0 < 2 by decide) l2
        omega
      have Hstep := Lib.hid (Cir.bfs_step (c := d) (f := 9 - (k + 1)) hs)
      have hf : 9 - k = 9 - (k + 1) + 1 := by omega
      rw [hf] at hres
      have Hgs := Lib.hid hs
      have hdl : decide (k < l.length) = true := decide_eq_true hlt
      clear hs hf
      go_wp2_with fail
      obtain ⟨Wk, hWk⟩ : ∃ Wk, Wk = wr := ⟨_, rfl⟩
      subst hWk
      go_loopw [3, 5] (fun v i wr => ∃ (vv : Value) (j : Nat), vv = v ∧ i = .int .i64 j ∧ j ≤ M ∧ Hid (wr.ownsRow w1.heap.size 3 1 v (Cir.pushes d s j l).length (nints (Cir.pushes d s j l))) ∧ Below w1.heap.size w1 wr) (fun v i _ => M - (intOf i).toNat)
      case atStart => exact ⟨_, 0, rfl, rfl, Nat.zero_le _, Ho, Hb.out⟩
      case round =>
        obtain ⟨vv, j, hvv, rfl, hj, Ho, hb⟩ := hrel
        subst hvv
        have Hb := Lib.hid hb
        have hzb := hb.size
        have PCr := Lib.hid (PC1.out.below hb)
        have Hst2 := Lib.hid (Hst.out.pushes s j)
        have hL8 := Hst2.out.len Hd.out
        have Hgj := Lib.hid (Cir.pushes_get (c := d) (s := s) (j := j) Hgs.out)
        have Hsu := Lib.hid (Cir.pushes_succ d s j l)
        by_cases hlj : j < M
        · obtain ⟨L2, hL2⟩ : ∃ L2, Cir.pushes d s (j + 1) l = L2 := ⟨_, rfl⟩
          rw [hL2] at Hsu
          have HL2 := Lib.hid hL2
          clear hL2
          generalize Cir.pushes d s j l = L at *
          obtain ⟨A, c, rfl, hc, hcm⟩ := NatsAt.shape (own_nats Ho.out)
          unfold maxLen at hcm
          have hkL : k < L.length := (List.getElem?_eq_some_iff.1 Hgj.out).1
          obtain ⟨b, o, s', rfl, hbl, hx0, hs0⟩ := nats_cell (nats_row (own_nats Ho.out)) rfl hkL
          obtain rfl : s' = s := Option.some.inj (hx0.out.symm.trans Hgj.out)
          clear hb
          obtain ⟨z, p0, p1, p2, p3⟩ := PCr.out
          go_wp2_with fail
          obtain ⟨w4, hw4⟩ : ∃ w4, w4 = wr := ⟨_, rfl⟩
          subst hw4
          refine wp_region_rs (quietRS Try.prog _ w4 _) quietRS_ok (by kernel_rfl) (by kernel_rfl) (by kernel_rfl) (Nat.le_of_ble_eq_true rfl) trivial trivial ?_
          apply rs_eq quietRS_ok quiet_any
          · intro ρ w' ho hK
            have ho : Only _ w4 w' := ho
            obtain ⟨h0, -⟩ := hK
            have h0' : ρ (.tmp 1) = _ := h0
            have hb := only_below ho
            have q0 := (hb.cell (p := ⟨w.heap.size, 0, none⟩) z).trans p0
            have q1 := (hb.cell (p := ⟨w.heap.size, 1, none⟩) z).trans p1
            have q2 := (hb.cell (p := ⟨w.heap.size, 2, none⟩) z).trans p2
            have q3 := (hb.cell (p := ⟨w.heap.size, 3, none⟩) z).trans p3
            have q4 := (hb.cell (p := ⟨b, o + k, none⟩) hbl).trans hs0
            go_simp
            try exact rfl
          refine rs_old quietRS_ok quiet_any _ (.inl rfl) _ rfl rfl ?_
          refine rs_old quietRS_ok quiet_any _ (.inl rfl) _ rfl rfl ?_
          apply rs_eq quietRS_ok quiet_any
          · intro ρ w' ho hK
            have ho : Only _ w4 w' := ho
            obtain ⟨h0, h1, -⟩ := hK
            have h0' : ρ (.tmp 26) = _ := h0
            have h1' : ρ (.tmp 27) = _ := h1
            go_simp
            try exact rfl
          apply rs_eq quietRS_ok quiet_any
          · intro ρ w' ho hK
            have ho : Only _ w4 w' := ho
            obtain ⟨h0, -⟩ := hK
            have h0' : ρ (.tmp 28) = _ := h0
            have hb := only_below ho
            have q0 := (hb.cell (p := ⟨w.heap.size, 0, none⟩) z).trans p0
            have q1 := (hb.cell (p := ⟨w.heap.size, 1, none⟩) z).trans p1
            have q2 := (hb.cell (p := ⟨w.heap.size, 2, none⟩) z).trans p2
            have q3 := (hb.cell (p := ⟨w.heap.size, 3, none⟩) z).trans p3
            have q4 := (hb.cell (p := ⟨b, o + k, none⟩) hbl).trans hs0
            go_simp
            try exact rfl
          refine rs_old quietRS_ok quiet_any _ (.inl rfl) _ rfl rfl ?_
          refine rs_call quietRS_ok quiet_any (TEq (.int .i64 (Cir.nextOf d s' j : Nat))) (stb_eq _ _) 41 _ _ rfl (fun ρ w' ho hK => by
            have ho : Only _ w4 w' := ho
            obtain ⟨h0, h1, h2, h3, -⟩ := hK
            have h0' : ρ (.func 41) = .func (.func 41) #[] #[] := h0
            have h1' : ρ (.tmp 25) = _ := h1
            have h2' : ρ (.tmp 29) = _ := h2
            have h3' : ρ (.tmp 30) = _ := h3
            refine ⟨#[ρ (.tmp 25), ρ (.tmp 29), ρ (.tmp 30)], ?_, ?_⟩
            · go_simp
            · rw [h1', h2', h3']
              refine (l16Next_any _ d s' j w' (HC1.out.below (Hb.out.trans ((only_below ho).mono hzb))) Hd.out (by omega) (by omega)).mono ?_
              rintro e w2 ⟨rfl, hb⟩
              exact ⟨_, rfl, rfl, hb⟩) ?_
          refine rs_same quietRS_ok quiet_any 31 6 (.inr rfl) rfl _ rfl ?_
          intro f w9 k9 hk9 hI9 ht9 hcp9
          have E0 : f 0 = _ := ht9 0 (Nat.le_of_ble_eq_true rfl)
          have E1 : f 1 = _ := ht9 1 (Nat.le_of_ble_eq_true rfl)
          conv at E1 => rhs; whnf
          have E2 : f 2 = _ := ht9 2 (Nat.le_of_ble_eq_true rfl)
          conv at E2 => rhs; whnf
          have E3 : f 3 = _ := ht9 3 (Nat.le_of_ble_eq_true rfl)
          have E4 : f 4 = _ := ht9 4 (Nat.le_of_ble_eq_true rfl)
          have E5 : f 5 = _ := ht9 5 (Nat.le_of_ble_eq_true rfl)
          conv at E5 => rhs; whnf
          have E6 : f 6 = _ := ht9 6 (Nat.le_of_ble_eq_true rfl)
          have E7 : f 7 = _ := ht9 7 (Nat.le_of_ble_eq_true rfl)
          have Ho9 : Only _ w4 w9 := hI9.2.1
          simp only [putAll, E0, E1, E2, E3, E4, E5, E6, E7, Nat.zero_add, Nat.reduceAdd, Act.put, List.setIfInBounds_toArray, List.set_cons_succ, List.set_cons_zero]
          clear E0 E1 E2 E3 E4 E5 E6 E7
          clear hI9 ht9 hcp9 hk9
          have hb5 := only_below Ho9
          have Hb5 := Lib.hid (Hb.out.trans (hb5.mono hzb))
          have Ho5 := Lib.hid (own_below Ho.out hb5)
          have hz5 := hb5.size
          have hN8 : Cir.nextOf d s' j < 8 := by
            have h1 := Cir.nextOf_lt d s' j
            have h2 : 2 ^ d.next.length ≤ 2 ^ 3 := Nat.pow_le_pow_right (show 0 < 2 by decide) l2
            omega
          clear hb5 Ho Ho9 p0 p1 p2 p3 hs0
          obtain ⟨w5, hw5⟩ : ∃ w5, w5 = w9 := ⟨_, rfl⟩
          subst hw5
          generalize Cir.nextOf d s' j = N at *
          go_wp2_with fail
          refine (l16Has_any _ L N _ (own_nats Ho5.out) (by omega)).mono ?_
          rintro e w' ⟨rfl, rfl⟩
          cases hc : Cir.memB L N
          · have HP := Lib.hid (Cir.push_no hc)
            have Hlit := Lib.hid (Row.of_own (World.ownsRow_lit (base := w5.heap.size) (e := 3) (size := 1) w5 #[.int .i64 N] 1 (Nat.le_refl _) (by unfold maxLen; omega) rfl))
            clear hc
            go_wp2_with (at_builtin; refine append_ints rfl (.tmp 36) (.tmp 38) rfl w1.heap.size _ L.length (nints L) rfl (Ho5.out.alloc _) _ 1 [.int .i64 N] rfl Hlit.out (by simp [Value.oneCell']) (by omega) (by simp; omega) ?_; intro v7 w7 hown7 hg7 hat7; have Ho7 := Lib.hid hown7; have Hg7 := Lib.hid hg7; clear hown7 hg7 hat7)
            go_roundw
            case rel => exact ⟨_, j + 1, rfl, by go_num, by omega, Lib.hid (by rw [HL2.out, Hsu.out, HP.out, nints_snoc, List.length_append]; exact Ho7.out), (Hb5.out.alloc Hb5.out.size _).grown Hg7.out (Hb5.out.alloc Hb5.out.size _).size (own_ge0 Ho5.out)⟩
            case measure => simp [intOf] <;> omega
          · have HP := Lib.hid (Cir.push_yes hc)
            clear hc
            go_wp2_with fail
            go_roundw
            case rel => exact ⟨_, j + 1, rfl, by go_num, by omega, Lib.hid (by rw [HL2.out, Hsu.out, HP.out]; exact Ho5.out), Hb5.out⟩
            case measure => simp [intOf] <;> omega
        · obtain rfl : j = M := by omega
          have HMr : Hid (res = Cir.bfs d (9 - (k + 1)) (k + 1) (Cir.pushes d s j l)) := Lib.hid (by rw [hres.out, Hstep.out, HM.out])
          have Hlk := Lib.hid (show k + 1 ≤ (Cir.pushes d s j l).length by have := (List.getElem?_eq_some_iff.1 Hgj.out).1; omega)
          obtain ⟨z, p0, p1, p2, p3⟩ := PCr.out
          clear hb p1 p2 p3
          generalize Cir.pushes d s j l = L at *
          go_wp2_with fail
          go_roundw
          case rel => exact ⟨_, k + 1, L, rfl, by go_num, Hlk.out, hL8, Hst2, HMr, Ho, Hb.out⟩
          case measure => simp [intOf] <;> omega
    · obtain rfl : k = l.length := by omega
      have hr : res = l := by rw [hres.out, Cir.bfs_end]
      go_wp2_with fail
      go_ret
      exact ⟨_, rfl, by rw [hr, nats_length]; exact own_mono Ho.out (by omega), B1.out.trans (Hb.out.mono B1.out.size)⟩
theorem implReach_any (v : Value) (c : Cz) (w : World) (h : CircAt w v c) :
    Calls Try.prog 46 #[v] w (OwnInts (Cir.reachI c) w) := by
  cases hv : Cir.valid c
  · have HC := Lib.hid h
    obtain ⟨vn, vg, vo, rfl, -⟩ := h
    have B0 := Lib.hid (bel_new w (.cells #[.int .i64 c.ins, vn, vg, vo] 26))
    obtain ⟨z, p0, p1, p2, p3⟩ := PCells.boxed w c.ins vn vg vo 26
    have HV := Lib.hid (implValid_any _ _ _ (HC.out.below B0.out))
    rw [hv] at HV
    have HR : Hid (Cir.reachI c = []) := Lib.hid (by unfold Cir.reachI; rw [hv]; rfl)
    clear hv HC
    go_enter Try.func46, Try.ntmps46
    go_wp2_with fail
    refine HV.out.mono ?_
    rintro e w1 ⟨rfl, hb1⟩
    have B := Lib.hid (B0.out.trans (hb1.mono B0.out.size))
    clear hb1
    go_wp2_with fail
    go_ret
    rw [HR.out]
    exact own_nil _ _ B.out
  · obtain ⟨d1, d2⟩ := Cir.nat_ok hv
    have hr : Cir.reachI c = nats (Cir.reach (Cir.nat c)) := by unfold Cir.reachI; rw [hv]; rfl
    rw [hr]
    exact implReach_ok v (Cir.nat c) w (by rw [← d1]; exact h) d2 (by rw [← d1]; exact hv)
theorem specReach_any (v : Value) (c : Cz) (w : World) (h : CircAt w v c) :
    Calls Try.prog 50 #[v] w (OwnInts (Cir.reachI c) w) := by
  cases hv : Cir.valid c
  · have HC := Lib.hid h
    obtain ⟨vn, vg, vo, rfl, -⟩ := h
    have B0 := Lib.hid (bel_new w (.cells #[.int .i64 c.ins, vn, vg, vo] 26))
    obtain ⟨z, p0, p1, p2, p3⟩ := PCells.boxed w c.ins vn vg vo 26
    have HV := Lib.hid (specValid_any _ _ _ (HC.out.below B0.out))
    rw [hv] at HV
    have HR : Hid (Cir.reachI c = []) := Lib.hid (by unfold Cir.reachI; rw [hv]; rfl)
    clear hv HC
    go_enter Try.func50, Try.ntmps50
    go_wp2_with fail
    refine HV.out.mono ?_
    rintro e w1 ⟨rfl, hb1⟩
    have B := Lib.hid (B0.out.trans (hb1.mono B0.out.size))
    clear hb1
    go_wp2_with fail
    go_ret
    rw [HR.out]
    exact ⟨_, rfl, World.ownsRow_lit (base := w.heap.size) (e := 3) (size := 1) w1 #[] 0 B.out.size (by unfold maxLen; omega) rfl, B.out.alloc B.out.size _⟩
  · obtain ⟨d1, d2⟩ := Cir.nat_ok hv
    have hr : Cir.reachI c = nats (Cir.reach (Cir.nat c)) := by unfold Cir.reachI; rw [hv]; rfl
    rw [hr]
    exact specReach_ok v (Cir.nat c) w (by rw [← d1]; exact h) d2 (by rw [← d1]; exact hv)
end Go.Proofs.Ytdgminjbgjbamaa

namespace Go.Proofs.Ytdgminjbgjbamaa
open Go.RowKit
set_option maxRecDepth 100000
/-! The place of a number in a list. -/
def idxFrom : Nat → List Nat → Nat → Int
  | _, [], _ => -1
  | k, x :: l, n => if x = n then (k : Int) else idxFrom (k + 1) l n
def idxOf (l : List Nat) (n : Nat) : Int := idxFrom 0 l n
theorem idxFrom_drop {l : List Nat} {k x : Nat} (h : l[k]? = some x) (n : Nat) : idxFrom k (l.drop k) n = if x = n then (k : Int) else idxFrom (k + 1) (l.drop (k + 1)) n := by
  obtain ⟨hk, rfl⟩ := List.getElem?_eq_some_iff.1 h
  rw [List.drop_eq_getElem_cons hk, idxFrom]
theorem idxFrom_cases : ∀ (l : List Nat) (k n : Nat), (idxFrom k l n = -1 ∧ n ∉ l) ∨ ∃ i, idxFrom k l n = ((k + i : Nat) : Int) ∧ l[i]? = some n ∧ ∀ j, j < i → l[j]? ≠ some n
  | [], k, n => .inl ⟨rfl, by simp⟩
  | x :: l, k, n => by
    rw [idxFrom]
    by_cases h : x = n
    · subst h
      exact .inr ⟨0, by simp, by simp, fun j hj => by omega⟩
    · rw [if_neg h]
      rcases idxFrom_cases l (k + 1) n with ⟨h1, h2⟩ | ⟨i, h1, h2, h3⟩
      · exact .inl ⟨h1, by simp [Ne.symm h, h2]⟩
      · refine .inr ⟨i + 1, by rw [h1]; congr 1; omega, by simpa using h2, fun j hj => ?_⟩
        cases j with
        | zero => simpa using h
        | succ j => simpa using h3 j (by omega)
theorem idxOf_mem {l : List Nat} {n : Nat} (h : n ∈ l) : ∃ i : Nat, idxOf l n = i ∧ l[i]? = some n ∧ ∀ j, j < i → l[j]? ≠ some n := by
  rcases idxFrom_cases l 0 n with ⟨_, h2⟩ | ⟨i, h1, h2, h3⟩
  · exact absurd h h2
  · exact ⟨i, by unfold idxOf; rw [h1, Nat.zero_add], h2, h3⟩
theorem idxOf_not {l : List Nat} {n : Nat} (h : n ∉ l) : idxOf l n = -1 := by
  rcases idxFrom_cases l 0 n with ⟨h1, _⟩ | ⟨i, _, h2, _⟩
  · exact h1
  · exact absurd (List.mem_of_getElem? h2) h
theorem idxOf_lo (l : List Nat) (n : Nat) : -1 ≤ idxOf l n ∧ idxOf l n < l.length := by
  by_cases h : n ∈ l
  · obtain ⟨i, h1, h2, _⟩ := idxOf_mem h
    have := (List.getElem?_eq_some_iff.1 h2).1
    omega
  · rw [idxOf_not h]; omega
theorem index_any (v : Value) (xs : List Nat) (n : Nat) (w : World) (h : NatsAt w v xs) (hn : n ≤ 1000000) :
    Calls Try.prog 48 #[v, .int .i64 n] w fun e w' => e = .returned (.int .i64 (idxOf xs n)) ∧ w = w' := by
  obtain ⟨A, c, rfl, hc, hcm⟩ := h.shape
  unfold maxLen at hcm
  have H := Lib.hid h
  have h0 : Hid (idxOf xs n = idxFrom 0 (xs.drop 0) n) := Lib.hid rfl
  generalize idxOf xs n = res at h0 ⊢
  clear h
  go_enter Try.func48, Try.ntmps48
  go_wp2_with fail
  go_loop [8] (fun i => ∃ k : Nat, k ≤ xs.length ∧ i = .int .i64 k ∧ Hid (res = idxFrom k (xs.drop k) n)) (fun i => xs.length - (intOf i).toNat)
  case atStart => exact ⟨0, Nat.zero_le _, rfl, h0⟩
  case round =>
    obtain ⟨k, hk, rfl, hres⟩ := hrel
    clear h0
    by_cases hlt : k < xs.length
    · obtain ⟨b, o, x, rfl, hbl, hx, hs1⟩ := nats_cell (nats_row H.out) rfl hlt
      have Hstep := Lib.hid (idxFrom_drop hx.out n)
      by_cases hxn : x = n
      · have hr : res = (k : Int) := by rw [hres.out, Hstep.out, if_pos hxn]
        have hq : ((n : Int) == (x : Int)) = true := by simp [hxn]
        subst hr
        clear hxn
        go_wp2_with fail
        go_ret
        exact ⟨rfl, rfl⟩
      · have Hn : Hid (res = idxFrom (k + 1) (xs.drop (k + 1)) n) := Lib.hid (by rw [hres.out, Hstep.out, if_neg hxn])
        have hq : ((n : Int) == (x : Int)) = false := by simp; omega
        clear hxn
        go_wp2_with fail
        go_round
        case rel => exact ⟨k + 1, by omega, by go_num, Hn⟩
        case measure => simp [intOf] <;> omega
    · have hr : res = -1 := by rw [hres.out, List.drop_eq_nil_of_le (by omega : xs.length ≤ k)]; rfl
      subst hr
      go_wp2_with fail
      go_ret
      exact ⟨rfl, rfl⟩
theorem l29At_any (v : Value) (xs : List Nat) (n : Nat) (w : World) (h : NatsAt w v xs) (hn : n ≤ 1000000) :
    Calls Try.prog 51 #[v, .int .i64 n] w fun e w' => e = .returned (.int .i64 (idxOf xs n)) ∧ w = w' := by
  obtain ⟨A, c, rfl, hc, hcm⟩ := h.shape
  unfold maxLen at hcm
  have H := Lib.hid h
  have h0 : Hid (idxOf xs n = idxFrom 0 (xs.drop 0) n) := Lib.hid rfl
  generalize idxOf xs n = res at h0 ⊢
  clear h
  go_enter Try.func51, Try.ntmps51
  go_wp2_with fail
  go_loop [5] (fun i => ∃ k : Nat, k ≤ xs.length ∧ i = .int .i64 k ∧ Hid (res = idxFrom k (xs.drop k) n)) (fun i => xs.length - (intOf i).toNat)
  case atStart => exact ⟨0, Nat.zero_le _, rfl, h0⟩
  case round =>
    obtain ⟨k, hk, rfl, hres⟩ := hrel
    clear h0
    by_cases hlt : k < xs.length
    · obtain ⟨b, o, x, rfl, hbl, hx, hs1⟩ := nats_cell (nats_row H.out) rfl hlt
      have Hstep := Lib.hid (idxFrom_drop hx.out n)
      by_cases hxn : x = n
      · have hr : res = (k : Int) := by rw [hres.out, Hstep.out, if_pos hxn]
        have hq : ((x : Int) == (n : Int)) = true := by simp [hxn]
        subst hr
        clear hxn
        go_wp2_with fail
        go_ret
        exact ⟨rfl, rfl⟩
      · have Hn : Hid (res = idxFrom (k + 1) (xs.drop (k + 1)) n) := Lib.hid (by rw [hres.out, Hstep.out, if_neg hxn])
        have hq : ((x : Int) == (n : Int)) = false := by simp; omega
        clear hxn
        go_wp2_with fail
        go_round
        case rel => exact ⟨k + 1, by omega, by go_num, Hn⟩
        case measure => simp [intOf] <;> omega
    · have hr : res = -1 := by rw [hres.out, List.drop_eq_nil_of_le (by omega : xs.length ≤ k)]; rfl
      subst hr
      go_wp2_with fail
      go_ret
      exact ⟨rfl, rfl⟩
end Go.Proofs.Ytdgminjbgjbamaa

namespace Go.Proofs.Ytdgminjbgjbamaa
open Go.RowKit
/-! Slices of slices of the call's own, whose blocks are among a set. -/
section
variable {α : Type} {enc : List α → List Value} {w w' : World} {v : Value} {xss : List (List α)}
/-- A slice of the call's own whose elements are slices of the call's own, all in blocks apart; tO and ti: the types of the cells; its blocks are among E. -/
def OwnSE (enc : List α → List Value) (tO ti : TypeId) (B : Nat) (E : Nat → Prop) (w : World) (v : Value) (xss : List (List α)) : Prop :=
  ∃ vs : List Value, vs.length = xss.length ∧ w.ownsRow B tO 1 v xss.length vs ∧ (∀ (i : Nat) (x : List α) (u : Value), xss[i]? = some x → vs[i]? = some u → w.ownsRow B ti 1 u x.length (enc x)) ∧
    vs.Pairwise Apart ∧ (∀ u ∈ vs, Apart u v) ∧ (∀ g, v.ownBlock = some g → E g) ∧ ∀ u ∈ vs, ∀ g, u.ownBlock = some g → E g
variable {tO ti : TypeId} {B : Nat} {E : Nat → Prop}
theorem OwnSE.at (h : OwnSE enc tO ti B E w v xss) : SSAt enc w v xss := by
  obtain ⟨vs, h1, h2, h3, _⟩ := h
  exact ⟨vs, h1, Row.of_own h2, fun i x u hx hu => Row.of_own (h3 i x u hx hu)⟩
theorem OwnSE.nil (enc : List α → List Value) (tO ti : TypeId) (B : Nat) (E : Nat → Prop) (w : World) : OwnSE enc tO ti B E w (.slice none 0 0) [] :=
  ⟨[], rfl, World.ownsRow_nil _ _ _ _, by simp, List.Pairwise.nil, by simp, by simp [Value.ownBlock], by simp⟩
theorem OwnSE.below (h : OwnSE enc tO ti B E w v xss) (hb : Below w.heap.size w w') : OwnSE enc tO ti B E w' v xss := by
  obtain ⟨vs, h1, h2, h3, h4⟩ := h
  exact ⟨vs, h1, own_below h2 hb, fun i x u hx hu => own_below (h3 i x u hx hu) hb, h4⟩
theorem OwnSE.mono {B' : Nat} {E' : Nat → Prop} (h : OwnSE enc tO ti B E w v xss) (hB : B' ≤ B) (hT : ∀ g, E g → E' g) : OwnSE enc tO ti B' E' w v xss := by
  obtain ⟨vs, h1, h2, h3, h4, h5, h6, h7⟩ := h
  exact ⟨vs, h1, own_mono h2 hB, fun i x u hx hu => own_mono (h3 i x u hx hu) hB, h4, h5, fun g hg => hT g (h6 g hg), fun u hu g hg => hT g (h7 u hu g hg)⟩
theorem OwnSE.only {X : Nat → Prop} (h : OwnSE enc tO ti B E w v xss) (ho : Only X w w') (hE : ∀ g, B ≤ g → E g → ¬ X g) : OwnSE enc tO ti B E w' v xss := by
  obtain ⟨vs, h1, h2, h3, h4, h5, h6, h7⟩ := h
  refine ⟨vs, h1, own_only h2 ho fun g hg => hE g (h2.lt g hg).1 (h6 g hg), fun i x u hx hu => own_only (h3 i x u hx hu) ho fun g hg => hE g ((h3 i x u hx hu).lt g hg).1 (h7 u (List.mem_of_getElem? hu) g hg), h4, h5, h6, h7⟩
/-- An element more, behind an append. -/
theorem OwnSE.snoc {v2 u : Value} {x : List α} {vs : List Value} (h1 : vs.length = xss.length) (h2 : w.ownsRow B tO 1 v2 (xss.length + 1) (vs ++ [u])) (h3 : ∀ (i : Nat) (x : List α) (u : Value), xss[i]? = some x → vs[i]? = some u → w.ownsRow B ti 1 u x.length (enc x))
    (hu : w.ownsRow B ti 1 u x.length (enc x)) (h4 : vs.Pairwise Apart) (h5 : ∀ z ∈ vs, Apart z v2) (h6 : ∀ z ∈ vs, Apart z u) (h7 : Apart u v2) (t2 : ∀ g, v2.ownBlock = some g → E g) (t1 : ∀ z ∈ vs, ∀ g, z.ownBlock = some g → E g) (t0 : ∀ g, u.ownBlock = some g → E g) :
    OwnSE enc tO ti B E w v2 (xss ++ [x]) := by
  refine ⟨vs ++ [u], by simp [h1], by simpa using h2, fun i x' u' hx' hu' => ?_, ?_, ?_, t2, ?_⟩
  · rcases Nat.lt_or_ge i xss.length with hi | hi
    · rw [List.getElem?_append_left hi] at hx'
      rw [List.getElem?_append_left (by omega)] at hu'
      exact h3 i _ _ hx' hu'
    · rw [List.getElem?_append_right hi] at hx'
      rw [List.getElem?_append_right (by omega), h1] at hu'
      rcases hj : i - xss.length with _ | j
      · rw [hj] at hx' hu'
        simp at hx' hu'
        subst hx' hu'
        exact hu
      · rw [hj] at hx'
        simp at hx'
  · rw [List.pairwise_append]
    exact ⟨h4, by simp, fun a ha b hb => by rw [List.mem_singleton.1 hb]; exact h6 a ha⟩
  · intro z hz
    rcases List.mem_append.1 hz with h | h
    · exact h5 z h
    · rw [List.mem_singleton.1 h]; exact h7
  · intro z hz
    rcases List.mem_append.1 hz with h | h
    · exact t1 z h
    · rw [List.mem_singleton.1 h]; exact t0
/-- An element of which the cells turn. -/
theorem OwnSE.update {j : Nat} {x' : List α} {vs : List Value} {u : Value} (h1 : vs.length = xss.length) (h2 : w.ownsRow B tO 1 v xss.length vs) (h3 : ∀ (i : Nat) (x : List α) (u : Value), xss[i]? = some x → vs[i]? = some u → w.ownsRow B ti 1 u x.length (enc x))
    (h4 : vs.Pairwise Apart) (h5 : ∀ u ∈ vs, Apart u v) (h6 : ∀ g, v.ownBlock = some g → E g) (h7 : ∀ u ∈ vs, ∀ g, u.ownBlock = some g → E g) (hu : vs[j]? = some u) (hg : w.grownBy w' u.ownBlock) (hx : w'.ownsRow B ti 1 u x'.length (enc x')) :
    OwnSE enc tO ti B E w' v (xss.set j x') := by
  have hum := List.mem_of_getElem? hu
  refine ⟨vs, by simp [h1], by rw [List.length_set]; exact own_kept h2 hg fun g hg' e => h5 u hum g e hg', fun i x u' hi hu' => ?_, h4, h5, h6, h7⟩
  by_cases hij : j = i
  · subst hij
    rw [hu] at hu'
    obtain rfl := Option.some.inj hu'
    rw [List.getElem?_set] at hi
    simp at hi
    obtain ⟨_, rfl⟩ := hi
    exact hx
  · rw [List.getElem?_set_ne hij] at hi
    refine own_kept (h3 i x u' hi hu') hg fun g hg' e => ?_
    have hp := List.pairwise_iff_getElem.1 h4
    obtain ⟨hjl, rfl⟩ := List.getElem?_eq_some_iff.1 hu
    obtain ⟨hil, rfl⟩ := List.getElem?_eq_some_iff.1 hu'
    rcases Nat.lt_or_ge j i with hlt | hge
    · exact hp j i hjl hil hlt g e hg'
    · exact hp i j hil hjl (by omega) g hg' e
end
theorem OwnSE.raw {α : Type} {enc : List α → List Value} {tO ti : TypeId} {B : Nat} {E : Nat → Prop} {w : World} {v : Value} {xss : List (List α)} (hl : ∀ x, (enc x).length = x.length) (h : OwnSE enc tO ti B E w v xss) : OwnSE id tO ti B E w v (xss.map enc) := by
  obtain ⟨vs, h1, h2, h3, h4⟩ := h
  refine ⟨vs, by simp [h1], by simpa using h2, fun i x u hx hu => ?_, h4⟩
  rw [List.getElem?_map] at hx
  obtain ⟨x', hx', rfl⟩ := Option.map_eq_some_iff.1 hx
  rw [hl]
  exact h3 i x' u hx' hu
/-- A row more, behind an append. -/
theorem se_append {α : Type} {enc : List α → List Value} {tO ti : TypeId} {B : Nat} {E : Nat → Prop} {w w' : World} {v v' u : Value} {x : List α} {xss : List (List α)} {vs : List Value}
    (q1 : vs.length = xss.length) (q3 : ∀ (i : Nat) (x : List α) (u : Value), xss[i]? = some x → vs[i]? = some u → w.ownsRow B ti 1 u x.length (enc x)) (q4 : vs.Pairwise Apart) (q5 : ∀ u ∈ vs, Apart u v) (q6 : ∀ g, v.ownBlock = some g → E g) (q7 : ∀ u ∈ vs, ∀ g, u.ownBlock = some g → E g)
    (hu : w.ownsRow B ti 1 u x.length (enc x)) (hne : ∀ g, u.ownBlock = some g → ¬ E g) (hown : w'.ownsRow B tO 1 v' (xss.length + 1) (vs ++ [u])) (hg : w.grownBy w' v.ownBlock) (hat : v'.ownBlock = v.ownBlock ∨ v'.ownBlock = some w.heap.size) :
    OwnSE enc tO ti B (fun g => E g ∨ u.ownBlock = some g ∨ v'.ownBlock = some g) w' v' (xss ++ [x]) := by
  have hvs : ∀ z ∈ vs, ∀ g, z.ownBlock = some g → g < w.heap.size := fun z hz g hg => by
    obtain ⟨i, hi, rfl⟩ := List.mem_iff_getElem.1 hz
    exact ((q3 i _ _ (List.getElem?_eq_getElem (by omega)) (List.getElem?_eq_getElem hi)).lt g hg).2
  have huv : Apart u v' := fun g h1 h2 => by
    rcases hat with e | e
    · rw [e] at h2
      exact hne g h1 (q6 g h2)
    · rw [e] at h2
      have h3 := (hu.lt g h1).2
      have h4 := Option.some.inj h2
      omega
  have hzv : ∀ z ∈ vs, Apart z v' := fun z hz g h1 h2 => by
    rcases hat with e | e
    · rw [e] at h2
      exact q5 z hz g h1 h2
    · rw [e] at h2
      have h3 := hvs z hz g h1
      have h4 := Option.some.inj h2
      omega
  refine OwnSE.snoc (vs := vs) q1 hown (fun i x' u' hx hu' => own_kept (q3 i x' u' hx hu') hg fun g h1 h2 => q5 u' (List.mem_of_getElem? hu') g h1 h2) (own_kept hu hg fun g h1 h2 => hne g h1 (q6 g h2)) q4 hzv (fun z hz g h1 h2 => hne g h2 (q7 z hz g h1)) huv (fun g h => .inr (.inr h)) (fun z hz g h => .inl (q7 z hz g h)) (fun g h => .inr (.inl h))
theorem apart_new {w : World} {v v' u : Value} (h : Apart v u) (hat : v'.ownBlock = v.ownBlock ∨ v'.ownBlock = some w.heap.size) (hu : ∀ g, u.ownBlock = some g → g < w.heap.size) : Apart v' u := fun g h1 h2 => by
  rcases hat with e | e
  · rw [e] at h1
    exact h g h1 h2
  · rw [e] at h1
    have h3 := hu g h2
    have h4 := Option.some.inj h1
    omega
theorem OwnSS.se {α : Type} {enc : List α → List Value} {tO ti : TypeId} {B T : Nat} {w : World} {v : Value} {xss : List (List α)} (h : OwnSS enc tO ti B T w v xss) : OwnSE enc tO ti B (fun g => B ≤ g ∧ g < T) w v xss := by
  obtain ⟨vs, h1, h2, h3, h4, h5, h6, h7⟩ := h
  refine ⟨vs, h1, h2, h3, h4, h5, fun g hg => ⟨(h2.lt g hg).1, h6 g hg⟩, fun u hu g hg => ⟨?_, h7 u hu g hg⟩⟩
  obtain ⟨i, hi, rfl⟩ := List.mem_iff_getElem.1 hu
  exact ((h3 i _ _ (List.getElem?_eq_getElem (by omega)) (List.getElem?_eq_getElem hi)).lt g hg).1
end Go.Proofs.Ytdgminjbgjbamaa

namespace Go.Proofs.Ytdgminjbgjbamaa
open Go.RowKit
/-- What marking a slice of ints comes to. -/
def MarkedInts (B : Nat) (v : Value) (n k : Nat) (w : World) (e : Ending) (w' : World) : Prop :=
  e = .returned (.int .i64 ((k + n : Nat) : Int)) ∧ w'.ownsRow B 3 1 v n (runI k n) ∧ w.grownBy w' v.ownBlock
end Go.Proofs.Ytdgminjbgjbamaa

namespace Go.Proofs.Ytdgminjbgjbamaa
open Go.RowKit
set_option maxRecDepth 100000
/-! Slices of slices of ints. -/
theorem info_ints : (Try.prog.info? 23).map (fun i => (i.zero, i.size, i.bytes)) = some (some (.slice none 0 0), 1, 24) := by kernel_rfl
def OwnIntSS (B T : Nat) (w : World) (v : Value) (xss : List (List Int)) : Prop := OwnSS ints 23 3 B T w v xss
end Go.Proofs.Ytdgminjbgjbamaa

namespace Go.Proofs.Ytdgminjbgjbamaa
open Go.RowKit
set_option maxRecDepth 100000
theorem take_eq_get {α : Type} {xs ys : List α} {k : Nat} {x : α} (h : xs.take k = ys.take k) (hx : xs[k]? = some x) (hy : ys[k]? = some x) : xs.take (k + 1) = ys.take (k + 1) := by
  rw [take_snoc hx, take_snoc hy, h]
/-- Rows of values of the call's own, all apart, of such lengths. -/
def OwnIntSE (B : Nat) (E : Nat → Prop) (w : World) (v : Value) (xss : List (List Int)) : Prop := OwnSE ints 23 3 B E w v xss
def OwnVS (B : Nat) (E : Nat → Prop) (w : World) (v : Value) (rows : List (List Value)) : Prop := OwnSE id 23 3 B E w v rows
theorem OwnIntSE.raw {B : Nat} {E : Nat → Prop} {w : World} {v : Value} {xss : List (List Int)} (h : OwnIntSE B E w v xss) : OwnVS B E w v (xss.map ints) := OwnSE.raw ints_length h
/-- What marking comes to. -/
def MarkedSS (B : Nat) (E : Nat → Prop) (v : Value) (ns : List Nat) (k : Nat) (w : World) (e : Ending) (w' : World) : Prop :=
  e = .returned (.int .i64 ((k + ns.sum : Nat) : Int)) ∧ OwnVS B E w' v (runs k ns) ∧ Only (fun g => B ≤ g ∧ E g) w w'
theorem lens_get {rows : List (List Value)} {ns : List Nat} (hl : rows.map List.length = ns) {j : Nat} {n : Nat} (h : ns[j]? = some n) : ∃ r, rows[j]? = some r ∧ r.length = n := by
  subst hl
  rw [List.getElem?_map] at h
  obtain ⟨r, hr, rfl⟩ := Option.map_eq_some_iff.1 h
  exact ⟨r, hr, rfl⟩
end Go.Proofs.Ytdgminjbgjbamaa

namespace Go.Proofs.Ytdgminjbgjbamaa
open Go.RowKit
set_option maxRecDepth 100000
/-! What laws do with machines. -/
def MachAt (w : World) (v : Value) (m : Mz) : Prop := ∃ vn vo, v = .agg #[.int .i64 m.ins, vn, vo] ∧ SSAt ints w vn m.next ∧ SSAt ints w vo m.out
theorem MachAt.below {w w' : World} {v : Value} {m : Mz} (h : MachAt w v m) (hb : Below w.heap.size w w') : MachAt w' v m := by
  obtain ⟨vn, vo, hv, h1, h2⟩ := h
  exact ⟨vn, vo, hv, h1.below hb, h2.below hb⟩
theorem MachAt.shape {w : World} {v : Value} {m : Mz} (h : MachAt w v m) : ∃ An cn Ao co, v = .agg #[.int .i64 m.ins, .slice An m.next.length cn, .slice Ao m.out.length co] ∧ cn ≤ maxLen ∧ co ≤ maxLen ∧ m.next.length ≤ cn ∧ m.out.length ≤ co := by
  obtain ⟨vn, vo, rfl, h1, h2⟩ := h
  obtain ⟨An, cn, rfl, h3, h4⟩ := h1.shape
  obtain ⟨Ao, co, rfl, h5, h6⟩ := h2.shape
  exact ⟨An, cn, Ao, co, rfl, h4, h6, h3, h5⟩
/-- The cells of a machine in memory. -/
def MCells (w : World) (g : Nat) (i : Int) (vn vo : Value) : Prop := g < w.heap.size ∧ w.cell? ⟨g, 0, none⟩ = some (.int .i64 i) ∧ w.cell? ⟨g, 1, none⟩ = some vn ∧ w.cell? ⟨g, 2, none⟩ = some vo
theorem MCells.below {w w' : World} {g : Nat} {i : Int} {vn vo : Value} (h : MCells w g i vn vo) (hb : Below w.heap.size w w') : MCells w' g i vn vo := by
  obtain ⟨hg, c0, c1, c2⟩ := h
  exact ⟨Nat.lt_of_lt_of_le hg hb.size, (hb.cell (p := ⟨g, 0, none⟩) hg).trans c0, (hb.cell (p := ⟨g, 1, none⟩) hg).trans c1, (hb.cell (p := ⟨g, 2, none⟩) hg).trans c2⟩
theorem MCells.boxed (w : World) (i : Int) (vn vo : Value) (t : TypeId) : MCells (w.alloc (.cells #[.int .i64 i, vn, vo] t)) w.heap.size i vn vo :=
  ⟨by simp, World.cell?_alloc_new _ _ _ 0, World.cell?_alloc_new _ _ _ 1, World.cell?_alloc_new _ _ _ 2⟩
theorem bel_alloc (w : World) (o : Obj) : Below w.heap.size w (w.alloc o) := (Below.refl _ _).alloc (Nat.le_refl _) o
theorem set_grownM (w : World) (g i : Nat) (v : Value) : w.grownBy (w.setCell ⟨g, i, none⟩ v) (some g) :=
  ⟨rfl, rfl, rfl, by simp [World.setCell], fun k _ hk => heap_setCell_other w ⟨g, i, none⟩ k _ (fun e => hk (by simp [e]))⟩
theorem own_setSS {α : Type} {enc : List α → List Value} {tO ti : TypeId} {B T : Nat} {w : World} {v : Value} {xss : List (List α)} {g i : Nat} {u : Value} (h : OwnSS enc tO ti B T w v xss) (hg : g < B) : OwnSS enc tO ti B T (w.setCell ⟨g, i, none⟩ u) v xss :=
  OwnSS.only h (Only.grown (E := fun k => k = g) (set_grownM w g i u) (fun k hk => (Option.some.inj hk).symm)) (fun k hk _ e => by omega)
end Go.Proofs.Ytdgminjbgjbamaa

namespace Go.Proofs.Ytdgminjbgjbamaa
open Go.RowKit
set_option maxRecDepth 100000
/-! The rows of a machine, by the program. -/
namespace Cir
def rowN (d : Ci) (s : Nat) : List Nat := (List.range (2 ^ d.ins)).map (nextOf d s)
def rowO (d : Ci) (s : Nat) : List Nat := (List.range (2 ^ d.ins)).map fun x => num (outsOf d s x)
def rowI (d : Ci) (s : Nat) : List Int := (rowN d s).map (idxOf (reach d))
/-- The machine of a circuit. -/
def machN (d : Ci) : Mz := { ins := d.ins, next := (reach d).map (rowI d), out := (reach d).map fun s => nats (rowO d s) }
def machI (c : Cz) : Mz := if valid c then machN (nat c) else { ins := 0, next := [], out := [] }
end Cir
/-- Two rows of the call's own, apart. -/
def OwnTwo (xs ys : List Int) (w : World) (e : Ending) (w' : World) : Prop := ∃ a b, e = .returned (.tuple #[a, b]) ∧ w'.ownsRow w.heap.size 3 1 a xs.length (ints xs) ∧ w'.ownsRow w.heap.size 3 1 b ys.length (ints ys) ∧ Apart a b ∧ Below w.heap.size w w'
set_option maxHeartbeats 8000000 in
theorem stateRows_any (g : Nat) (d : Ci) (s : Nat) (w : World) (h : PCirc w g (Cir.toCz d)) (hd : Cir.Ok d) (hs : s ≤ 1000) :
    Calls Try.prog 47 #[.pointer (some ⟨g, 0, none⟩), .int .i64 s] w (OwnTwo (nats (Cir.rowN d s)) (nats (Cir.rowO d s)) w) := by
  have l1 := hd.ins
  have HP := Lib.hid h
  obtain ⟨vn, vg, vo, hg, c0, c1, c2, c3, r1, r2, r3⟩ := h
  have C0 : Hid (w.cell? ⟨g, 0, none⟩ = some (.int .i64 d.ins)) := Lib.hid c0
  have Hd := Lib.hid hd
  obtain ⟨M, e, hM⟩ : ∃ M : Nat, (2 : Int) ^ d.ins = (M : Int) ∧ M = 2 ^ d.ins := ⟨2 ^ d.ins, two_pow d.ins, rfl⟩
  have hM16 : M ≤ 16 := by rw [hM]; exact Nat.pow_le_pow_right (show 0 < 2 by decide) l1
  have hwM := IntWalk.i64_in (M : Int) (by omega)
  have HM := Lib.hid hM
  have q0 := C0.out
  clear r1 r2 r3 hd hM c0 c1 c2 c3
  go_enter Try.func47, Try.ntmps47
  go_wp2_with fail
  clear q0
  go_loopw [6, 7, 16] (fun v u i wr => ∃ (vv uu : Value) (k : Nat), vv = v ∧ uu = u ∧ k ≤ M ∧ i = .int .i64 k ∧ Hid (wr.ownsRow w.heap.size 3 1 v k (nints ((List.range k).map (Cir.nextOf d s)))) ∧ Hid (wr.ownsRow w.heap.size 3 1 u k (nints ((List.range k).map fun x => Cir.num (Cir.outsOf d s x)))) ∧ Hid (Apart v u) ∧ Below w.heap.size w wr) (fun _ _ i _ => M - (intOf i).toNat)
  case atStart => exact ⟨_, _, 0, rfl, rfl, Nat.zero_le _, rfl, Lib.hid (World.ownsRow_nil _ _ _ _), Lib.hid (World.ownsRow_nil _ _ _ _), Lib.hid (fun g h => by simp [Value.ownBlock] at h), Below.refl _ _⟩
  case round =>
    obtain ⟨vv, uu, k, hvv, huu, hk, rfl, Ho, Hu, Ha, hb⟩ := hrel
    subst hvv huu
    have Hb := Lib.hid hb
    have hzb := hb.size
    clear hb
    by_cases hlt : k < M
    · have HS1 : Hid (nints ((List.range (k + 1)).map (Cir.nextOf d s)) = nints ((List.range k).map (Cir.nextOf d s)) ++ [.int .i64 (Cir.nextOf d s k : Nat)]) := Lib.hid (by rw [List.range_succ, List.map_append, List.map_cons, List.map_nil, nints_snoc])
      have HS2 : Hid (nints ((List.range (k + 1)).map fun x => Cir.num (Cir.outsOf d s x)) = nints ((List.range k).map fun x => Cir.num (Cir.outsOf d s x)) ++ [.int .i64 (Cir.num (Cir.outsOf d s k) : Nat)]) := Lib.hid (by rw [List.range_succ, List.map_append, List.map_cons, List.map_nil, nints_snoc])
      go_wp2_with fail
      refine (cycle_any g d s k _ (HP.out.below Hb.out) Hd.out hs (by omega)).mono ?_
      rintro e w5 ⟨rfl, hb5⟩
      have Hb5 := Lib.hid (Hb.out.trans (hb5.mono hzb))
      have Ho5 := Lib.hid (own_below Ho.out hb5)
      have Hu5 := Lib.hid (own_below Hu.out hb5)
      have hz5 := Nat.le_trans hzb hb5.size
      clear hb5 Ho Hu
      generalize Cir.nextOf d s k = N at *
      generalize Cir.num (Cir.outsOf d s k) = O at *
      have Hlit := Lib.hid (Row.of_own (World.ownsRow_lit (base := w5.heap.size) (e := 3) (size := 1) w5 #[.int .i64 N] 1 (Nat.le_refl _) (by unfold maxLen; omega) rfl))
      go_wp2_with (first
        | (at_builtin; refine append_ints rfl (.tmp 26) (.tmp 28) rfl w.heap.size _ k _ rfl (Ho5.out.alloc _) _ 1 [.int .i64 N] rfl Hlit.out (by simp [Value.oneCell']) (by omega) (by simp; omega) ?_; intro v7 w7 hown7 hg7 hat7; have Ho7 := Lib.hid hown7; have Hat7 := Lib.hid hat7; have Hu7 := Lib.hid (own_kept (Hu5.out.alloc (.cells #[.int .i64 N] 3)) hg7 (fun g h1 h2 => Ha.out g h2 h1)); have Ha7 := Lib.hid (apart_new Ha.out hat7 (fun g hg => by have := ((Hu5.out.alloc (.cells #[.int .i64 N] 3)).lt g hg).2; exact this)); have Hb7 := Lib.hid ((Hb5.out.alloc hz5 _).grown hg7 (Hb5.out.alloc hz5 _).size (own_ge0 Ho5.out)); have Hlit2 := Lib.hid (Row.of_own (World.ownsRow_lit (base := w7.heap.size) (e := 3) (size := 1) w7 #[.int .i64 O] 1 (Nat.le_refl _) (by unfold maxLen; omega) rfl)); have hz7 := (Hb7.out).size; clear hown7 hg7 hat7)
        | (at_builtin; refine append_ints rfl (.tmp 30) (.tmp 32) rfl w.heap.size _ k _ rfl (Hu7.out.alloc _) _ 1 [.int .i64 O] rfl Hlit2.out (by simp [Value.oneCell']) (by omega) (by simp; omega) ?_; intro v8 w8 hown8 hg8 hat8; have Ho8 := Lib.hid (own_kept (Ho7.out.alloc (.cells #[.int .i64 O] 3)) hg8 (fun g h1 h2 => Ha7.out g h1 h2)); have Hu8 := Lib.hid hown8; have Ha8 := Lib.hid ((apart_new (Apart.symm Ha7.out) hat8 (fun g hg => by have := ((Ho7.out.alloc (.cells #[.int .i64 O] 3)).lt g hg).2; exact this)).symm); have Hb8 := Lib.hid ((Hb7.out.alloc hz7 _).grown hg8 (Hb7.out.alloc hz7 _).size (own_ge0 Hu7.out)); clear hown8 hg8 hat8))
      go_roundw
      case rel => exact ⟨_, _, k + 1, rfl, rfl, by omega, by go_num, Lib.hid (by rw [HS1.out]; exact Ho8.out), Lib.hid (by rw [HS2.out]; exact Hu8.out), Ha8, Hb8.out⟩
      case measure => simp [intOf] <;> omega
    · obtain rfl : k = M := by omega
      have hl1 : (nats (Cir.rowN d s)).length = k := by rw [nats_length, Cir.rowN, List.length_map, List.length_range, HM.out]
      have hl2 : (nats (Cir.rowO d s)).length = k := by rw [nats_length, Cir.rowO, List.length_map, List.length_range, HM.out]
      have HF1 : Hid (wr.ownsRow w.heap.size 3 1 vv (nats (Cir.rowN d s)).length (ints (nats (Cir.rowN d s)))) := Lib.hid (by rw [hl1]; have := Ho.out; rw [HM.out] at this ⊢; exact this)
      have HF2 : Hid (wr.ownsRow w.heap.size 3 1 uu (nats (Cir.rowO d s)).length (ints (nats (Cir.rowO d s)))) := Lib.hid (by rw [hl2]; have := Hu.out; rw [HM.out] at this ⊢; exact this)
      clear hl1 hl2
      go_wp2_with fail
      exact bodyPost_ret (v := .tuple #[vv, uu]) (by simp [results, Try.results47, go_sem]) rfl ⟨_, _, rfl, HF1.out, HF2.out, Ha.out, Hb.out⟩
end Go.Proofs.Ytdgminjbgjbamaa

namespace Go.Proofs.Ytdgminjbgjbamaa
namespace Cir
/-! The machine of a circuit runs as the circuit does, plainly. -/
def outN (c : Ci) : Nat → List Nat → List Nat
  | _, [] => []
  | s, x :: xs => num (outsOf c s x) :: outN c (nextOf c s x) xs
theorem outN_length (c : Ci) : ∀ (xs : List Nat) (s : Nat), (outN c s xs).length = xs.length
  | [], _ => rfl
  | x :: xs, s => by rw [outN, List.length_cons, outN_length c xs, List.length_cons]
theorem outN_get (c : Ci) : ∀ (xs : List Nat) (s i : Nat), (outN c s xs)[i]? = (xs[i]?).map fun x => num (outsOf c (runN c s (xs.take i)) x)
  | [], _, i => by simp [outN]
  | x :: xs, s, 0 => rfl
  | x :: xs, s, i + 1 => by
    rw [outN, List.getElem?_cons_succ, outN_get c xs, List.getElem?_cons_succ, List.take_succ_cons]
    rfl
theorem sim_out {c : Ci} {s : Nat} {xs : List Nat} {i : Nat} (hi : i < xs.length) : ∃ row, (simL c (bits s c.next.length) (rowsN c.ins xs))[i]? = some row ∧ (outN c s xs)[i]? = some (num row) ∧ row.length = c.outs.length := by
  have hx := List.getElem?_eq_getElem hi
  exact ⟨outsOf c (runN c s (xs.take i)) xs[i], by rw [simL_rows, hx]; rfl, by rw [outN_get, hx]; rfl, lits_len _ _⟩
theorem range_get {n x : Nat} (hx : x < n) (f : Nat → Nat) : ((List.range n).map f)[x]? = some (f x) := by
  rw [List.getElem?_map, List.getElem?_range hx]; rfl
theorem machN_step {c : Ci} (hc : Ok c) {k s x : Nat} (hs : (reach c)[k]? = some s) (hx : x < 2 ^ c.ins) : Mac.stepO (machN c) k (x : Nat) = (num (outsOf c s x) : Nat) ∧ (reach c)[Mac.stepN (machN c) k (x : Nat)]? = some (nextOf c s x) := by
  constructor
  · unfold Mac.stepO machN rowO nats
    simp only [List.getD_eq_getElem?_getD, List.getElem?_map, hs, Option.map_some, Option.getD_some, Int.toNat_natCast, List.getElem?_range hx]
    rfl
  · obtain ⟨i, h1, h2, -⟩ := idxOf_mem (reach_closed hc (List.mem_of_getElem? hs) hx)
    have : Mac.stepN (machN c) k (x : Nat) = i := by
      unfold Mac.stepN machN rowI rowN
      simp only [List.getD_eq_getElem?_getD, List.getElem?_map, hs, Option.map_some, Option.getD_some, Int.toNat_natCast, List.getElem?_range hx, h1]
    rw [this, h2]
theorem mach_outs {c : Ci} (hc : Ok c) : ∀ (xs : List Nat) (s k : Nat), Inputs c xs → (reach c)[k]? = some s → Mac.outs (machN c) k (nats xs) = nats (outN c s xs)
  | [], _, _, _, _ => rfl
  | x :: xs, s, k, hp, hk => by
    obtain ⟨h1, h2⟩ := machN_step hc hk (hp x (by simp))
    show Mac.stepO (machN c) k (x : Nat) :: Mac.outs (machN c) (Mac.stepN (machN c) k (x : Nat)) (nats xs) = _
    rw [h1, mach_outs hc xs _ _ (fun y hy => hp y (List.mem_cons_of_mem _ hy)) h2]
    rfl
theorem reach_pos (c : Ci) : 0 < (reach c).length := (List.getElem?_eq_some_iff.1 (bfs_get (c := c) 9 0 (l := [0]) (i := 0) rfl)).1
theorem reach_first (c : Ci) : (reach c)[0]? = some 0 := bfs_get (c := c) 9 0 (l := [0]) (i := 0) rfl
theorem machN_valid {c : Ci} (hc : Ok c) : Mac.valid (machN c) = true := by
  have h8 := (reach_sts c).len hc
  have h0 := reach_pos c
  have hi := hc.ins
  have ho : 2 ^ c.outs.length ≤ 2 ^ 3 := Nat.pow_le_pow_right (show 0 < 2 by decide) hc.outss
  unfold Mac.valid
  rw [Bool.and_eq_true, Bool.and_eq_true]
  refine ⟨?_, List.all_eq_true.2 fun r hr => ?_, List.all_eq_true.2 fun r hr => ?_⟩
  · show decide (0 ≤ (c.ins : Int) ∧ (c.ins : Int) ≤ 4 ∧ 1 ≤ ((reach c).map (rowI c)).length ∧ ((reach c).map (rowI c)).length ≤ 8 ∧ ((reach c).map fun s => nats (rowO c s)).length = ((reach c).map (rowI c)).length) = true
    rw [decide_eq_true_iff, List.length_map, List.length_map]
    exact ⟨by omega, by omega, by omega, by omega, rfl⟩
  · obtain ⟨s, hs, rfl⟩ := List.mem_map.1 (show r ∈ (reach c).map (rowI c) from hr)
    unfold Mac.rowOk Mac.lenOk
    rw [Bool.and_eq_true, decide_eq_true_iff]
    refine ⟨by unfold rowI rowN machN; simp, List.all_eq_true.2 fun y hy => ?_⟩
    unfold rowI rowN at hy
    rw [List.map_map] at hy
    obtain ⟨x, hx, rfl⟩ := List.mem_map.1 hy
    obtain ⟨i, h1, h2, -⟩ := idxOf_mem (reach_closed hc hs (List.mem_range.1 hx))
    have := (List.getElem?_eq_some_iff.1 h2).1
    unfold Mac.inOk machN
    rw [decide_eq_true_iff]
    simp only [Function.comp_apply, h1, List.length_map]
    omega
  · obtain ⟨s, hs, rfl⟩ := List.mem_map.1 (show r ∈ (reach c).map (fun s => nats (rowO c s)) from hr)
    unfold Mac.rowOk Mac.lenOk
    rw [Bool.and_eq_true, decide_eq_true_iff]
    refine ⟨by unfold rowO nats machN; simp, List.all_eq_true.2 fun y hy => ?_⟩
    unfold rowO nats at hy
    rw [List.map_map] at hy
    obtain ⟨x, hx, rfl⟩ := List.mem_map.1 hy
    have hl := num_lt (outsOf c s x)
    rw [show (outsOf c s x).length = c.outs.length from lits_len _ _] at hl
    unfold Mac.inOk
    rw [decide_eq_true_iff]
    simp only [Function.comp_apply, Int.ofNat_eq_natCast]
    omega
theorem mach_run {c : Ci} (hc : Ok c) {xs : List Nat} (hp : Inputs c xs) (hl : xs.length ≤ 40) : Mac.runI (machN c) (nats xs) = nats (outN c 0 xs) := by
  have hok : Mac.runOk (machN c) (nats xs) = true := by
    unfold Mac.runOk
    rw [machN_valid hc, decide_eq_true (by unfold nats; rw [List.length_map]; omega), Bool.true_and, Bool.true_and, List.all_eq_true]
    intro y hy
    unfold nats at hy
    obtain ⟨x, hx, rfl⟩ := List.mem_map.1 hy
    have := hp x hx
    unfold Mac.inRange Mac.inOk machN
    rw [decide_eq_true_iff]
    simp only [Int.toNat_natCast, Int.ofNat_eq_natCast]
    omega
  unfold Mac.runI
  rw [hok, if_pos rfl]
  exact mach_outs hc xs 0 0 hp (reach_first c)
theorem machN_len (c : Ci) : (machN c).next.length = (reach c).length := by unfold machN; simp
end Cir
end Go.Proofs.Ytdgminjbgjbamaa

namespace Go.Proofs.Ytdgminjbgjbamaa
open Go.RowKit
set_option maxRecDepth 100000
/-! What laws do with slices of slices of ints. -/
end Go.Proofs.Ytdgminjbgjbamaa

namespace Go.Proofs.Ytdgminjbgjbamaa
open Go.RowKit
set_option maxRecDepth 100000
/-- A machine of the call's own, in blocks from B up to T. -/
def OwnMachE (B T : Nat) (v : Value) (m : Mz) (w : World) : Prop :=
  ∃ vn vo E1 E2, v = .agg #[.int .i64 m.ins, vn, vo] ∧ (∀ g, E1 g → g < T) ∧ (∀ g, E2 g → g < T) ∧ (∀ g, E1 g → ¬ E2 g) ∧ OwnIntSE B E1 w vn m.next ∧ OwnIntSE B E2 w vo m.out
theorem OwnMachE.at {B T : Nat} {v : Value} {m : Mz} {w : World} (h : OwnMachE B T v m w) : MachAt w v m := by
  obtain ⟨vn, vo, E1, E2, hv, _, _, _, h1, h2⟩ := h
  exact ⟨vn, vo, hv, OwnSE.at h1, OwnSE.at h2⟩
theorem OwnMachE.only {X : Nat → Prop} {B T : Nat} {v : Value} {m : Mz} {w w' : World} (h : OwnMachE B T v m w) (ho : Only X w w') (hE : ∀ g, B ≤ g → g < T → ¬ X g) : OwnMachE B T v m w' := by
  obtain ⟨vn, vo, E1, E2, hv, e1, e2, e3, h1, h2⟩ := h
  exact ⟨vn, vo, E1, E2, hv, e1, e2, e3, OwnSE.only h1 ho (fun g hb he => hE g hb (e1 g he)), OwnSE.only h2 ho (fun g hb he => hE g hb (e2 g he))⟩
/-- A machine of which all cells of the rows hold numbers that go on from k. -/
def RunMach (B T : Nat) (i : Int) (v : Value) (ns os : List Nat) (k : Nat) (w : World) : Prop :=
  ∃ vn vo E1 E2, v = .agg #[.int .i64 i, vn, vo] ∧ (∀ g, E1 g → g < T) ∧ (∀ g, E2 g → g < T) ∧ OwnVS B E1 w vn (runs k ns) ∧ OwnVS B E2 w vo (runs (k + ns.sum) os)
theorem RunMach.only {X : Nat → Prop} {B T : Nat} {i : Int} {v : Value} {ns os : List Nat} {k : Nat} {w w' : World} (h : RunMach B T i v ns os k w) (ho : Only X w w') (hE : ∀ g, B ≤ g → g < T → ¬ X g) : RunMach B T i v ns os k w' := by
  obtain ⟨vn, vo, E1, E2, hv, e1, e2, h1, h2⟩ := h
  exact ⟨vn, vo, E1, E2, hv, e1, e2, OwnSE.only h1 ho (fun g hb he => hE g hb (e1 g he)), OwnSE.only h2 ho (fun g hb he => hE g hb (e2 g he))⟩
theorem total_map {α : Type} (xss : List (List α)) : total xss = (xss.map List.length).sum := rfl
end Go.Proofs.Ytdgminjbgjbamaa

namespace Go.Proofs.Ytdgminjbgjbamaa
open Go.RowKit
set_option maxRecDepth 100000
def SzMach (m : Mz) (w : World) (e : Ending) (w' : World) : Prop :=
  ∃ r : Int, e = .returned (.int .i64 r) ∧ (r = -1 ∨ (0 ≤ r ∧ r ≤ 1048576 ∧ m.next.length + total m.next + m.out.length + total m.out ≤ 1048576)) ∧ Below w.heap.size w w'
/-- What toMachine makes. -/
def OwnMach (B T : Nat) (v : Value) (m : Mz) (w : World) : Prop :=
  ∃ vn vo M, v = .agg #[.int .i64 m.ins, vn, vo] ∧ B ≤ M ∧ M ≤ T ∧ OwnIntSS B M w vn m.next ∧ OwnIntSS M T w vo m.out
theorem OwnMach.at {B T : Nat} {v : Value} {m : Mz} {w : World} (h : OwnMach B T v m w) : MachAt w v m := by
  obtain ⟨vn, vo, M, hv, _, _, h1, h2⟩ := h
  exact ⟨vn, vo, hv, OwnSS.at h1, OwnSS.at h2⟩
theorem OwnMach.below {B T : Nat} {v : Value} {m : Mz} {w w' : World} (h : OwnMach B T v m w) (hb : Below w.heap.size w w') : OwnMach B T v m w' := by
  obtain ⟨vn, vo, M, hv, e1, e2, h1, h2⟩ := h
  exact ⟨vn, vo, M, hv, e1, e2, OwnSS.below h1 hb, OwnSS.below h2 hb⟩
def ToMach (m : Mz) (w : World) (e : Ending) (w' : World) : Prop := ∃ v, e = .returned v ∧ OwnMach w.heap.size w'.heap.size v m w' ∧ Below w.heap.size w w'
theorem OwnMach.e {B T : Nat} {v : Value} {m : Mz} {w : World} (h : OwnMach B T v m w) : OwnMachE B T v m w := by
  obtain ⟨vn, vo, M, hv, e1, e2, h1, h2⟩ := h
  exact ⟨vn, vo, _, _, hv, fun g h => by have := h.2; omega, fun g h => by have := h.2; omega, fun g h h' => by have := h.2; have := h'.1; omega, OwnSS.se h1, OwnSE.mono (OwnSS.se h2) e1 (fun g h => h)⟩
end Go.Proofs.Ytdgminjbgjbamaa

namespace Go.Proofs.Ytdgminjbgjbamaa
open Go.RowKit
set_option maxRecDepth 100000
/-! MachineValid, both. -/
theorem ints_row {w : World} {B : Option Addr} {n m : Nat} {x : List Int} (h : Row w 1 (.slice B n m) n (ints x)) (hn : n = x.length) {i : Nat} {y : Int} (hy : x[i]? = some y) : ∃ b o, B = some ⟨b, o, none⟩ ∧ b < w.heap.size ∧ w.cell? ⟨b, o + i, none⟩ = some (.int .i64 y) := by
  subst hn
  obtain ⟨hi, _⟩ := List.getElem?_eq_some_iff.1 hy
  obtain ⟨b, o, c', hv, _, _, hbl, hcell⟩ := h.open (by omega)
  injection hv with hv1
  exact ⟨b, o, hv1, hbl, hcell i _ (by unfold ints; rw [List.getElem?_map, hy]; rfl)⟩
theorem mach_sizes {m : Mz} (h : Mac.sizes m = true) : 0 ≤ m.ins ∧ m.ins ≤ 4 ∧ 1 ≤ m.next.length ∧ m.next.length ≤ 8 ∧ m.out.length = m.next.length := by
  unfold Mac.sizes at h
  simpa using h
end Go.Proofs.Ytdgminjbgjbamaa

namespace Go.Proofs.Ytdgminjbgjbamaa
open Go.RowKit
set_option maxRecDepth 100000
theorem in_le (n x : Int) : decide (0 ≤ x ∧ x ≤ n - 1) = Mac.inOk n x := by
  unfold Mac.inOk
  exact decide_eq_decide.2 ⟨fun h => by omega, fun h => by omega⟩
theorem in_le8 (x : Int) : decide (0 ≤ x ∧ x ≤ 7) = Mac.inOk 8 x := in_le 8 x
end Go.Proofs.Ytdgminjbgjbamaa
