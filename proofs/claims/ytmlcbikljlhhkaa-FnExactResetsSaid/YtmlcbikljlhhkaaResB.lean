import Derived.Test.YtmlcbikljlhhkaaResA
import Derived.Test.YtmlcbikljlhhkaaGb
import Derived.Test.YtmlcbikljlhhkaaTernD
namespace Go.Proofs.Ytmlcbikljlhhkaa
open Go.RowKit
set_option maxRecDepth 100000
/-! Resets, by the program. -/
namespace Cir
def tstep (d : Ci) (st : List Nat) (r : List Bool) : List Nat := tnext d (tvals d st (terns r))
def tst (d : Ci) (rss : List (List Bool)) : List Nat := rss.foldl (tstep d) (List.replicate d.next.length 2)
def resets (c : Cz) (rss : List (List Bool)) : Bool := rowsOk c rss && !memB (tst (nat c) rss) 2
theorem tst_snoc {d : Ci} {rss : List (List Bool)} {k : Nat} {r : List Bool} (h : rss[k]? = some r) : tst d (rss.take (k + 1)) = tstep d (tst d (rss.take k)) r := by
  unfold tst
  rw [List.take_add_one, h, List.foldl_append]
  rfl
/-- States of ternary values. -/
def Tst (d : Ci) (st : List Nat) : Prop := st.length = d.next.length ∧ ∀ x ∈ st, x ≤ 2
theorem Tst.start (d : Ci) : Tst d (List.replicate d.next.length 2) := ⟨by simp, fun x hx => by rw [(List.mem_replicate.1 hx).2]; omega⟩
theorem Tst.step {d : Ci} {st : List Nat} (h : Tst d st) (r : List Bool) : Tst d (tstep d st r) :=
  ⟨by unfold tstep tnext; simp, fun x hx => by
    unfold tstep tnext at hx
    obtain ⟨l, _, rfl⟩ := List.mem_map.1 hx
    exact tlit_le (tvals_le d h.2 (terns_le r)) l⟩
theorem tst_tst (d : Ci) : ∀ (rss : List (List Bool)) {st : List Nat}, Tst d st → Tst d (rss.foldl (tstep d) st)
  | [], _, h => h
  | r :: rss, _, h => tst_tst d rss (h.step r)
end Cir
theorem contains_any (v : Value) (xs : List Nat) (n : Nat) (w : World) (h : NatsAt w v xs) (hn : n ≤ 1000000) :
    Calls Try.prog 85 #[v, .int .i64 n] w fun e w' => e = .returned (.bool (Cir.memB xs n)) ∧ w = w' := by
  have HI := Lib.hid (index_any v xs n w h hn)
  obtain ⟨A, c, rfl, -⟩ := h.shape
  by_cases hm : n ∈ xs
  · obtain ⟨i, e1, -⟩ := idxOf_mem hm
    have HR : Hid (Cir.memB xs n = true) := Lib.hid (Cir.memB_iff.2 hm)
    rw [e1] at HI
    rw [HR.out]
    clear h e1
    go_enter Try.func85, Try.ntmps85
    go_wp2_with fail
    refine HI.out.mono ?_
    rintro e w' ⟨rfl, rfl⟩
    go_wp2_with fail
    go_ret
    exact ⟨rfl, rfl⟩
  · have e1 := idxOf_not hm
    have HR : Hid (Cir.memB xs n = false) := Lib.hid (Bool.eq_false_iff.2 (fun hb => hm (Cir.memB_iff.1 hb)))
    rw [e1] at HI
    rw [HR.out]
    clear h e1
    go_enter Try.func85, Try.ntmps85
    go_wp2_with fail
    refine HI.out.mono ?_
    rintro e w' ⟨rfl, rfl⟩
    go_wp2_with fail
    go_ret
    exact ⟨rfl, rfl⟩
set_option maxHeartbeats 8000000 in
theorem implResets_ok (v vr : Value) (d : Ci) (rss : List (List Bool)) (w : World) (h : CircAt w v (Cir.toCz d)) (hr : SSAt bools w vr rss) (hd : Cir.Ok d) (hok : Cir.rowsOk (Cir.toCz d) rss = true) :
    Calls Try.prog 30 #[v, vr] w fun e w' => e = .returned (.bool (!Cir.memB (Cir.tst d rss) 2)) ∧ Below w.heap.size w w' := by
  have l1 := hd.ins
  have l2 := hd.nexts
  have l3 := hd.gatess
  have HC := Lib.hid h
  obtain ⟨vn, vg, vo, rfl, r1, r2, r3⟩ := h
  obtain ⟨An, cn, rfl, hcn, hcmn⟩ := NatsAt.shape (xs := d.next) r1
  obtain ⟨Ar, cr, rfl, hcr, hcrm⟩ := hr.shape
  unfold maxLen at hcrm hcmn
  have hins : (Cir.toCz d).ins = (d.ins : Int) := rfl
  have HP := Lib.hid (PCirc.boxed (c := Cir.toCz d) 30 r1 r2 r3)
  rw [hins] at HC HP ⊢
  have B0 := Lib.hid (bel_new w (.cells #[.int .i64 d.ins, .slice An d.next.length cn, vg, vo] 30))
  have hsz : (w.alloc (.cells #[.int .i64 d.ins, .slice An d.next.length cn, vg, vo] 30)).heap.size = w.heap.size + 1 := by simp
  have PC := Lib.hid (PCells.boxed w d.ins (.slice An d.next.length cn) vg vo 30)
  have HR := Lib.hid (hr.below B0.out)
  have HRow : Hid (∀ (k : Nat) (x : List Bool), rss[k]? = some x → x.length = d.ins) := Lib.hid fun k x hx => by
    unfold Cir.rowsOk at hok
    simp only [Bool.and_eq_true] at hok
    have := List.all_eq_true.1 hok.2.2 x (List.mem_of_getElem? hx)
    unfold Cir.rowOk at this
    rw [decide_eq_true_eq, hins] at this
    omega
  have hlen : rss.length ≤ 40 := by unfold Cir.rowsOk at hok; simp only [Bool.and_eq_true, decide_eq_true_eq] at hok; exact hok.2.1
  have HF := Lib.hid (rowsFit_any w.heap.size _ _ rss _ HP.out HR.out)
  rw [hok] at HF
  have HN := Lib.hid (show NatsAt w (.slice An d.next.length cn) d.next from r1)
  have Hd := Lib.hid hd
  have hmk := run_make_row' (P := Try.prog) 22 3 (.int .i64 0) 8 Try.underlying22 info_int rfl .i64 .i64 d.next.length (by omega) (by omega)
  clear r1 r2 r3 hd hins hr hok
  obtain ⟨z, p0, p1, p2, p3⟩ := PC.out
  go_enter Try.func30, Try.ntmps30
  go_wp2_with fail
  generalize w.alloc (.cells #[.int .i64 d.ins, .slice An d.next.length cn, vg, vo] 30) = W at *
  refine HF.out.mono ?_
  rintro e w1 ⟨rfl, hb1⟩
  have B1 := Lib.hid (B0.out.trans (hb1.mono B0.out.size))
  have HP1 := Lib.hid (HP.out.below hb1)
  have HR1 := Lib.hid (HR.out.below hb1)
  have PC1 := Lib.hid (PC.out.below hb1)
  have z1 := hb1.size
  clear hb1 p0 p1 p2 p3 z HF HP HR PC
  obtain ⟨z, p0, p1, p2, p3⟩ := PC1.out
  have hown0 : Hid ((w1.alloc (.cells (madeCells #[Value.int .i64 0] d.next.length) 3)).ownsRow w1.heap.size 3 1 (.slice (some ⟨w1.heap.size, 0, none⟩) d.next.length d.next.length) d.next.length ([] ++ List.replicate (d.next.length - 0) (Value.int .i64 0))) := Lib.hid (by
    have := World.ownsRow_lit (base := w1.heap.size) (e := 3) (size := 1) w1 (madeCells #[Value.int .i64 0] d.next.length) d.next.length (Nat.le_refl _) (by unfold maxLen; omega) (by simp [madeCells])
    rw [made_one] at this ⊢
    simpa using this)
  have hb2 := bel_new w1 (.cells (madeCells #[Value.int .i64 0] d.next.length) 3)
  have B2 := Lib.hid hb2
  go_wp2_with fail
  clear hmk
  generalize w1.alloc (.cells (madeCells #[Value.int .i64 0] d.next.length) 3) = w2 at *
  clear hb2
  go_loopw [22] (fun i wr => ∃ k : Nat, k ≤ d.next.length ∧ i = .int .i64 k ∧ Hid (wr.ownsRow w1.heap.size 3 1 (.slice (some ⟨w1.heap.size, 0, none⟩) d.next.length d.next.length) d.next.length (List.replicate k (Value.int .i64 2) ++ List.replicate (d.next.length - k) (Value.int .i64 0))) ∧ Below w1.heap.size w1 wr) (fun i _ => d.next.length - (intOf i).toNat)
  case atStart => exact ⟨0, Nat.zero_le _, rfl, hown0, B2.out⟩
  case round =>
    obtain ⟨k, hk, rfl, Ho, hb⟩ := hrel
    clear hown0 B2
    by_cases hlt : k < d.next.length
    · have Hb := Lib.hid hb
      have hl := Ho.out.1
      obtain ⟨u0, _, hd0, hf0⟩ := own_slot Ho.out (j := k) (by omega)
      have HS : Hid ((List.replicate k (Value.int .i64 2) ++ List.replicate (d.next.length - k) (Value.int .i64 0)).set k (.int .i64 2) = List.replicate (k + 1) (Value.int .i64 2) ++ List.replicate (d.next.length - (k + 1)) (.int .i64 0)) := Lib.hid (by
        rw [set_mid_at _ _ _ _ _ (by simp) (by omega), show d.next.length - k - 1 = d.next.length - (k + 1) from by omega]
        congr 1
        rw [List.replicate_succ'])
      have Hst := Lib.hid (Ho.out.stored k (.int .i64 2))
      clear hb hl
      go_wp2_with fail
      go_roundw
      case rel => exact ⟨k + 1, by omega, by go_num, Lib.hid (by rw [← HS.out]; exact Hst.out.1), Hb.out.grown Hst.out.2 Hb.out.size (fun q hq => by have := Option.some.inj hq; omega)⟩
      case measure => simp [intOf] <;> omega
    · obtain rfl : k = d.next.length := by omega
      have Ho2 : Hid (wr.ownsRow w1.heap.size 3 1 (.slice (some ⟨w1.heap.size, 0, none⟩) d.next.length d.next.length) d.next.length (nints (Cir.tst d (rss.take 0)))) := Lib.hid (by
        have := Ho.out
        rw [Nat.sub_self, List.replicate_zero, List.append_nil] at this
        have e : nints (Cir.tst d (rss.take 0)) = List.replicate d.next.length (Value.int .i64 2) := by
          unfold Cir.tst nints ints nats
          simp
        rw [e]
        exact this)
      have HT0 : Hid (Cir.Tst d (Cir.tst d (rss.take 0))) := Lib.hid (Cir.Tst.start d)
      have Hb := Lib.hid hb
      clear Ho hb
      go_wp2_with fail
      go_loopw [5, 31] (fun v i wr => ∃ (vv : Value) (k : Nat), vv = v ∧ k ≤ rss.length ∧ i = .int .i64 k ∧ Hid (Cir.Tst d (Cir.tst d (rss.take k))) ∧ Hid (wr.ownsRow w1.heap.size 3 1 v d.next.length (nints (Cir.tst d (rss.take k)))) ∧ Below w1.heap.size w1 wr) (fun _ i _ => rss.length - (intOf i).toNat)
      case atStart => exact ⟨_, 0, rfl, Nat.zero_le _, rfl, HT0, Ho2, Hb.out⟩
      case round =>
        obtain ⟨vv, k, hvv, hk, rfl, HT, Ho, hb⟩ := hrel
        subst hvv
        clear Ho2 Hb HT0
        have Hb := Lib.hid hb
        have hzb := hb.size
        by_cases hlt : k < rss.length
        · obtain ⟨x, hx⟩ := at_some hlt
          obtain ⟨b, o, Bx, mx, rfl, hbl, hc1, hm1, hm2, hrx⟩ := ss_open HR1.out hb hx
          have hxl := HRow.out k x hx
          have Hxl := Lib.hid hxl
          have HTs := Lib.hid (HT.out.step x)
          have HSn := Lib.hid (Cir.tst_snoc (d := d) hx)
          have HTo := Lib.hid (ternaryOf_any (.slice Bx x.length mx) x wr hrx (by omega))
          have Hrx := Lib.hid hrx
          obtain ⟨Av, cv, rfl, hcv, hcvm⟩ : ∃ A c, vv = .slice A d.next.length c ∧ d.next.length ≤ c ∧ c ≤ maxLen := by
            obtain ⟨A, c, hv, h1, h2⟩ := (Row.of_own Ho.out).shape
            exact ⟨A, c, hv, h1, h2⟩
          unfold maxLen at hcvm
          clear hb hx hxl hrx
          generalize Cir.tst d (rss.take k) = st at *
          go_wp2_with fail
          refine HTo.out.mono ?_
          rintro e w3 ⟨v3, rfl, hO3, hb3⟩
          have Hb3 := Lib.hid (Hb.out.trans (hb3.mono hzb))
          have hz3 := Nat.le_trans hzb hb3.size
          have Ho3 := Lib.hid (own_below Ho.out hb3)
          have HI3 := Lib.hid (nats_own (xs := Cir.terns x) (v := v3) hO3 (by rw [nats_length]))
          clear hb3 hO3 HTo
          go_wp2_with fail
          refine (evalTernary_any w.heap.size d _ _ st (Cir.terns x) _ (HP1.out.below Hb3.out) Hd.out (nats_own Ho3.out HT.out.1) HI3.out (by rw [Cir.terns_length]; exact Hxl.out) HT.out.1 HT.out.2 (Cir.terns_le x)).mono ?_
          rintro e w4 ⟨v4, rfl, hO4, hb4⟩
          have Hb4 := Lib.hid (Hb3.out.trans (hb4.mono hz3))
          have hz4 := Nat.le_trans hz3 hb4.size
          have HV4 := Lib.hid (own_nats (v := v4) (xs := Cir.tvals d st (Cir.terns x)) (by have := hO4; rwa [nats_length] at this))
          have HVl : Hid ((Cir.tvals d st (Cir.terns x)).length = Cir.nvars d) := Lib.hid (Cir.tvals_length d (by rw [Cir.terns_length]; exact Hxl.out) HT.out.1)
          have HV2 := Lib.hid (Cir.tvals_le d HT.out.2 (Cir.terns_le x))
          have HTe : Hid (Cir.tstep d st x = d.next.map (Cir.tlit (Cir.tvals d st (Cir.terns x)))) := Lib.hid rfl
          clear hb4 hO4 Ho3 HI3
          generalize Cir.tvals d st (Cir.terns x) = V at *
          have hmk := run_make_row' (P := Try.prog) 22 3 (.int .i64 0) 8 Try.underlying22 info_int rfl .i64 .i64 d.next.length (by omega) (by omega)
          have hown5 : Hid ((w4.alloc (.cells (madeCells #[Value.int .i64 0] d.next.length) 3)).ownsRow w1.heap.size 3 1 (.slice (some ⟨w4.heap.size, 0, none⟩) d.next.length d.next.length) d.next.length (nints ((d.next.take 0).map (Cir.tlit V)) ++ List.replicate (d.next.length - 0) (Value.int .i64 0))) := Lib.hid (by
            have := World.ownsRow_lit (base := w1.heap.size) (e := 3) (size := 1) w4 (madeCells #[Value.int .i64 0] d.next.length) d.next.length hz4 (by unfold maxLen; omega) (by simp [madeCells])
            rw [made_one] at this ⊢
            simpa [nints, ints, nats] using this)
          have hb5 := bel_new w4 (.cells (madeCells #[Value.int .i64 0] d.next.length) 3)
          have Hb5 := Lib.hid (Hb4.out.trans (hb5.mono hz4))
          have H45 := Lib.hid hb5
          have PCq := Lib.hid (PC1.out.below Hb5.out)
          have hs5 : (w4.alloc (.cells (madeCells #[Value.int .i64 0] d.next.length) 3)).heap.size = w4.heap.size + 1 := by simp
          have PC4 := PC1.out.below Hb4.out
          obtain ⟨y, y0, y1, y2, y3⟩ := PC4
          obtain ⟨x0, x1, x2, x3, x4⟩ := PCq.out
          go_wp2_with fail
          clear hmk
          generalize w4.alloc (.cells (madeCells #[Value.int .i64 0] d.next.length) 3) = w5 at *
          clear hb5 y y0 y1 y2 y3 x0 x1 x2 x3 x4
          go_loopw [45] (fun i wr => ∃ j : Nat, j ≤ d.next.length ∧ i = .int .i64 j ∧ Hid (wr.ownsRow w1.heap.size 3 1 (.slice (some ⟨w4.heap.size, 0, none⟩) d.next.length d.next.length) d.next.length (nints ((d.next.take j).map (Cir.tlit V)) ++ List.replicate (d.next.length - j) (Value.int .i64 0))) ∧ w4.heap.size < wr.heap.size ∧ Below w4.heap.size w4 wr) (fun i _ => d.next.length - (intOf i).toNat)
          case atStart => exact ⟨0, Nat.zero_le _, rfl, hown5, by omega, H45.out⟩
          case round =>
            obtain ⟨j, hj, rfl, Ho, hz6, hb⟩ := hrel
            have Hbj := Lib.hid (Hb4.out.trans (hb.mono hz4))
            have HVj := Lib.hid (HV4.out.below hb)
            have Hb := Lib.hid hb
            clear hown5 hb
            by_cases hlj : j < d.next.length
            · obtain ⟨b', o', l, rfl, hbl', hx0, hs0⟩ := nats_cell (nats_row HN.out) rfl hlj
              have hl2 := Hd.out.next l (List.mem_of_getElem? hx0.out)
              have hs1 := ((B1.out.trans (Hbj.out.mono B1.out.size)).cell (p := ⟨b', o' + j, none⟩) hbl').trans hs0
              have hnv : Cir.nvars d ≤ 22 := by unfold Cir.nvars Cir.nfirst; omega
              have hlo := Ho.out.1
              obtain ⟨u0, _, hd0, hf0⟩ := own_slot Ho.out (j := j) (by omega)
              have hmt : (List.map (Cir.tlit V) (List.take j d.next)).length = j := by rw [List.length_map, List.length_take]; omega
              have HS : Hid ((nints ((d.next.take j).map (Cir.tlit V)) ++ List.replicate (d.next.length - j) (Value.int .i64 0)).set j (Value.int .i64 (Cir.tlit V l : Nat)) = nints ((d.next.take (j + 1)).map (Cir.tlit V)) ++ List.replicate (d.next.length - (j + 1)) (Value.int .i64 0)) := Lib.hid (by
                rw [set_mid_at _ _ _ _ _ (by rw [nints_length]; exact hmt.symm) (by omega), show d.next.length - j - 1 = d.next.length - (j + 1) from by omega, take_snoc hx0.out, List.map_append]
                congr 1
                rw [List.map_cons, List.map_nil, nints_snoc])
              have Hst := Lib.hid (Ho.out.stored j (Value.int .i64 (Cir.tlit V l : Nat)))
              have hpos : 1 ≤ d.next.length := by omega
              clear hmt hlo
              go_wp2_with fail
              refine (ternaryLit_any _ V l _ HVj.out (by rw [HVl.out]; exact hl2) (by omega) HV2.out).mono ?_
              rintro e w' ⟨rfl, rfl⟩
              go_wp2_with fail
              go_roundw
              case rel => exact ⟨j + 1, by omega, by go_num, Lib.hid (by rw [← HS.out]; exact Hst.out.1), Nat.lt_of_lt_of_le hz6 Hst.out.2.size, Hb.out.grown Hst.out.2 (Nat.le_of_lt hz6) (fun q hq => by have := Option.some.inj hq; omega)⟩
              case measure => simp [intOf] <;> omega
            · obtain rfl : j = d.next.length := by omega
              have HF : Hid (wr.ownsRow w1.heap.size 3 1 (.slice (some ⟨w4.heap.size, 0, none⟩) d.next.length d.next.length) d.next.length (nints (Cir.tst d (rss.take (k + 1))))) := Lib.hid (by
                have := Ho.out
                rw [Nat.sub_self, List.replicate_zero, List.append_nil, List.take_length] at this
                rw [HSn.out, HTe.out]
                exact this)
              have HT2 : Hid (Cir.Tst d (Cir.tst d (rss.take (k + 1)))) := Lib.hid (by rw [HSn.out]; exact HTs.out)
              clear Ho
              go_wp2_with fail
              go_roundw
              case rel => exact ⟨_, k + 1, rfl, by omega, by go_num, HT2, HF, Hbj.out⟩
              case measure => simp [intOf] <;> omega
        · obtain rfl : k = rss.length := by omega
          have Hfin := Lib.hid (own_nats (v := vv) (xs := Cir.tst d rss) (by have := Ho.out; rw [List.take_length] at this; have h := HT.out.1; rw [List.take_length] at h; rw [h]; exact this))
          obtain ⟨Av, cv, rfl, hcv, hcvm⟩ := NatsAt.shape Hfin.out
          unfold maxLen at hcvm
          clear hb
          go_wp2_with fail
          refine (contains_any _ _ 2 _ Hfin.out (by omega)).mono ?_
          rintro e w' ⟨rfl, rfl⟩
          go_wp2_with fail
          go_ret
          exact ⟨rfl, B1.out.trans (Hb.out.mono B1.out.size)⟩
end Go.Proofs.Ytmlcbikljlhhkaa
