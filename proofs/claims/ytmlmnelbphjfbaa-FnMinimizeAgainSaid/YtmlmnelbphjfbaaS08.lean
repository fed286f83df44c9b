import Derived.Test.YtmlmnelbphjfbaaS07
import Derived.Test.YtmlmnelbphjfbaaS05
import Derived.Test.YtmlmnelbphjfbaaS02
import Derived.Test.YtmlmnelbphjfbaaS04
import Derived.Test.YtmlmnelbphjfbaaS03
import Derived.Test.YtmlmnelbphjfbaaS06
import Derived.Test.YtmlmnelbphjfbaaS01
import Derived.Test.YtmlmnelbphjfbaaProg
import Derived.RegionTactic
set_option linter.unusedVariables false
set_option linter.unusedSimpArgs false
namespace Go.Proofs.Ytmlmnelbphjfbaa
open Go.RowKit
set_option maxRecDepth 100000
/-! The classes of a machine's states, by the reference. -/
set_option maxHeartbeats 8000000 in
theorem l29Alike_any (vm vc : Value) (m : Mz) (C : List Nat) (a b : Nat) (w : World) (h : MachAt w vm m) (hv : Mac.valid m = true) (hC : NatsAt w vc C) (hl : C.length = m.next.length) (ha : a < m.next.length) (hb : b < m.next.length) :
    Calls Try.prog 41 #[vm, vc, .int .i64 a, .int .i64 b] w fun e w' => e = .returned (.bool (decide (Mac.keyS m.next m.out C a = Mac.keyS m.next m.out C b))) ∧ Below w.heap.size w w' := by
  obtain ⟨s1, s2, s3, s4, s5⟩ := Mac.valid_sizes hv
  obtain ⟨N, hN⟩ := Int.eq_ofNat_of_zero_le s1
  have hN4 : N ≤ 4 := by omega
  obtain ⟨M, eM, hM⟩ : ∃ M : Nat, (2 : Int) ^ N = (M : Int) ∧ M = 2 ^ N := ⟨2 ^ N, two_pow N, rfl⟩
  have hM16 : M ≤ 16 := by rw [hM]; exact Nat.pow_le_pow_right (show 0 < 2 by decide) hN4
  have hM1 : 0 < M := by rw [hM]; exact Nat.pow_pos (by decide)
  have hwM := IntWalk.i64_in (M : Int) (by omega)
  have hMt : 2 ^ m.ins.toNat = M := by rw [hN, hM]; rfl
  have hrow : ∀ s x : Nat, s < m.next.length → x < M → ∃ r q y o, m.next[s]? = some r ∧ m.out[s]? = some q ∧ r.length = M ∧ q.length = M ∧ r[x]? = some ((y : Nat) : Int) ∧ y < m.next.length ∧ q[x]? = some o ∧ 0 ≤ o ∧ o < 8 ∧ Mac.stepN m s x = y ∧ Mac.stepO m s x = o := fun s x hs hx => by
    have := Mac.valid_row hv hs (by rw [hMt]; exact hx)
    rwa [hMt] at this
  obtain ⟨ra, qa, -, -, ea, fa, la, ma, -⟩ := hrow a 0 ha hM1
  obtain ⟨rb, qb, -, -, eb, fb, lb, mb, -⟩ := hrow b 0 hb hM1
  have Hra : Hid (∀ x, x < M → ∃ (y : Nat) (o : Int), ra[x]? = some ((y : Nat) : Int) ∧ y < m.next.length ∧ qa[x]? = some o) := Lib.hid fun x hx => by
    obtain ⟨r, q, y, o, g1, g2, -, -, g5, g6, g7, -⟩ := hrow a x ha hx
    rw [ea] at g1; rw [fa] at g2
    obtain rfl := Option.some.inj g1
    obtain rfl := Option.some.inj g2
    exact ⟨y, o, g5, g6, g7⟩
  have Hrb : Hid (∀ x, x < M → ∃ (y : Nat) (o : Int), rb[x]? = some ((y : Nat) : Int) ∧ y < m.next.length ∧ qb[x]? = some o) := Lib.hid fun x hx => by
    obtain ⟨r, q, y, o, g1, g2, -, -, g5, g6, g7, -⟩ := hrow b x hb hx
    rw [eb] at g1; rw [fb] at g2
    obtain rfl := Option.some.inj g1
    obtain rfl := Option.some.inj g2
    exact ⟨y, o, g5, g6, g7⟩
  obtain ⟨An, cn, Ao, co, rfl, hcnm, hcom, hcn1, hco1⟩ := h.shape
  obtain ⟨Ac, cc, rfl, hcc, hccm⟩ := hC.shape
  unfold maxLen at hcnm hcom hccm
  obtain ⟨un, uo, huv, rn, ro⟩ := h
  simp only [Value.agg.injEq, Array.mk.injEq, List.cons.injEq, and_true, true_and] at huv
  obtain ⟨rfl, rfl⟩ := huv
  obtain ⟨bn, on, Ba, na, hAn, hbn, da, na1, na2, hra⟩ := ss_open rn (Below.refl _ _) ea
  subst hAn
  obtain ⟨bn', on', Bb, nb, hAn, -, db, nb1, nb2, hrb⟩ := ss_open rn (Below.refl _ _) eb
  obtain ⟨rfl, rfl⟩ : bn = bn' ∧ on = on' := by have := Option.some.inj hAn; injection this with h1 h2; exact ⟨h1, h2⟩
  obtain ⟨bo, oo, Bqa, oa, hAo, hbo, dqa, oa1, oa2, hqa⟩ := ss_open ro (Below.refl _ _) fa
  subst hAo
  obtain ⟨bo', oo', Bqb, ob, hAo, -, dqb, ob1, ob2, hqb⟩ := ss_open ro (Below.refl _ _) fb
  obtain ⟨rfl, rfl⟩ : bo = bo' ∧ oo = oo' := by have := Option.some.inj hAo; injection this with h1 h2; exact ⟨h1, h2⟩
  obtain ⟨bc, oc, xa, hAc, hbc, hxa, da2⟩ := nats_cell (nats_row hC) rfl (show a < C.length by omega)
  subst hAc
  obtain ⟨bc', oc', xb, hAc, -, hxb, db2⟩ := nats_cell (nats_row hC) rfl (show b < C.length by omega)
  obtain ⟨rfl, rfl⟩ : bc = bc' ∧ oc = oc' := by have := Option.some.inj hAc; injection this with h1 h2; exact ⟨h1, h2⟩
  have HK : Hid (Mac.keyS m.next m.out C a = Mac.keyS m.next m.out C b ↔ xa = xb ∧ qa = qb ∧ (ra.map fun y => Mac.cg C y.toNat) = rb.map fun y => Mac.cg C y.toNat) := Lib.hid (by
    unfold Mac.keyS
    rw [Prod.mk.injEq, Prod.mk.injEq, cg_get hxa.out, cg_get hxb.out, nrow_get ea, nrow_get eb, key0_get fa, key0_get fb])
  have HCell : Hid (∀ x, x < C.length → ∃ y, Mac.cg C x = y ∧ w.cell? ⟨bc, oc + x, none⟩ = some (.int .i64 (y : Nat))) := Lib.hid fun x hx => by
    obtain ⟨b', o', y, hA, -, hy, hcell⟩ := nats_cell (nats_row hC) rfl hx
    obtain ⟨rfl, rfl⟩ : bc = b' ∧ oc = o' := by have := Option.some.inj hA; injection this with h1 h2; exact ⟨h1, h2⟩
    exact ⟨y, cg_get hy.out, hcell⟩
  have HrowA := Lib.hid hra
  have HrowB := Lib.hid hrb
  have HoutA := Lib.hid hqa
  have HoutB := Lib.hid hqb
  have Hla := Lib.hid la
  have Hlb := Lib.hid lb
  have Hma := Lib.hid ma
  have Hmb := Lib.hid mb
  rw [la] at da na1
  rw [lb] at db nb1
  rw [ma] at dqa oa1
  rw [mb] at dqb ob1
  unfold maxLen at na2 nb2 oa2 ob2
  have hb0 := bel_alloc w (.cells #[.int .i64 m.ins, .slice (some ⟨bn, on, none⟩) m.next.length cn, .slice (some ⟨bo, oo, none⟩) m.out.length co] 25)
  have hmc := MCells.boxed w m.ins (.slice (some ⟨bn, on, none⟩) m.next.length cn) (.slice (some ⟨bo, oo, none⟩) m.out.length co) 25
  rw [hN] at hb0 hmc ⊢
  have B0 := Lib.hid hb0
  have PC := Lib.hid hmc
  have ha2 : a < C.length := by omega
  have hb2 : b < C.length := by omega
  have ha3 : a < m.out.length := by omega
  have hb3 : b < m.out.length := by omega
  have K : ∀ w', Below w.heap.size w w' → w'.cell? ⟨bn, on + a, none⟩ = some (.slice Ba M na) ∧ w'.cell? ⟨bn, on + b, none⟩ = some (.slice Bb M nb) ∧ w'.cell? ⟨bo, oo + a, none⟩ = some (.slice Bqa M oa) ∧ w'.cell? ⟨bo, oo + b, none⟩ = some (.slice Bqb M ob) ∧ w'.cell? ⟨bc, oc + a, none⟩ = some (.int .i64 xa) ∧ w'.cell? ⟨bc, oc + b, none⟩ = some (.int .i64 xb) := fun w' hd =>
    ⟨(hd.cell (p := ⟨bn, on + a, none⟩) hbn).trans da, (hd.cell (p := ⟨bn, on + b, none⟩) hbn).trans db, (hd.cell (p := ⟨bo, oo + a, none⟩) hbo).trans dqa, (hd.cell (p := ⟨bo, oo + b, none⟩) hbo).trans dqb, (hd.cell (p := ⟨bc, oc + a, none⟩) hbc).trans da2, (hd.cell (p := ⟨bc, oc + b, none⟩) hbc).trans db2⟩
  have HKK := Lib.hid K
  obtain ⟨-, -, -, -, k5, k6⟩ := K _ B0.out
  have Hbc := Lib.hid hbc
  clear K hrow hv hC ea eb fa fb hra hrb hqa hqb da db dqa dqb da2 db2 hAn hAo hAc hxa hxb rn ro hb0 hmc hM hMt s1 s2 hN la lb ma mb hbc
  have Hl := Lib.hid hl
  clear hl s5
  by_cases hx : xa = xb
  · have hxx : ((xa : Int) != (xb : Int)) = false := by rw [hx]; simp
    have HK2 : Hid (Mac.keyS m.next m.out C a = Mac.keyS m.next m.out C b ↔ qa = qb ∧ (ra.map fun y => Mac.cg C y.toNat) = rb.map fun y => Mac.cg C y.toNat) := Lib.hid (by rw [HK.out]; exact ⟨fun h => h.2, fun h => ⟨hx, h⟩⟩)
    clear hx HK
    go_enter Try.func41, Try.ntmps41
    go_wp2_with fail
    generalize w.alloc (.cells #[.int .i64 N, .slice (some ⟨bn, on, none⟩) m.next.length cn, .slice (some ⟨bo, oo, none⟩) m.out.length co] 25) = W at *
    go_quiet (fail)
    go_wp2_with fail
    have Hd0 := Lib.hid (Drew.by W nq)
    go_loopw [9] (fun i wr => ∃ (k : Nat), k ≤ M ∧ i = .int .i64 k ∧ Hid (qa.take k = qb.take k) ∧ Hid ((ra.take k).map (fun y => Mac.cg C y.toNat) = (rb.take k).map fun y => Mac.cg C y.toNat) ∧ Drew W wr) (fun i _ => M - (intOf i).toNat)
    case atStart => exact ⟨0, Nat.zero_le _, rfl, Lib.hid rfl, Lib.hid rfl, Hd0.out⟩
    case round =>
      obtain ⟨k, hk, rfl, hqk, htk, hd⟩ := hrel
      have hbw := B0.out.trans (hd.below w.heap.size)
      obtain ⟨k1, k2, k3, k4, -, -⟩ := HKK.out wr hbw
      obtain ⟨z, p0, p1, p2⟩ := PC.out
      replace p0 := (hd.cell _).trans p0
      replace p1 := (hd.cell _).trans p1
      replace p2 := (hd.cell _).trans p2
      have Hd := Lib.hid hd
      have Hbw := Lib.hid hbw
      clear Hd0 k5 k6
      by_cases hlt : k < M
      · obtain ⟨ya, va, hya, hyan, hva⟩ := Hra.out k hlt
        obtain ⟨yb, vb, hyb, hybn, hvb⟩ := Hrb.out k hlt
        obtain ⟨b1, o1, rfl, hb1, hs1⟩ := ints_row HrowA.out rfl hya
        obtain ⟨b2, o2, rfl, hb2', hs2⟩ := ints_row HrowB.out rfl hyb
        obtain ⟨b3, o3, rfl, hb3', hs3⟩ := ints_row HoutA.out rfl hva
        obtain ⟨b4, o4, rfl, hb4, hs4⟩ := ints_row HoutB.out rfl hvb
        obtain ⟨ca, hca, hcella⟩ := HCell.out ya (by have := Hl.out; omega)
        obtain ⟨cb, hcb, hcellb⟩ := HCell.out yb (by have := Hl.out; omega)
        have j1 := (hbw.cell (p := ⟨b1, o1 + k, none⟩) hb1).trans hs1
        have j2 := (hbw.cell (p := ⟨b2, o2 + k, none⟩) hb2').trans hs2
        have j5 := (hbw.cell (p := ⟨b3, o3 + k, none⟩) hb3').trans hs3
        have j6 := (hbw.cell (p := ⟨b4, o4 + k, none⟩) hb4).trans hs4
        have j3 := (hbw.cell (p := ⟨bc, oc + ya, none⟩) Hbc.out).trans hcella
        have j4 := (hbw.cell (p := ⟨bc, oc + yb, none⟩) Hbc.out).trans hcellb
        have Hya := Lib.hid hya
        have Hyb := Lib.hid hyb
        have Hva := Lib.hid hva
        have Hvb := Lib.hid hvb
        have Hca := Lib.hid hca
        have Hcb := Lib.hid hcb
        have hdk : decide (k < M) = true := decide_eq_true hlt
        have hla : ya < C.length := by have := Hl.out; omega
        have hlb : yb < C.length := by have := Hl.out; omega
        clear hya hyb hva hvb hca hcb hs1 hs2 hs3 hs4 hcella hcellb hd hbw
        by_cases hvv : va = vb
        · have hvx : (va != vb) = false := by rw [hvv]; simp
          have Hq2 : Hid (qa.take (k + 1) = qb.take (k + 1)) := Lib.hid (by rw [take_snoc Hva.out, take_snoc Hvb.out, hqk.out, hvv])
          clear hvv
          by_cases hcc2 : ca = cb
          · have hcx : ((ca : Int) != (cb : Int)) = false := by rw [hcc2]; simp
            have Hn : Hid ((ra.take (k + 1)).map (fun y => Mac.cg C y.toNat) = (rb.take (k + 1)).map fun y => Mac.cg C y.toNat) := Lib.hid (by
              rw [take_snoc Hya.out, take_snoc Hyb.out, List.map_append, List.map_append, htk.out, List.map_singleton, List.map_singleton, Int.toNat_natCast, Int.toNat_natCast, Hca.out, Hcb.out, hcc2])
            clear hcc2
            go_wp2_with fail
            go_quiet (fail)
            go_wp2_with fail
            go_roundw
            case rel => exact ⟨k + 1, by omega, by go_num, Hq2, Hn, Hd.out.more _⟩
            case measure => simp [intOf] <;> omega
          · have hcx : ((ca : Int) != (cb : Int)) = true := by simp; omega
            have Hn : Hid (decide (Mac.keyS m.next m.out C a = Mac.keyS m.next m.out C b) = false) := Lib.hid (decide_eq_false (by
              rw [HK2.out]
              rintro ⟨-, e⟩
              have := congrArg (fun l => l[k]?) e
              rw [map_get Hya.out, map_get Hyb.out, Hca.out, Hcb.out] at this
              exact hcc2 (Option.some.inj this)))
            clear hcc2
            go_wp2_with fail
            go_quiet (fail)
            go_wp2_with fail
            go_ret
            exact ⟨by rw [Hn.out]; rfl, Hbw.out.trans ((Drew.by _ _).below _)⟩
        · have hvx : (va != vb) = true := by simpa using hvv
          have Hn : Hid (decide (Mac.keyS m.next m.out C a = Mac.keyS m.next m.out C b) = false) := Lib.hid (decide_eq_false (by
            rw [HK2.out]
            rintro ⟨e, -⟩
            have := congrArg (fun l => l[k]?) e
            rw [Hva.out, Hvb.out] at this
            exact hvv (Option.some.inj this)))
          clear hvv
          go_wp2_with fail
          go_quiet (fail)
          go_wp2_with fail
          go_ret
          exact ⟨by rw [Hn.out]; rfl, Hbw.out.trans ((Drew.by _ _).below _)⟩
      · obtain rfl : k = M := by omega
        have hdk : decide (k < k) = false := decide_eq_false (by omega)
        have Hn : Hid (decide (Mac.keyS m.next m.out C a = Mac.keyS m.next m.out C b) = true) := Lib.hid (decide_eq_true (by
          rw [HK2.out]
          have h1 := htk.out
          have h2 := hqk.out
          rw [List.take_of_length_le (by have := Hla.out; omega), List.take_of_length_le (by have := Hlb.out; omega)] at h1
          rw [List.take_of_length_le (by have := Hma.out; omega), List.take_of_length_le (by have := Hmb.out; omega)] at h2
          exact ⟨h2, h1⟩))
        go_wp2_with fail
        go_ret
        exact ⟨by rw [Hn.out]; rfl, Hbw.out⟩
  · have hxx : ((xa : Int) != (xb : Int)) = true := by simp; omega
    have Hn : Hid (decide (Mac.keyS m.next m.out C a = Mac.keyS m.next m.out C b) = false) := Lib.hid (decide_eq_false (by rw [HK.out]; exact fun h => hx h.1))
    clear hx HK
    go_enter Try.func41, Try.ntmps41
    go_wp2_with fail
    generalize w.alloc (.cells #[.int .i64 N, .slice (some ⟨bn, on, none⟩) m.next.length cn, .slice (some ⟨bo, oo, none⟩) m.out.length co] 25) = W at *
    go_quiet (fail)
    go_wp2_with fail
    go_ret
    exact ⟨by rw [Hn.out]; rfl, B0.out.trans ((Drew.by _ _).below _)⟩
end Go.Proofs.Ytmlmnelbphjfbaa

namespace Go.Proofs.Ytmlmnelbphjfbaa
open Go.RowKit
set_option maxRecDepth 100000
/-! The classes of a machine's states, by the reference: the rounds. -/
namespace Mac
/-- What the inner loop has found above t. -/
def Seek (key : Nat → Nat × List Int × List Nat) (n s T kk : Nat) : Prop :=
  ∃ t0, T ≤ t0 ∧ t0 ≤ s ∧ (t0 = s ∧ kk = s ∨ t0 < s ∧ key s = key t0 ∧ kk = cg (mkK key n) t0) ∧ ∀ t, T ≤ t → t < t0 → key s ≠ key t
theorem Seek.start (key : Nat → Nat × List Int × List Nat) (n s : Nat) : Seek key n s s s := ⟨s, Nat.le_refl _, Nat.le_refl _, .inl ⟨rfl, rfl⟩, fun t h1 h2 => by omega⟩
theorem Seek.no {key : Nat → Nat × List Int × List Nat} {n s t kk : Nat} (h : Seek key n s (t + 1) kk) (hk : key s ≠ key t) : Seek key n s t kk := by
  obtain ⟨t0, h1, h2, h3, h4⟩ := h
  refine ⟨t0, by omega, h2, h3, fun t' h5 h6 => ?_⟩
  by_cases e : t' = t
  · subst e; exact hk
  · exact h4 t' (by omega) h6
theorem Seek.yes {key : Nat → Nat × List Int × List Nat} {n s t kk : Nat} (h : Seek key n s (t + 1) kk) (hk : key s = key t) : Seek key n s t (cg (mkK key n) t) := by
  obtain ⟨t0, h1, h2, -⟩ := h
  exact ⟨t, Nat.le_refl _, by omega, .inr ⟨by omega, hk, rfl⟩, fun t' h5 h6 => by omega⟩
theorem Seek.done {key : Nat → Nat × List Int × List Nat} {n s kk : Nat} (h : Seek key n s 0 kk) (hs : s < n) : kk = cg (mkK key n) s := by
  obtain ⟨t0, -, h2, h3, h4⟩ := h
  obtain ⟨f1, f2, f3⟩ := mkK_facts key hs
  rcases h3 with ⟨rfl, rfl⟩ | ⟨h3, h5, rfl⟩
  · rcases Nat.lt_or_ge (cg (mkK key n) kk) kk with hl | hl
    · exact absurd f2.symm (h4 _ (Nat.zero_le _) hl)
    · omega
  · exact (mkK_iff key (by omega) hs).2 h5.symm
end Mac
set_option maxHeartbeats 8000000 in
theorem l29Classes_any (v : Value) (m : Mz) (w : World) (h : MachAt w v m) (hv : Mac.valid m = true) :
    Calls Try.prog 30 #[v] w (OwnInts (nats (Mac.classS m.next m.out)) w) := by
  have HC := Lib.hid h
  obtain ⟨An, cn, Ao, co, rfl, hcnm, hcom, hcn1, hco1⟩ := h.shape
  unfold maxLen at hcnm hcom
  obtain ⟨s1, s2, s3, s4, s5⟩ := Mac.valid_sizes hv
  have hb0 := bel_new w (.cells #[.int .i64 m.ins, .slice An m.next.length cn, .slice Ao m.out.length co] 25)
  have hmc := MCells.boxed w m.ins (.slice An m.next.length cn) (.slice Ao m.out.length co) 25
  have hmk := run_make_row' (P := Try.prog) 28 3 (.int .i64 0) 8 Try.underlying28 info_int rfl .i64 .i64 m.next.length (by omega) (by omega)
  have hHCb := HC.out.below hb0
  obtain ⟨W0, hW0⟩ : ∃ W0, w.alloc (.cells #[.int .i64 m.ins, .slice An m.next.length cn, .slice Ao m.out.length co] 25) = W0 := ⟨_, rfl⟩
  have hsW : W0.heap.size = w.heap.size + 1 := by rw [← hW0]; simp
  rw [hW0] at hb0 hmc hHCb
  have hbm := bel_new W0 (.cells (madeCells #[Value.int .i64 0] m.next.length) 3)
  have hown0 : Hid ((W0.alloc (.cells (madeCells #[Value.int .i64 0] m.next.length) 3)).ownsRow w.heap.size 3 1 (.slice (some ⟨W0.heap.size, 0, none⟩) m.next.length m.next.length) m.next.length (nints (Mac.seqS m.next m.out 0))) := Lib.hid (by
    have := World.ownsRow_lit (base := w.heap.size) (e := 3) (size := 1) W0 (madeCells #[Value.int .i64 0] m.next.length) m.next.length (by omega) (by unfold maxLen; omega) (by simp [madeCells])
    rw [made_one] at this ⊢
    unfold Mac.seqS
    rw [nints_rep]
    simpa using this)
  have B1 := Lib.hid (hb0.trans (hbm.mono hb0.size))
  have PC0 := Lib.hid hmc
  have PC1 := Lib.hid (hmc.below hbm)
  have HC1 := Lib.hid (hHCb.below hbm)
  have Hv := Lib.hid hv
  have hs1 : (W0.alloc (.cells (madeCells #[Value.int .i64 0] m.next.length) 3)).heap.size = W0.heap.size + 1 := by simp
  obtain ⟨z, p0, p1, p2⟩ := PC0.out
  clear h hv hb0 hmc hHCb hbm s1 s2 s5 HC
  go_enter Try.func30, Try.ntmps30
  go_wp2_with fail
  clear hmk z p0 p1 p2
  rw [hsW] at hown0
  generalize W0.alloc (.cells (madeCells #[Value.int .i64 0] m.next.length) 3) = W1 at *
  have hW1w : w.heap.size < W1.heap.size := by omega
  clear hW0 hsW hs1 PC0
  go_loopw [3, 4] (fun vc i wr => ∃ (vv : Value) (r : Nat), vv = vc ∧ i = .int .i64 r ∧ r ≤ m.next.length + 1 ∧ Hid (wr.ownsRow w.heap.size 3 1 vc m.next.length (nints (Mac.seqS m.next m.out r))) ∧ Hid (Below W1.heap.size W1 wr)) (fun _ i _ => m.next.length + 1 - (intOf i).toNat)
  case atStart => exact ⟨_, 0, rfl, rfl, Nat.zero_le _, hown0, Lib.hid (Below.refl _ _)⟩
  case round =>
    obtain ⟨vv, r, hvv, rfl, hr, Hc, Hb⟩ := hrel
    subst hvv
    clear hown0
    have hzb := Hb.out.size
    have hlr := (Mac.seqS_cl m.next m.out r).len
    have hlr1 := (Mac.seqS_cl m.next m.out (r + 1)).len
    have Hlr := Lib.hid hlr
    have Hlr1 := Lib.hid hlr1
    clear hlr hlr1
    obtain ⟨gC, cC, hvC, hgC, hgC2, hcC, hcCm⟩ := own_open Hc.out (by omega)
    subst hvC
    unfold maxLen at hcCm
    obtain ⟨z, p0, p1, p2⟩ := PC1.out.below Hb.out
    by_cases hlt : r ≤ m.next.length
    · have hdr : decide ((r : Int) ≤ (m.next.length : Int)) = true := decide_eq_true (by omega)
      have hdr2 : decide (r ≤ m.next.length) = true := decide_eq_true hlt
      have hbl := bel_new wr (.cells #[] 3)
      have HX0 : Hid ((wr.alloc (.cells #[] 3)).ownsRow wr.heap.size 3 1 (.slice (some ⟨wr.heap.size, 0, none⟩) 0 0) 0 (nints ((Mac.seqS m.next m.out (r + 1)).take 0))) := Lib.hid (World.ownsRow_lit (base := wr.heap.size) (e := 3) (size := 1) wr #[] 0 (Nat.le_refl _) (by unfold maxLen; omega) rfl)
      have Hbl := Lib.hid hbl
      clear hbl
      go_wp2_with fail
      obtain ⟨Wk, hWk⟩ : ∃ Wk, Wk = wr := ⟨_, rfl⟩
      subst hWk
      clear p0 p1 p2 z
      go_loopw [5, 6] (fun vx i wi => ∃ (vv : Value) (s : Nat), vv = vx ∧ i = .int .i64 s ∧ s ≤ m.next.length ∧ Hid (wi.ownsRow Wk.heap.size 3 1 vx s (nints ((Mac.seqS m.next m.out (r + 1)).take s))) ∧ Hid (Below Wk.heap.size Wk wi)) (fun _ i _ => m.next.length - (intOf i).toNat)
      case atStart => exact ⟨_, 0, rfl, rfl, Nat.zero_le _, HX0, Hbl⟩
      case round =>
        obtain ⟨vx, s, hvx, rfl, hs, Hx, Hbi⟩ := hrel
        subst hvx
        clear HX0 Hbl
        have hzi := Hbi.out.size
        by_cases hls : s < m.next.length
        · have hds : decide (s < m.next.length) = true := decide_eq_true hls
          have hws := IntWalk.i64_in ((s : Int) - 1) (by omega)
          have HK0 := Lib.hid (Mac.Seek.start (Mac.keyS m.next m.out (Mac.seqS m.next m.out r)) m.next.length s)
          go_wp2_with fail
          obtain ⟨Wi, hWi⟩ : ∃ Wi, Wi = wr := ⟨_, rfl⟩
          subst hWi
          go_loopw [7, 8] (fun vk vt wj => ∃ (kk T : Nat), vk = .int .i64 kk ∧ vt = .int .i64 ((T : Int) - 1) ∧ T ≤ s ∧ kk ≤ 8 ∧ Hid (Mac.Seek (Mac.keyS m.next m.out (Mac.seqS m.next m.out r)) m.next.length s T kk) ∧ Hid (Below Wi.heap.size Wi wj)) (fun _ vt _ => (intOf vt + 1).toNat)
          case atStart => exact ⟨s, s, rfl, rfl, Nat.le_refl _, by omega, HK0, Lib.hid (Below.refl _ _)⟩
          case round =>
            obtain ⟨kk, T, rfl, rfl, hT, hk8, HS, Hbj⟩ := hrel
            clear HK0
            have hzj := Hbj.out.size
            have Hbjk := Lib.hid (Hbi.out.trans (Hbj.out.mono hzi))
            have Hxj := Lib.hid (own_below Hx.out Hbj.out)
            rcases T with _ | t
            · have e0 : (((0 : Nat) : Int) - 1) = -1 := by omega
              rw [e0]
              have hkk := HS.out.done hls
              have HKK : Hid (nints ((Mac.seqS m.next m.out (r + 1)).take (s + 1)) = nints ((Mac.seqS m.next m.out (r + 1)).take s) ++ [.int .i64 (kk : Int)]) := Lib.hid (by
                have h1 : (Mac.seqS m.next m.out (r + 1))[s]? = some kk := by
                  rw [hkk]
                  unfold Mac.cg
                  have hl := Hlr1.out
                  rw [List.getD_eq_getElem?_getD]
                  show (Mac.mkK _ _)[s]? = _
                  rw [Mac.mkK_get _ hls]
                  rfl
                rw [take_snoc h1, nints_snoc])
              have Hlit := Lib.hid (Row.of_own (World.ownsRow_lit (base := wr.heap.size) (e := 3) (size := 1) wr #[.int .i64 kk] 1 (Nat.le_refl _) (by unfold maxLen; omega) rfl))
              clear hkk
              go_wp2_with (at_builtin; refine append_ints rfl (.tmp 43) (.tmp 45) rfl Wk.heap.size _ s _ rfl (Hxj.out.alloc _) _ 1 [.int .i64 kk] rfl Hlit.out (by simp [Value.oneCell']) (by omega) (by simp <;> omega) ?_; intro v7 w7 hown7 hg7 hat7; have Hx7 := Lib.hid hown7; have Hb7 := Lib.hid ((Hbjk.out.alloc (by omega) (.cells #[.int .i64 kk] 3)).grown hg7 (by simp <;> omega) (own_ge0 Hxj.out)); clear hown7 hg7 hat7)
              go_roundw
              case rel => exact ⟨_, s + 1, rfl, by go_num, by omega, Lib.hid (by rw [HKK.out]; exact Hx7.out), Hb7⟩
              case measure => simp [intOf] <;> omega
            · have e0 : (((t + 1 : Nat) : Int) - 1) = (t : Int) := by omega
              rw [e0]
              have hts : t < m.next.length := by omega
              have hwt := IntWalk.i64_in ((t : Int) - 1) (by omega)
              have hMj := HC1.out.below (Hb.out.trans (Hbjk.out.mono hzb))
              have hCj := own_below Hc.out Hbjk.out
              have hA := l29Alike_any _ (.slice (some ⟨gC, 0, none⟩) m.next.length cC) m (Mac.seqS m.next m.out r) s t wr hMj Hv.out (nats_own hCj Hlr.out) Hlr.out hls hts
              obtain ⟨z, p0, p1, p2⟩ := PC1.out.below (Hb.out.trans (Hbjk.out.mono hzb))
              have htz : (0 : Int) ≤ t := by omega
              by_cases hkey : Mac.keyS m.next m.out (Mac.seqS m.next m.out r) s = Mac.keyS m.next m.out (Mac.seqS m.next m.out r) t
              · rw [decide_eq_true hkey] at hA
                have HA := Lib.hid hA
                have HN := Lib.hid (HS.out.yes hkey)
                obtain ⟨c1, hc1⟩ : ∃ c1, Mac.cg (Mac.mkK (Mac.keyS m.next m.out (Mac.seqS m.next m.out r)) m.next.length) t = c1 := ⟨_, rfl⟩
                have hc8 : c1 ≤ t := by rw [← hc1]; exact (Mac.mkK_facts _ hts).1
                rw [hc1] at HN
                have HCt : Hid ((nints ((Mac.seqS m.next m.out (r + 1)).take s))[t]? = some (.int .i64 (c1 : Int))) := Lib.hid (by
                  unfold nints ints nats
                  rw [List.getElem?_map, List.getElem?_map, List.getElem?_take, if_pos (show t < s by omega)]
                  show Option.map _ (Option.map _ ((Mac.mkK _ _)[t]?)) = _
                  rw [Mac.mkK_get _ hts, ← hc1, Mac.mkK_cg _ hts]
                  rfl)
                obtain ⟨gx, cx, hvx, hgx, hgx2, hcx, hcxm⟩ := own_open Hxj.out (by omega)
                subst hvx
                unfold maxLen at hcxm
                have hts2 : decide (t < s) = true := decide_eq_true (by omega)
                clear hA hkey hMj hCj hc1
                go_wp2_with fail
                refine HA.out.mono ?_
                rintro e w' ⟨rfl, hb'⟩
                have Hbj2 := Lib.hid (Hbj.out.trans (hb'.mono hzj))
                obtain ⟨u0, hu0, hcell, -⟩ := own_slot (own_below Hxj.out hb') (j := t) (by omega)
                rw [HCt.out] at hu0
                obtain rfl := Option.some.inj hu0
                clear hb' hu0 p0 p1 p2 z
                go_wp2_with fail
                go_roundw
                case rel => exact ⟨c1, t, rfl, rfl, by omega, by omega, HN, Hbj2⟩
                case measure => simp [intOf] <;> omega
              · rw [decide_eq_false hkey] at hA
                have HA := Lib.hid hA
                have HN := Lib.hid (HS.out.no hkey)
                clear hA hkey hMj hCj
                go_wp2_with fail
                refine HA.out.mono ?_
                rintro e w' ⟨rfl, hb'⟩
                have Hbj2 := Lib.hid (Hbj.out.trans (hb'.mono hzj))
                clear hb' p0 p1 p2 z
                go_wp2_with fail
                go_roundw
                case rel => exact ⟨kk, t, rfl, rfl, by omega, by omega, HN, Hbj2⟩
                case measure => simp [intOf] <;> omega
        · obtain rfl : s = m.next.length := by omega
          have hds : decide (m.next.length < m.next.length) = false := decide_eq_false (by omega)
          have HX1 : Hid (wr.ownsRow w.heap.size 3 1 vx m.next.length (nints (Mac.seqS m.next m.out (r + 1)))) := Lib.hid (own_mono (by
            have := Hx.out
            rwa [List.take_of_length_le (by have := Hlr1.out; omega)] at this) (by omega))
          have Hb2 := Lib.hid (Hb.out.trans (Hbi.out.mono hzb))
          go_wp2_with fail
          go_roundw
          case rel => exact ⟨_, r + 1, rfl, by go_num, by omega, HX1, Hb2⟩
          case measure => simp [intOf] <;> omega
    · obtain rfl : r = m.next.length + 1 := by omega
      have hdr : decide (((m.next.length + 1 : Nat) : Int) ≤ (m.next.length : Int)) = false := decide_eq_false (by omega)
      have hdr2 : decide (m.next.length + 1 ≤ m.next.length) = false := decide_eq_false (by omega)
      have HF : Hid (wr.ownsRow w.heap.size 3 1 (.slice (some ⟨gC, 0, none⟩) m.next.length cC) (nats (Mac.classS m.next m.out)).length (ints (nats (Mac.classS m.next m.out)))) := Lib.hid (by
        rw [nats_length]
        unfold Mac.classS
        rw [Hlr.out]
        exact Hc.out)
      go_wp2_with fail
      go_ret
      exact ⟨_, rfl, HF.out, B1.out.trans (Hb.out.mono (by omega))⟩
end Go.Proofs.Ytmlmnelbphjfbaa

namespace Go.Proofs.Ytmlmnelbphjfbaa
open Go.RowKit
set_option maxRecDepth 100000
/-! Minimize, by the reference. -/
namespace Mac
theorem min_rowD {m : Mz} (hv : valid m = true) {L : List Nat} (h : Bfs m.next (classI m.next m.out) L.length L) {k s : Nat} (hs : L[k]? = some s) :
    (minI m).next.take (k + 1) = (minI m).next.take k ++ [nats ((succL m.next (classI m.next m.out) s).map (idxG L))] ∧ (∃ q, m.out[s]? = some q ∧ q.length = 2 ^ m.ins.toNat ∧ (minI m).out.take (k + 1) = (minI m).out.take k ++ [q]) ∧ ∀ c ∈ succL m.next (classI m.next m.out) s, c ∈ L := by
  have hsm := List.mem_of_getElem? hs
  have hsl := h.lt s hsm
  have hsz := valid_sizes hv
  obtain ⟨r, q, y, o, -, h2, -, h4, -⟩ := valid_row hv hsl (show 0 < 2 ^ m.ins.toNat from Nat.pow_pos (by decide))
  refine ⟨take_snoc ?_, ⟨q, h2, h4, take_snoc ?_⟩, fun c hc => ?_⟩
  · rw [minI_next hv, List.getElem?_map, h.done, hs, Option.map_some]
    unfold nats
    rw [List.map_map]
    rfl
  · rw [minI_out hv, List.getElem?_map, h.done, hs, Option.map_some, key0_get h2]
  · have := ord_closed (rows_of m hv) (show 0 < m.next.length by omega) (show m.next.length ≤ 8 by omega) s (by rw [h.done]; exact hsm) c hc
    rwa [h.done] at this
end Mac
set_option maxHeartbeats 16000000 in
theorem specMinz_ok (v : Value) (m : Mz) (w : World) (h : MachAt w v m) (hv : Mac.valid m = true) :
    Calls Try.prog 18 #[v] w (OwnMachZ (Mac.minI m) w) := by
  have HC := Lib.hid h
  obtain ⟨An, cn, Ao, co, rfl, hcnm, hcom, hcn1, hco1⟩ := h.shape
  unfold maxLen at hcnm hcom
  obtain ⟨s1, s2, s3, s4, s5⟩ := Mac.valid_sizes hv
  obtain ⟨N, hN⟩ := Int.eq_ofNat_of_zero_le s1
  have hN4 : N ≤ 4 := by omega
  obtain ⟨M, eM, hM0⟩ : ∃ M : Nat, (2 : Int) ^ N = (M : Int) ∧ M = 2 ^ N := ⟨2 ^ N, two_pow N, rfl⟩
  have hp4 : M ≤ 16 := by rw [hM0]; exact Nat.pow_le_pow_right (show 0 < 2 by decide) hN4
  have hp1 : 0 < M := by rw [hM0]; exact Nat.pow_pos (by decide)
  have hwM := IntWalk.i64_in (M : Int) (by omega)
  have hM : 2 ^ m.ins.toNat = M := by rw [hN, hM0]; rfl
  have hb0 := bel_new w (.cells #[.int .i64 m.ins, .slice An m.next.length cn, .slice Ao m.out.length co] 25)
  have hb00 := bel_new (w.alloc (.cells #[.int .i64 m.ins, .slice An m.next.length cn, .slice Ao m.out.length co] 25)) (.cells #[.int .i64 0, .slice none 0 0, .slice none 0 0] 25)
  have hb000 := hb0.trans (hb00.mono hb0.size)
  have hpc := (MCells.boxed w m.ins (.slice An m.next.length cn) (.slice Ao m.out.length co) 25).below hb00
  have hsz : ((w.alloc (.cells #[.int .i64 m.ins, .slice An m.next.length cn, .slice Ao m.out.length co] 25)).alloc (.cells #[.int .i64 0, .slice none 0 0, .slice none 0 0] 25)).heap.size = w.heap.size + 2 := by simp
  have hR : ((w.alloc (.cells #[.int .i64 m.ins, .slice An m.next.length cn, .slice Ao m.out.length co] 25)).alloc (.cells #[.int .i64 0, .slice none 0 0, .slice none 0 0] 25)).heap[w.heap.size + 1]? = some (.cells #[.int .i64 0, .slice none 0 0, .slice none 0 0] 25 (0, 0)) := by
    have := heap_alloc_new (w.alloc (.cells #[.int .i64 m.ins, .slice An m.next.length cn, .slice Ao m.out.length co] 25)) (.cells #[.int .i64 0, .slice none 0 0, .slice none 0 0] 25)
    rwa [World.size_alloc] at this
  have hHC0 := HC.out.below hb000
  have hV := specMValid_any _ m _ hHC0
  have hL := fun w' hm => l29Classes_any (.agg #[.int .i64 m.ins, .slice An m.next.length cn, .slice Ao m.out.length co]) m w' hm hv
  rw [hv] at hV
  have HRes := Lib.hid hR
  have B0 := Lib.hid hb000
  have HSG := Lib.hid (fun s j hs hj => Mac.succ_get hv (s := s) (j := j) hs hj)
  have HSL := Lib.hid (fun s hs => Mac.succ_lt hv (s := s) hs)
  have HMR := Lib.hid (fun L k s h hs => Mac.min_row hv (L := L) (k := k) (s := s) h hs)
  have HMD := Lib.hid (fun L h => Mac.min_done hv (L := L) h)
  have HMW := Lib.hid (fun L k s h hs => Mac.min_rowD hv (L := L) (k := k) (s := s) h hs)
  have HClen := Lib.hid (show (Mac.classI m.next m.out).length = m.next.length from (Mac.seqI_cl m.next m.out (m.next.length + 1)).len)
  obtain ⟨C, hC⟩ : ∃ C, Mac.classI m.next m.out = C := ⟨_, rfl⟩
  have hCS : Mac.classS m.next m.out = C := by rw [Mac.class_same (Mac.rows_of m hv), hC]
  rw [hM] at HSG HSL HMR HMW
  rw [hC] at HSG HSL HMR HMD HClen HMW
  simp only [hCS] at hL
  rw [hN] at hsz HRes hpc hV hL B0 hHC0 ⊢
  have HC0 := Lib.hid hHC0
  have HV := Lib.hid hV
  have HLc := Lib.hid hL
  have PC := Lib.hid hpc
  have S5 := Lib.hid s5
  have HinsE : Hid ((Mac.minI m).ins = (N : Int)) := Lib.hid (by rw [Mac.min_ins hv, hN])
  obtain ⟨z, p0, p1, p2⟩ := PC.out
  clear hM hC hM0 hL hV hv hb0 hb00 hb000 hR s1 s2 s5 h hN hpc hHC0 hCS HC
  go_enter Try.func18, Try.ntmps18
  go_wp2_with fail
  generalize (w.alloc (.cells #[.int .i64 N, .slice An m.next.length cn, .slice Ao m.out.length co] 25)).alloc (.cells #[.int .i64 0, .slice none 0 0, .slice none 0 0] 25) = W at *
  refine HV.out.mono ?_
  rintro e w1 ⟨rfl, hb1⟩
  have B1 := Lib.hid (B0.out.trans (hb1.mono B0.out.size))
  have HC1 := Lib.hid (HC0.out.below hb1)
  have HRes1 := Lib.hid ((hb1.block _ (by omega)).trans HRes.out)
  have PC1 := Lib.hid (PC.out.below hb1)
  have z1 := hb1.size
  clear hb1 p0 p1 p2 z HV HC0 HRes PC
  obtain ⟨z, p0, p1, p2⟩ := PC1.out
  have HK := Lib.hid (HLc.out w1 HC1.out)
  clear HLc
  go_wp2_with fail
  refine HK.out.mono ?_
  rintro e w2 ⟨vC, rfl, hO2, hb2⟩
  have B2 := Lib.hid (B1.out.trans (hb2.mono B1.out.size))
  have HC2 := Lib.hid (HC1.out.below hb2)
  have HRes2 := Lib.hid ((hb2.block _ (by omega)).trans HRes1.out)
  have PC2 := Lib.hid (PC1.out.below hb2)
  have z2 := hb2.size
  rw [nats_length, HClen.out] at hO2
  obtain ⟨gC, cC, hvC, hgC, hgC2, hcC, hcCm⟩ := own_open hO2 (by omega)
  subst hvC
  unfold maxLen at hcCm
  have HCC : Hid (∀ y c, C[y]? = some c → w2.cell? ⟨gC, y, none⟩ = some (.int .i64 (c : Nat))) := Lib.hid fun y c hy => by
    have hyl := (List.getElem?_eq_some_iff.1 hy).1
    obtain ⟨u, hu, hcell, -⟩ := own_slot hO2 (j := y) (by have := HClen.out; omega)
    unfold ints nats at hu
    rw [List.getElem?_map, List.getElem?_map, hy] at hu
    rw [hcell, ← hu]
    rfl
  clear hb2 p0 p1 p2 z HC1 HRes1 PC1 HK hO2
  have hbl := bel_new w2 (.cells #[.int .i64 0] 3)
  have hsl : (w2.alloc (.cells #[.int .i64 0] 3)).heap.size = w2.heap.size + 1 := by simp
  have HOr : Hid ((w2.alloc (.cells #[.int .i64 0] 3)).ownsRow w2.heap.size 3 1 (.slice (some ⟨w2.heap.size, 0, none⟩) 1 1) [0].length (nints [0])) := Lib.hid (World.ownsRow_lit (base := w2.heap.size) (e := 3) (size := 1) w2 #[.int .i64 0] 1 (Nat.le_refl _) (by unfold maxLen; omega) rfl)
  have HBf := Lib.hid hbl
  have HBs := Lib.hid (Mac.Bfs.start (next := m.next) (C := C) (by omega))
  clear hbl
  go_wp2_with fail
  generalize w2.alloc (.cells #[.int .i64 0] 3) = w3 at *
  clear hsl
  go_loopw [4, 5] (fun vo i wr => ∃ (vv : Value) (k : Nat) (L : List Nat), vv = vo ∧ i = .int .i64 k ∧ Hid (Mac.Bfs m.next C k L) ∧ Hid (wr.ownsRow w2.heap.size 3 1 vo L.length (nints L)) ∧ Hid (Below w2.heap.size w2 wr)) (fun _ i _ => 9 - (intOf i).toNat)
  case atStart => exact ⟨_, 0, [0], rfl, rfl, HBs, HOr, HBf⟩
  case round =>
    obtain ⟨vv, k, L, hvv, rfl, HB, Ho, Hb⟩ := hrel
    subst hvv
    clear HOr HBf HBs
    have hzb := Hb.out.size
    have hL8 := HB.out.len
    have hkL := HB.out.kl
    obtain ⟨A1, c1, hv1⟩ := slice_of_own Ho.out
    subst hv1
    by_cases hlt : k < L.length
    · have hdk : decide (k < L.length) = true := decide_eq_true hlt
      obtain ⟨s, hs⟩ := at_some hlt
      have hsN := HB.out.lt s (List.mem_of_getElem? hs)
      obtain ⟨rr, -, -, er, lr, -⟩ := HSG.out s 0 hsN hp1
      obtain ⟨un, uo, huv, rn, ro⟩ := HC2.out
      simp only [Value.agg.injEq, Array.mk.injEq, List.cons.injEq, and_true] at huv
      obtain ⟨-, rfl, rfl⟩ := huv
      obtain ⟨bn, on, Bn, mn, hAn, hbn, hcn0, hn1, hn2, hrn⟩ := ss_open rn (Below.refl _ _) er
      rw [lr] at hcn0 hn1
      unfold maxLen at hn2
      subst hAn
      obtain ⟨hSl, hSc⟩ := HSL.out s hsN
      have HSG2 : Hid (∀ j, j < M → ∃ y c : Nat, rr[j]? = some ((y : Nat) : Int) ∧ y < m.next.length ∧ C[y]? = some c ∧ (Mac.succL m.next C s)[j]? = some c ∧ c < m.next.length) := Lib.hid fun j hj => by
        obtain ⟨r', y, c, g1, g2, g3, g4, g5, g6, g7⟩ := HSG.out s j hsN hj
        rw [er] at g1
        obtain rfl := Option.some.inj g1
        exact ⟨y, c, g3, g4, g5, g6, g7⟩
      have HLe : Hid (∀ j, (Mac.pushesG L ((Mac.succL m.next C s).take j)).length ≤ m.next.length) := Lib.hid fun j => Mac.nodup_lt _ _ (Mac.pushesG_nodup _ HB.out.nd) (fun x hx => ((Mac.mem_pushesG _ _).1 hx).elim (HB.out.lt x) (fun h => hSc x (List.mem_of_mem_take h)))
      have HStep := Lib.hid (HB.out.step s4 hs hSc)
      have HRn := Lib.hid hrn
      have Hlr := Lib.hid lr
      have Hs := Lib.hid hs
      have HCn := Lib.hid hcn0
      obtain ⟨S, hS⟩ : ∃ S, Mac.succL m.next C s = S := ⟨_, rfl⟩
      rw [hS] at HSG2 HLe HStep hSl
      have HSl := Lib.hid hSl
      have hmn : decide (s < m.next.length) = true := decide_eq_true hsN
      have HPre : Hid (∀ j, (nints (Mac.pushesG L (S.take j)))[k]? = some (.int .i64 (s : Nat)) ∧ k < (Mac.pushesG L (S.take j)).length) := Lib.hid fun j => by
        obtain ⟨mm, hmm⟩ := Mac.pushesG_prefix (S.take j) L
        refine ⟨?_, by rw [hmm, List.length_append]; omega⟩
        unfold nints ints nats
        rw [List.getElem?_map, List.getElem?_map, hmm, List.getElem?_append_left (by omega), Hs.out]
        rfl
      have HoK : Hid (wr.ownsRow w2.heap.size 3 1 (.slice A1 L.length c1) (Mac.pushesG L (S.take 0)).length (nints (Mac.pushesG L (S.take 0)))) := Lib.hid Ho.out
      clear rn ro er lr hrn hSl hSc hs hS hcn0
      go_wp2_with fail
      clear Ho
      obtain ⟨Wr, hWr⟩ : ∃ Wr, Wr = wr := ⟨_, rfl⟩
      subst hWr
      go_loopw [4, 6] (fun vo i wi => ∃ (v1 : Value) (j : Nat), v1 = vo ∧ i = .int .i64 j ∧ j ≤ M ∧ Hid (wi.ownsRow w2.heap.size 3 1 vo (Mac.pushesG L (S.take j)).length (nints (Mac.pushesG L (S.take j)))) ∧ Hid (Below w2.heap.size w2 wi)) (fun _ i _ => M - (intOf i).toNat)
      case atStart => exact ⟨_, 0, rfl, rfl, Nat.zero_le _, HoK, Hb⟩
      case round =>
        obtain ⟨v1, j, h1, rfl, hj, Hov, HbI⟩ := hrel
        subst h1
        clear HoK Hb
        have hzi := HbI.out.size
        obtain ⟨z, p0, p1, p2⟩ := PC2.out.below HbI.out
        by_cases hlj : j < M
        · have hdj : decide (j < M) = true := decide_eq_true hlj
          obtain ⟨y, c, hy, hyN, hCy, hSj, hcN⟩ := HSG2.out j hlj
          obtain ⟨b1, o1, rfl, hb1, hcy0⟩ := ints_row HRn.out rfl hy
          have hcy := (HbI.out.cell (p := ⟨b1, o1 + j, none⟩) hb1).trans hcy0
          have hcC := (HbI.out.cell (p := ⟨gC, y, none⟩) hgC2).trans (HCC.out y c hCy)
          have hcn := (HbI.out.cell (p := ⟨bn, on + s, none⟩) hbn).trans HCn.out
          have hyd : decide (y < m.next.length) = true := decide_eq_true hyN
          obtain ⟨hpk, hpl⟩ := HPre.out j
          obtain ⟨gP, cP, hvP, hgP, hgP2, hcP, hcPm⟩ := own_open Hov.out (by omega)
          subst hvP
          unfold maxLen at hcPm
          obtain ⟨u0, hu0, hcellP, -⟩ := own_slot Hov.out (j := k) (by omega)
          rw [hpk] at hu0
          obtain rfl := Option.some.inj hu0
          have hdp : decide (k < (Mac.pushesG L (S.take j)).length) = true := decide_eq_true hpl
          have hLS : Mac.pushesG L (S.take (j + 1)) = Mac.pushG (Mac.pushesG L (S.take j)) c := by rw [take_snoc hSj, Mac.pushesG_snoc]
          have hLl := HLe.out j
          have hLl1 := HLe.out (j + 1)
          have HIx := Lib.hid (fun w' (hn : NatsAt w' (.slice (some ⟨gP, 0, none⟩) (Mac.pushesG L (S.take j)).length cP) (Mac.pushesG L (S.take j))) => l29At_any _ (Mac.pushesG L (S.take j)) c w' hn (by omega))
          have HidG : Hid (idxOf (Mac.pushesG L (S.take j)) c = if c ∈ Mac.pushesG L (S.take j) then ((Mac.idxG (Mac.pushesG L (S.take j)) c : Nat) : Int) else -1) := Lib.hid Mac.idxOf_G
          have HLS := Lib.hid hLS
          have HNat := Lib.hid (own_nats Hov.out)
          obtain ⟨LJ, hLJ⟩ : ∃ LJ, Mac.pushesG L (S.take j) = LJ := ⟨_, rfl⟩
          rw [hLJ] at HIx HidG HLS Hov HNat hpk hpl hdp hcP hLl ⊢
          have HLJ := Lib.hid hLJ
          clear hy hCy hSj hcy0 hu0 hpk hLS hLJ
          go_wp2_with fail
          go_quiet (fail)
          go_wp2_with fail
          have HD := Lib.hid (Drew.by wr nq)
          generalize wr.drewN nq = Wd at *
          have Hov2 := Lib.hid (own_below Hov.out (HD.out.below wr.heap.size))
          have HbD := Lib.hid (HbI.out.trans (HD.out.below w2.heap.size))
          have HId := Lib.hid (HIx.out Wd (HNat.out.below (HD.out.below wr.heap.size)))
          have hzd := HbD.out.size
          by_cases hmem : c ∈ LJ
          · have hidx : idxOf LJ c = ((Mac.idxG LJ c : Nat) : Int) := by rw [HidG.out, if_pos hmem]
            have hlse : Mac.pushesG L (S.take (j + 1)) = LJ := by rw [HLS.out]; unfold Mac.pushG; rw [if_pos hmem]
            obtain ⟨q, hq⟩ : ∃ q, Mac.idxG LJ c = q := ⟨_, rfl⟩
            rw [hq] at hidx
            rw [hidx] at HId
            have HLSe := Lib.hid hlse
            have hq0 : decide ((q : Int) < 0) = false := decide_eq_false (by omega)
            clear hmem hq hlse hidx HidG
            refine HId.out.mono ?_
            rintro e w' ⟨rfl, rfl⟩
            go_wp2_with fail
            go_roundw
            case rel => exact ⟨_, j + 1, rfl, by go_num, by omega, Lib.hid (by rw [HLSe.out]; exact Hov2.out), HbD⟩
            case measure => simp [intOf] <;> omega
          · have hidx : idxOf LJ c = -1 := by rw [HidG.out, if_neg hmem]
            have hlse : Mac.pushesG L (S.take (j + 1)) = LJ ++ [c] := by rw [HLS.out]; unfold Mac.pushG; rw [if_neg hmem]
            rw [hidx] at HId
            have HLl : Hid ((Mac.pushesG L (S.take (j + 1))).length = LJ.length + 1) := Lib.hid (by rw [hlse, List.length_append]; rfl)
            have HLn : Hid (nints (Mac.pushesG L (S.take (j + 1))) = nints LJ ++ [.int .i64 (c : Int)]) := Lib.hid (by rw [hlse, nints_snoc])
            have Hlit := Lib.hid (Row.of_own (World.ownsRow_lit (base := Wd.heap.size) (e := 3) (size := 1) Wd #[.int .i64 c] 1 (Nat.le_refl _) (by unfold maxLen; omega) rfl))
            clear hmem hlse hidx HidG
            refine HId.out.mono ?_
            rintro e w' ⟨rfl, rfl⟩
            go_wp2_with (at_builtin; refine append_ints rfl (.tmp 50) (.tmp 52) rfl w2.heap.size _ LJ.length _ rfl (Hov2.out.alloc _) _ 1 [.int .i64 c] rfl Hlit.out (by simp [Value.oneCell']) (by omega) (by simp <;> omega) ?_; intro v7 w7 hown7 hg7 hat7; have Ho7 := Lib.hid hown7; have Hb7 := Lib.hid ((HbD.out.alloc hzd (.cells #[.int .i64 c] 3)).grown hg7 (by simp <;> omega) (own_ge0 Hov2.out)); clear hown7 hg7 hat7)
            go_roundw
            case rel => exact ⟨_, j + 1, rfl, by go_num, by omega, Lib.hid (by rw [HLl.out, HLn.out]; exact Ho7.out), Hb7⟩
            case measure => simp [intOf] <;> omega
        · obtain rfl : j = M := by omega
          have hdj : decide (j < j) = false := decide_eq_false (by omega)
          have HoF : Hid (wr.ownsRow w2.heap.size 3 1 v1 (Mac.pushesG L S).length (nints (Mac.pushesG L S))) := Lib.hid (by
            have := Hov.out
            rwa [List.take_of_length_le (by have := HSl.out; omega)] at this)
          go_wp2_with fail
          go_roundw
          case rel => exact ⟨_, k + 1, _, rfl, by go_num, HStep, HoF, HbI⟩
          case measure => simp [intOf] <;> omega
    · obtain rfl : k = L.length := by omega
      have hdk : decide (L.length < L.length) = false := decide_eq_false (by omega)
      have HNL := Lib.hid (own_nats Ho.out)
      have Lpos : 0 < L.length := by
        rcases Nat.eq_zero_or_pos L.length with h0 | h0
        · have := HB.out.done
          have h1 := List.eq_nil_of_length_eq_zero h0
          have h2 : 0 < (Mac.ordL m.next C).length := by
            obtain ⟨mm, hmm⟩ := Mac.bfsG_prefix (Mac.succL m.next C) 9 0 [0]
            unfold Mac.ordL
            rw [hmm]; simp
          rw [this, h1] at h2
          simp at h2
        · exact h0
      obtain ⟨gP, cP, hvP, hgP, hgP2, hcP, hcPm⟩ := own_open Ho.out Lpos
      injection hvP with hvP1 _ hvP2
      subst hvP1 hvP2
      unfold maxLen at hcPm
      have HPk : Hid (∀ k s, L[k]? = some s → wr.cell? ⟨gP, k, none⟩ = some (.int .i64 (s : Nat))) := Lib.hid fun k s hs => by
        obtain ⟨u, hu, hcell, -⟩ := own_slot Ho.out (j := k) (by have := (List.getElem?_eq_some_iff.1 hs).1; omega)
        unfold nints ints nats at hu
        rw [List.getElem?_map, List.getElem?_map, hs] at hu
        rw [hcell, ← hu]
        rfl
      obtain ⟨z, p0, p1, p2⟩ := PC2.out.below Hb.out
      have hbm := bel_new wr (.cells #[.int .i64 N, .slice none 0 0, .slice none 0 0] 25)
      have HMB0 := Lib.hid (MB.start (ins := (N : Int)) (w := wr) trivial)
      have HBm := Lib.hid hbm
      clear hbm Ho
      go_wp2_with fail
      clear z p0 p1 p2
      obtain ⟨W4, hW4⟩ : ∃ W4, W4 = wr := ⟨_, rfl⟩
      subst hW4
      generalize W4.alloc (.cells #[.int .i64 N, .slice none 0 0, .slice none 0 0] 25) = w5 at *
      obtain ⟨gm, hgm⟩ : ∃ gm, W4.heap.size = gm := ⟨_, rfl⟩
      rw [hgm] at HMB0 hgP2 hzb ⊢
      have Hgm := Lib.hid hgm
      clear hgm
      go_loopw [9] (fun i wr => ∃ (k : Nat) (E1 E2 : Nat → Prop) (vN vO : Value), i = .int .i64 k ∧ k ≤ L.length ∧ Hid (MB gm N E1 E2 vN vO ((Mac.minI m).next.take k) ((Mac.minI m).out.take k) wr) ∧ Hid (Below gm W4 wr)) (fun i _ => L.length - (intOf i).toNat)
      case atStart => exact ⟨0, _, _, _, _, rfl, Nat.zero_le _, HMB0, Lib.hid (by rw [← Hgm.out]; exact HBm.out)⟩
      case round =>
        obtain ⟨k, E1, E2, vN, vO, rfl, hk, HMB, Hbr⟩ := hrel
        clear HMB0 HBm
        have hgm1 := mb_lt HMB.out
        have hzr : gm ≤ wr.heap.size := by omega
        by_cases hlk : k < L.length
        · have hdk2 : decide (k < L.length) = true := decide_eq_true hlk
          obtain ⟨s, hs⟩ := at_some hlk
          have hsN := HB.out.lt s (List.mem_of_getElem? hs)
          obtain ⟨hxN, ⟨qq, eq, lq, hxO⟩, hcl⟩ := HMW.out L k s HB.out hs
          obtain ⟨rr, -, -, er, lr, -⟩ := HSG.out s 0 hsN hp1
          obtain ⟨un, uo, huv, rn, ro⟩ := HC2.out
          simp only [Value.agg.injEq, Array.mk.injEq, List.cons.injEq, and_true] at huv
          obtain ⟨-, rfl, rfl⟩ := huv
          obtain ⟨bn, on, Bn, mn, hAn, hbn, hcn0, hn1, hn2, hrn⟩ := ss_open rn (Below.refl _ _) er
          obtain ⟨bo, oo, Bo, mo, hAo, hbo, hco0, ho1, ho2, hro⟩ := ss_open ro (Below.refl _ _) eq
          rw [lr] at hcn0 hn1
          rw [lq] at hco0 ho1
          unfold maxLen at hn2 ho2
          subst hAn hAo
          obtain ⟨hSl, -⟩ := HSL.out s hsN
          have HSG2 : Hid (∀ j, j < M → ∃ y c : Nat, rr[j]? = some ((y : Nat) : Int) ∧ y < m.next.length ∧ C[y]? = some c ∧ (Mac.succL m.next C s)[j]? = some c ∧ c < m.next.length) := Lib.hid fun j hj => by
            obtain ⟨r', y, c, g1, g2, g3, g4, g5, g6, g7⟩ := HSG.out s j hsN hj
            rw [er] at g1
            obtain rfl := Option.some.inj g1
            exact ⟨y, c, g3, g4, g5, g6, g7⟩
          have HRn := Lib.hid hrn
          have HRo := Lib.hid hro
          have Hlq := Lib.hid lq
          have HCn := Lib.hid hcn0
          have HCo := Lib.hid hco0
          have HXO := Lib.hid hxO
          have Hcl := Lib.hid hcl
          have HPs := Lib.hid (HPk.out k s hs)
          obtain ⟨S, hS⟩ : ∃ S, Mac.succL m.next C s = S := ⟨_, rfl⟩
          rw [hS] at HSG2 hxN hSl Hcl
          have HXN := Lib.hid hxN
          have HSl := Lib.hid hSl
          have hmn : decide (s < m.next.length) = true := decide_eq_true hsN
          have hso : s < m.out.length := by have := S5.out; omega
          have hsod : decide (s < m.out.length) = true := decide_eq_true hso
          -- facts of every later world
          have HW2 : Hid (∀ w', Below gm W4 w' → Below w2.heap.size w2 w') := Lib.hid fun w' hb => Hb.out.trans (hb.mono hzb)
          have HKK : Hid (∀ w', Below gm W4 w' → w'.cell? ⟨w.heap.size, 0, none⟩ = some (.int .i64 N) ∧ w'.cell? ⟨w.heap.size, 1, none⟩ = some (.slice (some ⟨bn, on, none⟩) m.next.length cn) ∧ w'.cell? ⟨w.heap.size, 2, none⟩ = some (.slice (some ⟨bo, oo, none⟩) m.out.length co) ∧ w'.cell? ⟨gP, k, none⟩ = some (.int .i64 s) ∧ w'.cell? ⟨bn, on + s, none⟩ = some (.slice Bn M mn) ∧ w'.cell? ⟨bo, oo + s, none⟩ = some (.slice Bo M mo)) := Lib.hid fun w' hb => by
            have h2 := HW2.out w' hb
            obtain ⟨x0, x1, x2, x3⟩ := PC2.out.below h2
            exact ⟨x1, x2, x3, (hb.cell (p := ⟨gP, k, none⟩) hgP2).trans HPs.out, (h2.cell (p := ⟨bn, on + s, none⟩) hbn).trans HCn.out, (h2.cell (p := ⟨bo, oo + s, none⟩) hbo).trans HCo.out⟩
          have hbl := bel_new wr (.cells #[] 3)
          have HX0 : Hid ((wr.alloc (.cells #[] 3)).ownsRow wr.heap.size 3 1 (.slice (some ⟨wr.heap.size, 0, none⟩) 0 0) 0 (nints ((S.take 0).map (Mac.idxG L)))) := Lib.hid (World.ownsRow_lit (base := wr.heap.size) (e := 3) (size := 1) wr #[] 0 (Nat.le_refl _) (by unfold maxLen; omega) rfl)
          have Hbl := Lib.hid hbl
          clear hbl rn ro er eq lr lq hxN hxO hrn hro hSl hs hS hcn0 hco0 hcl
          go_wp2_with fail
          obtain ⟨Wk, hWk⟩ : ∃ Wk, Wk = wr := ⟨_, rfl⟩
          subst hWk
          go_loopw [10, 11] (fun vx i wi => ∃ (v1 : Value) (j : Nat), v1 = vx ∧ i = .int .i64 j ∧ j ≤ M ∧ Hid (wi.ownsRow Wk.heap.size 3 1 vx j (nints ((S.take j).map (Mac.idxG L)))) ∧ Hid (Below Wk.heap.size Wk wi)) (fun _ i _ => M - (intOf i).toNat)
          case atStart => exact ⟨_, 0, rfl, rfl, Nat.zero_le _, HX0, Hbl⟩
          case round =>
            obtain ⟨vx, j, hvx, rfl, hj, Hx, Hbi⟩ := hrel
            subst hvx
            clear HX0 Hbl
            have hzi := Hbi.out.size
            have Hbg := Lib.hid (Hbr.out.trans (Hbi.out.mono hzr))
            obtain ⟨p0, p1, p2, p3, p4, p5⟩ := HKK.out wr Hbg.out
            by_cases hlj : j < M
            · have hdj : decide (j < M) = true := decide_eq_true hlj
              obtain ⟨y, c, hy, hyN, hCy, hSj, hcN⟩ := HSG2.out j hlj
              obtain ⟨b1, o1, rfl, hb1, hcy0⟩ := ints_row HRn.out rfl hy
              have HY : Hid (∀ w', Below gm W4 w' → w'.cell? ⟨b1, o1 + j, none⟩ = some (.int .i64 y) ∧ w'.cell? ⟨gC, y, none⟩ = some (.int .i64 c)) := Lib.hid fun w' hb =>
                ⟨((HW2.out w' hb).cell (p := ⟨b1, o1 + j, none⟩) hb1).trans hcy0, ((HW2.out w' hb).cell (p := ⟨gC, y, none⟩) hgC2).trans (HCC.out y c hCy)⟩
              have hyd : decide (y < m.next.length) = true := decide_eq_true hyN
              have hcL := Hcl.out c (List.mem_of_getElem? hSj)
              have HIdx : Hid (idxOf L c = ((Mac.idxG L c : Nat) : Int)) := Lib.hid (by rw [Mac.idxOf_G, if_pos hcL])
              have HXs : Hid (nints ((S.take (j + 1)).map (Mac.idxG L)) = nints ((S.take j).map (Mac.idxG L)) ++ [.int .i64 (idxOf L c)]) := Lib.hid (by rw [take_snoc hSj, List.map_append, List.map_singleton, nints_snoc, HIdx.out])
              have HBx : ∀ w', Only (fun g => vx.ownBlock = some g) wr w' → Below gm W4 w' := fun w' ho => Only.below Hbg.out ho (by omega) (fun g hg => by have := (Hx.out.lt g hg).1; omega)
              have HNw : Hid (∀ w', Below gm W4 w' → NatsAt w' (.slice (some ⟨gP, 0, none⟩) L.length c1) L) := Lib.hid fun w' hb => HNL.out.below (by rw [Hgm.out]; exact hb)
              obtain ⟨cs, hcs⟩ : ∃ cs, nints ((S.take j).map (Mac.idxG L)) = cs := ⟨_, rfl⟩
              rw [hcs] at Hx HXs
              clear hy hCy hSj hcy0 hcL hcs
              go_wp2_with fail
              obtain ⟨W6, hW6⟩ : ∃ W6, W6 = wr := ⟨_, rfl⟩
              subst hW6
              clear p0 p1 p2 p3 p4 p5
              obtain ⟨i0, hi0, hz0, hz1, hz2⟩ := info_parts info_int
              have hO := fun ops a => appRS2_ok (Pg := Try.prog) (ops := ops) (a := a) (news := [.int .i64 (idxOf L c)]) (d := 18) (Hx.out)
              refine wp_region_rs (appRS2 Try.prog _ W6 _ (Wk.heap.size) 3 1 (vx) (j) (cs) [.int .i64 (idxOf L c)] 18) (hO _ _) (by kernel_rfl) (by kernel_rfl) (by kernel_rfl) (Nat.le_of_ble_eq_true rfl) trivial Hx.out ?_
              refine rs_old (hO _ _) (.inl (Nat.ne_of_beq_eq_false rfl)) _ (.inl rfl) _ rfl rfl ?_
              refine rs_old (hO _ _) (.inl (Nat.ne_of_beq_eq_false rfl)) _ (.inl rfl) _ rfl rfl ?_
              refine rs_old (hO _ _) (.inl (Nat.ne_of_beq_eq_false rfl)) _ (.inl rfl) _ rfl rfl ?_
              apply rs_eq (hO _ _) (.inl (Nat.ne_of_beq_eq_false rfl))
              · intro ρ w' ho hK
                have ho : Only _ W6 w' := ho
                obtain ⟨h0, -⟩ := hK
                have h0' : ρ (.tmp 1) = _ := h0
                go_simp
                try exact rfl
              apply rs_eq (hO _ _) (.inl (Nat.ne_of_beq_eq_false rfl))
              · intro ρ w' ho hK
                have ho : Only _ W6 w' := ho
                obtain ⟨h0, -⟩ := hK
                have h0' : ρ (.tmp 74) = _ := h0
                obtain ⟨r0, r1, r2, r3, r4, r5⟩ := HKK.out w' (HBx w' ho)
                obtain ⟨r6, r7⟩ := HY.out w' (HBx w' ho)
                go_simp
                try exact rfl
              refine rs_old (hO _ _) (.inl (Nat.ne_of_beq_eq_false rfl)) _ (.inl rfl) _ rfl rfl ?_
              refine rs_old (hO _ _) (.inl (Nat.ne_of_beq_eq_false rfl)) _ (.inl rfl) _ rfl rfl ?_
              apply rs_eq (hO _ _) (.inl (Nat.ne_of_beq_eq_false rfl))
              · intro ρ w' ho hK
                have ho : Only _ W6 w' := ho
                obtain ⟨h0, h1, -⟩ := hK
                have h0' : ρ (.tmp 76) = _ := h0
                have h1' : ρ (.tmp 77) = _ := h1
                go_simp
                try exact rfl
              apply rs_eq (hO _ _) (.inl (Nat.ne_of_beq_eq_false rfl))
              · intro ρ w' ho hK
                have ho : Only _ W6 w' := ho
                obtain ⟨h0, -⟩ := hK
                have h0' : ρ (.tmp 78) = _ := h0
                obtain ⟨r0, r1, r2, r3, r4, r5⟩ := HKK.out w' (HBx w' ho)
                obtain ⟨r6, r7⟩ := HY.out w' (HBx w' ho)
                go_simp
                try exact rfl
              apply rs_eq (hO _ _) (.inl (Nat.ne_of_beq_eq_false rfl))
              · intro ρ w' ho hK
                have ho : Only _ W6 w' := ho
                obtain ⟨h0, h1, -⟩ := hK
                have h0' : ρ (.tmp 75) = _ := h0
                have h1' : ρ (.tmp 79) = _ := h1
                go_simp
                try exact rfl
              apply rs_eq (hO _ _) (.inl (Nat.ne_of_beq_eq_false rfl))
              · intro ρ w' ho hK
                have ho : Only _ W6 w' := ho
                obtain ⟨h0, -⟩ := hK
                have h0' : ρ (.tmp 80) = _ := h0
                obtain ⟨r0, r1, r2, r3, r4, r5⟩ := HKK.out w' (HBx w' ho)
                obtain ⟨r6, r7⟩ := HY.out w' (HBx w' ho)
                go_simp
                try exact rfl
              refine rs_old (hO _ _) (.inl (Nat.ne_of_beq_eq_false rfl)) _ (.inl rfl) _ rfl rfl ?_
              apply rs_eq (hO _ _) (.inl (Nat.ne_of_beq_eq_false rfl))
              · intro ρ w' ho hK
                have ho : Only _ W6 w' := ho
                obtain ⟨h0, h1, -⟩ := hK
                have h0' : ρ (.tmp 81) = _ := h0
                have h1' : ρ (.tmp 82) = _ := h1
                go_simp
                try exact rfl
              apply rs_eq (hO _ _) (.inl (Nat.ne_of_beq_eq_false rfl))
              · intro ρ w' ho hK
                have ho : Only _ W6 w' := ho
                obtain ⟨h0, -⟩ := hK
                have h0' : ρ (.tmp 83) = _ := h0
                obtain ⟨r0, r1, r2, r3, r4, r5⟩ := HKK.out w' (HBx w' ho)
                obtain ⟨r6, r7⟩ := HY.out w' (HBx w' ho)
                go_simp
                try exact rfl
              apply rs_eq (hO _ _) (.inl (Nat.ne_of_beq_eq_false rfl))
              · intro ρ w' ho hK
                have ho : Only _ W6 w' := ho
                obtain ⟨h0, h1, -⟩ := hK
                have h0' : ρ (.tmp 73) = _ := h0
                have h1' : ρ (.tmp 84) = _ := h1
                go_simp
                try exact rfl
              apply rs_eq (hO _ _) (.inl (Nat.ne_of_beq_eq_false rfl))
              · intro ρ w' ho hK
                have ho : Only _ W6 w' := ho
                obtain ⟨h0, -⟩ := hK
                have h0' : ρ (.tmp 85) = _ := h0
                obtain ⟨r0, r1, r2, r3, r4, r5⟩ := HKK.out w' (HBx w' ho)
                obtain ⟨r6, r7⟩ := HY.out w' (HBx w' ho)
                go_simp
                try exact rfl
              refine rs_call (hO _ _) (.inl (Nat.ne_of_beq_eq_false rfl)) (TEq (.int .i64 (idxOf L c))) (stb_eq _ _) 31 _ _ rfl (fun ρ w' ho hK => by
                have ho : Only _ W6 w' := ho
                obtain ⟨h0, h1, h2, -⟩ := hK
                have h0' : ρ (.func 31) = .func (.func 31) #[] #[] := h0
                have h1' : ρ (.tmp 72) = _ := h1
                have h2' : ρ (.tmp 86) = _ := h2
                refine ⟨#[ρ (.tmp 72), ρ (.tmp 86)], ?_, ?_⟩
                · go_simp
                · rw [h1', h2']
                  refine (l29At_any _ L c w' (HNw.out w' (HBx w' ho)) (by omega)).mono ?_
                  rintro e w2 ⟨rfl, rfl⟩
                  exact ⟨_, rfl, rfl, Below.refl _ _⟩) ?_
              refine rs_build1 (hO _ _) (.inl (Nat.ne_of_beq_eq_false rfl)) 1 [.int .i64 (idxOf L c)] 3 rfl (fun ρ w' ho hK => by
                have ho : Only _ W6 w' := ho
                obtain ⟨h0, -⟩ := hK
                have h0' : ρ (.tmp 87) = _ := h0
                go_simp) ?_
              refine rs_append2 rfl (Wk.heap.size) 3 28 1 (vx) (j) (cs) _ rfl rfl (fun g hg => hg) (show Wk.heap.size ≤ W6.heap.size by omega) _ _ rfl _ _ rfl rfl rfl rfl i0 _ 8 Try.underlying28 hi0 hz0 hz1 hz2 rfl (by decide) (by omega) (by decide) (by simp [Value.oneCell']) ?_
              refine rs_same (hO _ _) (.inl (Nat.ne_of_beq_eq_false rfl)) 89 18 (.inr rfl) rfl _ rfl ?_
              intro f w9 k9 hk9 hI9 ht9 hcp9
              have E0 : f 0 = _ := ht9 0 (Nat.le_of_ble_eq_true rfl)
              conv at E0 => rhs; whnf
              have E1 : f 1 = _ := ht9 1 (Nat.le_of_ble_eq_true rfl)
              conv at E1 => rhs; whnf
              have E2 : f 2 = _ := ht9 2 (Nat.le_of_ble_eq_true rfl)
              conv at E2 => rhs; whnf
              have E3 : f 3 = _ := ht9 3 (Nat.le_of_ble_eq_true rfl)
              have E4 : f 4 = _ := ht9 4 (Nat.le_of_ble_eq_true rfl)
              have E5 : f 5 = _ := ht9 5 (Nat.le_of_ble_eq_true rfl)
              conv at E5 => rhs; whnf
              have E6 : f 6 = _ := ht9 6 (Nat.le_of_ble_eq_true rfl)
              conv at E6 => rhs; whnf
              have E7 : f 7 = _ := ht9 7 (Nat.le_of_ble_eq_true rfl)
              have E8 : f 8 = _ := ht9 8 (Nat.le_of_ble_eq_true rfl)
              have E9 : f 9 = _ := ht9 9 (Nat.le_of_ble_eq_true rfl)
              have E10 : f 10 = _ := ht9 10 (Nat.le_of_ble_eq_true rfl)
              have E11 : f 11 = _ := ht9 11 (Nat.le_of_ble_eq_true rfl)
              conv at E11 => rhs; whnf
              have E12 : f 12 = _ := ht9 12 (Nat.le_of_ble_eq_true rfl)
              have E13 : f 13 = _ := ht9 13 (Nat.le_of_ble_eq_true rfl)
              have E14 : f 14 = _ := ht9 14 (Nat.le_of_ble_eq_true rfl)
              have E15 : f 15 = _ := ht9 15 (Nat.le_of_ble_eq_true rfl)
              have E16 : f 16 = _ := ht9 16 (Nat.le_of_ble_eq_true rfl)
              have E17 : (TNew _ 1 1 [.int .i64 (idxOf L c)]) w9 (f 17) := ht9 17 (Nat.le_of_ble_eq_true rfl)
              have E18 : (TAny) w9 (f 18) := ht9 18 (Nat.le_of_ble_eq_true rfl)
              have E19 : (TAny) w9 (f 19) := ht9 19 (Nat.le_of_ble_eq_true rfl)
              have Ho9 : Only _ W6 w9 := hI9.2.1
              have hown9 : w9.ownsRow (Wk.heap.size) 3 1 (f 18) (j + 1) (cs ++ [.int .i64 (idxOf L c)]) := hI9.2.2.1
              have hat9 : ∀ g, (f 18).ownBlock = some g → (vx).ownBlock = some g ∨ W6.heap.size ≤ g := hI9.2.2.2
              have C19 : f 19 = f 18 := (hcp9 19 _ 89 18 rfl rfl rfl rfl).2
              simp only [putAll, E0, E1, E2, E3, E4, E5, E6, E7, E8, E9, E10, E11, E12, E13, E14, E15, E16, C19, Nat.zero_add, Nat.reduceAdd, Act.put, List.setIfInBounds_toArray, List.set_cons_succ, List.set_cons_zero]
              clear E0 E1 E2 E3 E4 E5 E6 E7 E8 E9 E10 E11 E12 E13 E14 E15 E16
              clear hI9 ht9 hcp9 hk9
              generalize f 17 = r17 at *
              generalize f 18 = r18 at *
              have Hx9 := Lib.hid hown9
              have Hb9 := Lib.hid (Only.below Hbi.out Ho9 (by omega) (fun g hg => (Hx.out.lt g hg).1))
              clear Ho9 hown9 hat9 HBx hO
              go_wp2_with fail
              go_roundw
              case rel => exact ⟨_, j + 1, rfl, by go_num, by omega, Lib.hid (by rw [HXs.out]; exact Hx9.out), Hb9⟩
              case measure => simp [intOf] <;> omega
            · obtain rfl : j = M := by omega
              have hdj : decide (j < j) = false := decide_eq_false (by omega)
              have hfull : (S.take j).map (Mac.idxG L) = S.map (Mac.idxG L) := by rw [List.take_of_length_le (by have := HSl.out; omega)]
              have hxv := Hx.out
              rw [hfull] at hxv
              have hpl : (nats (S.map (Mac.idxG L))).length = j := by rw [nats_length, List.length_map]; exact HSl.out
              have HPL := Lib.hid hpl
              obtain ⟨ga, ca, hva, hga, hga2, hca, hcam⟩ := own_open hxv (by omega)
              subst hva
              unfold maxLen at hcam
              have HMB5 := Lib.hid (HMB.out.below Hbi.out)
              have Na1 : Hid (∀ g, (Value.slice (some ⟨ga, 0, none⟩) j ca).ownBlock = some g → ¬ E1 g ∧ ¬ E2 g) := Lib.hid fun g hg => ⟨fun he => by have h1 := HMB.out.l1 g he; have h2 := (hxv.lt g hg).1; omega, fun he => by have h1 := HMB.out.l2 g he; have h2 := (hxv.lt g hg).1; omega⟩
              have Oa5 : Hid (wr.ownsRow (gm + 1) 3 1 (.slice (some ⟨ga, 0, none⟩) j ca) (nats (S.map (Mac.idxG L))).length (ints (nats (S.map (Mac.idxG L))))) := Lib.hid (by rw [HPL.out]; exact own_mono hxv (by omega))
              have hx1 : ((Mac.minI m).next.take k).length = k ∧ ((Mac.minI m).out.take k).length = k := by
                have h1 := congrArg List.length HXN.out
                have h2 := congrArg List.length HXO.out
                simp only [List.length_take, List.length_append, List.length_singleton] at h1 h2 ⊢
                omega
              have Hl1 := Lib.hid hx1.1
              have Hl2 := Lib.hid hx1.2
              have HMl := HMB5.out.below (bel_new wr (.cells #[.slice (some ⟨ga, 0, none⟩) j ca] 28))
              obtain ⟨us, q1, q2, q3, q4, q5, q6, q7⟩ := HMl.n
              rw [hx1.1] at q1 q2
              have Q2 := Lib.hid q2
              have HML := Lib.hid HMl
              have Q := Lib.hid (And.intro q1 (And.intro q3 (And.intro q4 (And.intro q5 (And.intro q6 q7)))))
              have Oal := Lib.hid (Oa5.out.alloc (.cells #[.slice (some ⟨ga, 0, none⟩) j ca] 28))
              have Hlit := Lib.hid (Row.of_own (World.ownsRow_lit (base := wr.heap.size) (e := 28) (size := 1) wr #[.slice (some ⟨ga, 0, none⟩) j ca] 1 (Nat.le_refl _) (by unfold maxLen; omega) rfl))
              have hgm5 := mb_lt HMB5.out
              obtain ⟨k0, k1, k2, k3, k4⟩ := HMB5.out.cells
              clear hfull hpl hx1 HMl q1 q2 q3 q4 q5 q6 q7 hxv Hx HMD HMR HSG HSL HSG2
              go_wp2_with (at_builtin; refine append_intss rfl (.tmp 91) (.tmp 93) rfl (gm + 1) vN k us rfl Q2.out _ 1 [.slice (some ⟨ga, 0, none⟩) j ca] rfl Hlit.out (by simp [Value.oneCell']) (by omega) (by first | omega | (simp <;> omega)) ?_; intro v7 w7 hown7 hg7 hat7; obtain ⟨A7, c7, hv7⟩ := slice_of_own hown7; subst hv7; have HMB7 := Lib.hid (MB.addN HML.out (Q.out.1.trans Hl1.out.symm) Q.out.2.1 Q.out.2.2.1 Q.out.2.2.2.1 Q.out.2.2.2.2.1 Q.out.2.2.2.2.2 Oal.out (fun g hg => (Na1.out g hg).1) (fun g hg => (Na1.out g hg).2) (by rw [Hl1.out]; exact hown7) hg7 hat7); have hbx := (hg7.block gm (mb_lt HML.out) (fun e => by obtain ⟨_, _, p2, _⟩ := HML.out.n; have := (p2.lt _ e.symm).1; omega)).trans HML.out.box; have x1 := blk_cell hbx 1; have y1 := blk_free hbx 1; have Hg7 := Lib.hid hg7; clear hown7 hg7 hat7 hbx)
              clear p0 p1 p2 p3 p4 p5
              have hz7 := Hg7.out.size
              rw [World.size_alloc] at hz7
              have hox : Only (· = gm) w7 (w7.setCell ⟨gm, 1, none⟩ (.slice A7 (k + 1) c7)) := Only.grown (set_grown w7 gm 1 _) (fun g hg => (Option.some.inj hg).symm)
              have Hb8 := Lib.hid (Only.below ((Hbg.out.alloc (by omega) (.cells #[.slice (some ⟨ga, 0, none⟩) j ca] 28)).grown Hg7.out (by simp <;> omega) (fun q hq => by have := (Q2.out.lt q hq).1; omega)) hox (by omega) (fun g hg => by omega))
              have hz8 : wr.heap.size + 1 ≤ (w7.setCell ⟨gm, 1, none⟩ (.slice A7 (k + 1) c7)).heap.size := Nat.le_trans hz7 hox.size
              clear hox x1 y1 k0 k1 k2 k3 k4 Q Q2 Oal HML Hlit hz7 Oa5
              generalize w7.setCell ⟨gm, 1, none⟩ (.slice A7 (k + 1) c7) = W8 at *
              obtain ⟨E3, hE3⟩ : ∃ E3 : Nat → Prop, (fun g => E1 g ∨ (Value.slice (some ⟨ga, 0, none⟩) j ca).ownBlock = some g ∨ (Value.slice A7 (k + 1) c7).ownBlock = some g) = E3 := ⟨_, rfl⟩
              have HMB8 : Hid (MB gm N E3 E2 (.slice A7 (k + 1) c7) vO ((Mac.minI m).next.take (k + 1)) ((Mac.minI m).out.take k) W8) := Lib.hid (by rw [← hE3, HXN.out]; exact HMB7.out)
              clear HMB7 hE3
              obtain ⟨us2, t1, t2, t3, t4, t5, t6, t7⟩ := HMB8.out.o
              rw [Hl2.out] at t1 t2
              have T2 := Lib.hid t2
              have TQ := Lib.hid (And.intro t1 (And.intro t3 (And.intro t4 (And.intro t5 (And.intro t6 t7)))))
              have hgm8 := mb_lt HMB8.out
              obtain ⟨-, -, kk2, -, kf2⟩ := HMB8.out.cells
              have HKP : Hid (∀ w', Below W8.heap.size W8 w' → w'.cell? ⟨gm, 2, none⟩ = some vO ∧ w'.cell? ⟨w.heap.size, 2, none⟩ = some (.slice (some ⟨bo, oo, none⟩) m.out.length co) ∧ w'.cell? ⟨gP, k, none⟩ = some (.int .i64 s) ∧ w'.cell? ⟨bo, oo + s, none⟩ = some (.slice Bo j mo)) := Lib.hid fun w' hb => by
                obtain ⟨-, -, x1, x2, -, x3⟩ := HKK.out w' (Hb8.out.trans (hb.mono (by omega)))
                exact ⟨(hb.cell (p := ⟨gm, 2, none⟩) hgm8).trans kk2, x1, x2, x3⟩
              have HRo8 : Hid (∀ w', Below W8.heap.size W8 w' → Row w' 1 (.slice Bo j mo) j (ints qq)) := Lib.hid fun w' hb => by
                have := HRo.out.below (HW2.out w' (Hb8.out.trans (hb.mono (by omega))))
                rwa [Hlq.out] at this
              obtain ⟨i0, hi0, hz0, hz1, hz2⟩ := info_parts info_ints
              obtain ⟨j0, hj0, hy0, hy1, hy2⟩ := info_parts info_int
              have hd0 : Below W8.heap.size W8 W8.drew := (Below.refl W8.heap.size W8).drew
              have hd1 : Below W8.heap.size W8 (W8.alloc (.cells #[] 3)).drew := ((Below.refl W8.heap.size W8).alloc (Nat.le_refl _) (.cells #[] 3)).drew
              obtain ⟨d1, d2, d3, d4⟩ := HKP.out _ hd0
              obtain ⟨f1, f2, f3, f4⟩ := HKP.out _ hd1
              have Hd1 := Lib.hid hd1
              have Hown0 : Hid ((W8.alloc (.cells #[] 3)).drew.ownsRow W8.heap.size 3 1 (.slice (some ⟨W8.heap.size, 0, none⟩) 0 0) 0 []) := Lib.hid (World.ownsRow_lit (base := W8.heap.size) (e := 3) (size := 1) W8 #[] 0 (Nat.le_refl _) (by unfold maxLen; omega) rfl)
              clear t1 t2 t3 t4 t5 t6 t7 kk2 kf2 hd0 hd1
              clear HC2 HRes2 HCC HMW HB HNL HPk PC2 B0 B1 B2 HClen S5 HinsE HW2 HKK HPs HCn HCo HRn HRo Hcl HXN HSl HPL Hbg Hbi Hbr HMB HMB5 Hg7 Na1 Hb
              go_region_law (first
                | (refine step_appZ (by simp [Region.wanted, yielded, Act.put]) (.tmp 98) (.tmp 106) 28 rfl W8.heap.size 3 j0 _ 1 8 Try.underlying28 hj0 hy0 hy1 hy2 rfl (by decide) (.slice (some ⟨W8.heap.size, 0, none⟩) 0 0) 0 [] (by simp [Act.eval, Act.put]) Hown0.out (.slice Bo j mo) j (ints qq) (by simp [Act.eval, Act.put]) (HRo8.out _ Hd1.out) (ints_one _) (by unfold maxLen; omega) (by omega) (by simp <;> omega) ?_; intro v3 w3 hown3 hg3 hat3; have hb3 := Hd1.out.grown hg3 Hd1.out.size (own_ge0 Hown0.out); rw [Nat.zero_add, List.nil_append] at hown3; obtain ⟨A3, c3, hv3⟩ := slice_of_own hown3; subst hv3; obtain ⟨e1, e2, e3, e4⟩ := HKP.out _ hb3; obtain ⟨g1, g2, g3, g4⟩ := HKP.out _ (hb3.alloc hb3.size (.cells #[.slice A3 j c3] 28)))
                | (refine step_appZ (by simp [Region.wanted, yielded, Act.put]) (.tmp 97) (.tmp 108) 23 rfl (gm + 1) 28 i0 _ 1 24 Try.underlying23 hi0 hz0 hz1 hz2 rfl (by decide) vO k us2 (by simp [Act.eval, Act.put]) (own_below T2.out (hb3.alloc hb3.size (.cells #[.slice A3 j c3] 28))) (.slice (some ⟨w3.heap.size, 0, none⟩) 1 1) 1 [.slice A3 j c3] (by simp [Act.eval, Act.put]) (Row.of_own (World.ownsRow_lit (base := w3.heap.size) (e := 28) (size := 1) w3 #[.slice A3 j c3] 1 (Nat.le_refl _) (by unfold maxLen; omega) rfl)) (by simp [Value.oneCell']) (by unfold maxLen; omega) (by omega) (by have := hb3.size; simp <;> omega) ?_; intro v9 w9 hown9 hg9 hat9; obtain ⟨A9, c9, hv9⟩ := slice_of_own hown9; subst hv9; have HMB9 := Lib.hid (MB.addO (u := .slice A3 j c3) (x := qq) (HMB8.out.below (hb3.alloc hb3.size (.cells #[.slice A3 j c3] 28))) (TQ.out.1.trans Hl2.out.symm) (fun i x u hx hu => own_below (TQ.out.2.1 i x u hx hu) (hb3.alloc hb3.size (.cells #[.slice A3 j c3] 28))) TQ.out.2.2.1 TQ.out.2.2.2.1 TQ.out.2.2.2.2.1 TQ.out.2.2.2.2.2 (by rw [Hlq.out]; exact own_mono (hown3.alloc (.cells #[.slice A3 j c3] 28)) (by omega)) (fun g hg he => by have h1 := (hown3.lt g hg).1; have h2 := HMB8.out.l1 g he; omega) (fun g hg he => by have h1 := (hown3.lt g hg).1; have h2 := HMB8.out.l2 g he; omega) (by rw [Hl2.out]; exact hown9) hg9 hat9); have hbx := (hg9.block gm (by have := hb3.size; simp <;> omega) (fun e => by have := (T2.out.lt _ e.symm).1; omega)).trans ((hb3.alloc hb3.size (.cells #[.slice A3 j c3] 28)).block gm hgm8 |>.trans HMB8.out.box); have x2 := blk_cell hbx 2; have y2 := blk_free hbx 2))
              all_goals
                have HB9 := Lib.hid (Only.below (((Hb8.out.trans (hb3.mono (by omega))).alloc (Nat.le_trans (show gm ≤ W8.heap.size by omega) hb3.size) (.cells #[.slice A3 j c3] 28)).grown hg9 (by have h4 := hb3.size; simp <;> omega) (fun q hq => by have := (T2.out.lt q hq).1; omega)) (Only.grown (E := (· = gm)) (set_grown w9 gm 2 (.slice A9 (k + 1) c9)) (fun g hg => (Option.some.inj hg).symm)) (by have h4 := hb3.size; have h5 := hg9.size; rw [World.size_alloc] at h5; omega) (fun g hg => by omega))
                clear hown3 hown9 hg9 hat9 hb3 hbx x2 y2 hg3 hat3
                go_wp2_with fail
                go_roundw
                case rel => exact ⟨k + 1, _, _, _, _, by go_num, by omega, Lib.hid (by rw [HXO.out]; exact HMB9.out), HB9⟩
                case measure => simp [intOf] <;> omega
        · obtain rfl : k = L.length := by omega
          have hdk3 : decide (L.length < L.length) = false := decide_eq_false (by omega)
          obtain ⟨hd1, hd2⟩ := HMD.out L HB.out
          have HMf : Hid (MB gm N E1 E2 vN vO (Mac.minI m).next (Mac.minI m).out wr) := Lib.hid (by have := HMB.out; rwa [hd1, hd2] at this)
          obtain ⟨k0, k1, k2, k3, k4⟩ := HMf.out.cells
          have hW2 := Hb.out.trans (Hbr.out.mono hzb)
          have hR := (hW2.block (w.heap.size + 1) (by omega)).trans HRes2.out
          have o0 := blk_cell hR 0
          have o1 := blk_cell hR 1
          have o2 := blk_cell hR 2
          have b0 := blk_free hR 0
          have b1 := blk_free hR 1
          have b2 := blk_free hR 2
          simp at o0 o1 o2
          have HB9 := Lib.hid (B2.out.trans (hW2.mono B2.out.size))
          obtain ⟨An', cn', hvN, -, -⟩ := SSAt.shape (OwnSE.at HMf.out.n)
          obtain ⟨Ao', co', hvO, -, -⟩ := SSAt.shape (OwnSE.at HMf.out.o)
          have HMF2 := Lib.hid (And.intro HMf.out.n (And.intro HMf.out.o HMf.out.d))
          have HlN := Lib.hid HMf.out.l1
          have HlO := Lib.hid HMf.out.l2
          have Hsz : Hid (w.heap.size + 1 < gm) := Lib.hid (by omega)
          clear hR HMf HMB hd1 hd2 HMD HMR HSG HSL hW2
          subst hvN hvO
          go_wp2_with fail
          refine bodyPost_ret (v := .agg #[.int .i64 N, .slice An' (Mac.minI m).next.length cn', .slice Ao' (Mac.minI m).out.length co']) (by simp [results, Try.results18, go_sem, o0, o1, o2]) rfl ⟨_, rfl, ⟨_, _, E1, E2, by rw [HinsE.out], fun g he => ?_, fun g he => ?_, HMF2.out.2.2, ?_, ?_⟩, ?_⟩
          · have h1 := HlN.out g he; simp [World.setCell]; omega
          · have h1 := HlO.out g he; simp [World.setCell]; omega
          · exact OwnSE.mono (((OwnSE.set (OwnSE.set (OwnSE.set HMF2.out.1 (by have := Hsz.out; omega)) (by have := Hsz.out; omega)) (by have := Hsz.out; omega)))) (by have := Hsz.out; omega) (fun _ h => h)
          · exact OwnSE.mono (((OwnSE.set (OwnSE.set (OwnSE.set HMF2.out.2.1 (by have := Hsz.out; omega)) (by have := Hsz.out; omega)) (by have := Hsz.out; omega)))) (by have := Hsz.out; omega) (fun _ h => h)
          · exact ((HB9.out.setCell (by simp only; omega) _).setCell (by simp only; omega) _).setCell (by simp only; omega) _
theorem specMinz_any (v : Value) (m : Mz) (w : World) (h : MachAt w v m) :
    Calls Try.prog 18 #[v] w (OwnMachZ (Mac.minI m) w) := by
  cases hv : Mac.valid m
  · have HC := Lib.hid h
    obtain ⟨An, cn, Ao, co, rfl, hcnm, hcom, hcn1, hco1⟩ := h.shape
    have hb0 := bel_new w (.cells #[.int .i64 m.ins, .slice An m.next.length cn, .slice Ao m.out.length co] 25)
    have hb00 := bel_new (w.alloc (.cells #[.int .i64 m.ins, .slice An m.next.length cn, .slice Ao m.out.length co] 25)) (.cells #[.int .i64 0, .slice none 0 0, .slice none 0 0] 25)
    have B0 := Lib.hid (hb0.trans (hb00.mono hb0.size))
    have PC := Lib.hid ((MCells.boxed w m.ins (.slice An m.next.length cn) (.slice Ao m.out.length co) 25).below hb00)
    have hR : ((w.alloc (.cells #[.int .i64 m.ins, .slice An m.next.length cn, .slice Ao m.out.length co] 25)).alloc (.cells #[.int .i64 0, .slice none 0 0, .slice none 0 0] 25)).heap[w.heap.size + 1]? = some (.cells #[.int .i64 0, .slice none 0 0, .slice none 0 0] 25 (0, 0)) := by
      have := heap_alloc_new (w.alloc (.cells #[.int .i64 m.ins, .slice An m.next.length cn, .slice Ao m.out.length co] 25)) (.cells #[.int .i64 0, .slice none 0 0, .slice none 0 0] 25)
      rwa [World.size_alloc] at this
    have HRes := Lib.hid hR
    have hsz : ((w.alloc (.cells #[.int .i64 m.ins, .slice An m.next.length cn, .slice Ao m.out.length co] 25)).alloc (.cells #[.int .i64 0, .slice none 0 0, .slice none 0 0] 25)).heap.size = w.heap.size + 2 := by simp
    obtain ⟨z, p0, p1, p2⟩ := PC.out
    have HC0 := Lib.hid (HC.out.below B0.out)
    have HV := Lib.hid (specMValid_any _ m _ HC0.out)
    rw [hv] at HV
    have HE : Hid (Mac.minI m = ⟨0, [], []⟩) := Lib.hid (by unfold Mac.minI; rw [hv]; rfl)
    rw [HE.out]
    clear hv hb0 hb00 hR h HE
    go_enter Try.func18, Try.ntmps18
    go_wp2_with fail
    generalize (w.alloc (.cells #[.int .i64 m.ins, .slice An m.next.length cn, .slice Ao m.out.length co] 25)).alloc (.cells #[.int .i64 0, .slice none 0 0, .slice none 0 0] 25) = W at *
    refine HV.out.mono ?_
    rintro e w1 ⟨rfl, hb1⟩
    have B1 := Lib.hid (B0.out.trans (hb1.mono B0.out.size))
    have hR := (hb1.block _ (by omega)).trans HRes.out
    have z1 := hb1.size
    have o0 := blk_cell hR 0
    have o1 := blk_cell hR 1
    have o2 := blk_cell hR 2
    have b0 := blk_free hR 0
    have b1 := blk_free hR 1
    have b2 := blk_free hR 2
    simp at o0 o1 o2
    clear hb1 hR p0 p1 p2 z HV
    go_wp2_with fail
    refine bodyPost_ret (v := .agg #[.int .i64 0, .slice none 0 0, .slice none 0 0]) (by simp [results, Try.results18, go_sem, o0, o1, o2]) rfl ⟨_, rfl, ⟨_, _, (fun _ => False), (fun _ => False), rfl, fun g he => he.elim, fun g he => he.elim, fun g he => he.elim, OwnSE.nil _ _ _ _ _ _, OwnSE.nil _ _ _ _ _ _⟩, ?_⟩
    exact ((B1.out.setCell (by simp only; omega) _).setCell (by simp only; omega) _).setCell (by simp only; omega) _
  · exact specMinz_ok v m w h hv
/-- As a result to read. -/
theorem specMinz_read (v : Value) (m : Mz) (w : World) (h : MachAt w v m) :
    Calls Try.prog 18 #[v] w fun e w' => (∃ u, e = .returned u ∧ MachAt w' u (Mac.minI m)) ∧ Below w.heap.size w w' :=
  (specMinz_any v m w h).mono fun e w' ⟨u, h1, h2, h3⟩ => ⟨⟨u, h1, h2.at⟩, h3⟩
end Go.Proofs.Ytmlmnelbphjfbaa

namespace Go.Proofs.Ytmlmnelbphjfbaa
/-! Runs of minimized machines, plainly. -/
namespace Mac
theorem nats_map (xs : List Nat) : nats xs = xs.map fun x => ((x : Nat) : Int) := rfl
theorem runI_beh {m : Mz} (hv : valid m = true) {xs : List Nat} (hx : ∀ x ∈ xs, x < 2 ^ m.ins.toNat) (h40 : xs.length ≤ 40) : runI m (nats xs) = behM m 0 xs ∧ (behM m 0 xs).length = xs.length := by
  have ho := outs_beh m xs 0 hx
  refine ⟨?_, ?_⟩
  · unfold runI
    rw [if_pos, nats_map, ho]
    unfold runOk
    rw [hv, nats_length, decide_eq_true h40, Bool.true_and, Bool.true_and, List.all_eq_true]
    intro y hy
    rw [nats_map] at hy
    obtain ⟨x, h1, rfl⟩ := List.mem_map.1 hy
    unfold inRange
    rw [inOk_iff]
    have := hx x h1
    omega
  · rw [← ho, outs_length, List.length_map]
theorem run_min {m : Mz} (hv : valid m = true) {xs : List Nat} (hx : ∀ x ∈ xs, x < 2 ^ m.ins.toNat) (h40 : xs.length ≤ 40) : ∃ R : List Int, runI m (nats xs) = R ∧ runI (minI m) (nats xs) = R ∧ R.length = xs.length := by
  obtain ⟨h1, h2⟩ := runI_beh hv hx h40
  obtain ⟨h3, -⟩ := runI_beh (min_valid hv) (xs := xs) (by rw [min_ins hv]; exact hx) h40
  exact ⟨_, h1, by rw [h3, min_beh0 hv], h2⟩
end Mac
end Go.Proofs.Ytmlmnelbphjfbaa

namespace Go.Proofs.Ytmlmnelbphjfbaa
open Go.RowKit
set_option maxRecDepth 100000
/-! What laws do with slices of slices of booleans. -/
theorem info_boolss : (Try.prog.info? 70).map (fun i => (i.zero, i.size, i.bytes)) = some (some (.slice none 0 0), 1, 24) := by kernel_rfl
def OwnBoolSS (B T : Nat) (w : World) (v : Value) (xss : List (List Bool)) : Prop := OwnSS bools 70 4 B T w v xss
theorem take_eq_getB {α : Type} {xs ys : List α} {k : Nat} {x : α} (h : xs.take k = ys.take k) (hx : xs[k]? = some x) (hy : ys[k]? = some x) : xs.take (k + 1) = ys.take (k + 1) := by
  rw [take_snoc hx, take_snoc hy, h]
end Go.Proofs.Ytmlmnelbphjfbaa

namespace Go.Proofs.Ytmlmnelbphjfbaa
open Go.RowKit
set_option maxRecDepth 100000
/-! Laws' comparisons of rows and of machines. -/
theorem sameIntRows_same (v v2 : Value) (xss : List (List Int)) (w : World) (h : SSAt ints w v xss) (h2 : SSAt ints w v2 xss) :
    Calls Try.prog 29 #[v, v2] w fun e w' => e = .returned (.bool true) ∧ Below w.heap.size w w' := by
  obtain ⟨A, c, hv, hc, hcm⟩ := h.shape
  obtain ⟨A2, c2, hv2, hc2, hcm2⟩ := h2.shape
  subst hv hv2
  unfold maxLen at hcm hcm2
  have he1 : ((xss.length : Int) != (xss.length : Int)) = false := by simp
  go_enter Try.func29, Try.ntmps29
  go_wp2
  go_loopw [5] (fun i wr => ∃ (k : Nat), k ≤ xss.length ∧ i = .int .i64 k ∧ Below w.heap.size w wr)
    (fun i _ => xss.length - (intOf i).toNat)
  case atStart => exact ⟨0, Nat.zero_le _, rfl, Below.refl _ _⟩
  case round =>
    obtain ⟨k, hk, rfl, hd⟩ := hrel
    by_cases hlt : k < xss.length
    · obtain ⟨x, hx⟩ := at_some hlt
      obtain ⟨b, o, B, m, rfl, hbl, hs1, -, -, hr1⟩ := ss_open h hd hx
      obtain ⟨b2, o2, B2, m2, rfl, hbl2, ht1, -, -, hr2⟩ := ss_open h2 hd hx
      have HR1 := Lib.hid (show IntsAt wr (.slice B x.length m) x from hr1)
      have HR2 := Lib.hid (show IntsAt wr (.slice B2 x.length m2) x from hr2)
      have HC : Hid (∀ n : GW wr, Calls Try.prog 12 #[.slice B x.length m, .slice B2 x.length m2] (gw n) fun e w' => e = .returned (.bool true) ∧ Below (gw n).heap.size (gw n) w') := Lib.hid fun n => sameInts_same _ _ x (gw n) (Row.below HR1.out (gw_below n)) (Row.below HR2.out (gw_below n))
      have Hd := Lib.hid hd
      have hz := hd.size
      have g1 := gw_cell hs1 (by simp only; omega)
      have g3 := gw_cell ht1 (by simp only; omega)
      clear h h2 hd hs1 ht1 hx hr1 hr2
      go_wp2
      refine wp_region_grow (by kernel_rfl) (by kernel_rfl) ?_
      repeat (go_big_quiet_step ((go_at_call 12; exact grow_call (HC.out _))))
      refine wpQuiet_nil ?_
      intro _ hw'
      obtain ⟨nq, hw''⟩ := hw'
      subst hw''
      have hgq := gw_below nq
      generalize gw nq = wq at *
      clear nq
      clear g1 g3
      go_wp2_with fail
      go_roundw
      case rel => exact ⟨k + 1, by omega, by go_num, Hd.out.trans (hgq.mono hz)⟩
      case measure => simp [intOf] <;> omega
    · go_wp2
      go_ret
      exact ⟨rfl, hd⟩
theorem sameMachine_same (v v2 : Value) (m : Mz) (w : World) (h : MachAt w v m) (h2 : MachAt w v2 m) :
    Calls Try.prog 17 #[v, v2] w fun e w' => e = .returned (.bool true) ∧ Below w.heap.size w w' := by
  obtain ⟨vn, vo, rfl, n1, o1⟩ := h
  obtain ⟨vn2, vo2, rfl, n2, o2⟩ := h2
  have hb1 := bel_alloc w (.cells #[.int .i64 m.ins, vn, vo] 25)
  have hb2 := bel_alloc (w.alloc (.cells #[.int .i64 m.ins, vn, vo] 25)) (.cells #[.int .i64 m.ins, vn2, vo2] 25)
  have B0 := Lib.hid (hb1.trans (hb2.mono hb1.size))
  have PA := Lib.hid ((MCells.boxed w m.ins vn vo 25).below hb2)
  have PB := Lib.hid (MCells.boxed (w.alloc (.cells #[.int .i64 m.ins, vn, vo] 25)) m.ins vn2 vo2 25)
  have hs : (w.alloc (.cells #[.int .i64 m.ins, vn, vo] 25)).heap.size = w.heap.size + 1 := by simp
  rw [hs] at PB
  have N1 := Lib.hid (n1.below B0.out)
  have N2 := Lib.hid (n2.below B0.out)
  have O1 := Lib.hid (o1.below B0.out)
  have O2 := Lib.hid (o2.below B0.out)
  obtain ⟨za, a0, a1, a2⟩ := PA.out
  obtain ⟨zb, b0, b1, b2⟩ := PB.out
  have he : (m.ins == m.ins) = true := by simp
  clear n1 n2 o1 o2 hb1 hb2 hs
  go_enter Try.func17, Try.ntmps17
  go_wp2_with fail
  generalize (w.alloc (.cells #[.int .i64 m.ins, vn, vo] 25)).alloc (.cells #[.int .i64 m.ins, vn2, vo2] 25) = W at *
  refine (sameIntRows_same _ _ _ _ N1.out N2.out).mono ?_
  rintro e w1 ⟨rfl, hb1⟩
  have B1 := Lib.hid (B0.out.trans (hb1.mono B0.out.size))
  have O1 := Lib.hid (O1.out.below hb1)
  have O2 := Lib.hid (O2.out.below hb1)
  have PA := Lib.hid (PA.out.below hb1)
  have PB := Lib.hid (PB.out.below hb1)
  clear hb1 za a0 a1 a2 zb b0 b1 b2
  obtain ⟨za, a0, a1, a2⟩ := PA.out
  obtain ⟨zb, b0, b1, b2⟩ := PB.out
  go_wp2_with fail
  refine (sameIntRows_same _ _ _ _ O1.out O2.out).mono ?_
  rintro e w2 ⟨rfl, hb2⟩
  have B2 := Lib.hid (B1.out.trans (hb2.mono B1.out.size))
  clear hb2 za a0 a1 a2 zb b0 b1 b2
  go_wp2_with fail
  go_ret
  exact ⟨rfl, B2.out⟩
def TMachL (m : Mz) : Ty := fun w v => MachAt w v m
theorem stb_machL (m : Mz) : Stb (fun _ => False) (TMachL m) := fun _ _ _ h ho => h.below (only_below ho)
/-! Circuits without latches. -/
namespace Cir
theorem bfs_zero {d : Ci} (h : d.next = []) : reach d = [0] := by
  have hn : ∀ s x, nextOf d s x = 0 := fun s x => by unfold nextOf; rw [h]; rfl
  have hp : ∀ j, pushes d 0 j [0] = [0] := fun j => by
    induction j with
    | zero => rfl
    | succ j ih => rw [pushes_succ, ih, hn]; exact push_yes (by rw [memB_zero]; rfl)
  have h1 : reach d = bfs d 8 1 (pushes d 0 (2 ^ d.ins) [0]) := bfs_step (f := 8) (k := 0) (l := [0]) (s := 0) rfl
  rw [h1, hp]
  exact bfs_end (f := 8) (l := [0])
theorem machN_zero {d : Ci} (h : d.next = []) : (machN d).next.length = 1 ∧ (machN d).out = [nats ((List.range (2 ^ d.ins)).map fun x => num (lits (vals d [] (bits x d.ins)) d.outs))] := by
  unfold machN
  rw [bfs_zero h]
  refine ⟨rfl, ?_⟩
  show [nats (rowO d 0)] = _
  unfold rowO outsOf
  rw [h]
  rfl
theorem machI_ok {c : Cz} (h : valid c = true) : machI c = machN (nat c) := by unfold machI; rw [h]; rfl
theorem machI_no {c : Cz} (h : valid c = false) : machI c = { ins := 0, next := [], out := [] } := by unfold machI; rw [h]; rfl
end Cir
theorem nat_next0 (c : Cz) (h : c.next = []) : (Cir.nat c).next = [] := by unfold Cir.nat; rw [h]; rfl
theorem rowG_get {N j : Nat} (h : j < N) (f : Nat → Nat) : (nats ((List.range N).map f))[j]? = some ((f j : Nat) : Int) := by
  unfold nats
  rw [List.getElem?_map, List.getElem?_map, List.getElem?_range h]
  rfl
end Go.Proofs.Ytmlmnelbphjfbaa

namespace Go.Proofs.Ytmlmnelbphjfbaa
open Go.RowKit
set_option maxRecDepth 100000
/-! RunMachine, both. -/
set_option maxHeartbeats 8000000 in
theorem implRun_any (v vi : Value) (m : Mz) (ins : List Int) (w : World) (h : MachAt w v m) (hi : IntsAt w vi ins) :
    Calls Try.prog 11 #[v, vi] w (OwnInts (Mac.runI m ins) w) := by
  have HC := Lib.hid h
  obtain ⟨An, cn, Ao, co, rfl, hcn, hco, hcn1, hco1⟩ := h.shape
  obtain ⟨Ai, ci, rfl, hci, hcim⟩ := Row.shape hi
  unfold maxLen at hcim
  have B0 := Lib.hid (bel_alloc w (.cells #[.int .i64 m.ins, .slice An m.next.length cn, .slice Ao m.out.length co] 25))
  have PC := Lib.hid (MCells.boxed w m.ins (.slice An m.next.length cn) (.slice Ao m.out.length co) 25)
  have hsz : (w.alloc (.cells #[.int .i64 m.ins, .slice An m.next.length cn, .slice Ao m.out.length co] 25)).heap.size = w.heap.size + 1 := by simp
  obtain ⟨z, p0, p1, p2⟩ := PC.out
  have HC := Lib.hid (HC.out.below B0.out)
  have Hi := Lib.hid (Row.below hi B0.out)
  have HV := Lib.hid (implMValid_any _ m _ HC.out)
  generalize hW : w.alloc (.cells #[.int .i64 m.ins, .slice An m.next.length cn, .slice Ao m.out.length co] 25) = W at *
  clear hi
  cases hv : Mac.valid m
  · rw [hv] at HV
    have HR : Hid (Mac.runI m ins = []) := Lib.hid (by unfold Mac.runI Mac.runOk; rw [hv]; rfl)
    rw [HR.out]
    clear HR hv
    go_enter Try.func11, Try.ntmps11
    go_wp2_with fail
    refine HV.out.mono ?_
    rintro e w1 ⟨rfl, hb1⟩
    have B := Lib.hid (B0.out.trans (hb1.mono B0.out.size))
    clear hb1
    go_wp2_with fail
    go_ret
    exact own_nil _ _ B.out
  · rw [hv] at HV
    have Hv := Lib.hid hv
    by_cases hl : (40 : Int) < ins.length
    · have HR : Hid (Mac.runI m ins = []) := Lib.hid (by unfold Mac.runI Mac.runOk; rw [hv, decide_eq_false (by omega)]; rfl)
      rw [HR.out]
      clear HR hv
      go_enter Try.func11, Try.ntmps11
      go_wp2_with fail
      refine HV.out.mono ?_
      rintro e w1 ⟨rfl, hb1⟩
      have B := Lib.hid (B0.out.trans (hb1.mono B0.out.size))
      clear hb1
      go_wp2_with fail
      go_ret
      exact own_nil _ _ B.out
    · obtain ⟨s1, s2, s3, s4, s5⟩ := mach_sizes (m := m) (by have h := hv; unfold Mac.valid at h; simp only [Bool.and_eq_true] at h; exact h.1)
      obtain ⟨N, hN⟩ := Int.eq_ofNat_of_zero_le s1
      have hN4 : N ≤ 4 := by omega
      obtain ⟨M, eM, hM⟩ : ∃ M : Nat, (2 : Int) ^ N = (M : Int) ∧ M = 2 ^ N := ⟨2 ^ N, two_pow N, rfl⟩
      have hM16 : M ≤ 16 := by rw [hM]; exact Nat.pow_le_pow_right (show 0 < 2 by decide) hN4
      have hwM := IntWalk.i64_in (M : Int) (by omega)
      have HM : Hid (2 ^ m.ins.toNat = M) := Lib.hid (by rw [hN, hM]; rfl)
      have HR0 : Hid (Mac.runI m ins = if (ins.drop 0).all (Mac.inRange m) then Mac.outs m 0 ins else []) := Lib.hid (by unfold Mac.runI Mac.runOk; rw [hv, decide_eq_true (by omega)]; rfl)
      have HRow : Hid (∀ s x : Nat, s < m.next.length → x < M → ∃ r q y o, m.next[s]? = some r ∧ m.out[s]? = some q ∧ r.length = M ∧ q.length = M ∧ r[x]? = some ((y : Nat) : Int) ∧ y < m.next.length ∧ q[x]? = some o ∧ 0 ≤ o ∧ o < 8 ∧ Mac.stepN m s x = y ∧ Mac.stepO m s x = o) := Lib.hid fun s x hs hx => by
        have := Mac.valid_row hv hs (by rw [HM.out]; exact hx)
        rwa [HM.out] at this
      have HRg : Hid (∀ x : Int, Mac.inRange m x = Mac.inOk (M : Int) x) := Lib.hid fun x => by unfold Mac.inRange; rw [HM.out]
      rw [hN] at p0 HC PC HV hW ⊢
      generalize Mac.runI m ins = res at *
      have S5 := Lib.hid s5
      clear hv hM s1 s2 hN s5
      go_enter Try.func11, Try.ntmps11
      go_wp2_with fail
      refine HV.out.mono ?_
      rintro e w1 ⟨rfl, hb1⟩
      have B1 := Lib.hid (B0.out.trans (hb1.mono B0.out.size))
      have PC1 := Lib.hid (PC.out.below hb1)
      have HC1 := Lib.hid (HC.out.below hb1)
      have Hi1 := Lib.hid (Row.below Hi.out hb1)
      have z1 := hb1.size
      clear hb1 p0 p1 p2 z PC HC Hi HV hW
      go_wp2_with fail
      go_loopw [5, 6, 19] (fun v s i wr => ∃ (vv : Value) (k st : Nat), vv = v ∧ k ≤ ins.length ∧ i = .int .i64 k ∧ s = .int .i64 st ∧ st < m.next.length ∧ Hid (st = Mac.st m (ins.take k)) ∧ Hid (res = if (ins.drop k).all (Mac.inRange m) then Mac.outs m 0 ins else []) ∧ Hid (wr.ownsRow w1.heap.size 3 1 v k (ints (Mac.outs m 0 (ins.take k)))) ∧ Below w1.heap.size w1 wr) (fun v s i _ => ins.length - (intOf i).toNat)
      case atStart => exact ⟨_, 0, 0, rfl, Nat.zero_le _, rfl, rfl, by omega, Lib.hid rfl, HR0, Lib.hid (World.ownsRow_nil _ _ _ _), Below.refl _ _⟩
      case round =>
        obtain ⟨vv, k, st, hvv, hk, rfl, rfl, hst, Hst, hres, Ho, hb⟩ := hrel
        subst hvv
        clear HR0
        have Hb := Lib.hid hb
        have hzb := hb.size
        obtain ⟨z, p0, p1, p2⟩ := PC1.out.below hb
        by_cases hlt : k < ins.length
        · obtain ⟨b, o, x, rfl, hbl, hx, hs0⟩ := ints_open Hi1.out hb rfl hlt
          have Hdr := Lib.hid (Mac.all_dropG (p := Mac.inRange m) hx.out)
          clear hb
          cases hr : Mac.inRange m x
          · have HR : Hid (res = []) := Lib.hid (by rw [hres.out, Hdr.out, hr]; rfl)
            rw [HRg.out] at hr
            unfold Mac.inOk at hr
            rw [decide_eq_false_iff_not] at hr
            rw [HR.out]
            by_cases hx0 : x < 0
            · clear hr
              go_wp2_with fail
              go_ret
              exact own_nil _ _ (B1.out.trans (Hb.out.mono B1.out.size))
            · have hxM : (M : Int) ≤ x := by omega
              clear hr
              go_wp2_with fail
              go_ret
              exact own_nil _ _ (B1.out.trans (Hb.out.mono B1.out.size))
          · obtain ⟨X, rfl, hXM⟩ := Mac.inRange_nat hr
            rw [HM.out] at hXM
            have Hn : Hid (res = if (ins.drop (k + 1)).all (Mac.inRange m) then Mac.outs m 0 ins else []) := Lib.hid (by rw [hres.out, Hdr.out, hr]; rfl)
            obtain ⟨r, q, y, O, e1, e2, l1, l2, f1, hy, f2, hO1, hO2, g1, g2⟩ := HRow.out st X hst hXM
            obtain ⟨mn, mo, hmv, rn, ro⟩ := HC1.out
            simp only [Value.agg.injEq, Array.mk.injEq, List.cons.injEq, and_true, true_and] at hmv
            obtain ⟨-, rfl, rfl⟩ := hmv
            obtain ⟨bn, on, Bn, mn, rfl, hbn, hcn1', hn1, hn2, hrn⟩ := ss_open rn (Below.refl _ _) e1
            obtain ⟨bo, oo, Bo, mo, rfl, hbo, hco1', ho1, ho2, hro⟩ := ss_open ro (Below.refl _ _) e2
            obtain ⟨bn', on', rfl, hbn', hcy⟩ := ints_row hrn rfl f1
            obtain ⟨bo', oo', rfl, hbo', hcO⟩ := ints_row hro rfl f2
            rw [l1] at hcn1' hn1
            rw [l2] at hco1' ho1
            have K : ∀ w', Below w1.heap.size w1 w' → w'.cell? ⟨bn, on + st, none⟩ = some (.slice (some ⟨bn', on', none⟩) M mn) ∧ w'.cell? ⟨bo, oo + st, none⟩ = some (.slice (some ⟨bo', oo', none⟩) M mo) ∧ w'.cell? ⟨bn', on' + X, none⟩ = some (.int .i64 y) ∧ w'.cell? ⟨bo', oo' + X, none⟩ = some (.int .i64 O) := fun w' hb =>
              ⟨(hb.cell (p := ⟨bn, on + st, none⟩) hbn).trans hcn1', (hb.cell (p := ⟨bo, oo + st, none⟩) hbo).trans hco1', (hb.cell (p := ⟨bn', on' + X, none⟩) hbn').trans hcy, (hb.cell (p := ⟨bo', oo' + X, none⟩) hbo').trans hcO⟩
            have HK := Lib.hid K
            obtain ⟨k1, k2, k3, k4⟩ := K wr Hb.out
            clear K hcn1' hco1' hcy hcO
            have HSt : Hid (y = Mac.st m (ins.take (k + 1))) := Lib.hid (by rw [Mac.st_snoc hx.out, ← Hst.out, g1])
            have HOu : Hid (ints (Mac.outs m 0 (ins.take (k + 1))) = ints (Mac.outs m 0 (ins.take k)) ++ [.int .i64 O]) := Lib.hid (by rw [Mac.outs_snoc hx.out, ← Hst.out, g2, ints_snoc])
            unfold maxLen at hn2 ho2
            have Hlit := Lib.hid (Row.of_own (World.ownsRow_lit (base := wr.heap.size) (e := 3) (size := 1) wr #[.int .i64 O] 1 (Nat.le_refl _) (by unfold maxLen; omega) rfl))
            have hbm := bel_alloc wr (.cells #[.int .i64 O] 3)
            have Hb7 : Hid (∀ w7, (wr.alloc (.cells #[.int .i64 O] 3)).grownBy w7 vv.ownBlock → Below w1.heap.size w1 w7) := Lib.hid fun w7 hg => (Hb.out.alloc hzb _).grown hg (Hb.out.alloc hzb _).size (own_ge0 Ho.out)
            have hd1 : decide (st < m.next.length) = true := decide_eq_true hst
            have hd2 : st < m.out.length := by have := S5.out; omega
            have hd3 : decide (X < M) = true := decide_eq_true hXM
            clear hr e1 e2 f1 f2 g1 g2 hrn hro rn ro l1 l2 hbm
            go_wp2_with (at_builtin; refine append_ints rfl (.tmp 32) (.tmp 41) rfl w1.heap.size _ k _ rfl (Ho.out.alloc _) _ 1 [.int .i64 O] rfl Hlit.out (by simp [Value.oneCell']) (by omega) (by simp; omega) ?_; intro v7 w7 hown7 hg7 hat7; have Ho7 := Lib.hid hown7; have B7 := Lib.hid (Hb7.out w7 hg7); obtain ⟨j1, j2, j3, j4⟩ := HK.out w7 B7.out; obtain ⟨z7, r0, r1, r2⟩ := PC1.out.below B7.out; clear hown7 hg7 hat7 p0 p1 p2 k1 k2 k3 k4)
            go_roundw
            case rel => exact ⟨_, k + 1, y, rfl, by omega, by go_num, rfl, hy, HSt, Hn, Lib.hid (by rw [HOu.out]; exact Ho7.out), B7.out⟩
            case measure => simp [intOf] <;> omega
        · obtain rfl : k = ins.length := by omega
          have HR : Hid (res = Mac.outs m 0 ins) := Lib.hid (by rw [hres.out, List.drop_eq_nil_of_le (Nat.le_refl _)]; rfl)
          go_wp2_with fail
          go_ret
          exact ⟨_, rfl, by rw [HR.out, Mac.outs_length]; have := Ho.out; rw [List.take_length] at this; exact own_mono this (by omega), B1.out.trans (Hb.out.mono B1.out.size)⟩
end Go.Proofs.Ytmlmnelbphjfbaa

namespace Go.Proofs.Ytmlmnelbphjfbaa
/-! Drawn regions with guards whose values are known (gl): a guarded operation is run, or it is skipped. -/
def look1 (gl : List (Nat × Bool)) (j : Nat) : Option Bool := gl.lookup j
/-- The operation as it runs: without its guard, or as a move of nothing. -/
def norm1 (gl : List (Nat × Bool)) (o : Oper) : Oper := match o with
  | ⟨d, op, ty, pos, aft, none⟩ => ⟨d, op, ty, pos, aft, none⟩
  | ⟨d, op, ty, pos, aft, some (j, b)⟩ => if look1 gl j = some b then ⟨d, op, ty, pos, aft, none⟩ else ⟨d, .move (.const undef), ty, pos, aft, none⟩
theorem norm1_dst (gl : List (Nat × Bool)) (o : Oper) : (norm1 gl o).dst = o.dst := by
  obtain ⟨d, op, ty, pos, aft, g⟩ := o
  cases g with
  | none => rfl
  | some p => obtain ⟨j, b⟩ := p; unfold norm1; simp only; split <;> rfl
def rgG (gl : List (Nat × Bool)) (ops : Array Oper) : Bool :=
  (List.range ops.size).all fun i => match ops[i]? with
    | none => true
    | some o => (match o.guard with | none => true | some (j, _) => decide (j < i) && ancB ops 4 j i && (look1 gl j).isSome && ((ops[j]?).bind (·.dst)).isSome) && o.after.all (fun e => !Region.binds .any e || decide (e.on < i)) &&
        (match o.op with | .select .. => false | .assign _ => o.guard.isNone | _ => true) &&
        (List.range i).all fun j => match ops[j]? with
          | none => true
          | some p => (p.dst.isNone || p.dst != o.dst) && (!clash p o || ancB ops 4 j i)
section
variable {P : Program} {ops : Array Oper} {gl : List (Nat × Bool)}
structure RgGOk (gl : List (Nat × Bool)) (ops : Array Oper) (i : Nat) (o : Oper) : Prop where
  guard : ∀ j b, o.guard = some (j, b) → j < i ∧ ancB ops 4 j i = true ∧ ∃ x p t, look1 gl j = some x ∧ ops[j]? = some p ∧ p.dst = some t
  back : ∀ e ∈ o.after, Region.binds .any e = true → e.on < i
  sel : ∀ cs b, o.op ≠ .select cs b
  asg : ∀ x, o.op = .assign x → o.guard = none
  one : ∀ j p, j < i → ops[j]? = some p → ∀ d, p.dst = some d → o.dst ≠ some d
  anc : ∀ j p, j < i → ops[j]? = some p → clash p o = true → ancB ops 4 j i = true
theorem rgG_ok (h : rgG gl ops = true) {i : Nat} {o : Oper} (ho : ops[i]? = some o) : RgGOk gl ops i o := by
  have hlt : i < ops.size := (Array.getElem?_eq_some_iff.1 ho).1
  have h1 := List.all_eq_true.1 h i (List.mem_range.2 hlt)
  simp only [ho, Bool.and_eq_true] at h1
  obtain ⟨⟨⟨h1, h2⟩, h3⟩, h4⟩ := h1
  refine ⟨fun j b hg => ?_, fun e he hb => ?_, fun cs b e => by simp [e] at h3, fun x e => by simpa [e] using h3, fun j p hj hp d hd e => ?_, fun j p hj hp hc => ?_⟩
  · rw [hg] at h1
    simp only [Bool.and_eq_true, decide_eq_true_iff] at h1
    obtain ⟨⟨⟨a1, a2⟩, a3⟩, a4⟩ := h1
    obtain ⟨x, hx⟩ := Option.isSome_iff_exists.1 a3
    obtain ⟨t, ht⟩ := Option.isSome_iff_exists.1 a4
    cases hp : ops[j]? with
    | none => rw [hp] at ht; cases ht
    | some p => rw [hp] at ht; exact ⟨a1, a2, x, p, t, hx, rfl, ht⟩
  · have := Array.all_eq_true_iff_forall_mem.1 h2 e he
    simpa [hb] using this
  · have := List.all_eq_true.1 h4 j (List.mem_range.2 hj)
    simp [hp, hd, e] at this
  · have := List.all_eq_true.1 h4 j (List.mem_range.2 hj)
    simp only [hp, Bool.and_eq_true] at this
    simpa [hc] using this.2
theorem Is.stepG (hB : rgG gl ops = true) {a0 a : Act} {L : Nat → Bool} {f : Nat → Value} (h : Is ops a0 L f a) {i : Nat} {o : Oper} (ho : ops[i]? = some o) (hL : L i = false) (v : Value) :
    Is ops a0 (fun j => if j = i then true else L j) (fun j => if j = i then v else f j) (a.put o.dst v) := by
  refine ⟨(put_defers _ _ _).trans h.defers, (put_size _ _ _).trans h.size, fun j p t hj hp ht hlt => ?_, fun t ht => ?_⟩
  · by_cases e : j = i
    · subst e
      obtain rfl := Option.some.inj (ho.symm.trans hp)
      simp only [if_true]
      rw [ht]
      exact put_get _ _ _ (by rw [h.size]; exact hlt)
    · simp only [e, if_false] at hj ⊢
      rw [put_get_ne]
      · exact h.mine j p t hj hp ht hlt
      · intro hd
        rcases Nat.lt_or_gt_of_ne e with hlt' | hgt
        · exact (rgG_ok hB ho).one j p hlt' hp t ht hd
        · exact (rgG_ok hB hp).one i o hgt ho t hd ht
  · rw [put_get_ne]
    · exact h.old t fun j p hj hp => ht j p (by by_cases e : j = i <;> simp [e, hj]) hp
    · exact ht i o (by simp) ho
theorem putAll_isG (hB : rgG gl ops = true) {a0 : Act} {f : Nat → Value} : ∀ (l : List Oper) (k : Nat) (a : Act), ops.toList.drop k = l → Is ops a0 (fun j => decide (j < k)) f a → Is ops a0 (fun j => decide (j < ops.size)) f (putAll l f k a)
  | [], k, a, hl, h => by
    have hk : ops.size ≤ k := by simpa using hl
    have e : Is ops a0 (fun j => decide (j < ops.size)) f a := ⟨h.defers, h.size, fun i o t hi ho => h.mine i o t (by simp at hi ⊢; omega) ho, fun t ht => h.old t fun i o hi ho => ht i o (by
      have := (Array.getElem?_eq_some_iff.1 ho).1
      simpa using this) ho⟩
    exact e
  | o :: l, k, a, hl, h => by
    have hk : k < ops.toList.length := by
      rcases Nat.lt_or_ge k ops.toList.length with h' | h'
      · exact h'
      · rw [List.drop_eq_nil_of_le h'] at hl; cases hl
    rw [List.drop_eq_getElem_cons hk] at hl
    injection hl with h1 h2
    have ho : ops[k]? = some o := by
      rw [← h1, ← Array.getElem?_toList, List.getElem?_eq_getElem hk]
    have hs := h.stepG hB ho (by simp) (f k)
    refine putAll_isG hB l (k + 1) _ h2 ?_
    have e1 : (fun j => if j = k then true else decide (j < k)) = fun j => decide (j < k + 1) := by
      funext j
      by_cases e : j = k
      · subst e; simp
      · simp [e]; omega
    have e2 : (fun j => if j = k then f k else f j) = f := by
      funext j
      by_cases e : j = k <;> simp [e]
    rw [e1, e2] at hs
    exact hs

theorem Inv.knownG {τ : Nat → World → Value → Prop} {d : Nat} {I : Option Value → World → Prop} {a0 a : Act} {L : Nat → Bool} {w : World} (hB : rgG gl ops = true) (hS : (ops.all fun o => match o.dst with | some t => decide (t < a0.tmps.size) | none => true) = true)
    (h : Inv ops τ d I a0 L a w) {i : Nat} {o : Oper} (ho : ops[i]? = some o) (hL : L i = false) (hr : ∀ e ∈ o.after, Region.binds .any e = true → L e.on = true) : (∀ j, ancB ops 4 j i = true → j ≠ i → L j = true) ∧ Known ops τ a0 a.eval w i (norm1 gl o).op.operands.toList := by
  obtain ⟨hC, f, hf, hI, hτ, _⟩ := h
  have anc : ∀ j, ancB ops 4 j i = true → j ≠ i → L j = true := by
    intro j hj hne
    rw [show (4 : Nat) = 3 + 1 from rfl, ancB, Bool.or_eq_true] at hj
    rcases hj with hj | hj
    · exact absurd (by simpa using hj) hne
    · simp only [ho, Option.map_some, Option.getD_some, Array.any_eq_true] at hj
      obtain ⟨k, hk, hj⟩ := hj
      rw [Bool.and_eq_true] at hj
      exact ancB_shut hC 3 j _ hj.2 (hr _ (Array.getElem_mem hk) hj.1)
  have hdst : ∀ (j : Nat) (p : Oper) (t : Tmp), ops[j]? = some p → p.dst = some t → t < a0.tmps.size := by
    intro j p t hp ht
    have := Array.all_eq_true_iff_forall_mem.1 hS p (Array.mem_of_getElem? hp)
    simpa [ht] using this
  refine ⟨anc, ?_⟩
  by_cases hsk : (norm1 gl o).op = .move (.const undef)
  · rw [hsk]; exact ⟨rfl, trivial⟩
  have hop : (norm1 gl o).op = o.op := by
    revert hsk
    obtain ⟨d, op, ty, pos, aft, g⟩ := o
    cases g with
    | none => intro _; rfl
    | some p => obtain ⟨j, b⟩ := p; unfold norm1; simp only; split <;> intro hsk <;> first | rfl | exact absurd rfl hsk
  rw [hop]
  have mem : ∀ t, .tmp t ∈ o.op.operands.toList → ∀ p : Oper, p.dst = some t → clash p o = true := by
    intro t ht p hp
    unfold clash
    rw [hp]
    simp only [Bool.or_eq_true]
    left
    rw [List.contains_iff_mem]
    exact List.mem_filterMap.2 ⟨_, ht, rfl⟩
  have mem' : ∀ t, .tmp t ∈ o.op.operands.toList → ∀ p : Oper, p.dst = some t → clash o p = true := by
    intro t ht p hp
    unfold clash
    rw [hp]
    simp only [Bool.or_eq_true]
    right
    rw [List.contains_iff_mem]
    exact List.mem_filterMap.2 ⟨_, ht, rfl⟩
  -- only what the operation looks at is asked
  have go : ∀ xs : List Operand, (∀ x ∈ xs, x ∈ o.op.operands.toList) → Known ops τ a0 a.eval w i xs := by
    intro xs
    induction xs with
    | nil => intro _; trivial
    | cons x xs ih =>
      intro hx
      have hrest := ih fun y hy => hx y (List.mem_cons_of_mem _ hy)
      cases x with
      | tmp t =>
        have ht := hx (.tmp t) (by simp)
        refine ⟨?_, hrest⟩
        cases hj : writer ops i t with
        | none =>
          show a.tmps.getD t undef = a0.tmps.getD t undef
          refine hf.old t fun j p hLj hp hd => ?_
          have hji : ¬ j < i := fun hlt => by
            have := List.find?_eq_none.1 hj j (List.mem_range.2 hlt)
            simp [hp, hd] at this
          have hne : j ≠ i := fun e => by subst e; rw [hL] at hLj; cases hLj
          -- j comes behind i: then i is listed too
          have hlt : i < j := by omega
          have := ancB_shut hC 4 i j ((rgG_ok hB hp).anc i o hlt ho (mem' t ht p hd)) hLj
          rw [hL] at this; cases this
        | some j =>
          have hj' := List.find?_some hj
          have hji : j < i := List.mem_range.1 (List.mem_of_find?_eq_some hj)
          cases hp : ops[j]? with
          | none => simp [hp] at hj'
          | some p =>
            have hd : p.dst = some t := by simpa [hp] using hj'
            have hLj := anc j ((rgG_ok hB ho).anc j p hji hp (mem t ht p hd)) (by omega)
            have := hf.mine j p t hLj hp hd (hdst j p t hp hd)
            show τ j w (a.tmps.getD t undef)
            rw [this]
            exact (hτ j hLj).2
      | const v => exact ⟨rfl, hrest⟩
      | global v => exact ⟨rfl, hrest⟩
      | func v => exact ⟨rfl, hrest⟩
  exact go _ fun _ h => h

theorem Inv.copyG {τ : Nat → World → Value → Prop} {d : Nat} {I : Option Value → World → Prop} {a0 a : Act} {L : Nat → Bool} {w : World} (hB : rgG gl ops = true) (hS : (ops.all fun o => match o.dst with | some t => decide (t < a0.tmps.size) | none => true) = true)
    (h : Inv ops τ d I a0 L a w) {i : Nat} {o : Oper} (ho : ops[i]? = some o) (hL : L i = false) (hr : ∀ e ∈ o.after, Region.binds .any e = true → L e.on = true) {f : Nat → Value} (hf : Is ops a0 L f a) {t : Tmp} {j : Nat}
    (ha : o.op = .assign (.tmp t)) (hj : writer ops i t = some j) : L j = true ∧ a.eval (.tmp t) = f j := by
  have hC := h.shut
  have hj' := List.find?_some hj
  have hji : j < i := List.mem_range.1 (List.mem_of_find?_eq_some hj)
  cases hp : ops[j]? with
  | none => simp [hp] at hj'
  | some p =>
    have hd : p.dst = some t := by simpa [hp] using hj'
    have hcl : clash p o = true := by
      unfold clash
      rw [hd]
      simp only [Bool.or_eq_true]
      left
      rw [List.contains_iff_mem]
      exact List.mem_filterMap.2 ⟨.tmp t, by rw [ha]; simp [Op.operands], rfl⟩
    have hanc := (rgG_ok hB ho).anc j p hji hp hcl
    have hLj : L j = true := by
      rw [show (4 : Nat) = 3 + 1 from rfl, ancB, Bool.or_eq_true] at hanc
      rcases hanc with h1 | h1
      · exact absurd (by simpa using h1) (Nat.ne_of_lt hji)
      · simp only [ho, Option.map_some, Option.getD_some, Array.any_eq_true] at h1
        obtain ⟨k, hk, h1⟩ := h1
        rw [Bool.and_eq_true] at h1
        exact ancB_shut hC 3 j _ h1.2 (hr _ (Array.getElem_mem hk) h1.1)
    have hdst : t < a0.tmps.size := by
      have := Array.all_eq_true_iff_forall_mem.1 hS p (Array.mem_of_getElem? hp)
      simpa [hd] using this
    exact ⟨hLj, hf.mine j p t hLj hp hd hdst⟩

theorem rg_anyG {Q : Exit → Act → World → Prop} {τ : Nat → World → Value → Prop} {d : Nat} {I : Nat → Option Value → World → Prop} {G : World → World → Prop} {a0 : Act} (hB : rgG gl ops = true) (hS : (ops.all fun o => match o.dst with | some t => decide (t < a0.tmps.size) | none => true) = true)
    (hG : ∀ i v w w', τ i w v → G w w' → τ i w' v)
    (hstep : ∀ i o, ops[i]? = some o → ∀ k ov ρ w, k < ops.size → I k ov w → (ancB ops 8 i d = true → ov = none) → Known ops τ a0 ρ w i (norm1 gl o).op.operands.toList → Good P (norm1 gl o) ρ w fun v w' => τ i w' v ∧ I (k + 1) (if i = d then some v else ov) w' ∧ G w w')
    (hgl : ∀ (i : Nat) (o : Oper) (j : Nat) (b : Bool), ops[i]? = some o → o.guard = some (j, b) → ∀ w v, τ j w v → ∃ x, look1 gl j = some x ∧ v = .bool x)
    (hd : d < ops.size) (hend : ∀ f w' k, k ≤ ops.size → I k (some (f d)) w' → (∀ i, i < ops.size → τ i w' (f i)) → Copies ops (fun j => decide (j < ops.size)) f → Q .normal (putAll ops.toList f 0 a0) w') :
    ∀ (fuel : Nat) (listed : Array Bool) (a : Act) (w : World) (k : Nat), k + fuel = ops.size → listed.size = ops.size → open_ ops listed ≤ fuel → Inv ops τ d (I k) a0 (fun i => listed.getD i false) a w → wpAny P .any ops Q fuel listed a w := by
  have last : ∀ (listed : Array Bool) (a : Act) (w : World) (k : Nat), k ≤ ops.size → listed.size = ops.size → Inv ops τ d (I k) a0 (fun i => listed.getD i false) a w → Region.ready .any ops listed = [] → Q .normal a w := by
    intro listed a w k hk hsz h hr
    have hall : ∀ i, i < ops.size → listed.getD i false = true := by
      intro i
      induction i using Nat.strongRecOn with
      | _ i ih =>
        intro hi
        rcases hb : listed.getD i false with _ | _
        · exfalso
          have hm : i ∈ Region.ready .any ops listed := mem_ready.2 ⟨by
            have : i < listed.size := by omega
            simpa [Array.getD, this] using hb, ops[i], Array.getElem?_eq_getElem hi, fun e he hbn => ih e.on ((rgG_ok hB (Array.getElem?_eq_getElem hi)).back e he hbn) (by
              have := (rgG_ok hB (Array.getElem?_eq_getElem hi)).back e he hbn
              omega)⟩
          rw [hr] at hm
          cases hm
        · rfl
    obtain ⟨_, f, hf, hI, hτ, hcp⟩ := h
    have hI : I k (some (f d)) w := by simpa [hall d hd] using hI
    have e1 : Is ops a0 (fun j => decide (j < ops.size)) f a := ⟨hf.defers, hf.size, fun i o t hi ho hd hl => hf.mine i o t (hall i (Array.getElem?_eq_some_iff.1 ho).1) ho hd hl,
      fun t ht => hf.old t fun i o hi ho => ht i o (by simpa using (Array.getElem?_eq_some_iff.1 ho).1) ho⟩
    have e0 : Is ops a0 (fun j => decide (j < 0)) f a0 := ⟨rfl, rfl, fun _ _ _ h => by simp at h, fun _ _ => rfl⟩
    rw [e1.same (putAll_isG hB ops.toList 0 a0 rfl e0)]
    refine hend f w k hk hI (fun i hi => (hτ i (hall i hi)).2) fun i o t j hi ho ha hw => ?_
    have hi' : i < ops.size := by simpa using hi
    obtain ⟨h1, h2⟩ := hcp i o t j (hall i hi') ho ha hw
    exact ⟨by simpa using (hτ j h1).1, h2⟩
  intro fuel
  induction fuel with
  | zero =>
    intro listed a w k hk hsz hc h
    have hr : Region.ready .any ops listed = [] := by
      refine List.eq_nil_iff_forall_not_mem.2 fun i hi => ?_
      obtain ⟨h1, o, ho, _⟩ := mem_ready.1 hi
      have hlt := (Array.getElem?_eq_some_iff.1 ho).1
      have hpos : 0 < open_ ops listed := List.countP_pos_iff.2 ⟨i, List.mem_range.2 hlt, by
        have : i < listed.size := by omega
        simpa [Array.getD, this] using h1⟩
      omega
    exact ⟨hr, last listed a w k (by omega) hsz h hr⟩
  | succ fuel ih =>
    intro listed a w k hk0 hsz hc h
    refine ⟨last listed a w k (by omega) hsz h, fun i hi => ?_⟩
    obtain ⟨h1, o, ho, hr⟩ := mem_ready.1 hi
    have hlt := (Array.getElem?_eq_some_iff.1 ho).1
    have hil : i < listed.size := by omega
    have h1' : listed.getD i false = false := by simpa [Array.getD, hil] using h1
    obtain ⟨hanc, hk⟩ := h.knownG hB hS ho h1' hr
    have hcopy : ∀ (f : Nat → Value), Is ops a0 (fun i => listed.getD i false) f a → ∀ t j, o.op = .assign (.tmp t) → writer ops i t = some j → listed.getD j false = true ∧ a.eval (.tmp t) = f j := fun f hf t j ha hw => h.copyG hB hS ho h1' hr hf ha hw
    have hnop : ∀ t, o.op = .assign (.tmp t) → (norm1 gl o).op = .assign (.tmp t) := fun t ha => by
      have hg0 := (rgG_ok hB ho).asg _ ha
      obtain ⟨d', op, ty, pos, aft, g⟩ := o
      simp only at hg0
      subst hg0
      exact ha
    obtain ⟨hC, f, hf, hI, hτ, hcp⟩ := h
    have hg := hstep i o ho k _ a.eval w (by omega) hI (fun e => if_neg (fun hdl => by have := ancB_shut hC 8 i d e hdl; rw [h1'] at this; cases this)) hk
    have hfin : ∀ v w', (τ i w' v ∧ I (k + 1) (if i = d then some v else if listed.getD d false = true then some (f d) else none) w' ∧ G w w') → (∀ x, (norm1 gl o).op = .assign x → v = a.eval x) → wpAny P .any ops Q fuel (listed.setIfInBounds i true) (a.put o.dst v) w' := by
      intro v w' ⟨hv, hI', hgw⟩ hva
      have eL : (fun j => (listed.setIfInBounds i true).getD j false) = fun j => if j = i then true else listed.getD j false := by
        funext j
        by_cases e : j = i
        · subst e; simp [hil]
        · simp only [e, if_false]
          exact getD_set_ne false (fun h => e h.symm)
      refine ih _ _ _ (k + 1) (by omega) (by simpa using hsz) ?_ ?_
      · have : open_ ops (listed.setIfInBounds i true) < open_ ops listed := by
          refine countP_lt (fun x _ hx => ?_) ⟨i, List.mem_range.2 hlt, by simpa using h1', ?_⟩
          · have : (listed.setIfInBounds i true).getD x false = if x = i then true else listed.getD x false := congrFun eL x
            rw [this] at hx
            by_cases e : x = i
            · simp [e] at hx
            · simpa [e] using hx
          · have : (listed.setIfInBounds i true).getD i false = if i = i then true else listed.getD i false := congrFun eL i
            rw [this]
            simp
        omega
      · rw [eL]
        refine ⟨fun j p hj hp e he hb => ?_, _, hf.stepG hB ho h1' v, ?_, fun j hj => ?_, fun j p t q hj hp ha hw => ?_⟩
        · by_cases ej : j = i
          · subst ej
            obtain rfl := Option.some.inj (ho.symm.trans hp)
            have := hr e he hb
            by_cases ee : e.on = j <;> simp [ee, this]
          · simp only [ej, if_false] at hj
            have := hC j p hj hp e he hb
            by_cases ee : e.on = i <;> simp [ee, this]
        · by_cases ed : i = d
          · subst ed
            simpa using hI'
          · simpa [ed, show ¬ d = i from fun h => ed h.symm] using hI'
        · by_cases ej : j = i
          · subst ej
            exact ⟨hlt, by simpa using hv⟩
          · simp only [ej, if_false] at hj ⊢
            exact ⟨(hτ j hj).1, hG j _ _ _ (hτ j hj).2 hgw⟩
        · have hqj : q < j := List.mem_range.1 (List.mem_of_find?_eq_some hw)
          by_cases ej : j = i
          · subst ej
            obtain rfl := Option.some.inj (ho.symm.trans hp)
            obtain ⟨h5, h6⟩ := hcopy f hf t q ha hw
            have hne : q ≠ j := by omega
            exact ⟨by simp only [hne, if_false]; exact h5, by simp only [hne, if_false, if_true]; rw [hva _ (hnop _ ha), h6]⟩
          · simp only [ej, if_false] at hj ⊢
            obtain ⟨h5, h6⟩ := hcp j p t q hj hp ha hw
            have h5' : listed.getD q false = true := h5
            have hne : q ≠ i := fun e => by rw [e, h1'] at h5'; cases h5'
            simp only [hne, if_false]
            exact ⟨h5, h6⟩
    have hga := hg.assign
    unfold wpOp
    simp only [ho]
    cases hgd : o.guard with
    | none =>
      have hn : norm1 gl o = o := by
        obtain ⟨d', op, ty, pos, aft, g⟩ := o
        simp only at hgd
        subst hgd
        rfl
      rw [hn] at hga hfin
      rw [if_pos (by simp [Region.wanted, hgd])]
      exact .inl (Good.wp hga fun v w' ⟨h5, hva⟩ => hfin v w' h5 hva)
    | some jb =>
      obtain ⟨j, b⟩ := jb
      obtain ⟨hji, haj, x, p, t, hx, hp, ht⟩ := (rgG_ok hB ho).guard j b hgd
      have hLj := hanc j haj (by omega)
      obtain ⟨x', hx', hfj⟩ := hgl i o j b ho hgd w (f j) (hτ j hLj).2
      obtain rfl : x' = x := Option.some.inj (hx'.symm.trans hx)
      have htl : t < a0.tmps.size := by
        have := Array.all_eq_true_iff_forall_mem.1 hS p (Array.mem_of_getElem? hp)
        simpa [ht] using this
      have hm := hf.mine j p t hLj hp ht htl
      have hy : yielded ops a.tmps j = some x' := by
        have hsz' : t < a.tmps.size := by rw [hf.size]; exact htl
        have e : a.tmps[t]? = some (.bool x') := by
          rw [Array.getElem?_eq_getElem hsz']
          have : a.tmps.getD t undef = a.tmps[t] := by simp [Array.getD, hsz']
          rw [← this, hm, hfj]
        unfold yielded
        simp [hp, ht, e]
      by_cases hxb : x' = b
      · have hn : norm1 gl o = { o with guard := none } := by
          obtain ⟨d', op, ty, pos, aft, g⟩ := o
          simp only at hgd
          subst hgd
          unfold norm1
          simp only [hx', hxb, if_true]
        rw [hn] at hga hfin
        rw [if_pos (by simp [Region.wanted, hgd, hy, hxb])]
        exact .inl (Good.wp (o := o) hga fun v w' ⟨h5, hva⟩ => hfin v w' h5 hva)
      · have hn : norm1 gl o = { o with op := .move (.const undef), guard := none } := by
          obtain ⟨d', op, ty, pos, aft, g⟩ := o
          simp only at hgd
          subst hgd
          unfold norm1
          simp only [hx']
          rw [if_neg (fun e => hxb (Option.some.inj e))]
        rw [hn] at hga hfin
        rw [if_neg (by simp [Region.wanted, hgd, hy, hxb])]
        have hrun : (execOp a.eval { o with op := .move (.const undef), guard := none }).run P w = .ok (.value undef) w := by simp [execOp, go_sem, Act.eval]
        unfold Good at hga
        rw [hrun] at hga
        exact hfin undef w hga.1 hga.2
end
section
variable {S : RS} {Fin : List Ty → Prop}
def GuardsOk (τ : List Ty) : List (Nat × Bool) → Prop
  | [] => True
  | (j, b) :: l => tys τ j = TEq (.bool b) ∧ GuardsOk τ l
theorem guards_of {τ : List Ty} : ∀ {gl : List (Nat × Bool)}, GuardsOk τ gl → ∀ {j : Nat} {x : Bool}, look1 gl j = some x → tys τ j = TEq (.bool x)
  | [], _, j, x, h => by cases h
  | (k, b) :: l, ⟨h1, h2⟩, j, x, h => by
    unfold look1 at h
    rw [List.lookup_cons] at h
    by_cases e : j = k
    · subst e
      simp at h
      rw [← h]; exact h1
    · have : (j == k) = false := by simpa using e
      rw [this] at h
      exact guards_of h2 h
theorem rseq_typesG {gl : List (Nat × Bool)} : ∀ (l : List Oper) (τs : List Ty), S.ops.toList.drop τs.length = l → τs.length + l.length = S.ops.size → (∀ T ∈ τs, Stb S.E T) → RSeq S Fin (l.map (norm1 gl)) τs.length τs →
    ∃ τ : List Ty, (∀ j, j < τs.length → tys τ j = tys τs j) ∧ (∀ T ∈ τ, Stb S.E T) ∧ Fin τ ∧ ∀ i o, τs.length ≤ i → S.ops[i]? = some o → ∀ k ov ρ w, k < S.ops.size → S.I k ov w → (ancB S.ops 8 i S.d = true → ov = none) → Known S.ops (tys τ) S.a0 ρ w i (norm1 gl o).op.operands.toList → Good S.P (norm1 gl o) ρ w fun v w' => tys τ i w' v ∧ S.I (k + 1) (if i = S.d then some v else ov) w' ∧ Only S.E w w'
  | [], τs, _, hlen, hst, h => by
    simp at hlen
    refine ⟨τs, fun _ _ => rfl, hst, h, fun i o hi ho => ?_⟩
    have := (Array.getElem?_eq_some_iff.1 ho).1
    omega
  | o :: l, τs, hl, hlen, hst, h => by
    rw [List.map_cons] at h
    obtain ⟨T, hT, hg, hr⟩ := h hst
    have hst' : ∀ T' ∈ T :: τs, Stb S.E T' := by
      intro T' hT'
      rcases List.mem_cons.1 hT' with h1 | h1
      · rw [h1]; exact hT
      · exact hst T' h1
    have hdrop : S.ops.toList.drop (T :: τs).length = l := by
      rw [List.length_cons, ← List.drop_drop, hl]; rfl
    obtain ⟨τ, h2, h3, h4, h5⟩ := rseq_typesG l (T :: τs) hdrop (by simp at hlen ⊢; omega) hst' (by rw [List.length_cons]; exact hr)
    rw [List.length_cons] at h2 h5
    have hget : ∀ j, j < τs.length → tys τ j = tys τs j := fun j hj => (h2 j (by omega)).trans (tys_old T τs hj)
    have hgetT : tys τ τs.length = T := (h2 _ (by omega)).trans (tys_new T τs)
    refine ⟨τ, hget, h3, h4, fun i o' hi ho => ?_⟩
    rcases Nat.lt_or_ge τs.length i with hlt | hge
    · exact h5 i o' hlt ho
    · obtain rfl : i = τs.length := by omega
      have : o' = o := by
        have e : S.ops.toList[τs.length]? = some o := by
          have := congrArg (fun l => l[0]?) hl
          simpa using this
        rw [Array.getElem?_toList] at e
        exact Option.some.inj (ho.symm.trans e)
      subst this
      intro k ov ρ w hk hI hd hK
      rw [hgetT]
      exact hg k ov ρ w hk hI hd (known_mono (fun j w v hj h => by rw [← hget j hj]; exact h) _ hK)
/-- THE RULE, with guards. -/
theorem wp_region_rsG {id : Nat} {Q : Exit → Act → World → Prop} (gl : List (Nat × Bool)) (S : RS) (hO : S.Ok) (hm : S.P.follows .mixedOrders = true) (hB : rgG gl S.ops = true) (hS : (S.ops.all fun o => match o.dst with | some t => decide (t < S.a0.tmps.size) | none => true) = true) (hd : S.d < S.ops.size)
    (hr : RdO S.rd 0 S.w0) (hJ : S.J none S.w0)
    (h : RSeq S (fun τ => GuardsOk τ gl ∧ ∀ f w' k, k ≤ S.ops.size → S.I k (some (f S.d)) w' → (∀ i, i < S.ops.size → tys τ i w' (f i)) → Copies S.ops (fun j => decide (j < S.ops.size)) f → Q .normal (putAll S.ops.toList f 0 S.a0) w') (S.ops.toList.map (norm1 gl)) 0 []) : (Code.region id S.ops true).wp S.P Q S.a0 S.w0 := by
  obtain ⟨τ, _, h3, ⟨h4g, h4⟩, h5⟩ := rseq_typesG (gl := gl) S.ops.toList [] (by simp) (by simp) (by simp) h
  have h0 : S.I 0 none S.w0.drew := by
    refine ⟨?_, Only.drew _ _, hO.keep _ _ _ hJ (Only.drew _ _)⟩
    cases hrd : S.rd with
    | none => trivial
    | some x =>
      rw [hrd] at hr
      exact Rd.drew1 hr
  refine wp_region_any hm (rg_anyG (gl := gl) (τ := tys τ) (d := S.d) (I := S.I) (G := Only S.E) hB hS (fun i v w w' ht hg => tys_stb h3 i v w w' ht hg) (fun i o ho => h5 i o (Nat.zero_le _) ho) (fun i o j b ho hg w v ht => ?_) hd (fun f w' k hk hI ht hc => h4 f w' k hk hI ht hc) S.ops.size (Array.replicate S.ops.size false) S.a0 _ 0 (by omega) (by simp) ?_ ?_)
  · obtain ⟨_, _, x, p, t, hx, _, _⟩ := (rgG_ok hB ho).guard j b hg
    rw [guards_of h4g hx] at ht
    exact ⟨x, hx, ht⟩
  · unfold open_
    exact Nat.le_trans List.countP_le_length (by simp)
  · have e : (fun i => (Array.replicate S.ops.size false).getD i false) = fun _ => false := by
      funext i
      by_cases h : i < S.ops.size <;> simp [Array.getD, h]
    rw [e]
    exact ⟨(fun j o hj => (by cases hj)), ⟨fun _ => undef, Is.start S.a0 _, h0, (fun i hi => (by cases hi)), (fun i o t j hi => (by cases hi))⟩⟩
variable {gl : List (Nat × Bool)} {d : Option Tmp} {op : Op} {ty : TypeId} {pos : String} {aft : Array Edge} {l : List Oper} {i j : Nat} {b : Bool} {τs : List Ty}
theorem rs_peel (h : RSeq S Fin (⟨d, op, ty, pos, aft, none⟩ :: l.map (norm1 gl)) i τs) : RSeq S Fin ((⟨d, op, ty, pos, aft, none⟩ :: l).map (norm1 gl)) i τs := h
theorem rs_run (hb : look1 gl j = some b) (h : RSeq S Fin (⟨d, op, ty, pos, aft, none⟩ :: l.map (norm1 gl)) i τs) : RSeq S Fin ((⟨d, op, ty, pos, aft, some (j, b)⟩ :: l).map (norm1 gl)) i τs := by
  rw [List.map_cons, norm1, if_pos hb]; exact h
theorem rs_skip (hb : look1 gl j = some (!b)) (h : RSeq S Fin (⟨d, .move (.const undef), ty, pos, aft, none⟩ :: l.map (norm1 gl)) i τs) : RSeq S Fin ((⟨d, op, ty, pos, aft, some (j, b)⟩ :: l).map (norm1 gl)) i τs := by
  rw [List.map_cons, norm1, if_neg (by rw [hb]; cases b <;> simp)]; exact h
end
end Go.Proofs.Ytmlmnelbphjfbaa

namespace Go.Proofs.Ytmlmnelbphjfbaa
open Go.RowKit
/-- A value of an own row of booleans, as it lies in memory. -/
theorem bools_at_own {w : World} {B n : Nat} {v : Value} {xs : List Bool} (h : w.ownsRow B 4 1 v n (bools xs)) (hn : xs.length = n) : BoolsAt w v xs := by subst hn; exact Row.of_own h
theorem boolsAt_cell {w : World} {u : Value} {xs : List Bool} {i : Nat} {b : Bool} (h : BoolsAt w u xs) (hx : xs[i]? = some b) : ∃ bb oo c, u = .slice (some ⟨bb, oo, none⟩) xs.length c ∧ bb < w.heap.size ∧ w.cell? ⟨bb, oo + i, none⟩ = some (.bool b) := by
  have hi := (List.getElem?_eq_some_iff.1 hx).1
  obtain ⟨A, c, rfl, -, -⟩ := Row.shape h
  obtain ⟨b', o', x, hA, hbl, hxx, hcell⟩ := bools_open (w := w) (wr := w) h (Below.refl _ _) (i := i) rfl hi
  subst hA
  obtain rfl : x = b := Option.some.inj (hxx.out.symm.trans hx)
  exact ⟨b', o', c, rfl, hbl, hcell⟩
end Go.Proofs.Ytmlmnelbphjfbaa

namespace Go.Proofs.Ytmlmnelbphjfbaa
open Go.RowKit
/-! alive: the circuit without anything is valid. -/

theorem append_nil_nil (w : World) : (Builtin.append_ #[28, 28] 28 #[.slice none 0 0, .slice none 0 0]).run Try.prog w = .ok (.slice none 0 0) w := by kernel_rfl

theorem roots_zero (g : Nat) (w : World) (h1 : w.cell? ⟨g, 1, none⟩ = some (.slice none 0 0)) (h3 : w.cell? ⟨g, 3, none⟩ = some (.slice none 0 0)) :
    Calls Try.prog 35 #[.pointer (some ⟨g, 0, none⟩)] w fun e w' => e = .returned (.slice none 0 0) ∧ Drew w w' := by
  have hap := append_nil_nil
  go_enter Try.func35, Try.ntmps35
  go_wp2_with fail
  go_quiet (fail)
  go_wp2_with fail
  go_ret
  exact ⟨rfl, Drew.by _ _⟩

theorem valid_zero (w : World) : Calls Try.prog 25 #[.agg #[.int .i64 0, .slice none 0 0, .slice none 0 0, .slice none 0 0]] w fun e w' => e = .returned (.bool true) ∧ Below w.heap.size w w' := by
  go_enter Try.func25, Try.ntmps25
  go_wp2
  go_loop [44] (fun i => i = .int .i64 0) (fun _ => 0)
  case atStart => rfl
  case round =>
    obtain rfl := hrel
    go_wp2_with fail
    refine (roots_zero w.heap.size _ ?_ ?_).mono ?_
    · simp [World.cell?_alloc_new]
    · simp [World.cell?_alloc_new]
    rintro e w' ⟨rfl, hd⟩
    go_wp2
    go_loop [68] (fun i => i = .int .i64 0) (fun _ => 0)
    case atStart => rfl
    case round =>
      obtain rfl := hrel
      go_wp2
      go_ret
      exact ⟨rfl, ((Below.refl _ _).alloc (Nat.le_refl _) _).trans (hd.below _)⟩

theorem alive_any (w : World) : Calls Try.prog 14 #[] w fun e w' => e = .returned (.bool true) ∧ Below w.heap.size w w' := by
  go_enter Try.func14, Try.ntmps14
  go_wp2_with (go_at_call 25; refine (valid_zero _).mono ?_; rintro e w' ⟨rfl, hb⟩)
  go_ret
  exact ⟨rfl, hb⟩
end Go.Proofs.Ytmlmnelbphjfbaa
