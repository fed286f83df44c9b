import Derived.Test.YtmlcbikljlhhkaaTernB
namespace Go.Proofs.Ytmlcbikljlhhkaa
open Go.RowKit
set_option maxRecDepth 100000
namespace Cir
def evalOk (c : Cz) (st inp : List Int) : Bool := valid c && (decide (st.length = c.next.length) && (decide ((inp.length : Int) = c.ins) && (st.all tern && inp.all tern)))
/-- What EvalTernary answers. -/
def evalT (c : Cz) (st inp : List Int) : List Int := if evalOk c st inp = true then nats (tvals (nat c) (st.map Int.toNat) (inp.map Int.toNat)) else []
theorem tern_nats : ∀ {xs : List Int}, xs.all tern = true → xs = nats (xs.map Int.toNat) ∧ ∀ x ∈ xs.map Int.toNat, x ≤ 2
  | [], _ => ⟨rfl, by simp⟩
  | x :: xs, h => by
    rw [List.all_cons, Bool.and_eq_true] at h
    obtain ⟨h1, h2⟩ := tern_nats h.2
    have h0 : 0 ≤ x ∧ x ≤ 2 := by have := h.1; unfold tern at this; simpa using this
    refine ⟨?_, ?_⟩
    · rw [List.map_cons, nats, List.map_cons, ← nats, ← h1]
      congr 1
      simp; omega
    · intro y hy
      rw [List.map_cons] at hy
      rcases List.mem_cons.1 hy with rfl | hy
      · omega
      · exact h2 y hy
theorem evalT_no {c : Cz} {st inp : List Int} (h : evalOk c st inp = false) : evalT c st inp = [] := by unfold evalT; rw [h]; rfl
end Cir
theorem bel_al (w : World) (o : Obj) : Below w.heap.size w (w.alloc o) := (Below.refl _ _).alloc (Nat.le_refl _) o
set_option maxHeartbeats 8000000 in
theorem implEvalT_any (v vs vi : Value) (c : Cz) (st inp : List Int) (w : World) (h : CircAt w v c) (hs : IntsAt w vs st) (hi : IntsAt w vi inp) :
    Calls Try.prog 22 #[v, vs, vi] w (OwnInts (Cir.evalT c st inp) w) := by
  obtain ⟨vn, vg, vo, rfl, r1, r2, r3⟩ := h
  obtain ⟨An, cn, hvn, hcn, hcmn⟩ := r1.shape
  obtain ⟨As, cs, hvs, hcs, hcms⟩ := hs.shape
  obtain ⟨Ai, ci, hvi, hci, hcmi⟩ := hi.shape
  subst hvn hvs hvi
  have hP := PCirc.boxed (w := w) (c := c) 30 r1 r2 r3
  have B0 := Lib.hid (bel_al w (.cells #[.int .i64 c.ins, .slice An c.next.length cn, vg, vo] 30))
  obtain ⟨z, p0, p1, p2, p3⟩ := PCells.boxed w c.ins (.slice An c.next.length cn) vg vo 30
  have HC : Hid (CircAt (w.alloc (.cells #[.int .i64 c.ins, .slice An c.next.length cn, vg, vo] 30)) (.agg #[.int .i64 c.ins, .slice An c.next.length cn, vg, vo]) c) := Lib.hid (CircAt.below ⟨_, _, _, rfl, r1, r2, r3⟩ B0.out)
  have Hs := Lib.hid (Row.below hs B0.out)
  have Hi := Lib.hid (Row.below hi B0.out)
  generalize hW : w.alloc (.cells #[.int .i64 c.ins, .slice An c.next.length cn, vg, vo] 30) = W at *
  have HV := Lib.hid (implValid_any _ c _ HC.out)
  have HP := Lib.hid hP
  clear r1 r2 r3 hs hi hP HC
  cases hv : Cir.valid c
  · have HR := Lib.hid (Cir.evalT_no (c := c) (st := st) (inp := inp) (by unfold Cir.evalOk; rw [hv]; rfl))
    rw [HR.out]
    rw [hv] at HV
    clear hv HR
    go_enter Try.func22, Try.ntmps22
    go_wp2_with fail
    refine HV.out.mono ?_
    rintro e w1 ⟨rfl, hb1⟩
    go_wp2_with fail
    go_ret
    exact own_nil _ _ (B0.out.trans (hb1.mono B0.out.size))
  · have HVV := Lib.hid hv
    rw [hv] at HV
    have q0 : ∀ w', Below W.heap.size W w' → w'.cell? ⟨w.heap.size, 0, none⟩ = some (.int .i64 c.ins) := fun w' hb => (hb.cell (p := ⟨w.heap.size, 0, none⟩) z).trans p0
    have q1 : ∀ w', Below W.heap.size W w' → w'.cell? ⟨w.heap.size, 1, none⟩ = some (.slice An c.next.length cn) := fun w' hb => (hb.cell (p := ⟨w.heap.size, 1, none⟩) z).trans p1
    have Q0 := Lib.hid q0
    have Q1 := Lib.hid q1
    clear hv q0 q1
    by_cases h1 : st.length = c.next.length
    · by_cases h2 : (inp.length : Int) = c.ins
      · have e1 : ((st.length : Int) != (c.next.length : Int)) = false := by rw [h1]; simp
        have e2 : ((inp.length : Int) != c.ins) = false := by rw [h2]; simp
        have HH1 := Lib.hid h1
        have HH2 := Lib.hid h2
        clear h1 h2
        have T1 := Lib.hid fun w' (hb : Below W.heap.size W w') => ternary_any _ st w' (Row.below Hs.out hb)
        have T2 := Lib.hid fun w' (hb : Below W.heap.size W w') => ternary_any _ inp w' (Row.below Hi.out hb)
        cases t1 : st.all Cir.tern
        · have HR := Lib.hid (Cir.evalT_no (c := c) (st := st) (inp := inp) (by unfold Cir.evalOk; rw [HVV.out, decide_eq_true HH1.out, decide_eq_true HH2.out, t1]; rfl))
          rw [HR.out]
          rw [t1] at T1
          clear t1 HR
          go_enter Try.func22, Try.ntmps22
          go_wp2_with fail
          refine HV.out.mono ?_
          rintro e w1 ⟨rfl, hb1⟩
          have k0 := Q0.out w1 hb1
          have k1 := Q1.out w1 hb1
          go_wp2_with fail
          refine (T1.out w1 hb1).mono ?_
          rintro e w' ⟨rfl, rfl⟩
          go_wp2_with fail
          go_ret
          exact own_nil _ _ (B0.out.trans (hb1.mono B0.out.size))
        · cases t2 : inp.all Cir.tern
          · have HR := Lib.hid (Cir.evalT_no (c := c) (st := st) (inp := inp) (by unfold Cir.evalOk; rw [HVV.out, decide_eq_true HH1.out, decide_eq_true HH2.out, t1, t2]; rfl))
            rw [HR.out]
            rw [t1] at T1
            rw [t2] at T2
            clear t1 t2 HR
            go_enter Try.func22, Try.ntmps22
            go_wp2_with fail
            refine HV.out.mono ?_
            rintro e w1 ⟨rfl, hb1⟩
            have k0 := Q0.out w1 hb1
            have k1 := Q1.out w1 hb1
            go_wp2_with fail
            refine (T1.out w1 hb1).mono ?_
            rintro e w' ⟨rfl, rfl⟩
            go_wp2_with fail
            refine (T2.out w1 hb1).mono ?_
            rintro e w' ⟨rfl, rfl⟩
            go_wp2_with fail
            go_ret
            exact own_nil _ _ (B0.out.trans (hb1.mono B0.out.size))
          · obtain ⟨n1, m1⟩ := Cir.tern_nats t1
            obtain ⟨n2, m2⟩ := Cir.tern_nats t2
            obtain ⟨d1, d2⟩ := Cir.nat_ok HVV.out
            have HR : Hid (Cir.evalT c st inp = nats (Cir.tvals (Cir.nat c) (st.map Int.toNat) (inp.map Int.toNat))) := Lib.hid (by unfold Cir.evalT Cir.evalOk; rw [HVV.out, decide_eq_true HH1.out, decide_eq_true HH2.out, t1, t2]; rfl)
            rw [HR.out]
            rw [t1] at T1
            rw [t2] at T2
            have HE : Hid (∀ w', Below W.heap.size W w' → Calls Try.prog 75 #[.pointer (some ⟨w.heap.size, 0, none⟩), .slice As st.length cs, .slice Ai inp.length ci] w' (OwnInts (nats (Cir.tvals (Cir.nat c) (st.map Int.toNat) (inp.map Int.toNat))) w')) := Lib.hid fun w' hb => by
              refine evalTernary_any w.heap.size (Cir.nat c) _ _ _ _ w' (by rw [← d1]; exact HP.out.below hb) d2 (by unfold NatsAt; rw [← n1]; exact Row.below Hs.out hb) (by unfold NatsAt; rw [← n2]; exact Row.below Hi.out hb) ?_ ?_ m1 m2
              · rw [List.length_map]
                have := HH2.out
                have e : (Cir.nat c).ins = c.ins.toNat := rfl
                omega
              · rw [List.length_map]
                have e : (Cir.nat c).next.length = c.next.length := List.length_map _
                rw [e]
                exact HH1.out
            clear t1 t2 HR n1 m1 n2 m2 d1 d2
            go_enter Try.func22, Try.ntmps22
            go_wp2_with fail
            refine HV.out.mono ?_
            rintro e w1 ⟨rfl, hb1⟩
            have k0 := Q0.out w1 hb1
            have k1 := Q1.out w1 hb1
            have Hb1 := Lib.hid hb1
            go_wp2_with fail
            refine (T1.out w1 hb1).mono ?_
            rintro e w' ⟨rfl, rfl⟩
            go_wp2_with fail
            refine (T2.out w1 Hb1.out).mono ?_
            rintro e w' ⟨rfl, rfl⟩
            go_wp2_with fail
            refine (HE.out w1 Hb1.out).mono ?_
            rintro e w2 ⟨v2, rfl, hown2, hb2⟩
            go_wp2_with fail
            go_ret
            exact ⟨_, rfl, own_mono hown2 (Nat.le_trans B0.out.size Hb1.out.size), (B0.out.trans (Hb1.out.mono B0.out.size)).trans (hb2.mono (Nat.le_trans B0.out.size Hb1.out.size))⟩
      · have HR := Lib.hid (Cir.evalT_no (c := c) (st := st) (inp := inp) (by unfold Cir.evalOk; rw [HVV.out, decide_eq_true h1, decide_eq_false h2]; rfl))
        rw [HR.out]
        have e1 : ((st.length : Int) != (c.next.length : Int)) = false := by rw [h1]; simp
        have e2 : ((inp.length : Int) != c.ins) = true := by simpa using h2
        clear h1 h2 HR
        go_enter Try.func22, Try.ntmps22
        go_wp2_with fail
        refine HV.out.mono ?_
        rintro e w1 ⟨rfl, hb1⟩
        have k0 := Q0.out w1 hb1
        have k1 := Q1.out w1 hb1
        go_wp2_with fail
        go_ret
        exact own_nil _ _ (B0.out.trans (hb1.mono B0.out.size))
    · have HR := Lib.hid (Cir.evalT_no (c := c) (st := st) (inp := inp) (by unfold Cir.evalOk; rw [HVV.out, decide_eq_false h1]; rfl))
      rw [HR.out]
      have e1 : ((st.length : Int) != (c.next.length : Int)) = true := by simp; omega
      clear h1 HR
      go_enter Try.func22, Try.ntmps22
      go_wp2_with fail
      refine HV.out.mono ?_
      rintro e w1 ⟨rfl, hb1⟩
      have k0 := Q0.out w1 hb1
      have k1 := Q1.out w1 hb1
      go_wp2_with fail
      go_ret
      exact own_nil _ _ (B0.out.trans (hb1.mono B0.out.size))
end Go.Proofs.Ytmlcbikljlhhkaa
