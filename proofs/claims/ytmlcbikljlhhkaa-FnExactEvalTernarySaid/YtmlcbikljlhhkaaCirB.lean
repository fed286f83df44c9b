import Derived.Test.YtmlcbikljlhhkaaCirA
namespace Go.Proofs.Ytmlcbikljlhhkaa
open Go.RowKit
theorem sizes_cases {c : Cz} (h : Cir.sizes c = false) : c.ins < 0 ∨ (0 ≤ c.ins ∧ 4 < c.ins) ∨ (0 ≤ c.ins ∧ c.ins ≤ 4 ∧ (3 : Int) < c.next.length) ∨ (0 ≤ c.ins ∧ c.ins ≤ 4 ∧ (c.next.length : Int) ≤ 3 ∧ (14 : Int) < c.gates.length) ∨ (0 ≤ c.ins ∧ c.ins ≤ 4 ∧ (c.next.length : Int) ≤ 3 ∧ (c.gates.length : Int) ≤ 14 ∧ (3 : Int) < c.outs.length) := by
  unfold Cir.sizes at h
  rw [decide_eq_false_iff_not] at h
  omega
theorem all_drop {p : Int → Bool} {l : List Int} {k : Nat} {x : Int} (h : l[k]? = some x) : (l.drop k).all p = (p x && (l.drop (k + 1)).all p) := by
  obtain ⟨hk, rfl⟩ := List.getElem?_eq_some_iff.1 h
  rw [List.drop_eq_getElem_cons hk, List.all_cons]
/-- An int of a slice, where it lies. -/
theorem ints_open {w wr : World} {A : Option Addr} {n c : Nat} {xs : List Int} (h : Row w 1 (.slice A n c) n (ints xs)) (hb : Below w.heap.size w wr) {i : Nat} (hn : n = xs.length) (hi : i < xs.length) :
    ∃ b o x, A = some ⟨b, o, none⟩ ∧ b < w.heap.size ∧ Hid (xs[i]? = some x) ∧ wr.cell? ⟨b, o + i, none⟩ = some (.int .i64 x) := by
  subst hn
  obtain ⟨b, o, c', hv, _, _, hbl, hcell⟩ := h.open (by omega)
  obtain ⟨rfl, _⟩ : A = some ⟨b, o, none⟩ ∧ True := by injection hv with e1; exact ⟨e1, trivial⟩
  obtain ⟨x, hx, hs⟩ := ints_at hi
  exact ⟨b, o, x, rfl, hbl, Lib.hid hx, (hb.cell (p := ⟨b, _, none⟩) hbl).trans (hcell _ _ hs)⟩
set_option maxHeartbeats 2000000 in
theorem implValid_any (v : Value) (c : Cz) (w : World) (h : CircAt w v c) :
    Calls Try.prog 66 #[v] w fun e w' => e = .returned (.bool (Cir.valid c)) ∧ Below w.heap.size w w' := by
  obtain ⟨vn, vg, vo, rfl, r1, r2, r3⟩ := h
  have hP := PCirc.boxed 30 r1 r2 r3
  have hb0 : Below w.heap.size w (w.alloc (.cells #[.int .i64 c.ins, vn, vg, vo] 30)) := (Below.refl _ _).alloc (Nat.le_refl _) _
  obtain ⟨An, cn, hvn, hcn, hcmn⟩ := r1.shape
  obtain ⟨Ag, cg, hvg, hcg, hcmg⟩ := Row.shape r2
  obtain ⟨Ao, co, hvo, hco, hcmo⟩ := r3.shape
  subst hvn hvg hvo
  unfold maxLen at hcmn hcmg hcmo
  cases hs : Cir.sizes c
  · have hv : Cir.valid c = false := by unfold Cir.valid; rw [hs]; rfl
    rw [hv]
    clear hv hP r1 r2 r3
    have B0 := Lib.hid hb0
    clear hb0
    rcases sizes_cases hs with g | ⟨g0, g1⟩ | ⟨g0, g1, g2⟩ | ⟨g0, g1, g2, g3⟩ | ⟨g0, g1, g2, g3, g4⟩
    all_goals
      clear hs
      go_enter Try.func66, Try.ntmps66
      go_wp2
      go_ret
      exact ⟨rfl, B0.out⟩
  · obtain ⟨s1, s2, s3, s4, s5⟩ : 0 ≤ c.ins ∧ c.ins ≤ 4 ∧ c.next.length ≤ 3 ∧ c.gates.length ≤ 14 ∧ c.outs.length ≤ 3 := by unfold Cir.sizes at hs; simpa using hs
    have hv : Cir.valid c = (Cir.gatesOk (1 + c.ins + c.next.length) 0 (c.gates.drop 0) && (c.next ++ c.outs).all (Cir.isLit · (Cir.vars c))) := by unfold Cir.valid; rw [hs]; rfl
    have HV := Lib.hid hv
    have HP := Lib.hid hP
    have B0 := Lib.hid hb0
    have t1 : (c.next.length : Int) ≤ 3 := by omega
    have t2 : (c.gates.length : Int) ≤ 14 := by omega
    have t3 : (c.outs.length : Int) ≤ 3 := by omega
    have R2 := Lib.hid (Row.alloc r2 (.cells #[.int .i64 c.ins, .slice An c.next.length cn, .slice Ag c.gates.length cg, .slice Ao c.outs.length co] 30))
    clear hs hv hP hb0 r1 r2 r3
    generalize Cir.valid c = res at HV ⊢
    go_enter Try.func66, Try.ntmps66
    go_wp2_with fail
    generalize w.alloc (.cells #[.int .i64 c.ins, .slice An c.next.length cn, .slice Ag c.gates.length cg, .slice Ao c.outs.length co] 30) = W1 at *
    go_loopw [44] (fun t wr => ∃ k : Nat, k ≤ c.gates.length ∧ t = .int .i64 k ∧ Hid (res = (Cir.gatesOk (1 + c.ins + c.next.length) k (c.gates.drop k) && (c.next ++ c.outs).all (Cir.isLit · (Cir.vars c)))) ∧ Below W1.heap.size W1 wr) (fun t _ => c.gates.length - (intOf t).toNat)
    case atStart => exact ⟨0, Nat.zero_le _, rfl, HV, Below.refl _ _⟩
    case round =>
      obtain ⟨k, hk, rfl, hres, hb⟩ := hrel
      by_cases hlt : k < c.gates.length
      · obtain ⟨b, o, x, rfl, hbl, hx, hs1, hs2⟩ := cubes_open R2.out hb rfl hlt
        have hz := B0.out.size
        have Hb := Lib.hid hb
        have hz2 := hb.size
        have Hstep := Lib.hid (Cir.gatesOk_drop (f := 1 + c.ins + c.next.length) hx.out)
        have hbr : b < wr.heap.size := by omega
        clear hb HV
        cases h1 : Cir.isLit x.1 (1 + c.ins + c.next.length + k)
        · have H1 := Lib.hid h1
          have hr : res = false := by rw [hres.out, Hstep.out, h1]; rfl
          subst hr
          clear h1
          go_wp2_with fail
          refine (isLit_any _ _ _ (by omega) (by omega)).mono ?_
          rintro e w' ⟨rfl, rfl⟩
          rw [H1.out]
          go_wp2_with fail
          go_ret
          exact ⟨rfl, (B0.out.trans (Hb.out.mono hz)).alloc (by omega) _⟩
        · have H1 := Lib.hid h1
          cases h2 : Cir.isLit x.2 (1 + c.ins + c.next.length + k)
          · have H2 := Lib.hid h2
            have hr : res = false := by rw [hres.out, Hstep.out, h1, h2]; rfl
            subst hr
            clear h1 h2
            go_wp2_with fail
            refine (isLit_any _ _ _ (by omega) (by omega)).mono ?_
            rintro e w' ⟨rfl, rfl⟩
            rw [H1.out]
            go_wp2_with fail
            refine (isLit_any _ _ _ (by omega) (by omega)).mono ?_
            rintro e w' ⟨rfl, rfl⟩
            rw [H2.out]
            go_wp2_with fail
            go_ret
            exact ⟨rfl, (B0.out.trans (Hb.out.mono hz)).alloc (by omega) _⟩
          · have H2 := Lib.hid h2
            have Hn : Hid (res = (Cir.gatesOk (1 + c.ins + c.next.length) (k + 1) (c.gates.drop (k + 1)) && (c.next ++ c.outs).all (Cir.isLit · (Cir.vars c)))) := Lib.hid (by rw [hres.out, Hstep.out, h1, h2]; rfl)
            clear h1 h2
            go_wp2_with fail
            refine (isLit_any _ _ _ (by omega) (by omega)).mono ?_
            rintro e w' ⟨rfl, rfl⟩
            rw [H1.out]
            go_wp2_with fail
            refine (isLit_any _ _ _ (by omega) (by omega)).mono ?_
            rintro e w' ⟨rfl, rfl⟩
            rw [H2.out]
            go_wp2_with fail
            go_roundw
            case rel => exact ⟨k + 1, by omega, by go_num, Hn, Hb.out.alloc hz2 _⟩
            case measure => simp [intOf] <;> omega
      · have hz := B0.out.size
        have hr : Hid (res = ((c.next ++ c.outs).drop 0).all (Cir.isLit · (Cir.vars c))) := Lib.hid (by rw [hres.out, List.drop_eq_nil_of_le (by omega : c.gates.length ≤ k)]; rfl)
        have HP2 := Lib.hid (HP.out.below hb)
        have B2 := Lib.hid (B0.out.trans (hb.mono hz))
        have hz2 := B2.out.size
        clear hres hb HP B0 HV R2
        obtain ⟨W2, hW2⟩ : ∃ W2 : World, W2 = wr := ⟨_, rfl⟩
        subst hW2
        go_wp2_with fail
        refine (roots_any w.heap.size c _ HP2.out (by omega) (by omega)).mono ?_
        rintro e w3 ⟨v3, rfl, hown3, hb3⟩
        obtain ⟨A3, c3, hv3, hc3, hcm3⟩ := (Row.of_own hown3).shape
        have R3 := Lib.hid (Row.of_own hown3)
        have HP3 := Lib.hid (HP2.out.below hb3)
        have B3 := Lib.hid (B2.out.trans (hb3.mono hz2))
        have hlen : (c.next ++ c.outs).length ≤ 6 := by rw [List.length_append]; omega
        subst hv3
        unfold maxLen at hcm3
        clear hown3 hb3 HP2 B2
        generalize c.next ++ c.outs = L at *
        go_wp2_with fail
        go_loopw [68] (fun t wr => ∃ k : Nat, k ≤ L.length ∧ t = .int .i64 k ∧ Hid (res = (L.drop k).all (Cir.isLit · (Cir.vars c))) ∧ Below w3.heap.size w3 wr) (fun t _ => L.length - (intOf t).toNat)
        case atStart => exact ⟨0, Nat.zero_le _, rfl, hr, Below.refl _ _⟩
        case round =>
          obtain ⟨k, hk, rfl, hres, hb⟩ := hrel
          have hz3 := B3.out.size
          have hvb : -1000000 ≤ Cir.vars c ∧ Cir.vars c ≤ 1000000 := by unfold Cir.vars Cir.first; omega
          by_cases hlt : k < L.length
          · obtain ⟨b, o, x, rfl, hbl, hx, hs1⟩ := ints_open R3.out hb rfl hlt
            have Hb := Lib.hid hb
            have hz4 := hb.size
            have HP4 := Lib.hid (HP3.out.below hb)
            have Hstep := Lib.hid (all_drop (p := (Cir.isLit · (Cir.vars c))) hx.out)
            clear hb hr
            cases h1 : Cir.isLit x (Cir.vars c)
            · have H1 := Lib.hid h1
              have hr : res = false := by rw [hres.out, Hstep.out, h1]; rfl
              subst hr
              clear h1
              go_wp2_with fail
              refine (vars_any w.heap.size c _ HP4.out s1 (by omega) (by omega) (by omega)).mono ?_
              rintro e w5 ⟨rfl, hb5⟩
              go_wp2_with fail
              refine (isLit_any _ _ _ hvb.1 hvb.2).mono ?_
              rintro e w' ⟨rfl, rfl⟩
              rw [H1.out]
              go_wp2_with fail
              go_ret
              exact ⟨rfl, B3.out.trans ((Hb.out.trans (hb5.mono hz4)).mono hz3)⟩
            · have H1 := Lib.hid h1
              have Hn : Hid (res = (L.drop (k + 1)).all (Cir.isLit · (Cir.vars c))) := Lib.hid (by rw [hres.out, Hstep.out, h1]; rfl)
              clear h1
              go_wp2_with fail
              refine (vars_any w.heap.size c _ HP4.out s1 (by omega) (by omega) (by omega)).mono ?_
              rintro e w5 ⟨rfl, hb5⟩
              have Hb5 := Lib.hid (Hb.out.trans (hb5.mono hz4))
              clear hb5
              go_wp2_with fail
              refine (isLit_any _ _ _ hvb.1 hvb.2).mono ?_
              rintro e w' ⟨rfl, rfl⟩
              rw [H1.out]
              go_wp2_with fail
              go_roundw
              case rel => exact ⟨k + 1, by omega, by go_num, Hn, Hb5.out⟩
              case measure => simp [intOf] <;> omega
          · have hr : res = true := by rw [hres.out, List.drop_eq_nil_of_le (by omega : L.length ≤ k)]; rfl
            subst hr
            go_wp2_with fail
            go_ret
            exact ⟨rfl, B3.out.trans (hb.mono hz3)⟩
end Go.Proofs.Ytmlcbikljlhhkaa
