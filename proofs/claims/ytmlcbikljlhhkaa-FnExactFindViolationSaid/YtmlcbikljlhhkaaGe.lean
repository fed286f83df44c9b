import Derived.Test.YtmlcbikljlhhkaaProg
import Derived.Test.YtmlcbikljlhhkaaGd
import Derived.Test.YtmlcbikljlhhkaaGa
import Derived.Test.YtmlcbikljlhhkaaGb
import Derived.Deep.RegionWith
namespace Go.Proofs.Ytmlcbikljlhhkaa
open Go.RowKit
/-- A circuit as a value. -/
def CircAt (w : World) (v : Value) (c : Cz) : Prop := ∃ vn vg vo, v = .agg #[.int .i64 c.ins, vn, vg, vo] ∧ IntsAt w vn c.next ∧ CubesAt w vg c.gates ∧ IntsAt w vo c.outs
/-- A circuit behind a pointer. -/
def PCirc (w : World) (g : Nat) (c : Cz) : Prop := ∃ vn vg vo, g < w.heap.size ∧ w.cell? ⟨g, 0, none⟩ = some (.int .i64 c.ins) ∧ w.cell? ⟨g, 1, none⟩ = some vn ∧ w.cell? ⟨g, 2, none⟩ = some vg ∧ w.cell? ⟨g, 3, none⟩ = some vo ∧ IntsAt w vn c.next ∧ CubesAt w vg c.gates ∧ IntsAt w vo c.outs
theorem CircAt.below {w w' : World} {v : Value} {c : Cz} (h : CircAt w v c) (hb : Below w.heap.size w w') : CircAt w' v c := by
  obtain ⟨vn, vg, vo, hv, h1, h2, h3⟩ := h
  exact ⟨vn, vg, vo, hv, Row.below h1 hb, Row.below h2 hb, Row.below h3 hb⟩
theorem PCirc.below {w w' : World} {g : Nat} {c : Cz} (h : PCirc w g c) (hb : Below w.heap.size w w') : PCirc w' g c := by
  obtain ⟨vn, vg, vo, hg, c0, c1, c2, c3, h1, h2, h3⟩ := h
  exact ⟨vn, vg, vo, Nat.lt_of_lt_of_le hg hb.size, (hb.cell (p := ⟨g, 0, none⟩) hg).trans c0, (hb.cell (p := ⟨g, 1, none⟩) hg).trans c1, (hb.cell (p := ⟨g, 2, none⟩) hg).trans c2, (hb.cell (p := ⟨g, 3, none⟩) hg).trans c3, Row.below h1 hb, Row.below h2 hb, Row.below h3 hb⟩
theorem PCirc.boxed {w : World} {c : Cz} {vn vg vo : Value} (t : TypeId) (h1 : IntsAt w vn c.next) (h2 : CubesAt w vg c.gates) (h3 : IntsAt w vo c.outs) : PCirc (w.alloc (.cells #[.int .i64 c.ins, vn, vg, vo] t)) w.heap.size c :=
  ⟨vn, vg, vo, by simp, World.cell?_alloc_new _ _ _ 0, World.cell?_alloc_new _ _ _ 1, World.cell?_alloc_new _ _ _ 2, World.cell?_alloc_new _ _ _ 3, Row.alloc h1 _, Row.alloc h2 _, Row.alloc h3 _⟩
theorem isLit_any (l v : Int) (w : World) (h1 : -1000000 ≤ v) (h2 : v ≤ 1000000) :
    Calls Try.prog 67 #[.int .i64 l, .int .i64 v] w fun e w' => e = .returned (.bool (Cir.isLit l v)) ∧ w = w' := by
  go_enter Try.func67, Try.ntmps67
  go_wp2
  all_goals
    go_ret
    refine ⟨ret_bool ?_, rfl⟩
    simp [Cir.isLit]
    try omega
theorem firstGate_any (g : Nat) (c : Cz) (w : World) (h : PCirc w g c) (h1 : 0 ≤ c.ins) (h2 : c.ins ≤ 100) (h3 : c.next.length ≤ 100) :
    Calls Try.prog 128 #[.pointer (some ⟨g, 0, none⟩)] w fun e w' => e = .returned (.int .i64 (Cir.first c)) ∧ Below w.heap.size w w' := by
  obtain ⟨vn, vg, vo, hg, c0, c1, c2, c3, r1, r2, r3⟩ := h
  obtain ⟨A, cp, hv, hc, hcm⟩ := r1.shape
  subst hv
  have g0 := gw_cell c0 hg
  have g1 := gw_cell c1 hg
  have hw1 := IntWalk.i64_in (1 + c.ins) (by omega)
  have hw2 := IntWalk.i64_in (1 + c.ins + c.next.length) (by omega)
  clear r1 r2 r3 c0 c1 c2 c3
  go_enter Try.func128, Try.ntmps128
  go_wp2
  refine wp_region_grow (by kernel_rfl) (by kernel_rfl) ?_
  repeat (go_big_quiet_step ((fail)))
  refine wpQuiet_nil ?_
  intro _ hw'
  obtain ⟨nq, hw''⟩ := hw'
  subst hw''
  have hgq := gw_below nq
  generalize gw nq = wq at *
  clear nq
  go_wp2
  go_ret
  exact ⟨rfl, hgq⟩
theorem vars_any (g : Nat) (c : Cz) (w : World) (h : PCirc w g c) (h1 : 0 ≤ c.ins) (h2 : c.ins ≤ 100) (h3 : c.next.length ≤ 100) (h4 : c.gates.length ≤ 100) :
    Calls Try.prog 68 #[.pointer (some ⟨g, 0, none⟩)] w fun e w' => e = .returned (.int .i64 (Cir.vars c)) ∧ Below w.heap.size w w' := by
  have HF : Hid (∀ n : GW w, Calls Try.prog 128 #[.pointer (some ⟨g, 0, none⟩)] (gw n) fun e w' => e = .returned (.int .i64 (Cir.first c)) ∧ Below (gw n).heap.size (gw n) w') := Lib.hid fun n => firstGate_any g c _ (h.below (gw_below n)) h1 h2 h3
  have hF : Hid (Cir.vars c = Cir.first c + c.gates.length) := Lib.hid rfl
  have hb : 0 ≤ Cir.first c ∧ Cir.first c ≤ 300 := by unfold Cir.first; omega
  obtain ⟨hb1, hb2⟩ := hb
  obtain ⟨vn, vg, vo, hg, c0, c1, c2, c3, r1, r2, r3⟩ := h
  obtain ⟨A, cp, hv, hc, hcm⟩ := Row.shape r2
  subst hv
  have g2 := gw_cell c2 hg
  have hw1 := IntWalk.i64_in (Cir.first c + c.gates.length) (by omega)
  clear r1 r2 r3 c0 c1 c2 c3
  go_enter Try.func68, Try.ntmps68
  go_wp2
  refine wp_region_grow (by kernel_rfl) (by kernel_rfl) ?_
  repeat (go_big_quiet_step ((go_at_call 128; exact grow_call (HF.out _))))
  refine wpQuiet_nil ?_
  intro _ hw'
  obtain ⟨nq, hw''⟩ := hw'
  subst hw''
  have hgq := gw_below nq
  generalize gw nq = wq at *
  clear nq
  go_wp2
  go_ret
  exact ⟨ret_int hF.out.symm, hgq⟩
theorem roots_any (g : Nat) (c : Cz) (w : World) (h : PCirc w g c) (h1 : c.next.length ≤ 100000) (h2 : c.outs.length ≤ 100000) :
    Calls Try.prog 127 #[.pointer (some ⟨g, 0, none⟩)] w (OwnInts (c.next ++ c.outs) w) := by
  obtain ⟨i0, hi0, hz0, hz1, hz2⟩ := info_parts info_int
  obtain ⟨vn, vg, vo, hg, c0, c1, c2, c3, r1, r2, r3⟩ := h
  have R1 : Hid (Row w.drew 1 vn c.next.length (ints c.next)) := Lib.hid r1
  have R3 : Hid (Row w 1 vo c.outs.length (ints c.outs)) := Lib.hid r3
  have e1 : ints (c.next ++ c.outs) = [] ++ ints c.next ++ ints c.outs := by simp [ints]
  have E1 := Lib.hid e1
  clear r1 r2 r3 e1
  have k1 : ∀ w', Below w.heap.size w w' → w'.cell? ⟨g, 1, none⟩ = some vn := fun w' hb => (hb.cell (p := ⟨g, 1, none⟩) hg).trans c1
  have k3 : ∀ w', Below w.heap.size w w' → w'.cell? ⟨g, 3, none⟩ = some vo := fun w' hb => (hb.cell (p := ⟨g, 3, none⟩) hg).trans c3
  have K3 := Lib.hid k3
  clear k1 k3
  go_enter Try.func127, Try.ntmps127
  go_wp2_with fail
  go_region_law (first
    | (refine step_append_at rfl (.const (.slice none 0 0)) (.tmp 6) 22 rfl w.heap.size 3 i0 _ 1 8 Try.underlying22 hi0 hz0 hz1 hz2 rfl (by decide) (.slice none 0 0) 0 [] rfl (World.ownsRow_nil _ _ _ _) vn c.next.length (ints c.next) (by simp [Act.eval, Act.put]) R1.out (ints_one _) (by unfold maxLen; omega) (by omega) (by simp) ?_; intro v1 w1 hown1 hg1; have hb1 := (Below.refl w.heap.size w).drew.grown hg1 (Nat.le_refl _) (by simp [Value.ownBlock]); have hk3 := K3.out w1 hb1)
    | (refine step_append_at rfl (.tmp 7) (.tmp 11) 22 rfl w.heap.size 3 i0 _ 1 8 Try.underlying22 hi0 hz0 hz1 hz2 rfl (by decide) v1 (0 + c.next.length) ([] ++ ints c.next) (by simp [Act.eval, Act.put]) hown1 vo c.outs.length (ints c.outs) (by simp [Act.eval, Act.put]) (Row.below R3.out hb1) (ints_one _) (by unfold maxLen; omega) (by omega) hb1.size ?_; intro v2 w2 hown2 hg2))
  all_goals
    have Ho2 := Lib.hid hown2
    have Hb := Lib.hid (hb1.grown hg2 hb1.size (own_ge0 hown1))
    clear hown1 hown2 hg1 hg2 hb1 hk3
    go_wp2_with fail
    go_ret
    refine ⟨_, rfl, ?_, Hb.out⟩
    rw [E1.out, List.length_append, ← Nat.zero_add c.next.length]
    exact Ho2.out
end Go.Proofs.Ytmlcbikljlhhkaa

namespace Go.Proofs.Ytmlcbikljlhhkaa
open Go.RowKit
theorem sizes_cases {c : Cz} (h : Cir.sizes c = false) : c.ins < 0 ∨ (0 ≤ c.ins ∧ 4 < c.ins) ∨ (0 ≤ c.ins ∧ c.ins ≤ 4 ∧ (3 : Int) < c.next.length) ∨ (0 ≤ c.ins ∧ c.ins ≤ 4 ∧ (c.next.length : Int) ≤ 3 ∧ (14 : Int) < c.gates.length) ∨ (0 ≤ c.ins ∧ c.ins ≤ 4 ∧ (c.next.length : Int) ≤ 3 ∧ (c.gates.length : Int) ≤ 14 ∧ (3 : Int) < c.outs.length) := by
  unfold Cir.sizes at h
  rw [decide_eq_false_iff_not] at h
  omega
theorem all_drop {p : Int → Bool} {l : List Int} {k : Nat} {x : Int} (h : l[k]? = some x) : (l.drop k).all p = (p x && (l.drop (k + 1)).all p) := by
  obtain ⟨hk, rfl⟩ := List.getElem?_eq_some_iff.1 h
  rw [List.drop_eq_getElem_cons hk, List.all_cons]
set_option maxHeartbeats 2000000 in
theorem implValid_any (v : Value) (c : Cz) (w : World) (h : CircAt w v c) :
    Calls Try.prog 66 #[v] w fun e w' => e = .returned (.bool (Cir.valid c)) ∧ Below w.heap.size w w' := by
  obtain ⟨vn, vg, vo, rfl, r1, r2, r3⟩ := h
  have hP := PCirc.boxed 30 r1 r2 r3
  have hb0 : Below w.heap.size w (w.alloc (.cells #[.int .i64 c.ins, vn, vg, vo] 30)) := (Below.refl _ _).alloc (Nat.le_refl _) _
  obtain ⟨An, cn, hvn, hcn, hcmn⟩ := r1.shape
  obtain ⟨Ag, cg, hvg, hcg, hcmg⟩ := Row.shape r2
  obtain ⟨Ao, co, hvo, hco, hcmo⟩ := r3.shape
  subst hvn hvg hvo
  unfold maxLen at hcmn hcmg hcmo
  cases hs : Cir.sizes c
  · have hv : Cir.valid c = false := by unfold Cir.valid; rw [hs]; rfl
    rw [hv]
    clear hv hP r1 r2 r3
    have B0 := Lib.hid hb0
    clear hb0
    rcases sizes_cases hs with g | ⟨g0, g1⟩ | ⟨g0, g1, g2⟩ | ⟨g0, g1, g2, g3⟩ | ⟨g0, g1, g2, g3, g4⟩
    all_goals
      clear hs
      go_enter Try.func66, Try.ntmps66
      go_wp2
      go_ret
      exact ⟨rfl, B0.out⟩
  · obtain ⟨s1, s2, s3, s4, s5⟩ : 0 ≤ c.ins ∧ c.ins ≤ 4 ∧ c.next.length ≤ 3 ∧ c.gates.length ≤ 14 ∧ c.outs.length ≤ 3 := by unfold Cir.sizes at hs; simpa using hs
    have hv : Cir.valid c = (Cir.gatesOk (1 + c.ins + c.next.length) 0 (c.gates.drop 0) && (c.next ++ c.outs).all (Cir.isLit · (Cir.vars c))) := by unfold Cir.valid; rw [hs]; rfl
    have HV := Lib.hid hv
    have HP := Lib.hid hP
    have B0 := Lib.hid hb0
    have t1 : (c.next.length : Int) ≤ 3 := by omega
    have t2 : (c.gates.length : Int) ≤ 14 := by omega
    have t3 : (c.outs.length : Int) ≤ 3 := by omega
    have R2 := Lib.hid (Row.alloc r2 (.cells #[.int .i64 c.ins, .slice An c.next.length cn, .slice Ag c.gates.length cg, .slice Ao c.outs.length co] 30))
    clear hs hv hP hb0 r1 r2 r3
    generalize Cir.valid c = res at HV ⊢
    go_enter Try.func66, Try.ntmps66
    go_wp2_with fail
    generalize w.alloc (.cells #[.int .i64 c.ins, .slice An c.next.length cn, .slice Ag c.gates.length cg, .slice Ao c.outs.length co] 30) = W1 at *
    go_loopw [44] (fun t wr => ∃ k : Nat, k ≤ c.gates.length ∧ t = .int .i64 k ∧ Hid (res = (Cir.gatesOk (1 + c.ins + c.next.length) k (c.gates.drop k) && (c.next ++ c.outs).all (Cir.isLit · (Cir.vars c)))) ∧ Below W1.heap.size W1 wr) (fun t _ => c.gates.length - (intOf t).toNat)
    case atStart => exact ⟨0, Nat.zero_le _, rfl, HV, Below.refl _ _⟩
    case round =>
      obtain ⟨k, hk, rfl, hres, hb⟩ := hrel
      by_cases hlt : k < c.gates.length
      · obtain ⟨b, o, x, rfl, hbl, hx, hs1, hs2⟩ := cubes_open R2.out hb rfl hlt
        have hz := B0.out.size
        have Hb := Lib.hid hb
        have hz2 := hb.size
        have Hstep := Lib.hid (Cir.gatesOk_drop (f := 1 + c.ins + c.next.length) hx.out)
        have hbr : b < wr.heap.size := by omega
        clear hb HV
        cases h1 : Cir.isLit x.1 (1 + c.ins + c.next.length + k)
        · have H1 := Lib.hid h1
          have hr : res = false := by rw [hres.out, Hstep.out, h1]; rfl
          subst hr
          clear h1
          go_wp2_with fail
          refine (isLit_any _ _ _ (by omega) (by omega)).mono ?_
          rintro e w' ⟨rfl, rfl⟩
          rw [H1.out]
          go_wp2_with fail
          go_ret
          exact ⟨rfl, (B0.out.trans (Hb.out.mono hz)).alloc (by omega) _⟩
        · have H1 := Lib.hid h1
          cases h2 : Cir.isLit x.2 (1 + c.ins + c.next.length + k)
          · have H2 := Lib.hid h2
            have hr : res = false := by rw [hres.out, Hstep.out, h1, h2]; rfl
            subst hr
            clear h1 h2
            go_wp2_with fail
            refine (isLit_any _ _ _ (by omega) (by omega)).mono ?_
            rintro e w' ⟨rfl, rfl⟩
            rw [H1.out]
            go_wp2_with fail
            refine (isLit_any _ _ _ (by omega) (by omega)).mono ?_
            rintro e w' ⟨rfl, rfl⟩
            rw [H2.out]
            go_wp2_with fail
            go_ret
            exact ⟨rfl, (B0.out.trans (Hb.out.mono hz)).alloc (by omega) _⟩
          · have H2 := Lib.hid h2
            have Hn : Hid (res = (Cir.gatesOk (1 + c.ins + c.next.length) (k + 1) (c.gates.drop (k + 1)) && (c.next ++ c.outs).all (Cir.isLit · (Cir.vars c)))) := Lib.hid (by rw [hres.out, Hstep.out, h1, h2]; rfl)
            clear h1 h2
            go_wp2_with fail
            refine (isLit_any _ _ _ (by omega) (by omega)).mono ?_
            rintro e w' ⟨rfl, rfl⟩
            rw [H1.out]
            go_wp2_with fail
            refine (isLit_any _ _ _ (by omega) (by omega)).mono ?_
            rintro e w' ⟨rfl, rfl⟩
            rw [H2.out]
            go_wp2_with fail
            go_roundw
            case rel => exact ⟨k + 1, by omega, by go_num, Hn, Hb.out.alloc hz2 _⟩
            case measure => simp [intOf] <;> omega
      · have hz := B0.out.size
        have hr : Hid (res = ((c.next ++ c.outs).drop 0).all (Cir.isLit · (Cir.vars c))) := Lib.hid (by rw [hres.out, List.drop_eq_nil_of_le (by omega : c.gates.length ≤ k)]; rfl)
        have HP2 := Lib.hid (HP.out.below hb)
        have B2 := Lib.hid (B0.out.trans (hb.mono hz))
        have hz2 := B2.out.size
        clear hres hb HP B0 HV R2
        obtain ⟨W2, hW2⟩ : ∃ W2 : World, W2 = wr := ⟨_, rfl⟩
        subst hW2
        go_wp2_with fail
        refine (roots_any w.heap.size c _ HP2.out (by omega) (by omega)).mono ?_
        rintro e w3 ⟨v3, rfl, hown3, hb3⟩
        obtain ⟨A3, c3, hv3, hc3, hcm3⟩ := (Row.of_own hown3).shape
        have R3 := Lib.hid (Row.of_own hown3)
        have HP3 := Lib.hid (HP2.out.below hb3)
        have B3 := Lib.hid (B2.out.trans (hb3.mono hz2))
        have hlen : (c.next ++ c.outs).length ≤ 6 := by rw [List.length_append]; omega
        subst hv3
        unfold maxLen at hcm3
        clear hown3 hb3 HP2 B2
        generalize c.next ++ c.outs = L at *
        go_wp2_with fail
        go_loopw [68] (fun t wr => ∃ k : Nat, k ≤ L.length ∧ t = .int .i64 k ∧ Hid (res = (L.drop k).all (Cir.isLit · (Cir.vars c))) ∧ Below w3.heap.size w3 wr) (fun t _ => L.length - (intOf t).toNat)
        case atStart => exact ⟨0, Nat.zero_le _, rfl, hr, Below.refl _ _⟩
        case round =>
          obtain ⟨k, hk, rfl, hres, hb⟩ := hrel
          have hz3 := B3.out.size
          have hvb : -1000000 ≤ Cir.vars c ∧ Cir.vars c ≤ 1000000 := by unfold Cir.vars Cir.first; omega
          by_cases hlt : k < L.length
          · obtain ⟨b, o, x, rfl, hbl, hx, hs1⟩ := ints_open R3.out hb rfl hlt
            have Hb := Lib.hid hb
            have hz4 := hb.size
            have HP4 := Lib.hid (HP3.out.below hb)
            have Hstep := Lib.hid (all_drop (p := (Cir.isLit · (Cir.vars c))) hx.out)
            clear hb hr
            cases h1 : Cir.isLit x (Cir.vars c)
            · have H1 := Lib.hid h1
              have hr : res = false := by rw [hres.out, Hstep.out, h1]; rfl
              subst hr
              clear h1
              go_wp2_with fail
              refine (vars_any w.heap.size c _ HP4.out s1 (by omega) (by omega) (by omega)).mono ?_
              rintro e w5 ⟨rfl, hb5⟩
              go_wp2_with fail
              refine (isLit_any _ _ _ hvb.1 hvb.2).mono ?_
              rintro e w' ⟨rfl, rfl⟩
              rw [H1.out]
              go_wp2_with fail
              go_ret
              exact ⟨rfl, B3.out.trans ((Hb.out.trans (hb5.mono hz4)).mono hz3)⟩
            · have H1 := Lib.hid h1
              have Hn : Hid (res = (L.drop (k + 1)).all (Cir.isLit · (Cir.vars c))) := Lib.hid (by rw [hres.out, Hstep.out, h1]; rfl)
              clear h1
              go_wp2_with fail
              refine (vars_any w.heap.size c _ HP4.out s1 (by omega) (by omega) (by omega)).mono ?_
              rintro e w5 ⟨rfl, hb5⟩
              have Hb5 := Lib.hid (Hb.out.trans (hb5.mono hz4))
              clear hb5
              go_wp2_with fail
              refine (isLit_any _ _ _ hvb.1 hvb.2).mono ?_
              rintro e w' ⟨rfl, rfl⟩
              rw [H1.out]
              go_wp2_with fail
              go_roundw
              case rel => exact ⟨k + 1, by omega, by go_num, Hn, Hb5.out⟩
              case measure => simp [intOf] <;> omega
          · have hr : res = true := by rw [hres.out, List.drop_eq_nil_of_le (by omega : L.length ≤ k)]; rfl
            subst hr
            go_wp2_with fail
            go_ret
            exact ⟨rfl, B3.out.trans (hb.mono hz3)⟩
end Go.Proofs.Ytmlcbikljlhhkaa

namespace Go.Proofs.Ytmlcbikljlhhkaa
open Go.RowKit
theorem isLit_in (x V : Int) : decide (0 ≤ x ∧ x ≤ 2 * V - 1) = Cir.isLit x V := by
  unfold Cir.isLit
  exact decide_eq_decide.2 ⟨fun h => by omega, fun h => by omega⟩
theorem l1Lits_any (v : Value) (xs : List Int) (V : Int) (w : World) (h : IntsAt w v xs) (h1 : -1000000 ≤ V) (h2 : V ≤ 1000000) :
    Calls Try.prog 125 #[v, .int .i64 V] w fun e w' => e = .returned (.bool (xs.all (Cir.isLit · V))) ∧ w = w' := by
  obtain ⟨A, c, hv, hc, hcm⟩ := h.shape
  subst hv
  unfold maxLen at hcm
  have h0 : Hid (xs.all (Cir.isLit · V) = (xs.drop 0).all (Cir.isLit · V)) := Lib.hid rfl
  generalize xs.all (Cir.isLit · V) = res at h0 ⊢
  go_enter Try.func125, Try.ntmps125
  go_wp2_with fail
  go_loop [5] (fun i => ∃ k : Nat, k ≤ xs.length ∧ i = .int .i64 k ∧ Hid (res = (xs.drop k).all (Cir.isLit · V))) (fun i => xs.length - (intOf i).toNat)
  case atStart => exact ⟨0, Nat.zero_le _, rfl, h0⟩
  case round =>
    obtain ⟨k, hk, rfl, hres⟩ := hrel
    by_cases hlt : k < xs.length
    · obtain ⟨b, o, x, rfl, hbl, hx, hs1⟩ := ints_open h (Below.refl _ _) rfl hlt
      have Hstep := Lib.hid (all_drop (p := (Cir.isLit · V)) hx.out)
      have Hin := Lib.hid (isLit_in x V)
      clear h h0
      cases h3 : Cir.isLit x V
      · have H1 := Lib.hid h3
        have hr : res = false := by rw [hres.out, Hstep.out, h3]; rfl
        subst hr
        clear h3
        go_wp2_with fail
        refine (l1In_any _ _ _ _).mono ?_
        rintro e w' ⟨rfl, rfl⟩
        rw [Hin.out, H1.out]
        go_wp2_with fail
        go_ret
        exact ⟨rfl, rfl⟩
      · have H1 := Lib.hid h3
        have Hn : Hid (res = (xs.drop (k + 1)).all (Cir.isLit · V)) := Lib.hid (by rw [hres.out, Hstep.out, h3]; rfl)
        clear h3
        go_wp2_with fail
        refine (l1In_any _ _ _ _).mono ?_
        rintro e w' ⟨rfl, rfl⟩
        rw [Hin.out, H1.out]
        go_wp2_with fail
        go_round
        case rel => exact ⟨k + 1, by omega, by go_num, Hn⟩
        case measure => simp [intOf] <;> omega
    · have hr : res = true := by rw [hres.out, List.drop_eq_nil_of_le (by omega : xs.length ≤ k)]; rfl
      subst hr
      go_wp2_with fail
      go_ret
      exact ⟨rfl, rfl⟩
theorem l1First_any (v : Value) (c : Cz) (w : World) (h : CircAt w v c) (h1 : 0 ≤ c.ins) (h2 : c.ins ≤ 100) (h3 : c.next.length ≤ 100) :
    Calls Try.prog 61 #[v] w fun e w' => e = .returned (.int .i64 (Cir.first c)) ∧ Below w.heap.size w w' := by
  obtain ⟨vn, vg, vo, rfl, r1, r2, r3⟩ := h
  obtain ⟨An, cn, hvn, hcn, hcmn⟩ := r1.shape
  subst hvn
  clear r1 r2 r3
  have hF : Hid (c.ins + c.next.length + 1 = Cir.first c) := Lib.hid (by unfold Cir.first; omega)
  go_enter Try.func61, Try.ntmps61
  go_wp2
  go_ret
  exact ⟨ret_int hF.out, (Below.refl _ _).alloc (Nat.le_refl _) _⟩
/-- The cells of a circuit in memory. -/
def PCells (w : World) (g : Nat) (i : Int) (vn vg vo : Value) : Prop := g < w.heap.size ∧ w.cell? ⟨g, 0, none⟩ = some (.int .i64 i) ∧ w.cell? ⟨g, 1, none⟩ = some vn ∧ w.cell? ⟨g, 2, none⟩ = some vg ∧ w.cell? ⟨g, 3, none⟩ = some vo
theorem PCells.below {w w' : World} {g : Nat} {i : Int} {vn vg vo : Value} (h : PCells w g i vn vg vo) (hb : Below w.heap.size w w') : PCells w' g i vn vg vo := by
  obtain ⟨hg, c0, c1, c2, c3⟩ := h
  exact ⟨Nat.lt_of_lt_of_le hg hb.size, (hb.cell (p := ⟨g, 0, none⟩) hg).trans c0, (hb.cell (p := ⟨g, 1, none⟩) hg).trans c1, (hb.cell (p := ⟨g, 2, none⟩) hg).trans c2, (hb.cell (p := ⟨g, 3, none⟩) hg).trans c3⟩
theorem PCells.boxed (w : World) (i : Int) (vn vg vo : Value) (t : TypeId) : PCells (w.alloc (.cells #[.int .i64 i, vn, vg, vo] t)) w.heap.size i vn vg vo :=
  ⟨by simp, World.cell?_alloc_new _ _ _ 0, World.cell?_alloc_new _ _ _ 1, World.cell?_alloc_new _ _ _ 2, World.cell?_alloc_new _ _ _ 3⟩
set_option maxHeartbeats 4000000 in
theorem specValid_any (v : Value) (c : Cz) (w : World) (h : CircAt w v c) :
    Calls Try.prog 59 #[v] w fun e w' => e = .returned (.bool (Cir.valid c)) ∧ Below w.heap.size w w' := by
  obtain ⟨vn, vg, vo, rfl, r1, r2, r3⟩ := h
  have hP := PCirc.boxed 30 r1 r2 r3
  have hC : CircAt (w.alloc (.cells #[.int .i64 c.ins, vn, vg, vo] 30)) (.agg #[.int .i64 c.ins, vn, vg, vo]) c := ⟨vn, vg, vo, rfl, Row.alloc r1 _, Row.alloc r2 _, Row.alloc r3 _⟩
  have hb0 : Below w.heap.size w (w.alloc (.cells #[.int .i64 c.ins, vn, vg, vo] 30)) := (Below.refl _ _).alloc (Nat.le_refl _) _
  obtain ⟨An, cn, hvn, hcn, hcmn⟩ := r1.shape
  obtain ⟨Ag, cg, hvg, hcg, hcmg⟩ := Row.shape r2
  obtain ⟨Ao, co, hvo, hco, hcmo⟩ := r3.shape
  subst hvn hvg hvo
  unfold maxLen at hcmn hcmg hcmo
  cases hs : Cir.sizes c
  · have hv : Cir.valid c = false := by unfold Cir.valid; rw [hs]; rfl
    rw [hv]
    clear hv hP hC r1 r2 r3
    have B0 := Lib.hid hb0
    clear hb0
    have hsc : (decide (0 ≤ c.ins ∧ c.ins ≤ 4) = false) ∨ (decide (0 ≤ c.ins ∧ c.ins ≤ 4) = true ∧ (3 : Int) < c.next.length) ∨ (decide (0 ≤ c.ins ∧ c.ins ≤ 4) = true ∧ (c.next.length : Int) ≤ 3 ∧ (14 : Int) < c.gates.length) ∨ (decide (0 ≤ c.ins ∧ c.ins ≤ 4) = true ∧ (c.next.length : Int) ≤ 3 ∧ (c.gates.length : Int) ≤ 14 ∧ (3 : Int) < c.outs.length) := by
      rw [decide_eq_false_iff_not, decide_eq_true_eq]
      rcases sizes_cases hs with g | ⟨g0, g1⟩ | ⟨g0, g1, g2⟩ | ⟨g0, g1, g2, g3⟩ | ⟨g0, g1, g2, g3, g4⟩
      · exact .inl (by omega)
      · exact .inl (by omega)
      · exact .inr (.inl ⟨⟨g0, g1⟩, g2⟩)
      · exact .inr (.inr (.inl ⟨⟨g0, g1⟩, g2, g3⟩))
      · exact .inr (.inr (.inr ⟨⟨g0, g1⟩, g2, g3, g4⟩))
    rcases hsc with d | ⟨d, g2⟩ | ⟨d, g2, g3⟩ | ⟨d, g2, g3, g4⟩
    all_goals
      clear hs
      have D := Lib.hid d
      clear d
      go_enter Try.func59, Try.ntmps59
      go_wp2_with fail
      refine (l1In_any _ _ _ _).mono ?_
      rintro e w' ⟨rfl, rfl⟩
      rw [D.out]
      go_wp2_with fail
      go_ret
      exact ⟨rfl, B0.out⟩
  · obtain ⟨s1, s2, s3, s4, s5⟩ : 0 ≤ c.ins ∧ c.ins ≤ 4 ∧ c.next.length ≤ 3 ∧ c.gates.length ≤ 14 ∧ c.outs.length ≤ 3 := by unfold Cir.sizes at hs; simpa using hs
    have hv : Cir.valid c = (Cir.gatesOk (Cir.first c) 0 (c.gates.drop 0) && (c.next ++ c.outs).all (Cir.isLit · (Cir.vars c))) := by unfold Cir.valid; rw [hs]; rfl
    have HV := Lib.hid hv
    have HP := Lib.hid hP
    have HC := Lib.hid hC
    have B0 := Lib.hid hb0
    have D : Hid (decide (0 ≤ c.ins ∧ c.ins ≤ 4) = true) := Lib.hid (decide_eq_true ⟨s1, s2⟩)
    have t1 : (c.next.length : Int) ≤ 3 := by omega
    have t2 : (c.gates.length : Int) ≤ 14 := by omega
    have t3 : (c.outs.length : Int) ≤ 3 := by omega
    have R2 := Lib.hid (Row.alloc r2 (.cells #[.int .i64 c.ins, .slice An c.next.length cn, .slice Ag c.gates.length cg, .slice Ao c.outs.length co] 30))
    have HF : Hid (Cir.vars c = Cir.first c + c.gates.length) := Lib.hid rfl
    have hfb : 1 ≤ Cir.first c ∧ Cir.first c ≤ 10 := by unfold Cir.first; omega
    obtain ⟨hf1, hf2⟩ := hfb
    clear hs hv hP hC hb0 r2
    generalize Cir.valid c = res at HV ⊢
    have R1x := Lib.hid r1
    have R3x := Lib.hid r3
    clear r1 r3
    go_enter Try.func59, Try.ntmps59
    go_wp2_with fail
    refine (l1In_any _ _ _ _).mono ?_
    rintro e w' ⟨rfl, rfl⟩
    rw [D.out]
    go_wp2_with fail
    refine (l1First_any _ c _ HC.out s1 (by omega) (by omega)).mono ?_
    rintro e w1 ⟨rfl, hb1⟩
    have B1 := Lib.hid (B0.out.trans (hb1.mono (by simp)))
    have R21 := Lib.hid (Row.below R2.out hb1)
    have RN := Lib.hid (Row.below (Row.alloc R1x.out (.cells #[.int .i64 c.ins, .slice An c.next.length cn, .slice Ag c.gates.length cg, .slice Ao c.outs.length co] 30)) hb1)
    have RO := Lib.hid (Row.below (Row.alloc R3x.out (.cells #[.int .i64 c.ins, .slice An c.next.length cn, .slice Ag c.gates.length cg, .slice Ao c.outs.length co] 30)) hb1)
    have K1 := Lib.hid ((PCells.boxed w c.ins (.slice An c.next.length cn) (.slice Ag c.gates.length cg) (.slice Ao c.outs.length co) 30).below hb1)
    clear hb1 R1x R3x HC B0 R2
    go_wp2_with fail
    go_loopw [4] (fun t wr => ∃ k : Nat, k ≤ c.gates.length ∧ t = .int .i64 k ∧ Hid (res = (Cir.gatesOk (Cir.first c) k (c.gates.drop k) && (c.next ++ c.outs).all (Cir.isLit · (Cir.vars c)))) ∧ Below w1.heap.size w1 wr) (fun t _ => c.gates.length - (intOf t).toNat)
    case atStart => exact ⟨0, Nat.zero_le _, rfl, HV, Below.refl _ _⟩
    case round =>
      obtain ⟨k, hk, rfl, hres, hb⟩ := hrel
      obtain ⟨kg, k0, k1, k2, k3⟩ := K1.out.below hb
      have Hb := Lib.hid hb
      have hz1 := B1.out.size
      have hz2 := hb.size
      by_cases hlt : k < c.gates.length
      · obtain ⟨b, o, x, rfl, hbl, hx, hs1, hs2⟩ := cubes_open R21.out hb rfl hlt
        have Hstep := Lib.hid (Cir.gatesOk_drop (f := Cir.first c) hx.out)
        have hbr : b < wr.heap.size := by omega
        have hwf := IntWalk.i64_in (Cir.first c + k) (by omega)
        clear hb HV
        have hV : -1000000 ≤ Cir.first c + k ∧ Cir.first c + k ≤ 1000000 := by omega
        obtain ⟨bb, hbb⟩ : ∃ bb, [x.1, x.2].all (Cir.isLit · (Cir.first c + k)) = bb := ⟨_, rfl⟩
        have HL : Hid (∀ w2 : World, Calls Try.prog 125 #[.slice (some ⟨w2.heap.size, 0, none⟩) 2 2, .int .i64 (Cir.first c + k)] (w2.alloc (.cells #[.int .i64 x.1, .int .i64 x.2] 3)).drew fun e w' => e = .returned (.bool bb) ∧ (w2.alloc (.cells #[.int .i64 x.1, .int .i64 x.2] 3)).drew = w') := Lib.hid fun w2 => by
          rw [← hbb]
          exact l1Lits_any _ [x.1, x.2] _ _ (Row.of_own (World.ownsRow_lit (base := 0) (e := 3) (size := 1) w2 #[.int .i64 x.1, .int .i64 x.2] 2 (Nat.zero_le _) (by unfold maxLen; omega) rfl)) hV.1 hV.2
        have hbb' : (Cir.isLit x.1 (Cir.first c + k) && Cir.isLit x.2 (Cir.first c + k)) = bb := by rw [← hbb]; simp
        cases bb
        · have hr : res = false := by rw [hres.out, Hstep.out, hbb']; rfl
          subst hr
          clear hbb hbb'
          go_wp2_with fail
          go_region_with ((go_at_call 125; refine (HL.out _).mono ?_; rintro e w' ⟨rfl, rfl⟩))
          all_goals
            go_wp2_with fail
            go_ret
            exact ⟨rfl, B1.out.trans (((Hb.out.alloc hz2 _).drew).mono hz1)⟩
        · have Hn : Hid (res = (Cir.gatesOk (Cir.first c) (k + 1) (c.gates.drop (k + 1)) && (c.next ++ c.outs).all (Cir.isLit · (Cir.vars c)))) := Lib.hid (by rw [hres.out, Hstep.out, hbb']; rfl)
          clear hbb hbb'
          go_wp2_with fail
          go_region_with ((go_at_call 125; refine (HL.out _).mono ?_; rintro e w' ⟨rfl, rfl⟩))
          all_goals
            go_wp2_with fail
            go_roundw
            case rel => exact ⟨k + 1, by omega, by go_num, Hn, (Hb.out.alloc hz2 _).drew⟩
            case measure => simp [intOf] <;> omega
      · have hr : Hid (res = (c.next.all (Cir.isLit · (Cir.first c + c.gates.length)) && c.outs.all (Cir.isLit · (Cir.first c + c.gates.length)))) := Lib.hid (by rw [hres.out, List.drop_eq_nil_of_le (by omega : c.gates.length ≤ k), HF.out, List.all_append]; rfl)
        have HRN := Lib.hid (Row.below RN.out hb)
        have HRO := Lib.hid (Row.below RO.out hb)
        have B2 := Lib.hid (B1.out.trans (hb.mono hz1))
        have hV : -1000000 ≤ Cir.first c + c.gates.length ∧ Cir.first c + c.gates.length ≤ 1000000 := by omega
        have hwf := IntWalk.i64_in (Cir.first c + c.gates.length) (by omega)
        clear hres hb HV
        have hL1 := l1Lits_any _ c.next (Cir.first c + c.gates.length) wr HRN.out hV.1 hV.2
        have hL2 := l1Lits_any _ c.outs (Cir.first c + c.gates.length) wr HRO.out hV.1 hV.2
        cases h1 : c.next.all (Cir.isLit · (Cir.first c + c.gates.length))
        · rw [h1] at hL1
          have HL1 := Lib.hid hL1
          have hrr : res = false := by rw [hr.out, h1]; rfl
          subst hrr
          clear hL1 hL2 h1
          go_wp2_with fail
          refine HL1.out.mono ?_
          rintro e w' ⟨rfl, rfl⟩
          go_wp2_with fail
          go_ret
          exact ⟨rfl, B2.out⟩
        · rw [h1] at hL1
          have HL1 := Lib.hid hL1
          have HL2 := Lib.hid hL2
          have hrr : Hid (res = c.outs.all (Cir.isLit · (Cir.first c + c.gates.length))) := Lib.hid (by rw [hr.out, h1]; rfl)
          clear hL1 hL2 h1
          go_wp2_with fail
          refine HL1.out.mono ?_
          rintro e w' ⟨rfl, rfl⟩
          go_wp2_with fail
          refine HL2.out.mono ?_
          rintro e w' ⟨rfl, rfl⟩
          go_wp2_with fail
          go_ret
          exact ⟨ret_bool hrr.out.symm, B2.out⟩
end Go.Proofs.Ytmlcbikljlhhkaa

namespace Go.Proofs.Ytmlcbikljlhhkaa
open Go.RowKit
/-! What laws do with circuits. -/
theorem cells_alloc {w : World} {g : Nat} {i : Int} {vn vg vo : Value} (h : PCells w g i vn vg vo) (o : Obj) : PCells (w.alloc o) g i vn vg vo := h.below ((Below.refl _ _).alloc (Nat.le_refl _) _)
/-- szCircuit, at 1 << 20. -/
def SzCir (c : Cz) (w : World) (e : Ending) (w' : World) : Prop :=
  ∃ r : Int, e = .returned (.int .i64 r) ∧ (r = -1 ∨ (0 ≤ r ∧ r ≤ 1048576 ∧ c.next.length ≤ 1048576 ∧ c.gates.length ≤ 1048576 ∧ c.outs.length ≤ 1048576)) ∧ Below w.heap.size w w'
theorem szCircuit_any (v : Value) (c : Cz) (w : World) (h : CircAt w v c) :
    Calls Try.prog 15 #[v, .int .i64 1048576] w (SzCir c w) := by
  obtain ⟨vn, vg, vo, rfl, r1, r2, r3⟩ := h
  have R1 := Lib.hid r1
  have R2 : Hid (Row w 2 vg c.gates.length (cubes c.gates)) := Lib.hid r2
  have R3 := Lib.hid r3
  have B : Hid (∀ t, Below w.heap.size w (w.alloc (.cells #[.int .i64 c.ins, vn, vg, vo] t))) := Lib.hid fun t => (Below.refl _ _).alloc (Nat.le_refl _) _
  clear r1 r2 r3
  generalize c.ins = i at *
  by_cases h1 : (c.next.length : Int) ≤ 1048576
  · have l1 : ¬ ((1048576 : Int) - c.next.length < 0) := by omega
    by_cases h2 : (c.gates.length : Int) ≤ 1048576 - c.next.length
    · have l2 : ¬ ((1048576 : Int) - c.next.length - c.gates.length < 0) := by omega
      by_cases h3 : (c.outs.length : Int) ≤ 1048576 - c.next.length - c.gates.length
      · have l3 : ¬ ((1048576 : Int) - c.next.length - c.gates.length - c.outs.length < 0) := by omega
        go_enter Try.func15, Try.ntmps15
        go_wp2_with fail
        refine (szIntS_ok vn _ _ _ _ (Row.alloc R1.out _) (by omega) h1).mono ?_
        rintro e w' ⟨rfl, rfl⟩
        go_wp2_with fail
        refine (szGateS_ok vg _ _ _ _ (Row.alloc R2.out _) (by omega) h2).mono ?_
        rintro e w' ⟨rfl, rfl⟩
        go_wp2_with fail
        refine (szIntS_ok vo _ _ _ _ (Row.alloc R3.out _) (by omega) h3).mono ?_
        rintro e w' ⟨rfl, rfl⟩
        go_wp2_with fail
        go_ret
        exact ⟨_, rfl, .inr ⟨by omega, by omega, by omega, by omega, by omega⟩, B.out _⟩
      · go_enter Try.func15, Try.ntmps15
        go_wp2_with fail
        refine (szIntS_ok vn _ _ _ _ (Row.alloc R1.out _) (by omega) h1).mono ?_
        rintro e w' ⟨rfl, rfl⟩
        go_wp2_with fail
        refine (szGateS_ok vg _ _ _ _ (Row.alloc R2.out _) (by omega) h2).mono ?_
        rintro e w' ⟨rfl, rfl⟩
        go_wp2_with fail
        refine (szIntS_no vo _ _ _ _ (Row.alloc R3.out _) (by omega) (by omega) (by omega)).mono ?_
        rintro e w' ⟨rfl, rfl⟩
        go_wp2_with fail
        go_ret
        exact ⟨_, rfl, .inl rfl, B.out _⟩
    · go_enter Try.func15, Try.ntmps15
      go_wp2_with fail
      refine (szIntS_ok vn _ _ _ _ (Row.alloc R1.out _) (by omega) h1).mono ?_
      rintro e w' ⟨rfl, rfl⟩
      go_wp2_with fail
      refine (szGateS_no vg _ _ _ _ (Row.alloc R2.out _) (by omega) (by omega)).mono ?_
      rintro e w' ⟨rfl, rfl⟩
      go_wp2_with fail
      go_ret
      exact ⟨_, rfl, .inl rfl, B.out _⟩
  · go_enter Try.func15, Try.ntmps15
    go_wp2_with fail
    refine (szIntS_no vn _ _ _ _ (Row.alloc R1.out _) (by omega) (by omega) (by omega)).mono ?_
    rintro e w' ⟨rfl, rfl⟩
    go_wp2_with fail
    go_ret
    exact ⟨_, rfl, .inl rfl, B.out _⟩
/-- What toCircuit makes: slices of its own, in blocks apart. -/
def OwnCirc (b : Nat) (v : Value) (c : Cz) (w : World) : Prop :=
  ∃ vn vg vo b2 b3, v = .agg #[.int .i64 c.ins, vn, vg, vo] ∧ b ≤ b2 ∧ b2 ≤ b3 ∧ (∀ g, vn.ownBlock = some g → g < b2) ∧ (∀ g, vg.ownBlock = some g → g < b3) ∧
    w.ownsRow b 3 1 vn c.next.length (ints c.next) ∧ w.ownsRow b2 71 2 vg c.gates.length (cubes c.gates) ∧ w.ownsRow b3 3 1 vo c.outs.length (ints c.outs)
theorem OwnCirc.at {b : Nat} {v : Value} {c : Cz} {w : World} (h : OwnCirc b v c w) : CircAt w v c := by
  obtain ⟨vn, vg, vo, b2, b3, hv, _, _, _, _, h1, h2, h3⟩ := h
  exact ⟨vn, vg, vo, hv, Row.of_own h1, Row.of_own h2, Row.of_own h3⟩
theorem OwnCirc.below {b : Nat} {v : Value} {c : Cz} {w w' : World} (h : OwnCirc b v c w) (hb : Below w.heap.size w w') : OwnCirc b v c w' := by
  obtain ⟨vn, vg, vo, b2, b3, hv, e1, e2, e3, e4, h1, h2, h3⟩ := h
  exact ⟨vn, vg, vo, b2, b3, hv, e1, e2, e3, e4, own_below h1 hb, own_below h2 hb, own_below h3 hb⟩
def ToCir (c : Cz) (w : World) (e : Ending) (w' : World) : Prop := ∃ v, e = .returned v ∧ OwnCirc w.heap.size v c w' ∧ Below w.heap.size w w'
theorem toCircuit_any (v : Value) (c : Cz) (w : World) (h : CircAt w v c) (l1 : c.next.length ≤ 1048576) (l2 : c.gates.length ≤ 1048576) (l3 : c.outs.length ≤ 1048576) :
    Calls Try.prog 17 #[v] w (ToCir c w) := by
  obtain ⟨vn, vg, vo, rfl, r1, r2, r3⟩ := h
  have R1 := Lib.hid r1
  have R2 := Lib.hid r2
  have R3 := Lib.hid r3
  clear r1 r2 r3
  go_enter Try.func17, Try.ntmps17
  go_wp2_with fail
  generalize hW : (((w.alloc (.cells #[.int .i64 c.ins, vn, vg, vo] 25)).alloc (.cells #[.int .i64 0, .slice none 0 0, .slice none 0 0, .slice none 0 0] 30)).alloc (.cells #[.int .i64 c.ins, .slice none 0 0, .slice none 0 0, .slice none 0 0] 30)) = W
  have hB0 : Below w.heap.size w W := by rw [← hW]; exact (((Below.refl _ _).alloc (Nat.le_refl _) _).alloc (by simp) _).alloc (by simp; omega) _
  have hsz : W.heap.size = w.heap.size + 3 := by rw [← hW]; simp
  have h0 : W.heap[w.heap.size]? = some (.cells #[.int .i64 c.ins, vn, vg, vo] 25 (0, 0)) := by
    rw [← hW, heap_alloc_old _ _ (by simp; omega), heap_alloc_old _ _ (by simp), heap_alloc_new]
  have h1 : W.heap[w.heap.size + 1]? = some (.cells #[.int .i64 0, .slice none 0 0, .slice none 0 0, .slice none 0 0] 30 (0, 0)) := by
    rw [← hW, heap_alloc_old _ _ (by simp)]
    have := heap_alloc_new (w.alloc (.cells #[.int .i64 c.ins, vn, vg, vo] 25)) (.cells #[.int .i64 0, .slice none 0 0, .slice none 0 0, .slice none 0 0] 30)
    rwa [World.size_alloc] at this
  have h2 : W.heap[w.heap.size + 1 + 1]? = some (.cells #[.int .i64 c.ins, .slice none 0 0, .slice none 0 0, .slice none 0 0] 30 (0, 0)) := by
    rw [← hW]
    have := heap_alloc_new ((w.alloc (.cells #[.int .i64 c.ins, vn, vg, vo] 25)).alloc (.cells #[.int .i64 0, .slice none 0 0, .slice none 0 0, .slice none 0 0] 30)) (.cells #[.int .i64 c.ins, .slice none 0 0, .slice none 0 0, .slice none 0 0] 30)
    rwa [World.size_alloc, World.size_alloc] at this
  clear hW
  refine (toIntS_any vn _ _ (Row.below R1.out hB0) l1).mono ?_
  rintro e w1 ⟨v1, rfl, hown1, hb1⟩
  obtain ⟨A1, q1, hv1, _, _⟩ := (Row.of_own hown1).shape
  subst hv1
  have k0 := (hb1.block w.heap.size (by omega)).trans h0
  have k1 := (hb1.block (w.heap.size + 1) (by omega)).trans h1
  have k2 := (hb1.block (w.heap.size + 1 + 1) (by omega)).trans h2
  have p2 : w1.cell? ⟨w.heap.size, 2, none⟩ = some vg := blk_cell k0 2
  have c1 : w1.cell? ⟨w.heap.size + 1 + 1, 1, none⟩ = some (.slice none 0 0) := blk_cell k2 1
  have f1 := blk_free k2 1
  have Ho1 := Lib.hid hown1
  have HB1 := Lib.hid (hB0.trans (hb1.mono hB0.size))
  have z1 := hb1.size
  have K0 := Lib.hid k0
  have K1 := Lib.hid k1
  have K2 := Lib.hid k2
  clear hown1 hb1 h0 h1 h2 hB0 k0 k1 k2
  go_wp2_with fail
  have K0 := Lib.hid ((heap_setCell_other w1 ⟨w.heap.size + 1 + 1, 1, none⟩ w.heap.size (.slice A1 c.next.length q1) (by simp only; omega)).trans K0.out)
  have K1 := Lib.hid ((heap_setCell_other w1 ⟨w.heap.size + 1 + 1, 1, none⟩ (w.heap.size + 1) (.slice A1 c.next.length q1) (by simp only; omega)).trans K1.out)
  have K2 := Lib.hid (heap_setCell_same w1 (w.heap.size + 1 + 1) 1 _ _ (.slice A1 c.next.length q1) K2.out)
  have HB1 := Lib.hid (HB1.out.setCell (p := ⟨w.heap.size + 1 + 1, 1, none⟩) (by simp only; omega) (.slice A1 c.next.length q1))
  have Ho1 := Lib.hid (own_kept Ho1.out (set_grown w1 (w.heap.size + 1 + 1) 1 (.slice A1 c.next.length q1)) (fun q hq e => by have h1 := (Ho1.out.lt q hq).1; have h2 := Option.some.inj e; omega))
  have z1 : W.heap.size ≤ (w1.setCell ⟨w.heap.size + 1 + 1, 1, none⟩ (.slice A1 c.next.length q1)).heap.size := Nat.le_trans z1 (set_grown w1 (w.heap.size + 1 + 1) 1 _).size
  generalize w1.setCell ⟨w.heap.size + 1 + 1, 1, none⟩ (.slice A1 c.next.length q1) = w1' at *
  have L1 : Hid (∀ q, (Value.slice A1 c.next.length q1).ownBlock = some q → q < w1'.heap.size) := Lib.hid fun q hq => (Ho1.out.lt q hq).2
  refine (toGateS_any vg _ _ (Row.below R2.out HB1.out) l2).mono ?_
  rintro e w2 ⟨v2, rfl, hown2, hb2⟩
  obtain ⟨A2, q2, hv2, _, _⟩ := (Row.of_own hown2).shape
  subst hv2
  have k0 := (hb2.block w.heap.size (by omega)).trans K0.out
  have k1 := (hb2.block (w.heap.size + 1) (by omega)).trans K1.out
  have k2 := (hb2.block (w.heap.size + 1 + 1) (by omega)).trans K2.out
  have p3 : w2.cell? ⟨w.heap.size, 3, none⟩ = some vo := blk_cell k0 3
  have c2 : w2.cell? ⟨w.heap.size + 1 + 1, 2, none⟩ = some (.slice none 0 0) := blk_cell k2 2
  have f2 := blk_free k2 2
  have Ho12 := Lib.hid (own_below Ho1.out hb2)
  have Ho2 := Lib.hid hown2
  have HB2 := Lib.hid (HB1.out.trans (hb2.mono HB1.out.size))
  have z2 := hb2.size
  have K0 := Lib.hid k0
  have K1 := Lib.hid k1
  have K2 := Lib.hid k2
  clear hown2 hb2 k0 k1 k2 p2 c1 f1 Ho1 HB1
  go_wp2_with fail
  have K1 := Lib.hid ((heap_setCell_other w2 ⟨w.heap.size + 1 + 1, 2, none⟩ (w.heap.size + 1) (.slice A2 c.gates.length q2) (by simp only; omega)).trans K1.out)
  have K2 := Lib.hid (heap_setCell_same w2 (w.heap.size + 1 + 1) 2 _ _ (.slice A2 c.gates.length q2) K2.out)
  have HB2 := Lib.hid (HB2.out.setCell (p := ⟨w.heap.size + 1 + 1, 2, none⟩) (by simp only; omega) (.slice A2 c.gates.length q2))
  have Ho12 := Lib.hid (own_kept Ho12.out (set_grown w2 (w.heap.size + 1 + 1) 2 (.slice A2 c.gates.length q2)) (fun q hq e => by have h1 := (Ho12.out.lt q hq).1; have h2 := Option.some.inj e; omega))
  have Ho2 := Lib.hid (own_kept Ho2.out (set_grown w2 (w.heap.size + 1 + 1) 2 (.slice A2 c.gates.length q2)) (fun q hq e => by have h1 := (Ho2.out.lt q hq).1; have h2 := Option.some.inj e; omega))
  have z2 : w1'.heap.size ≤ (w2.setCell ⟨w.heap.size + 1 + 1, 2, none⟩ (.slice A2 c.gates.length q2)).heap.size := Nat.le_trans z2 (set_grown w2 (w.heap.size + 1 + 1) 2 _).size
  generalize w2.setCell ⟨w.heap.size + 1 + 1, 2, none⟩ (.slice A2 c.gates.length q2) = w2' at *
  have L2 : Hid (∀ q, (Value.slice A2 c.gates.length q2).ownBlock = some q → q < w2'.heap.size) := Lib.hid fun q hq => (Ho2.out.lt q hq).2
  refine (toIntS_any vo _ _ (Row.below R3.out HB2.out) l3).mono ?_
  rintro e w3 ⟨v3, rfl, hown3, hb3⟩
  obtain ⟨A3, q3, hv3, _, _⟩ := (Row.of_own hown3).shape
  subst hv3
  have k1 := (hb3.block (w.heap.size + 1) (by omega)).trans K1.out
  have k2 := (hb3.block (w.heap.size + 1 + 1) (by omega)).trans K2.out
  have c0 : w3.cell? ⟨w.heap.size + 1 + 1, 0, none⟩ = some (.int .i64 c.ins) := blk_cell k2 0
  have c1 : w3.cell? ⟨w.heap.size + 1 + 1, 1, none⟩ = some (.slice A1 c.next.length q1) := blk_cell k2 1
  have c2 : w3.cell? ⟨w.heap.size + 1 + 1, 2, none⟩ = some (.slice A2 c.gates.length q2) := blk_cell k2 2
  have c3 : w3.cell? ⟨w.heap.size + 1 + 1, 3, none⟩ = some (.slice none 0 0) := blk_cell k2 3
  have f3 := blk_free k2 3
  have o0 : w3.cell? ⟨w.heap.size + 1, 0, none⟩ = some (.int .i64 0) := blk_cell k1 0
  have o1 : w3.cell? ⟨w.heap.size + 1, 1, none⟩ = some (.slice none 0 0) := blk_cell k1 1
  have o2 : w3.cell? ⟨w.heap.size + 1, 2, none⟩ = some (.slice none 0 0) := blk_cell k1 2
  have o3 : w3.cell? ⟨w.heap.size + 1, 3, none⟩ = some (.slice none 0 0) := blk_cell k1 3
  have b0 := blk_free k1 0
  have b1 := blk_free k1 1
  have b2 := blk_free k1 2
  have b3 := blk_free k1 3
  have Ho13 := Lib.hid (own_below Ho12.out hb3)
  have Ho23 := Lib.hid (own_below Ho2.out hb3)
  have Ho3 := Lib.hid hown3
  have HB3 := Lib.hid (HB2.out.trans (hb3.mono HB2.out.size))
  have z3 := hb3.size
  clear hown3 hb3 k1 k2 K0 K1 K2 Ho12 Ho2 HB2 p3 f2
  go_wp2_with fail
  refine bodyPost_ret (v := .agg #[.int .i64 c.ins, .slice A1 c.next.length q1, .slice A2 c.gates.length q2, .slice A3 c.outs.length q3]) (by simp [results, Try.results17, go_sem, o0, o1, o2, o3]) rfl ⟨_, rfl, ⟨_, _, _, w1'.heap.size, w2'.heap.size, rfl, by omega, by omega, L1.out, L2.out, ?_, ?_, ?_⟩, ?_⟩
  · exact own_mono (own_set (own_set (own_set (own_set (own_set Ho13.out (by omega)) (by omega)) (by omega)) (by omega)) (by omega)) (by omega)
  · exact own_set (own_set (own_set (own_set (own_set Ho23.out (by omega)) (by omega)) (by omega)) (by omega)) (by omega)
  · exact own_set (own_set (own_set (own_set (own_set Ho3.out (by omega)) (by omega)) (by omega)) (by omega)) (by omega)
  · exact ((((HB3.out.setCell (by simp only; omega) _).setCell (by simp only; omega) _).setCell (by simp only; omega) _).setCell (by simp only; omega) _).setCell (by simp only; omega) _
/-- eqCircuit of one and the same. -/
theorem eqCircuit_same (v v2 : Value) (c : Cz) (w : World) (h : CircAt w v c) (h2 : CircAt w v2 c) (l1 : c.next.length ≤ 1048576) (l3 : c.outs.length ≤ 1048576) :
    Calls Try.prog 19 #[v, v2] w fun e w' => e = .returned (.bool true) ∧ Below w.heap.size w w' := by
  obtain ⟨vn, vg, vo, rfl, r1, r2, r3⟩ := h
  obtain ⟨un, ug, uo, rfl, s1, s2, s3⟩ := h2
  have P1 := Lib.hid (cells_alloc (PCells.boxed w c.ins vn vg vo 30) (.cells #[.int .i64 c.ins, un, ug, uo] 30))
  have P2 : Hid (PCells ((w.alloc (.cells #[.int .i64 c.ins, vn, vg, vo] 30)).alloc (.cells #[.int .i64 c.ins, un, ug, uo] 30)) (w.heap.size + 1) c.ins un ug uo) := Lib.hid (by have := PCells.boxed (w.alloc (.cells #[.int .i64 c.ins, vn, vg, vo] 30)) c.ins un ug uo 30; simpa using this)
  have B0 : Hid (Below w.heap.size w ((w.alloc (.cells #[.int .i64 c.ins, vn, vg, vo] 30)).alloc (.cells #[.int .i64 c.ins, un, ug, uo] 30))) := Lib.hid (((Below.refl _ _).alloc (Nat.le_refl _) _).alloc (by simp) _)
  have R1 := Lib.hid r1
  have R2 := Lib.hid r2
  have R3 := Lib.hid r3
  have S1 := Lib.hid s1
  have S2 := Lib.hid s2
  have S3 := Lib.hid s3
  clear r1 r2 r3 s1 s2 s3
  have hn : ((c.ins : Int) != c.ins) = false := by simp
  go_enter Try.func19, Try.ntmps19
  go_wp2_with fail
  generalize hW : ((w.alloc (.cells #[.int .i64 c.ins, vn, vg, vo] 30)).alloc (.cells #[.int .i64 c.ins, un, ug, uo] 30)) = W at *
  refine (eqIntS_any vn un _ _ _ (Row.below R1.out (by rw [← hW]; exact ((Below.refl _ _).alloc (Nat.le_refl _) _).alloc (by simp) _)) (Row.below S1.out (by rw [← hW]; exact ((Below.refl _ _).alloc (Nat.le_refl _) _).alloc (by simp) _)) l1).mono ?_
  rintro e w1 ⟨rfl, hd1⟩
  rw [show decide (c.next = c.next) = true from decide_eq_true rfl]
  have hb1 : Below W.heap.size W w1 := hd1.below _
  have B1 := Lib.hid (B0.out.trans (hb1.mono B0.out.size))
  obtain ⟨z1, p10, p11, p12, p13⟩ := P1.out.below hb1
  obtain ⟨z2, p20, p21, p22, p23⟩ := P2.out.below hb1
  clear hb1 hd1
  go_wp2_with fail
  refine (eqGateS_any vg ug _ _ _ (Row.below R2.out B1.out) (Row.below S2.out B1.out)).mono ?_
  rintro e w2 ⟨rfl, hb2⟩
  rw [show decide (c.gates = c.gates) = true from decide_eq_true rfl]
  have q13 := (hb2.cell (p := ⟨w.heap.size, 3, none⟩) z1).trans p13
  have q23 := (hb2.cell (p := ⟨w.heap.size + 1, 3, none⟩) z2).trans p23
  have B2 := Lib.hid (B1.out.trans (hb2.mono B1.out.size))
  clear hb2 p10 p11 p12 p13 p20 p21 p22 p23
  go_wp2_with fail
  refine (eqIntS_any vo uo _ _ _ (Row.below R3.out B2.out) (Row.below S3.out B2.out) l3).mono ?_
  rintro e w3 ⟨rfl, hd3⟩
  rw [show decide (c.outs = c.outs) = true from decide_eq_true rfl]
  have B3 := Lib.hid (B2.out.trans ((hd3.below w2.heap.size).mono B2.out.size))
  clear hd3
  go_wp2_with fail
  go_ret
  exact ⟨rfl, B3.out⟩
end Go.Proofs.Ytmlcbikljlhhkaa

namespace Go.Proofs.Ytmlcbikljlhhkaa
open Go.RowKit
/-! The values of a circuit, by the reference. -/
theorem bools_open {w wr : World} {A : Option Addr} {n c : Nat} {xs : List Bool} (h : Row w 1 (.slice A n c) n (bools xs)) (hb : Below w.heap.size w wr) {i : Nat} (hn : n = xs.length) (hi : i < xs.length) :
    ∃ b o x, A = some ⟨b, o, none⟩ ∧ b < w.heap.size ∧ Hid (xs[i]? = some x) ∧ wr.cell? ⟨b, o + i, none⟩ = some (.bool x) := by
  subst hn
  obtain ⟨b, o, c', hv, _, _, hbl, hcell⟩ := h.open (by omega)
  obtain ⟨rfl, _⟩ : A = some ⟨b, o, none⟩ ∧ True := by injection hv with e1; exact ⟨e1, trivial⟩
  obtain ⟨x, hx, hs⟩ := bools_at hi
  exact ⟨b, o, x, rfl, hbl, Lib.hid hx, (hb.cell (p := ⟨b, _, none⟩) hbl).trans (hcell _ _ hs)⟩
theorem tmod_two (y : Nat) : (y : Int).tmod 2 = ((y % 2 : Nat) : Int) := by
  rw [Int.tmod_eq_emod_of_nonneg (by omega)]
  omega
theorem lit_of {v : List Bool} {l : Nat} {x : Bool} (h : v[l / 2]? = some x) : Cir.lit v l = (x != (l % 2 == 1)) := by
  unfold Cir.lit
  rw [List.getD_eq_getElem?_getD, h]
  rfl
theorem l2Lit_any (v : Value) (xs : List Bool) (l : Nat) (w : World) (h : BoolsAt w v xs) (hl : l < 2 * xs.length) (hb : l ≤ 1000000) :
    Calls Try.prog 62 #[v, .int .i64 l] w fun e w' => e = .returned (.bool (Cir.lit xs l)) ∧ w = w' := by
  obtain ⟨A, c, hv, hc, hcm⟩ := Row.shape h
  subst hv
  have hi : l / 2 < xs.length := by omega
  obtain ⟨b, o, x, rfl, hbl, hx, hs⟩ := bools_open h (Below.refl _ _) rfl hi
  have HL := Lib.hid (lit_of hx.out)
  have hq : (l : Int).tdiv 2 = ((l / 2 : Nat) : Int) := by rw [Int.tdiv_eq_ediv_of_nonneg (by omega)]; omega
  have hm : (l : Int).tmod 2 = ((l % 2 : Nat) : Int) := by rw [Int.tmod_eq_emod_of_nonneg (by omega)]; omega
  have he : (((l % 2 : Nat) : Int) == 1) = (l % 2 == 1) := by
    rw [Bool.eq_iff_iff, beq_iff_eq, beq_iff_eq]
    omega
  have hqb : l / 2 ≤ 1000000 := by omega
  generalize l / 2 = q at *
  generalize l % 2 = r at *
  have hwr : IntKind.i64.wrap (q : Int) = q := IntWalk.i64_in _ (by omega)
  go_enter Try.func62, Try.ntmps62
  go_wp2
  go_ret
  refine ⟨ret_bool ?_, rfl⟩
  rw [HL.out]
  simp
  generalize (r == 1) = p
  cases x <;> cases p <;> rfl
theorem append_bools {w : World} {ops : Array Oper} {rest : List Oper} {o : Oper} {a : Act} {Q : Exit → Act → World → Prop} (hgd : o.guard = none) (s x : Operand)
    (ho : o.op = .call { callee := .builtin .append, args := #[s, x], argTypes := #[78, 78] })
    (base : Nat) (v : Value) (n : Nat) (xs : List Value) (hs : a.eval s = v) (hown : w.ownsRow base 4 1 v n xs) (sv : Value) (m : Nat) (news : List Value) (hx : a.eval x = sv) (hr : Row w 1 sv m news) (h1 : ∀ u ∈ news, u.oneCell' = true)
    (h63 : n + m ≤ 10000000) (hbase : base ≤ w.heap.size)
    (h : ∀ v' w', w'.ownsRow base 4 1 v' (n + m) (xs ++ news) → w.grownBy w' v.ownBlock → (v'.ownBlock = v.ownBlock ∨ v'.ownBlock = some w.heap.size) → wpList Try.prog ops Q rest (a.put o.dst v') w') : wpList Try.prog ops Q (o :: rest) a w := by
  obtain ⟨i, hi, hz0, hz1, hz2⟩ := info_parts info_bool
  exact wpList_append_at hgd s x 78 ho base 4 i _ 1 1 Try.underlying78 hi hz0 hz1 hz2 rfl (by decide) v n xs hs hown sv m news hx hr h1 (by unfold maxLen; omega) (by omega) hbase h
theorem bools_one (xs : List Bool) : ∀ u ∈ bools xs, u.oneCell' = true := by
  intro u hu
  obtain ⟨x, _, rfl⟩ := List.mem_map.1 hu
  rfl
theorem bools_append (a b : List Bool) : bools (a ++ b) = bools a ++ bools b := List.map_append
def OwnBools (xs : List Bool) (w : World) (e : Ending) (w' : World) : Prop := ∃ v, e = .returned v ∧ w'.ownsRow w.heap.size 4 1 v xs.length (bools xs) ∧ Below w.heap.size w w'
theorem l4Bits_any (x n : Nat) (w : World) (hx : x ≤ 1000000) (hn : n ≤ 16) :
    Calls Try.prog 64 #[.int .i64 x, .int .i64 n] w (OwnBools (Cir.bits x n) w) := by
  go_enter Try.func64, Try.ntmps64
  go_wp2_with fail
  go_loopw [5, 6] (fun v i wr => ∃ (vv : Value) (k : Nat), vv = v ∧ k ≤ n ∧ i = .int .i64 k ∧ Hid (wr.ownsRow w.heap.size 4 1 v k (bools (Cir.bits x k))) ∧ Below w.heap.size w wr) (fun _ i _ => n - (intOf i).toNat)
  case atStart => exact ⟨_, 0, rfl, Nat.zero_le _, rfl, Lib.hid (World.ownsRow_lit (base := w.heap.size) (e := 4) (size := 1) w #[] 0 (Nat.le_refl _) (by unfold maxLen; omega) rfl), (Below.refl _ _).alloc (Nat.le_refl _) _⟩
  case round =>
    obtain ⟨vv, k, hvv, hk, rfl, Ho, hb⟩ := hrel
    subst hvv
    by_cases hlt : k < n
    · have hz := hb.size
      have Hb := Lib.hid hb
      have HS : Hid (bools (Cir.bits x (k + 1)) = bools (Cir.bits x k) ++ [.bool (x.testBit k)]) := Lib.hid (by unfold Cir.bits; rw [List.range_succ, List.map_append, bools_append]; rfl)
      have hq : (x : Int) / 2 ^ k = ((x / 2 ^ k : Nat) : Int) := by
        rw [Int.natCast_ediv, two_pow]
      have hm := tmod_two (x / 2 ^ k)
      have he : (((x / 2 ^ k % 2 : Nat) : Int) == 1) = x.testBit k := by
        rw [Nat.testBit_eq_decide_div_mod_eq, Bool.eq_iff_iff, beq_iff_eq, decide_eq_true_iff]
        omega
      generalize x / 2 ^ k = y at hq hm he
      generalize y % 2 = r at hm he
      generalize x.testBit k = b at *
      have Hlit := Lib.hid (Row.of_own (World.ownsRow_lit (base := wr.heap.size) (e := 4) (size := 1) wr #[.bool b] 1 (Nat.le_refl _) (by unfold maxLen; omega) rfl))
      clear hb
      go_wp2_with (at_builtin; refine append_bools rfl (.tmp 13) (.tmp 19) rfl w.heap.size _ k _ rfl (Ho.out.alloc _) _ 1 [.bool b] rfl Hlit.out (by simp [Value.oneCell']) (by omega) (by simp; omega) ?_; intro v7 w7 hown7 hg7 hat7; have Ho7 := Lib.hid hown7; have Hg7 := Lib.hid hg7; clear hown7 hg7 hat7)
      go_roundw
      case rel => exact ⟨_, k + 1, rfl, by omega, by go_num, Lib.hid (by rw [HS.out]; exact Ho7.out), (Hb.out.alloc hz _).grown Hg7.out (Hb.out.alloc hz _).size (own_ge0 Ho.out)⟩
      case measure => simp [intOf] <;> omega
    · obtain rfl : k = n := by omega
      go_wp2
      go_ret
      exact ⟨_, rfl, by simpa [Cir.bits] using Ho.out, hb⟩
theorem ownBools_at {w : World} {b : Nat} {v : Value} {xs : List Bool} (h : w.ownsRow b 4 1 v xs.length (bools xs)) : BoolsAt w v xs := Row.of_own h
theorem PCells.grown {w w' : World} {g : Nat} {i : Int} {vn vg vo : Value} {row : Option Nat} (h : PCells w g i vn vg vo) (hb : w.grownBy w' row) (hr : row ≠ some g) : PCells w' g i vn vg vo := by
  obtain ⟨hg, c0, c1, c2, c3⟩ := h
  have hk := hb.block g hg fun e => hr e.symm
  exact ⟨Nat.lt_of_lt_of_le hg hb.size, (World.cell?_of_block (a := ⟨g, 0, none⟩) hk).trans c0, (World.cell?_of_block (a := ⟨g, 1, none⟩) hk).trans c1, (World.cell?_of_block (a := ⟨g, 2, none⟩) hk).trans c2, (World.cell?_of_block (a := ⟨g, 3, none⟩) hk).trans c3⟩
theorem own_ne {w : World} {base n size : Nat} {e : TypeId} {v : Value} {xs : List Value} {g : Nat} (h : w.ownsRow base e size v n xs) (hg : g < base) : v.ownBlock ≠ some g := fun e => by
  have := (h.lt g e).1
  omega
set_option maxHeartbeats 4000000 in
set_option maxRecDepth 100000 in
theorem l2Values_any (v vs vi : Value) (c : Ci) (st inp : List Bool) (w : World) (h : CircAt w v (Cir.toCz c)) (hc : Cir.Ok c) (hs : BoolsAt w vs st) (hi : BoolsAt w vi inp) (h1 : inp.length = c.ins) (h2 : st.length = c.next.length) :
    Calls Try.prog 63 #[v, vs, vi] w (OwnBools (Cir.vals c st inp) w) := by
  obtain ⟨vn, vg, vo, rfl, r1, r2, r3⟩ := h
  have l1 := hc.ins
  have l2 := hc.nexts
  have l3 := hc.gatess
  have HG := Lib.hid hc.gate
  have hglen : (Cir.toCz c).gates.length = c.gates.length := List.length_map _
  obtain ⟨Ag, cg, hvg, hcg, hcmg⟩ := Row.shape r2
  subst hvg
  rw [hglen] at hcg
  have R2 : Hid (Row w 2 (.slice Ag c.gates.length cg) c.gates.length (cubes (Cir.toCz c).gates)) := Lib.hid (by have := r2; unfold CubesAt at this; rwa [hglen] at this)
  have Hs := Lib.hid hs
  have Hi := Lib.hid hi
  clear r1 r2 r3 hs hi
  have hE : Hid (∀ k, k ≤ c.gates.length → (Cir.evalG (c.gates.take k) (false :: (inp ++ st))).length = Cir.nfirst c + k) := Lib.hid fun k hk => by
    rw [Cir.evalG_length]
    simp [Cir.nfirst]
    omega
  have hnf : Cir.nfirst c ≤ 8 := by unfold Cir.nfirst; omega
  have HV : Hid (Cir.evalG (c.gates.take c.gates.length) (false :: (inp ++ st)) = Cir.vals c st inp) := Lib.hid (by rw [List.take_length]; rfl)
  generalize Cir.vals c st inp = res at *
  generalize Cir.nfirst c = nf at *
  rw [hglen]
  generalize (Cir.toCz c).ins = ci at *
  have Hlit : Hid (((w.alloc (.cells #[.int .i64 ci, vn, .slice Ag c.gates.length cg, vo] 30)).alloc (.cells #[.bool false] 4)).ownsRow (w.heap.size + 1) 4 1 (.slice (some ⟨w.heap.size + 1, 0, none⟩) 1 1) 1 [.bool false]) := Lib.hid (by
    have := World.ownsRow_lit (base := w.heap.size + 1) (e := 4) (size := 1) (w.alloc (.cells #[.int .i64 ci, vn, .slice Ag c.gates.length cg, vo] 30)) #[.bool false] 1 (by simp) (by unfold maxLen; omega) rfl
    rwa [World.size_alloc] at this)
  have P0 := Lib.hid (cells_alloc (PCells.boxed w ci vn (.slice Ag c.gates.length cg) vo 30) (.cells #[.bool false] 4))
  have B0 := Lib.hid ((((Below.refl w.heap.size w).alloc (Nat.le_refl _) (.cells #[.int .i64 ci, vn, .slice Ag c.gates.length cg, vo] 30))).alloc (by simp) (.cells #[.bool false] 4))
  go_enter Try.func63, Try.ntmps63
  go_wp2_with (first
    | (at_builtin; refine append_bools rfl (.tmp 9) (.tmp 10) rfl (w.heap.size + 1) _ 1 [.bool false] rfl Hlit.out _ inp.length (bools inp) rfl (Row.below Hi.out B0.out) (bools_one _) (by omega) (by simp) ?_; intro v5 w5 hown5 hg5 hat5; have Ho5 := Lib.hid hown5; have P5 := Lib.hid (P0.out.grown hg5 (own_ne Hlit.out (by omega))); have B5 := Lib.hid (B0.out.grown hg5 B0.out.size (fun q hq => by have := (Hlit.out.lt q hq).1; omega)); have z5 := hg5.size; clear hown5 hg5 hat5)
    | (at_builtin; refine append_bools rfl (.tmp 12) (.tmp 13) rfl (w.heap.size + 1) _ (1 + inp.length) ([Value.bool false] ++ bools inp) rfl Ho5.out _ st.length (bools st) rfl (Row.below Hs.out B5.out) (bools_one _) (by omega) (by simp at z5; omega) ?_; intro v6 w6 hown6 hg6 hat6; have Ho6 := Lib.hid hown6; have P6 := Lib.hid (P5.out.grown hg6 (own_ne Ho5.out (by omega))); have B6 := Lib.hid (B5.out.grown hg6 B5.out.size (fun q hq => by have := (Ho5.out.lt q hq).1; omega)); have z6 : w.heap.size + 1 ≤ w6.heap.size := (by have := hg6.size; simp at z5; omega); clear hown6 hg6 hat6))
  go_loopw [7, 8] (fun v i wr => ∃ (vv : Value) (k : Nat), vv = v ∧ k ≤ c.gates.length ∧ i = .int .i64 k ∧ Hid (wr.ownsRow (w.heap.size + 1) 4 1 v (Cir.evalG (c.gates.take k) (false :: (inp ++ st))).length (bools (Cir.evalG (c.gates.take k) (false :: (inp ++ st))))) ∧ Hid (PCells wr w.heap.size ci vn (.slice Ag c.gates.length cg) vo) ∧ Below w.heap.size w wr) (fun _ i _ => c.gates.length - (intOf i).toNat)
  case atStart =>
    refine ⟨_, 0, rfl, Nat.zero_le _, rfl, Lib.hid ?_, P6, B6.out⟩
    have := Ho6.out
    have e : (Cir.evalG (c.gates.take 0) (false :: (inp ++ st))) = false :: (inp ++ st) := rfl
    rw [e]
    have e2 : bools (false :: (inp ++ st)) = [.bool false] ++ bools inp ++ bools st := by simp [bools]
    rw [e2, show (false :: (inp ++ st)).length = 1 + inp.length + st.length by simp; omega]
    exact this
  case round =>
    obtain ⟨vv, k, hvv, hk, rfl, Ho, P, hb⟩ := hrel
    subst hvv
    by_cases hlt : k < c.gates.length
    · obtain ⟨b, o, x, rfl, hbl, hx, hs1, hs2⟩ := cubes_open R2.out hb hglen.symm (i := k) (by omega)
      obtain ⟨g, hg⟩ := at_some hlt
      have hxe : x = ((g.1 : Int), (g.2 : Int)) := by
        have h1 := hx.out
        unfold Cir.toCz at h1
        simp only [List.getElem?_map, hg] at h1
        exact (Option.some.inj h1).symm
      subst hxe
      obtain ⟨g1, g2⟩ := HG.out k g hg
      have hEk := hE.out k hk
      have HS : Hid (bools (Cir.evalG (c.gates.take (k + 1)) (false :: (inp ++ st))) = bools (Cir.evalG (c.gates.take k) (false :: (inp ++ st))) ++ [.bool (Cir.gval (Cir.evalG (c.gates.take k) (false :: (inp ++ st))) g)] ∧ (Cir.evalG (c.gates.take (k + 1)) (false :: (inp ++ st))).length = (Cir.evalG (c.gates.take k) (false :: (inp ++ st))).length + 1) := Lib.hid (by rw [Cir.evalG_take_snoc hg, bools_append, List.length_append]; exact ⟨rfl, rfl⟩)
      have hgv : Cir.gval (Cir.evalG (c.gates.take k) (false :: (inp ++ st))) g = (Cir.lit (Cir.evalG (c.gates.take k) (false :: (inp ++ st))) g.1 && Cir.lit (Cir.evalG (c.gates.take k) (false :: (inp ++ st))) g.2) := rfl
      rw [hgv] at HS
      clear hgv hx hg
      obtain ⟨E2, hE2⟩ : ∃ E2, Cir.evalG (c.gates.take (k + 1)) (false :: (inp ++ st)) = E2 := ⟨_, rfl⟩
      rw [hE2] at HS
      have HE2 := Lib.hid hE2
      clear hE2
      generalize Cir.evalG (c.gates.take k) (false :: (inp ++ st)) = E at *
      obtain ⟨hzp, p0, p1, p2, p3⟩ := P.out
      have Hb := Lib.hid hb
      have hz := hb.size
      clear hb p0 p1 p3
      obtain ⟨G1, hG1⟩ : ∃ G1, G1 = g.1 := ⟨_, rfl⟩
      obtain ⟨G2, hG2⟩ : ∃ G2, G2 = g.2 := ⟨_, rfl⟩
      rw [← hG1] at g1 HS hs1
      rw [← hG2] at g2 HS hs2
      clear hG1 hG2
      go_wp2_with fail
      refine (l2Lit_any _ E G1 _ (ownBools_at Ho.out) (by omega) (by omega)).mono ?_
      rintro e w' ⟨rfl, rfl⟩
      cases hv1 : Cir.lit E G1
      · rw [hv1] at HS
        have Hlit := Lib.hid (Row.of_own (World.ownsRow_lit (base := wr.heap.size) (e := 4) (size := 1) wr #[.bool false] 1 (Nat.le_refl _) (by unfold maxLen; omega) rfl))
        clear hv1
        go_wp2_with (at_builtin; refine append_bools rfl (.tmp 22) (.tmp 41) rfl (w.heap.size + 1) _ E.length _ rfl (Ho.out.alloc _) _ 1 [.bool false] rfl Hlit.out (by simp [Value.oneCell']) (by omega) (by simp; omega) ?_; intro v7 w7 hown7 hg7 hat7; have Ho7 := Lib.hid hown7; have Hg7 := Lib.hid hg7; clear hown7 hg7 hat7)
        go_roundw
        case rel => exact ⟨_, k + 1, rfl, by omega, by go_num, Lib.hid (by rw [HE2.out, HS.out.1, HS.out.2]; exact Ho7.out), Lib.hid ((cells_alloc P.out _).grown Hg7.out (own_ne Ho.out (by omega))), (Hb.out.alloc hz _).grown Hg7.out (Hb.out.alloc hz _).size (fun q hq => by have := (Ho.out.lt q hq).1; omega)⟩
        case measure => simp [intOf] <;> omega
      · rw [hv1] at HS
        clear hv1
        go_wp2_with fail
        refine (l2Lit_any _ E G2 _ (ownBools_at Ho.out) (by omega) (by omega)).mono ?_
        rintro e w' ⟨rfl, rfl⟩
        rw [Bool.true_and] at HS
        generalize Cir.lit E G2 = u at *
        have Hlit := Lib.hid (Row.of_own (World.ownsRow_lit (base := wr.heap.size) (e := 4) (size := 1) wr #[.bool u] 1 (Nat.le_refl _) (by unfold maxLen; omega) rfl))
        go_wp2_with (at_builtin; refine append_bools rfl (.tmp 22) (.tmp 41) rfl (w.heap.size + 1) _ E.length _ rfl (Ho.out.alloc _) _ 1 [.bool u] rfl Hlit.out (by simp [Value.oneCell']) (by omega) (by simp; omega) ?_; intro v7 w7 hown7 hg7 hat7; have Ho7 := Lib.hid hown7; have Hg7 := Lib.hid hg7; clear hown7 hg7 hat7)
        go_roundw
        case rel => exact ⟨_, k + 1, rfl, by omega, by go_num, Lib.hid (by rw [HE2.out, HS.out.1, HS.out.2]; exact Ho7.out), Lib.hid ((cells_alloc P.out _).grown Hg7.out (own_ne Ho.out (by omega))), (Hb.out.alloc hz _).grown Hg7.out (Hb.out.alloc hz _).size (fun q hq => by have := (Ho.out.lt q hq).1; omega)⟩
        case measure => simp [intOf] <;> omega
    · obtain rfl : k = c.gates.length := by omega
      obtain ⟨hzp, p0, p1, p2, p3⟩ := P.out
      clear p0 p1 p3
      go_wp2
      go_ret
      exact ⟨_, rfl, by rw [← HV.out]; exact own_mono Ho.out (by omega), hb⟩
end Go.Proofs.Ytmlcbikljlhhkaa
