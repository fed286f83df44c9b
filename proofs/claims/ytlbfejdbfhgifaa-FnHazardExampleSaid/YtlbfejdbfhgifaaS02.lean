import Derived.Test.YtlbfejdbfhgifaaS01
import Derived.Deep.Quiet
import Derived.Test.YtlbfejdbfhgifaaProg
import Derived.Deep.RegionWith
import Derived.BigRegion
import Derived.WalkKit
import Derived.Orders
import Derived.Laws.AppendOwn
import Derived.Below
set_option linter.unusedVariables false
set_option linter.unusedSimpArgs false
namespace Go.Proofs.Ytlbfejdbfhgifaa
open Go.RowKit
/-! Regions that draw their order and whose operations read or call functions that only make memory: one walk, in the text's order. -/
/-- The worlds that have grown out of w. -/
def GW (w : World) := { w' : World // Below w.heap.size w w' }
instance (w : World) : Nonempty (GW w) := ⟨⟨w, Below.refl _ _⟩⟩
def gw {w : World} (n : GW w) : World := n.1
theorem gw_below {w : World} (n : GW w) : Below w.heap.size w (gw n) := n.2
theorem gw_cell {w : World} {p : Addr} {v : Value} (h : w.cell? p = some v) (hp : p.block < w.heap.size) : ∀ n : GW w, (gw n).cell? p = some v := fun n => ((gw_below n).cell hp).trans h
theorem wp_region_grow {P : Program} {id : Nat} {Q : Exit → Act → World → Prop} {a : Act} {w : World} {l : List Oper} (hm : P.follows .mixedOrders = true) (hB : Region.lexB .any l.toArray = true)
    (h : wpQuiet P l.toArray (fun w' => ∃ n : GW w, w' = gw n) (fun a' => ∀ w', (∃ n : GW w, w' = gw n) → Q .normal a' w') l a) : (Code.region id l.toArray true).wp P Q a w :=
  wp_region_quiet (C := fun w' => ∃ n : GW w, w' = gw n) hm hB ⟨⟨{ w with drawn := w.drawn + 1 }, ⟨rfl, rfl, rfl, Nat.le_refl _, fun _ _ => rfl⟩⟩, rfl⟩ (by simpa using h)
theorem grow_call {P : Program} {f : FuncId} {args : Array Value} {w : World} {n : GW w} {v : Value}
    (h : Calls P f args (gw n) fun e w'' => e = .returned v ∧ Below (gw n).heap.size (gw n) w'') : Calls P f args (gw n) fun e w'' => e = .returned v ∧ ∃ m : GW w, w'' = gw m :=
  h.mono fun _ w'' ⟨he, hb⟩ => ⟨he, ⟨w'', (gw_below n).trans (hb.mono (gw_below n).size)⟩, rfl⟩
theorem grow_same {P : Program} {f : FuncId} {args : Array Value} {w : World} {n : GW w} {v : Value}
    (h : Calls P f args (gw n) fun e w'' => e = .returned v ∧ gw n = w'') : Calls P f args (gw n) fun e w'' => e = .returned v ∧ ∃ m : GW w, w'' = gw m :=
  h.mono fun _ w'' ⟨he, hb⟩ => ⟨he, n, hb.symm⟩
theorem grow_drew {P : Program} {f : FuncId} {args : Array Value} {w : World} {n : GW w} {v : Value}
    (h : Calls P f args (gw n) fun e w'' => e = .returned v ∧ Drew (gw n) w'') : Calls P f args (gw n) fun e w'' => e = .returned v ∧ ∃ m : GW w, w'' = gw m :=
  grow_call (h.mono fun _ _ ⟨he, hd⟩ => ⟨he, hd.below _⟩)
end Go.Proofs.Ytlbfejdbfhgifaa

namespace Go.Proofs.Ytlbfejdbfhgifaa
open Go.RowKit
/-- A circuit as a value. -/
def CircAt (w : World) (v : Value) (c : Cz) : Prop := ∃ vn vg vo, v = .agg #[.int .i64 c.ins, vn, vg, vo] ∧ IntsAt w vn c.next ∧ CubesAt w vg c.gates ∧ IntsAt w vo c.outs
/-- A circuit behind a pointer. -/
def PCirc (w : World) (g : Nat) (c : Cz) : Prop := ∃ vn vg vo, g < w.heap.size ∧ w.cell? ⟨g, 0, none⟩ = some (.int .i64 c.ins) ∧ w.cell? ⟨g, 1, none⟩ = some vn ∧ w.cell? ⟨g, 2, none⟩ = some vg ∧ w.cell? ⟨g, 3, none⟩ = some vo ∧ IntsAt w vn c.next ∧ CubesAt w vg c.gates ∧ IntsAt w vo c.outs
theorem CircAt.below {w w' : World} {v : Value} {c : Cz} (h : CircAt w v c) (hb : Below w.heap.size w w') : CircAt w' v c := by
  obtain ⟨vn, vg, vo, hv, h1, h2, h3⟩ := h
  exact ⟨vn, vg, vo, hv, Row.below h1 hb, Row.below h2 hb, Row.below h3 hb⟩
theorem PCirc.below {w w' : World} {g : Nat} {c : Cz} (h : PCirc w g c) (hb : Below w.heap.size w w') : PCirc w' g c := by
  obtain ⟨vn, vg, vo, hg, c0, c1, c2, c3, h1, h2, h3⟩ := h
  exact ⟨vn, vg, vo, Nat.lt_of_lt_of_le hg hb.size, (hb.cell (p := ⟨g, 0, none⟩) hg).trans c0, (hb.cell (p := ⟨g, 1, none⟩) hg).trans c1, (hb.cell (p := ⟨g, 2, none⟩) hg).trans c2, (hb.cell (p := ⟨g, 3, none⟩) hg).trans c3, Row.below h1 hb, Row.below h2 hb, Row.below h3 hb⟩
theorem PCirc.boxed {w : World} {c : Cz} {vn vg vo : Value} (t : TypeId) (h1 : IntsAt w vn c.next) (h2 : CubesAt w vg c.gates) (h3 : IntsAt w vo c.outs) : PCirc (w.alloc (.cells #[.int .i64 c.ins, vn, vg, vo] t)) w.heap.size c :=
  ⟨vn, vg, vo, by simp, World.cell?_alloc_new _ _ _ 0, World.cell?_alloc_new _ _ _ 1, World.cell?_alloc_new _ _ _ 2, World.cell?_alloc_new _ _ _ 3, Row.alloc h1 _, Row.alloc h2 _, Row.alloc h3 _⟩
theorem isLit_any (l v : Int) (w : World) (h1 : -1000000 ≤ v) (h2 : v ≤ 1000000) :
    Calls Try.prog 75 #[.int .i64 l, .int .i64 v] w fun e w' => e = .returned (.bool (Cir.isLit l v)) ∧ w = w' := by
  go_enter Try.func75, Try.ntmps75
  go_wp2
  all_goals
    go_ret
    refine ⟨ret_bool ?_, rfl⟩
    simp [Cir.isLit]
    try omega
theorem firstGate_any (g : Nat) (c : Cz) (w : World) (h : PCirc w g c) (h1 : 0 ≤ c.ins) (h2 : c.ins ≤ 100) (h3 : c.next.length ≤ 100) :
    Calls Try.prog 104 #[.pointer (some ⟨g, 0, none⟩)] w fun e w' => e = .returned (.int .i64 (Cir.first c)) ∧ Below w.heap.size w w' := by
  obtain ⟨vn, vg, vo, hg, c0, c1, c2, c3, r1, r2, r3⟩ := h
  obtain ⟨A, cp, hv, hc, hcm⟩ := r1.shape
  subst hv
  have g0 := gw_cell c0 hg
  have g1 := gw_cell c1 hg
  have hw1 := IntWalk.i64_in (1 + c.ins) (by omega)
  have hw2 := IntWalk.i64_in (1 + c.ins + c.next.length) (by omega)
  clear r1 r2 r3 c0 c1 c2 c3
  go_enter Try.func104, Try.ntmps104
  go_wp2
  refine wp_region_grow (by kernel_rfl) (by kernel_rfl) ?_
  repeat (go_big_quiet_step ((fail)))
  refine wpQuiet_nil ?_
  intro _ hw'
  obtain ⟨nq, hw''⟩ := hw'
  subst hw''
  have hgq := gw_below nq
  generalize gw nq = wq at *
  clear nq
  go_wp2
  go_ret
  exact ⟨rfl, hgq⟩
theorem vars_any (g : Nat) (c : Cz) (w : World) (h : PCirc w g c) (h1 : 0 ≤ c.ins) (h2 : c.ins ≤ 100) (h3 : c.next.length ≤ 100) (h4 : c.gates.length ≤ 100) :
    Calls Try.prog 76 #[.pointer (some ⟨g, 0, none⟩)] w fun e w' => e = .returned (.int .i64 (Cir.vars c)) ∧ Below w.heap.size w w' := by
  have HF : Hid (∀ n : GW w, Calls Try.prog 104 #[.pointer (some ⟨g, 0, none⟩)] (gw n) fun e w' => e = .returned (.int .i64 (Cir.first c)) ∧ Below (gw n).heap.size (gw n) w') := Lib.hid fun n => firstGate_any g c _ (h.below (gw_below n)) h1 h2 h3
  have hF : Hid (Cir.vars c = Cir.first c + c.gates.length) := Lib.hid rfl
  have hb : 0 ≤ Cir.first c ∧ Cir.first c ≤ 300 := by unfold Cir.first; omega
  obtain ⟨hb1, hb2⟩ := hb
  obtain ⟨vn, vg, vo, hg, c0, c1, c2, c3, r1, r2, r3⟩ := h
  obtain ⟨A, cp, hv, hc, hcm⟩ := Row.shape r2
  subst hv
  have g2 := gw_cell c2 hg
  have hw1 := IntWalk.i64_in (Cir.first c + c.gates.length) (by omega)
  clear r1 r2 r3 c0 c1 c2 c3
  go_enter Try.func76, Try.ntmps76
  go_wp2
  refine wp_region_grow (by kernel_rfl) (by kernel_rfl) ?_
  repeat (go_big_quiet_step ((go_at_call 104; exact grow_call (HF.out _))))
  refine wpQuiet_nil ?_
  intro _ hw'
  obtain ⟨nq, hw''⟩ := hw'
  subst hw''
  have hgq := gw_below nq
  generalize gw nq = wq at *
  clear nq
  go_wp2
  go_ret
  exact ⟨ret_int hF.out.symm, hgq⟩
theorem roots_any (g : Nat) (c : Cz) (w : World) (h : PCirc w g c) (h1 : c.next.length ≤ 100000) (h2 : c.outs.length ≤ 100000) :
    Calls Try.prog 102 #[.pointer (some ⟨g, 0, none⟩)] w (OwnInts (c.next ++ c.outs) w) := by
  obtain ⟨i0, hi0, hz0, hz1, hz2⟩ := info_parts info_int
  obtain ⟨vn, vg, vo, hg, c0, c1, c2, c3, r1, r2, r3⟩ := h
  have R1 : Hid (Row w.drew 1 vn c.next.length (ints c.next)) := Lib.hid r1
  have R3 : Hid (Row w 1 vo c.outs.length (ints c.outs)) := Lib.hid r3
  have e1 : ints (c.next ++ c.outs) = [] ++ ints c.next ++ ints c.outs := by simp [ints]
  have E1 := Lib.hid e1
  clear r1 r2 r3 e1
  have k1 : ∀ w', Below w.heap.size w w' → w'.cell? ⟨g, 1, none⟩ = some vn := fun w' hb => (hb.cell (p := ⟨g, 1, none⟩) hg).trans c1
  have k3 : ∀ w', Below w.heap.size w w' → w'.cell? ⟨g, 3, none⟩ = some vo := fun w' hb => (hb.cell (p := ⟨g, 3, none⟩) hg).trans c3
  have K3 := Lib.hid k3
  clear k1 k3
  go_enter Try.func102, Try.ntmps102
  go_wp2_with fail
  go_region_law (first
    | (refine step_append_at rfl (.const (.slice none 0 0)) (.tmp 6) 22 rfl w.heap.size 3 i0 _ 1 8 Try.underlying22 hi0 hz0 hz1 hz2 rfl (by decide) (.slice none 0 0) 0 [] rfl (World.ownsRow_nil _ _ _ _) vn c.next.length (ints c.next) (by simp [Act.eval, Act.put]) R1.out (ints_one _) (by unfold maxLen; omega) (by omega) (by simp) ?_; intro v1 w1 hown1 hg1; have hb1 := (Below.refl w.heap.size w).drew.grown hg1 (Nat.le_refl _) (by simp [Value.ownBlock]); have hk3 := K3.out w1 hb1)
    | (refine step_append_at rfl (.tmp 7) (.tmp 11) 22 rfl w.heap.size 3 i0 _ 1 8 Try.underlying22 hi0 hz0 hz1 hz2 rfl (by decide) v1 (0 + c.next.length) ([] ++ ints c.next) (by simp [Act.eval, Act.put]) hown1 vo c.outs.length (ints c.outs) (by simp [Act.eval, Act.put]) (Row.below R3.out hb1) (ints_one _) (by unfold maxLen; omega) (by omega) hb1.size ?_; intro v2 w2 hown2 hg2))
  all_goals
    have Ho2 := Lib.hid hown2
    have Hb := Lib.hid (hb1.grown hg2 hb1.size (own_ge0 hown1))
    clear hown1 hown2 hg1 hg2 hb1 hk3
    go_wp2_with fail
    go_ret
    refine ⟨_, rfl, ?_, Hb.out⟩
    rw [E1.out, List.length_append, ← Nat.zero_add c.next.length]
    exact Ho2.out
end Go.Proofs.Ytlbfejdbfhgifaa

namespace Go.Proofs.Ytlbfejdbfhgifaa
open Go.RowKit
theorem sizes_cases {c : Cz} (h : Cir.sizes c = false) : c.ins < 0 ∨ (0 ≤ c.ins ∧ 4 < c.ins) ∨ (0 ≤ c.ins ∧ c.ins ≤ 4 ∧ (3 : Int) < c.next.length) ∨ (0 ≤ c.ins ∧ c.ins ≤ 4 ∧ (c.next.length : Int) ≤ 3 ∧ (14 : Int) < c.gates.length) ∨ (0 ≤ c.ins ∧ c.ins ≤ 4 ∧ (c.next.length : Int) ≤ 3 ∧ (c.gates.length : Int) ≤ 14 ∧ (3 : Int) < c.outs.length) := by
  unfold Cir.sizes at h
  rw [decide_eq_false_iff_not] at h
  omega
theorem all_drop {p : Int → Bool} {l : List Int} {k : Nat} {x : Int} (h : l[k]? = some x) : (l.drop k).all p = (p x && (l.drop (k + 1)).all p) := by
  obtain ⟨hk, rfl⟩ := List.getElem?_eq_some_iff.1 h
  rw [List.drop_eq_getElem_cons hk, List.all_cons]
set_option maxHeartbeats 2000000 in
theorem implValid_any (v : Value) (c : Cz) (w : World) (h : CircAt w v c) :
    Calls Try.prog 47 #[v] w fun e w' => e = .returned (.bool (Cir.valid c)) ∧ Below w.heap.size w w' := by
  obtain ⟨vn, vg, vo, rfl, r1, r2, r3⟩ := h
  have hP := PCirc.boxed 31 r1 r2 r3
  have hb0 : Below w.heap.size w (w.alloc (.cells #[.int .i64 c.ins, vn, vg, vo] 31)) := (Below.refl _ _).alloc (Nat.le_refl _) _
  obtain ⟨An, cn, hvn, hcn, hcmn⟩ := r1.shape
  obtain ⟨Ag, cg, hvg, hcg, hcmg⟩ := Row.shape r2
  obtain ⟨Ao, co, hvo, hco, hcmo⟩ := r3.shape
  subst hvn hvg hvo
  unfold maxLen at hcmn hcmg hcmo
  cases hs : Cir.sizes c
  · have hv : Cir.valid c = false := by unfold Cir.valid; rw [hs]; rfl
    rw [hv]
    clear hv hP r1 r2 r3
    have B0 := Lib.hid hb0
    clear hb0
    rcases sizes_cases hs with g | ⟨g0, g1⟩ | ⟨g0, g1, g2⟩ | ⟨g0, g1, g2, g3⟩ | ⟨g0, g1, g2, g3, g4⟩
    all_goals
      clear hs
      go_enter Try.func47, Try.ntmps47
      go_wp2
      go_ret
      exact ⟨rfl, B0.out⟩
  · obtain ⟨s1, s2, s3, s4, s5⟩ : 0 ≤ c.ins ∧ c.ins ≤ 4 ∧ c.next.length ≤ 3 ∧ c.gates.length ≤ 14 ∧ c.outs.length ≤ 3 := by unfold Cir.sizes at hs; simpa using hs
    have hv : Cir.valid c = (Cir.gatesOk (1 + c.ins + c.next.length) 0 (c.gates.drop 0) && (c.next ++ c.outs).all (Cir.isLit · (Cir.vars c))) := by unfold Cir.valid; rw [hs]; rfl
    have HV := Lib.hid hv
    have HP := Lib.hid hP
    have B0 := Lib.hid hb0
    have t1 : (c.next.length : Int) ≤ 3 := by omega
    have t2 : (c.gates.length : Int) ≤ 14 := by omega
    have t3 : (c.outs.length : Int) ≤ 3 := by omega
    have R2 := Lib.hid (Row.alloc r2 (.cells #[.int .i64 c.ins, .slice An c.next.length cn, .slice Ag c.gates.length cg, .slice Ao c.outs.length co] 31))
    clear hs hv hP hb0 r1 r2 r3
    generalize Cir.valid c = res at HV ⊢
    go_enter Try.func47, Try.ntmps47
    go_wp2_with fail
    generalize w.alloc (.cells #[.int .i64 c.ins, .slice An c.next.length cn, .slice Ag c.gates.length cg, .slice Ao c.outs.length co] 31) = W1 at *
    go_loopw [44] (fun t wr => ∃ k : Nat, k ≤ c.gates.length ∧ t = .int .i64 k ∧ Hid (res = (Cir.gatesOk (1 + c.ins + c.next.length) k (c.gates.drop k) && (c.next ++ c.outs).all (Cir.isLit · (Cir.vars c)))) ∧ Below W1.heap.size W1 wr) (fun t _ => c.gates.length - (intOf t).toNat)
    case atStart => exact ⟨0, Nat.zero_le _, rfl, HV, Below.refl _ _⟩
    case round =>
      obtain ⟨k, hk, rfl, hres, hb⟩ := hrel
      by_cases hlt : k < c.gates.length
      · obtain ⟨b, o, x, rfl, hbl, hx, hs1, hs2⟩ := cubes_open R2.out hb rfl hlt
        have hz := B0.out.size
        have Hb := Lib.hid hb
        have hz2 := hb.size
        have Hstep := Lib.hid (Cir.gatesOk_drop (f := 1 + c.ins + c.next.length) hx.out)
        have hbr : b < wr.heap.size := by omega
        clear hb HV
        cases h1 : Cir.isLit x.1 (1 + c.ins + c.next.length + k)
        · have H1 := Lib.hid h1
          have hr : res = false := by rw [hres.out, Hstep.out, h1]; rfl
          subst hr
          clear h1
          go_wp2_with fail
          refine (isLit_any _ _ _ (by omega) (by omega)).mono ?_
          rintro e w' ⟨rfl, rfl⟩
          rw [H1.out]
          go_wp2_with fail
          go_ret
          exact ⟨rfl, (B0.out.trans (Hb.out.mono hz)).alloc (by omega) _⟩
        · have H1 := Lib.hid h1
          cases h2 : Cir.isLit x.2 (1 + c.ins + c.next.length + k)
          · have H2 := Lib.hid h2
            have hr : res = false := by rw [hres.out, Hstep.out, h1, h2]; rfl
            subst hr
            clear h1 h2
            go_wp2_with fail
            refine (isLit_any _ _ _ (by omega) (by omega)).mono ?_
            rintro e w' ⟨rfl, rfl⟩
            rw [H1.out]
            go_wp2_with fail
            refine (isLit_any _ _ _ (by omega) (by omega)).mono ?_
            rintro e w' ⟨rfl, rfl⟩
            rw [H2.out]
            go_wp2_with fail
            go_ret
            exact ⟨rfl, (B0.out.trans (Hb.out.mono hz)).alloc (by omega) _⟩
          · have H2 := Lib.hid h2
            have Hn : Hid (res = (Cir.gatesOk (1 + c.ins + c.next.length) (k + 1) (c.gates.drop (k + 1)) && (c.next ++ c.outs).all (Cir.isLit · (Cir.vars c)))) := Lib.hid (by rw [hres.out, Hstep.out, h1, h2]; rfl)
            clear h1 h2
            go_wp2_with fail
            refine (isLit_any _ _ _ (by omega) (by omega)).mono ?_
            rintro e w' ⟨rfl, rfl⟩
            rw [H1.out]
            go_wp2_with fail
            refine (isLit_any _ _ _ (by omega) (by omega)).mono ?_
            rintro e w' ⟨rfl, rfl⟩
            rw [H2.out]
            go_wp2_with fail
            go_roundw
            case rel => exact ⟨k + 1, by omega, by go_num, Hn, Hb.out.alloc hz2 _⟩
            case measure => simp [intOf] <;> omega
      · have hz := B0.out.size
        have hr : Hid (res = ((c.next ++ c.outs).drop 0).all (Cir.isLit · (Cir.vars c))) := Lib.hid (by rw [hres.out, List.drop_eq_nil_of_le (by omega : c.gates.length ≤ k)]; rfl)
        have HP2 := Lib.hid (HP.out.below hb)
        have B2 := Lib.hid (B0.out.trans (hb.mono hz))
        have hz2 := B2.out.size
        clear hres hb HP B0 HV R2
        obtain ⟨W2, hW2⟩ : ∃ W2 : World, W2 = wr := ⟨_, rfl⟩
        subst hW2
        go_wp2_with fail
        refine (roots_any w.heap.size c _ HP2.out (by omega) (by omega)).mono ?_
        rintro e w3 ⟨v3, rfl, hown3, hb3⟩
        obtain ⟨A3, c3, hv3, hc3, hcm3⟩ := (Row.of_own hown3).shape
        have R3 := Lib.hid (Row.of_own hown3)
        have HP3 := Lib.hid (HP2.out.below hb3)
        have B3 := Lib.hid (B2.out.trans (hb3.mono hz2))
        have hlen : (c.next ++ c.outs).length ≤ 6 := by rw [List.length_append]; omega
        subst hv3
        unfold maxLen at hcm3
        clear hown3 hb3 HP2 B2
        generalize c.next ++ c.outs = L at *
        go_wp2_with fail
        go_loopw [68] (fun t wr => ∃ k : Nat, k ≤ L.length ∧ t = .int .i64 k ∧ Hid (res = (L.drop k).all (Cir.isLit · (Cir.vars c))) ∧ Below w3.heap.size w3 wr) (fun t _ => L.length - (intOf t).toNat)
        case atStart => exact ⟨0, Nat.zero_le _, rfl, hr, Below.refl _ _⟩
        case round =>
          obtain ⟨k, hk, rfl, hres, hb⟩ := hrel
          have hz3 := B3.out.size
          have hvb : -1000000 ≤ Cir.vars c ∧ Cir.vars c ≤ 1000000 := by unfold Cir.vars Cir.first; omega
          by_cases hlt : k < L.length
          · obtain ⟨b, o, x, rfl, hbl, hx, hs1⟩ := ints_open R3.out hb rfl hlt
            have Hb := Lib.hid hb
            have hz4 := hb.size
            have HP4 := Lib.hid (HP3.out.below hb)
            have Hstep := Lib.hid (all_drop (p := (Cir.isLit · (Cir.vars c))) hx.out)
            clear hb hr
            cases h1 : Cir.isLit x (Cir.vars c)
            · have H1 := Lib.hid h1
              have hr : res = false := by rw [hres.out, Hstep.out, h1]; rfl
              subst hr
              clear h1
              go_wp2_with fail
              refine (vars_any w.heap.size c _ HP4.out s1 (by omega) (by omega) (by omega)).mono ?_
              rintro e w5 ⟨rfl, hb5⟩
              go_wp2_with fail
              refine (isLit_any _ _ _ hvb.1 hvb.2).mono ?_
              rintro e w' ⟨rfl, rfl⟩
              rw [H1.out]
              go_wp2_with fail
              go_ret
              exact ⟨rfl, B3.out.trans ((Hb.out.trans (hb5.mono hz4)).mono hz3)⟩
            · have H1 := Lib.hid h1
              have Hn : Hid (res = (L.drop (k + 1)).all (Cir.isLit · (Cir.vars c))) := Lib.hid (by rw [hres.out, Hstep.out, h1]; rfl)
              clear h1
              go_wp2_with fail
              refine (vars_any w.heap.size c _ HP4.out s1 (by omega) (by omega) (by omega)).mono ?_
              rintro e w5 ⟨rfl, hb5⟩
              have Hb5 := Lib.hid (Hb.out.trans (hb5.mono hz4))
              clear hb5
              go_wp2_with fail
              refine (isLit_any _ _ _ hvb.1 hvb.2).mono ?_
              rintro e w' ⟨rfl, rfl⟩
              rw [H1.out]
              go_wp2_with fail
              go_roundw
              case rel => exact ⟨k + 1, by omega, by go_num, Hn, Hb5.out⟩
              case measure => simp [intOf] <;> omega
          · have hr : res = true := by rw [hres.out, List.drop_eq_nil_of_le (by omega : L.length ≤ k)]; rfl
            subst hr
            go_wp2_with fail
            go_ret
            exact ⟨rfl, B3.out.trans (hb.mono hz3)⟩
end Go.Proofs.Ytlbfejdbfhgifaa

namespace Go.Proofs.Ytlbfejdbfhgifaa
open Go.RowKit
theorem isLit_in (x V : Int) : decide (0 ≤ x ∧ x ≤ 2 * V - 1) = Cir.isLit x V := by
  unfold Cir.isLit
  exact decide_eq_decide.2 ⟨fun h => by omega, fun h => by omega⟩
theorem l1Lits_any (v : Value) (xs : List Int) (V : Int) (w : World) (h : IntsAt w v xs) (h1 : -1000000 ≤ V) (h2 : V ≤ 1000000) :
    Calls Try.prog 96 #[v, .int .i64 V] w fun e w' => e = .returned (.bool (xs.all (Cir.isLit · V))) ∧ w = w' := by
  obtain ⟨A, c, hv, hc, hcm⟩ := h.shape
  subst hv
  unfold maxLen at hcm
  have h0 : Hid (xs.all (Cir.isLit · V) = (xs.drop 0).all (Cir.isLit · V)) := Lib.hid rfl
  generalize xs.all (Cir.isLit · V) = res at h0 ⊢
  go_enter Try.func96, Try.ntmps96
  go_wp2_with fail
  go_loop [5] (fun i => ∃ k : Nat, k ≤ xs.length ∧ i = .int .i64 k ∧ Hid (res = (xs.drop k).all (Cir.isLit · V))) (fun i => xs.length - (intOf i).toNat)
  case atStart => exact ⟨0, Nat.zero_le _, rfl, h0⟩
  case round =>
    obtain ⟨k, hk, rfl, hres⟩ := hrel
    by_cases hlt : k < xs.length
    · obtain ⟨b, o, x, rfl, hbl, hx, hs1⟩ := ints_open h (Below.refl _ _) rfl hlt
      have Hstep := Lib.hid (all_drop (p := (Cir.isLit · V)) hx.out)
      have Hin := Lib.hid (isLit_in x V)
      clear h h0
      cases h3 : Cir.isLit x V
      · have H1 := Lib.hid h3
        have hr : res = false := by rw [hres.out, Hstep.out, h3]; rfl
        subst hr
        clear h3
        go_wp2_with fail
        refine (l1In_any _ _ _ _).mono ?_
        rintro e w' ⟨rfl, rfl⟩
        rw [Hin.out, H1.out]
        go_wp2_with fail
        go_ret
        exact ⟨rfl, rfl⟩
      · have H1 := Lib.hid h3
        have Hn : Hid (res = (xs.drop (k + 1)).all (Cir.isLit · V)) := Lib.hid (by rw [hres.out, Hstep.out, h3]; rfl)
        clear h3
        go_wp2_with fail
        refine (l1In_any _ _ _ _).mono ?_
        rintro e w' ⟨rfl, rfl⟩
        rw [Hin.out, H1.out]
        go_wp2_with fail
        go_round
        case rel => exact ⟨k + 1, by omega, by go_num, Hn⟩
        case measure => simp [intOf] <;> omega
    · have hr : res = true := by rw [hres.out, List.drop_eq_nil_of_le (by omega : xs.length ≤ k)]; rfl
      subst hr
      go_wp2_with fail
      go_ret
      exact ⟨rfl, rfl⟩
theorem l1First_any (v : Value) (c : Cz) (w : World) (h : CircAt w v c) (h1 : 0 ≤ c.ins) (h2 : c.ins ≤ 100) (h3 : c.next.length ≤ 100) :
    Calls Try.prog 95 #[v] w fun e w' => e = .returned (.int .i64 (Cir.first c)) ∧ Below w.heap.size w w' := by
  obtain ⟨vn, vg, vo, rfl, r1, r2, r3⟩ := h
  obtain ⟨An, cn, hvn, hcn, hcmn⟩ := r1.shape
  subst hvn
  clear r1 r2 r3
  have hF : Hid (c.ins + c.next.length + 1 = Cir.first c) := Lib.hid (by unfold Cir.first; omega)
  go_enter Try.func95, Try.ntmps95
  go_wp2
  go_ret
  exact ⟨ret_int hF.out, (Below.refl _ _).alloc (Nat.le_refl _) _⟩
/-- The cells of a circuit in memory. -/
def PCells (w : World) (g : Nat) (i : Int) (vn vg vo : Value) : Prop := g < w.heap.size ∧ w.cell? ⟨g, 0, none⟩ = some (.int .i64 i) ∧ w.cell? ⟨g, 1, none⟩ = some vn ∧ w.cell? ⟨g, 2, none⟩ = some vg ∧ w.cell? ⟨g, 3, none⟩ = some vo
theorem PCells.below {w w' : World} {g : Nat} {i : Int} {vn vg vo : Value} (h : PCells w g i vn vg vo) (hb : Below w.heap.size w w') : PCells w' g i vn vg vo := by
  obtain ⟨hg, c0, c1, c2, c3⟩ := h
  exact ⟨Nat.lt_of_lt_of_le hg hb.size, (hb.cell (p := ⟨g, 0, none⟩) hg).trans c0, (hb.cell (p := ⟨g, 1, none⟩) hg).trans c1, (hb.cell (p := ⟨g, 2, none⟩) hg).trans c2, (hb.cell (p := ⟨g, 3, none⟩) hg).trans c3⟩
theorem PCells.boxed (w : World) (i : Int) (vn vg vo : Value) (t : TypeId) : PCells (w.alloc (.cells #[.int .i64 i, vn, vg, vo] t)) w.heap.size i vn vg vo :=
  ⟨by simp, World.cell?_alloc_new _ _ _ 0, World.cell?_alloc_new _ _ _ 1, World.cell?_alloc_new _ _ _ 2, World.cell?_alloc_new _ _ _ 3⟩
set_option maxHeartbeats 4000000 in
theorem specValid_any (v : Value) (c : Cz) (w : World) (h : CircAt w v c) :
    Calls Try.prog 39 #[v] w fun e w' => e = .returned (.bool (Cir.valid c)) ∧ Below w.heap.size w w' := by
  obtain ⟨vn, vg, vo, rfl, r1, r2, r3⟩ := h
  have hP := PCirc.boxed 31 r1 r2 r3
  have hC : CircAt (w.alloc (.cells #[.int .i64 c.ins, vn, vg, vo] 31)) (.agg #[.int .i64 c.ins, vn, vg, vo]) c := ⟨vn, vg, vo, rfl, Row.alloc r1 _, Row.alloc r2 _, Row.alloc r3 _⟩
  have hb0 : Below w.heap.size w (w.alloc (.cells #[.int .i64 c.ins, vn, vg, vo] 31)) := (Below.refl _ _).alloc (Nat.le_refl _) _
  obtain ⟨An, cn, hvn, hcn, hcmn⟩ := r1.shape
  obtain ⟨Ag, cg, hvg, hcg, hcmg⟩ := Row.shape r2
  obtain ⟨Ao, co, hvo, hco, hcmo⟩ := r3.shape
  subst hvn hvg hvo
  unfold maxLen at hcmn hcmg hcmo
  cases hs : Cir.sizes c
  · have hv : Cir.valid c = false := by unfold Cir.valid; rw [hs]; rfl
    rw [hv]
    clear hv hP hC r1 r2 r3
    have B0 := Lib.hid hb0
    clear hb0
    have hsc : (decide (0 ≤ c.ins ∧ c.ins ≤ 4) = false) ∨ (decide (0 ≤ c.ins ∧ c.ins ≤ 4) = true ∧ (3 : Int) < c.next.length) ∨ (decide (0 ≤ c.ins ∧ c.ins ≤ 4) = true ∧ (c.next.length : Int) ≤ 3 ∧ (14 : Int) < c.gates.length) ∨ (decide (0 ≤ c.ins ∧ c.ins ≤ 4) = true ∧ (c.next.length : Int) ≤ 3 ∧ (c.gates.length : Int) ≤ 14 ∧ (3 : Int) < c.outs.length) := by
      rw [decide_eq_false_iff_not, decide_eq_true_eq]
      rcases sizes_cases hs with g | ⟨g0, g1⟩ | ⟨g0, g1, g2⟩ | ⟨g0, g1, g2, g3⟩ | ⟨g0, g1, g2, g3, g4⟩
      · exact .inl (by omega)
      · exact .inl (by omega)
      · exact .inr (.inl ⟨⟨g0, g1⟩, g2⟩)
      · exact .inr (.inr (.inl ⟨⟨g0, g1⟩, g2, g3⟩))
      · exact .inr (.inr (.inr ⟨⟨g0, g1⟩, g2, g3, g4⟩))
    rcases hsc with d | ⟨d, g2⟩ | ⟨d, g2, g3⟩ | ⟨d, g2, g3, g4⟩
    all_goals
      clear hs
      have D := Lib.hid d
      clear d
      go_enter Try.func39, Try.ntmps39
      go_wp2_with fail
      refine (l1In_any _ _ _ _).mono ?_
      rintro e w' ⟨rfl, rfl⟩
      rw [D.out]
      go_wp2_with fail
      go_ret
      exact ⟨rfl, B0.out⟩
  · obtain ⟨s1, s2, s3, s4, s5⟩ : 0 ≤ c.ins ∧ c.ins ≤ 4 ∧ c.next.length ≤ 3 ∧ c.gates.length ≤ 14 ∧ c.outs.length ≤ 3 := by unfold Cir.sizes at hs; simpa using hs
    have hv : Cir.valid c = (Cir.gatesOk (Cir.first c) 0 (c.gates.drop 0) && (c.next ++ c.outs).all (Cir.isLit · (Cir.vars c))) := by unfold Cir.valid; rw [hs]; rfl
    have HV := Lib.hid hv
    have HP := Lib.hid hP
    have HC := Lib.hid hC
    have B0 := Lib.hid hb0
    have D : Hid (decide (0 ≤ c.ins ∧ c.ins ≤ 4) = true) := Lib.hid (decide_eq_true ⟨s1, s2⟩)
    have t1 : (c.next.length : Int) ≤ 3 := by omega
    have t2 : (c.gates.length : Int) ≤ 14 := by omega
    have t3 : (c.outs.length : Int) ≤ 3 := by omega
    have R2 := Lib.hid (Row.alloc r2 (.cells #[.int .i64 c.ins, .slice An c.next.length cn, .slice Ag c.gates.length cg, .slice Ao c.outs.length co] 31))
    have HF : Hid (Cir.vars c = Cir.first c + c.gates.length) := Lib.hid rfl
    have hfb : 1 ≤ Cir.first c ∧ Cir.first c ≤ 10 := by unfold Cir.first; omega
    obtain ⟨hf1, hf2⟩ := hfb
    clear hs hv hP hC hb0 r2
    generalize Cir.valid c = res at HV ⊢
    have R1x := Lib.hid r1
    have R3x := Lib.hid r3
    clear r1 r3
    go_enter Try.func39, Try.ntmps39
    go_wp2_with fail
    refine (l1In_any _ _ _ _).mono ?_
    rintro e w' ⟨rfl, rfl⟩
    rw [D.out]
    go_wp2_with fail
    refine (l1First_any _ c _ HC.out s1 (by omega) (by omega)).mono ?_
    rintro e w1 ⟨rfl, hb1⟩
    have B1 := Lib.hid (B0.out.trans (hb1.mono (by simp)))
    have R21 := Lib.hid (Row.below R2.out hb1)
    have RN := Lib.hid (Row.below (Row.alloc R1x.out (.cells #[.int .i64 c.ins, .slice An c.next.length cn, .slice Ag c.gates.length cg, .slice Ao c.outs.length co] 31)) hb1)
    have RO := Lib.hid (Row.below (Row.alloc R3x.out (.cells #[.int .i64 c.ins, .slice An c.next.length cn, .slice Ag c.gates.length cg, .slice Ao c.outs.length co] 31)) hb1)
    have K1 := Lib.hid ((PCells.boxed w c.ins (.slice An c.next.length cn) (.slice Ag c.gates.length cg) (.slice Ao c.outs.length co) 31).below hb1)
    clear hb1 R1x R3x HC B0 R2
    go_wp2_with fail
    go_loopw [4] (fun t wr => ∃ k : Nat, k ≤ c.gates.length ∧ t = .int .i64 k ∧ Hid (res = (Cir.gatesOk (Cir.first c) k (c.gates.drop k) && (c.next ++ c.outs).all (Cir.isLit · (Cir.vars c)))) ∧ Below w1.heap.size w1 wr) (fun t _ => c.gates.length - (intOf t).toNat)
    case atStart => exact ⟨0, Nat.zero_le _, rfl, HV, Below.refl _ _⟩
    case round =>
      obtain ⟨k, hk, rfl, hres, hb⟩ := hrel
      obtain ⟨kg, k0, k1, k2, k3⟩ := K1.out.below hb
      have Hb := Lib.hid hb
      have hz1 := B1.out.size
      have hz2 := hb.size
      by_cases hlt : k < c.gates.length
      · obtain ⟨b, o, x, rfl, hbl, hx, hs1, hs2⟩ := cubes_open R21.out hb rfl hlt
        have Hstep := Lib.hid (Cir.gatesOk_drop (f := Cir.first c) hx.out)
        have hbr : b < wr.heap.size := by omega
        have hwf := IntWalk.i64_in (Cir.first c + k) (by omega)
        clear hb HV
        have hV : -1000000 ≤ Cir.first c + k ∧ Cir.first c + k ≤ 1000000 := by omega
        obtain ⟨bb, hbb⟩ : ∃ bb, [x.1, x.2].all (Cir.isLit · (Cir.first c + k)) = bb := ⟨_, rfl⟩
        have HL : Hid (∀ w2 : World, Calls Try.prog 96 #[.slice (some ⟨w2.heap.size, 0, none⟩) 2 2, .int .i64 (Cir.first c + k)] (w2.alloc (.cells #[.int .i64 x.1, .int .i64 x.2] 3)).drew fun e w' => e = .returned (.bool bb) ∧ (w2.alloc (.cells #[.int .i64 x.1, .int .i64 x.2] 3)).drew = w') := Lib.hid fun w2 => by
          rw [← hbb]
          exact l1Lits_any _ [x.1, x.2] _ _ (Row.of_own (World.ownsRow_lit (base := 0) (e := 3) (size := 1) w2 #[.int .i64 x.1, .int .i64 x.2] 2 (Nat.zero_le _) (by unfold maxLen; omega) rfl)) hV.1 hV.2
        have hbb' : (Cir.isLit x.1 (Cir.first c + k) && Cir.isLit x.2 (Cir.first c + k)) = bb := by rw [← hbb]; simp
        cases bb
        · have hr : res = false := by rw [hres.out, Hstep.out, hbb']; rfl
          subst hr
          clear hbb hbb'
          go_wp2_with fail
          go_region_with ((go_at_call 96; refine (HL.out _).mono ?_; rintro e w' ⟨rfl, rfl⟩))
          all_goals
            go_wp2_with fail
            go_ret
            exact ⟨rfl, B1.out.trans (((Hb.out.alloc hz2 _).drew).mono hz1)⟩
        · have Hn : Hid (res = (Cir.gatesOk (Cir.first c) (k + 1) (c.gates.drop (k + 1)) && (c.next ++ c.outs).all (Cir.isLit · (Cir.vars c)))) := Lib.hid (by rw [hres.out, Hstep.out, hbb']; rfl)
          clear hbb hbb'
          go_wp2_with fail
          go_region_with ((go_at_call 96; refine (HL.out _).mono ?_; rintro e w' ⟨rfl, rfl⟩))
          all_goals
            go_wp2_with fail
            go_roundw
            case rel => exact ⟨k + 1, by omega, by go_num, Hn, (Hb.out.alloc hz2 _).drew⟩
            case measure => simp [intOf] <;> omega
      · have hr : Hid (res = (c.next.all (Cir.isLit · (Cir.first c + c.gates.length)) && c.outs.all (Cir.isLit · (Cir.first c + c.gates.length)))) := Lib.hid (by rw [hres.out, List.drop_eq_nil_of_le (by omega : c.gates.length ≤ k), HF.out, List.all_append]; rfl)
        have HRN := Lib.hid (Row.below RN.out hb)
        have HRO := Lib.hid (Row.below RO.out hb)
        have B2 := Lib.hid (B1.out.trans (hb.mono hz1))
        have hV : -1000000 ≤ Cir.first c + c.gates.length ∧ Cir.first c + c.gates.length ≤ 1000000 := by omega
        have hwf := IntWalk.i64_in (Cir.first c + c.gates.length) (by omega)
        clear hres hb HV
        have hL1 := l1Lits_any _ c.next (Cir.first c + c.gates.length) wr HRN.out hV.1 hV.2
        have hL2 := l1Lits_any _ c.outs (Cir.first c + c.gates.length) wr HRO.out hV.1 hV.2
        cases h1 : c.next.all (Cir.isLit · (Cir.first c + c.gates.length))
        · rw [h1] at hL1
          have HL1 := Lib.hid hL1
          have hrr : res = false := by rw [hr.out, h1]; rfl
          subst hrr
          clear hL1 hL2 h1
          go_wp2_with fail
          refine HL1.out.mono ?_
          rintro e w' ⟨rfl, rfl⟩
          go_wp2_with fail
          go_ret
          exact ⟨rfl, B2.out⟩
        · rw [h1] at hL1
          have HL1 := Lib.hid hL1
          have HL2 := Lib.hid hL2
          have hrr : Hid (res = c.outs.all (Cir.isLit · (Cir.first c + c.gates.length))) := Lib.hid (by rw [hr.out, h1]; rfl)
          clear hL1 hL2 h1
          go_wp2_with fail
          refine HL1.out.mono ?_
          rintro e w' ⟨rfl, rfl⟩
          go_wp2_with fail
          refine HL2.out.mono ?_
          rintro e w' ⟨rfl, rfl⟩
          go_wp2_with fail
          go_ret
          exact ⟨ret_bool hrr.out.symm, B2.out⟩
end Go.Proofs.Ytlbfejdbfhgifaa

namespace Go.Proofs.Ytlbfejdbfhgifaa
open Go.RowKit
/-! What laws do with circuits. -/
theorem cells_alloc {w : World} {g : Nat} {i : Int} {vn vg vo : Value} (h : PCells w g i vn vg vo) (o : Obj) : PCells (w.alloc o) g i vn vg vo := h.below ((Below.refl _ _).alloc (Nat.le_refl _) _)
/-- szCircuit, at 1 << 20. -/
def SzCir (c : Cz) (w : World) (e : Ending) (w' : World) : Prop :=
  ∃ r : Int, e = .returned (.int .i64 r) ∧ (r = -1 ∨ (0 ≤ r ∧ r ≤ 1048576 ∧ c.next.length ≤ 1048576 ∧ c.gates.length ≤ 1048576 ∧ c.outs.length ≤ 1048576)) ∧ Below w.heap.size w w'
theorem szCircuit_any (v : Value) (c : Cz) (w : World) (h : CircAt w v c) :
    Calls Try.prog 10 #[v, .int .i64 1048576] w (SzCir c w) := by
  obtain ⟨vn, vg, vo, rfl, r1, r2, r3⟩ := h
  have R1 := Lib.hid r1
  have R2 : Hid (Row w 2 vg c.gates.length (cubes c.gates)) := Lib.hid r2
  have R3 := Lib.hid r3
  have B : Hid (∀ t, Below w.heap.size w (w.alloc (.cells #[.int .i64 c.ins, vn, vg, vo] t))) := Lib.hid fun t => (Below.refl _ _).alloc (Nat.le_refl _) _
  clear r1 r2 r3
  generalize c.ins = i at *
  by_cases h1 : (c.next.length : Int) ≤ 1048576
  · have l1 : ¬ ((1048576 : Int) - c.next.length < 0) := by omega
    by_cases h2 : (c.gates.length : Int) ≤ 1048576 - c.next.length
    · have l2 : ¬ ((1048576 : Int) - c.next.length - c.gates.length < 0) := by omega
      by_cases h3 : (c.outs.length : Int) ≤ 1048576 - c.next.length - c.gates.length
      · have l3 : ¬ ((1048576 : Int) - c.next.length - c.gates.length - c.outs.length < 0) := by omega
        go_enter Try.func10, Try.ntmps10
        go_wp2_with fail
        refine (szIntS_ok vn _ _ _ _ (Row.alloc R1.out _) (by omega) h1).mono ?_
        rintro e w' ⟨rfl, rfl⟩
        go_wp2_with fail
        refine (szGateS_ok vg _ _ _ _ (Row.alloc R2.out _) (by omega) h2).mono ?_
        rintro e w' ⟨rfl, rfl⟩
        go_wp2_with fail
        refine (szIntS_ok vo _ _ _ _ (Row.alloc R3.out _) (by omega) h3).mono ?_
        rintro e w' ⟨rfl, rfl⟩
        go_wp2_with fail
        go_ret
        exact ⟨_, rfl, .inr ⟨by omega, by omega, by omega, by omega, by omega⟩, B.out _⟩
      · go_enter Try.func10, Try.ntmps10
        go_wp2_with fail
        refine (szIntS_ok vn _ _ _ _ (Row.alloc R1.out _) (by omega) h1).mono ?_
        rintro e w' ⟨rfl, rfl⟩
        go_wp2_with fail
        refine (szGateS_ok vg _ _ _ _ (Row.alloc R2.out _) (by omega) h2).mono ?_
        rintro e w' ⟨rfl, rfl⟩
        go_wp2_with fail
        refine (szIntS_no vo _ _ _ _ (Row.alloc R3.out _) (by omega) (by omega) (by omega)).mono ?_
        rintro e w' ⟨rfl, rfl⟩
        go_wp2_with fail
        go_ret
        exact ⟨_, rfl, .inl rfl, B.out _⟩
    · go_enter Try.func10, Try.ntmps10
      go_wp2_with fail
      refine (szIntS_ok vn _ _ _ _ (Row.alloc R1.out _) (by omega) h1).mono ?_
      rintro e w' ⟨rfl, rfl⟩
      go_wp2_with fail
      refine (szGateS_no vg _ _ _ _ (Row.alloc R2.out _) (by omega) (by omega)).mono ?_
      rintro e w' ⟨rfl, rfl⟩
      go_wp2_with fail
      go_ret
      exact ⟨_, rfl, .inl rfl, B.out _⟩
  · go_enter Try.func10, Try.ntmps10
    go_wp2_with fail
    refine (szIntS_no vn _ _ _ _ (Row.alloc R1.out _) (by omega) (by omega) (by omega)).mono ?_
    rintro e w' ⟨rfl, rfl⟩
    go_wp2_with fail
    go_ret
    exact ⟨_, rfl, .inl rfl, B.out _⟩
/-- What toCircuit makes: slices of its own, in blocks apart. -/
def OwnCirc (b : Nat) (v : Value) (c : Cz) (w : World) : Prop :=
  ∃ vn vg vo b2 b3, v = .agg #[.int .i64 c.ins, vn, vg, vo] ∧ b ≤ b2 ∧ b2 ≤ b3 ∧ (∀ g, vn.ownBlock = some g → g < b2) ∧ (∀ g, vg.ownBlock = some g → g < b3) ∧
    w.ownsRow b 3 1 vn c.next.length (ints c.next) ∧ w.ownsRow b2 55 2 vg c.gates.length (cubes c.gates) ∧ w.ownsRow b3 3 1 vo c.outs.length (ints c.outs)
theorem OwnCirc.at {b : Nat} {v : Value} {c : Cz} {w : World} (h : OwnCirc b v c w) : CircAt w v c := by
  obtain ⟨vn, vg, vo, b2, b3, hv, _, _, _, _, h1, h2, h3⟩ := h
  exact ⟨vn, vg, vo, hv, Row.of_own h1, Row.of_own h2, Row.of_own h3⟩
theorem OwnCirc.below {b : Nat} {v : Value} {c : Cz} {w w' : World} (h : OwnCirc b v c w) (hb : Below w.heap.size w w') : OwnCirc b v c w' := by
  obtain ⟨vn, vg, vo, b2, b3, hv, e1, e2, e3, e4, h1, h2, h3⟩ := h
  exact ⟨vn, vg, vo, b2, b3, hv, e1, e2, e3, e4, own_below h1 hb, own_below h2 hb, own_below h3 hb⟩
def ToCir (c : Cz) (w : World) (e : Ending) (w' : World) : Prop := ∃ v, e = .returned v ∧ OwnCirc w.heap.size v c w' ∧ Below w.heap.size w w'
theorem toCircuit_any (v : Value) (c : Cz) (w : World) (h : CircAt w v c) (l1 : c.next.length ≤ 1048576) (l2 : c.gates.length ≤ 1048576) (l3 : c.outs.length ≤ 1048576) :
    Calls Try.prog 12 #[v] w (ToCir c w) := by
  obtain ⟨vn, vg, vo, rfl, r1, r2, r3⟩ := h
  have R1 := Lib.hid r1
  have R2 := Lib.hid r2
  have R3 := Lib.hid r3
  clear r1 r2 r3
  go_enter Try.func12, Try.ntmps12
  go_wp2_with fail
  generalize hW : (((w.alloc (.cells #[.int .i64 c.ins, vn, vg, vo] 25)).alloc (.cells #[.int .i64 0, .slice none 0 0, .slice none 0 0, .slice none 0 0] 31)).alloc (.cells #[.int .i64 c.ins, .slice none 0 0, .slice none 0 0, .slice none 0 0] 31)) = W
  have hB0 : Below w.heap.size w W := by rw [← hW]; exact (((Below.refl _ _).alloc (Nat.le_refl _) _).alloc (by simp) _).alloc (by simp; omega) _
  have hsz : W.heap.size = w.heap.size + 3 := by rw [← hW]; simp
  have h0 : W.heap[w.heap.size]? = some (.cells #[.int .i64 c.ins, vn, vg, vo] 25 (0, 0)) := by
    rw [← hW, heap_alloc_old _ _ (by simp; omega), heap_alloc_old _ _ (by simp), heap_alloc_new]
  have h1 : W.heap[w.heap.size + 1]? = some (.cells #[.int .i64 0, .slice none 0 0, .slice none 0 0, .slice none 0 0] 31 (0, 0)) := by
    rw [← hW, heap_alloc_old _ _ (by simp)]
    have := heap_alloc_new (w.alloc (.cells #[.int .i64 c.ins, vn, vg, vo] 25)) (.cells #[.int .i64 0, .slice none 0 0, .slice none 0 0, .slice none 0 0] 31)
    rwa [World.size_alloc] at this
  have h2 : W.heap[w.heap.size + 1 + 1]? = some (.cells #[.int .i64 c.ins, .slice none 0 0, .slice none 0 0, .slice none 0 0] 31 (0, 0)) := by
    rw [← hW]
    have := heap_alloc_new ((w.alloc (.cells #[.int .i64 c.ins, vn, vg, vo] 25)).alloc (.cells #[.int .i64 0, .slice none 0 0, .slice none 0 0, .slice none 0 0] 31)) (.cells #[.int .i64 c.ins, .slice none 0 0, .slice none 0 0, .slice none 0 0] 31)
    rwa [World.size_alloc, World.size_alloc] at this
  clear hW
  refine (toIntS_any vn _ _ (Row.below R1.out hB0) l1).mono ?_
  rintro e w1 ⟨v1, rfl, hown1, hb1⟩
  obtain ⟨A1, q1, hv1, _, _⟩ := (Row.of_own hown1).shape
  subst hv1
  have k0 := (hb1.block w.heap.size (by omega)).trans h0
  have k1 := (hb1.block (w.heap.size + 1) (by omega)).trans h1
  have k2 := (hb1.block (w.heap.size + 1 + 1) (by omega)).trans h2
  have p2 : w1.cell? ⟨w.heap.size, 2, none⟩ = some vg := blk_cell k0 2
  have c1 : w1.cell? ⟨w.heap.size + 1 + 1, 1, none⟩ = some (.slice none 0 0) := blk_cell k2 1
  have f1 := blk_free k2 1
  have Ho1 := Lib.hid hown1
  have HB1 := Lib.hid (hB0.trans (hb1.mono hB0.size))
  have z1 := hb1.size
  have K0 := Lib.hid k0
  have K1 := Lib.hid k1
  have K2 := Lib.hid k2
  clear hown1 hb1 h0 h1 h2 hB0 k0 k1 k2
  go_wp2_with fail
  have K0 := Lib.hid ((heap_setCell_other w1 ⟨w.heap.size + 1 + 1, 1, none⟩ w.heap.size (.slice A1 c.next.length q1) (by simp only; omega)).trans K0.out)
  have K1 := Lib.hid ((heap_setCell_other w1 ⟨w.heap.size + 1 + 1, 1, none⟩ (w.heap.size + 1) (.slice A1 c.next.length q1) (by simp only; omega)).trans K1.out)
  have K2 := Lib.hid (heap_setCell_same w1 (w.heap.size + 1 + 1) 1 _ _ (.slice A1 c.next.length q1) K2.out)
  have HB1 := Lib.hid (HB1.out.setCell (p := ⟨w.heap.size + 1 + 1, 1, none⟩) (by simp only; omega) (.slice A1 c.next.length q1))
  have Ho1 := Lib.hid (own_kept Ho1.out (set_grown w1 (w.heap.size + 1 + 1) 1 (.slice A1 c.next.length q1)) (fun q hq e => by have h1 := (Ho1.out.lt q hq).1; have h2 := Option.some.inj e; omega))
  have z1 : W.heap.size ≤ (w1.setCell ⟨w.heap.size + 1 + 1, 1, none⟩ (.slice A1 c.next.length q1)).heap.size := Nat.le_trans z1 (set_grown w1 (w.heap.size + 1 + 1) 1 _).size
  generalize w1.setCell ⟨w.heap.size + 1 + 1, 1, none⟩ (.slice A1 c.next.length q1) = w1' at *
  have L1 : Hid (∀ q, (Value.slice A1 c.next.length q1).ownBlock = some q → q < w1'.heap.size) := Lib.hid fun q hq => (Ho1.out.lt q hq).2
  refine (toGateS_any vg _ _ (Row.below R2.out HB1.out) l2).mono ?_
  rintro e w2 ⟨v2, rfl, hown2, hb2⟩
  obtain ⟨A2, q2, hv2, _, _⟩ := (Row.of_own hown2).shape
  subst hv2
  have k0 := (hb2.block w.heap.size (by omega)).trans K0.out
  have k1 := (hb2.block (w.heap.size + 1) (by omega)).trans K1.out
  have k2 := (hb2.block (w.heap.size + 1 + 1) (by omega)).trans K2.out
  have p3 : w2.cell? ⟨w.heap.size, 3, none⟩ = some vo := blk_cell k0 3
  have c2 : w2.cell? ⟨w.heap.size + 1 + 1, 2, none⟩ = some (.slice none 0 0) := blk_cell k2 2
  have f2 := blk_free k2 2
  have Ho12 := Lib.hid (own_below Ho1.out hb2)
  have Ho2 := Lib.hid hown2
  have HB2 := Lib.hid (HB1.out.trans (hb2.mono HB1.out.size))
  have z2 := hb2.size
  have K0 := Lib.hid k0
  have K1 := Lib.hid k1
  have K2 := Lib.hid k2
  clear hown2 hb2 k0 k1 k2 p2 c1 f1 Ho1 HB1
  go_wp2_with fail
  have K1 := Lib.hid ((heap_setCell_other w2 ⟨w.heap.size + 1 + 1, 2, none⟩ (w.heap.size + 1) (.slice A2 c.gates.length q2) (by simp only; omega)).trans K1.out)
  have K2 := Lib.hid (heap_setCell_same w2 (w.heap.size + 1 + 1) 2 _ _ (.slice A2 c.gates.length q2) K2.out)
  have HB2 := Lib.hid (HB2.out.setCell (p := ⟨w.heap.size + 1 + 1, 2, none⟩) (by simp only; omega) (.slice A2 c.gates.length q2))
  have Ho12 := Lib.hid (own_kept Ho12.out (set_grown w2 (w.heap.size + 1 + 1) 2 (.slice A2 c.gates.length q2)) (fun q hq e => by have h1 := (Ho12.out.lt q hq).1; have h2 := Option.some.inj e; omega))
  have Ho2 := Lib.hid (own_kept Ho2.out (set_grown w2 (w.heap.size + 1 + 1) 2 (.slice A2 c.gates.length q2)) (fun q hq e => by have h1 := (Ho2.out.lt q hq).1; have h2 := Option.some.inj e; omega))
  have z2 : w1'.heap.size ≤ (w2.setCell ⟨w.heap.size + 1 + 1, 2, none⟩ (.slice A2 c.gates.length q2)).heap.size := Nat.le_trans z2 (set_grown w2 (w.heap.size + 1 + 1) 2 _).size
  generalize w2.setCell ⟨w.heap.size + 1 + 1, 2, none⟩ (.slice A2 c.gates.length q2) = w2' at *
  have L2 : Hid (∀ q, (Value.slice A2 c.gates.length q2).ownBlock = some q → q < w2'.heap.size) := Lib.hid fun q hq => (Ho2.out.lt q hq).2
  refine (toIntS_any vo _ _ (Row.below R3.out HB2.out) l3).mono ?_
  rintro e w3 ⟨v3, rfl, hown3, hb3⟩
  obtain ⟨A3, q3, hv3, _, _⟩ := (Row.of_own hown3).shape
  subst hv3
  have k1 := (hb3.block (w.heap.size + 1) (by omega)).trans K1.out
  have k2 := (hb3.block (w.heap.size + 1 + 1) (by omega)).trans K2.out
  have c0 : w3.cell? ⟨w.heap.size + 1 + 1, 0, none⟩ = some (.int .i64 c.ins) := blk_cell k2 0
  have c1 : w3.cell? ⟨w.heap.size + 1 + 1, 1, none⟩ = some (.slice A1 c.next.length q1) := blk_cell k2 1
  have c2 : w3.cell? ⟨w.heap.size + 1 + 1, 2, none⟩ = some (.slice A2 c.gates.length q2) := blk_cell k2 2
  have c3 : w3.cell? ⟨w.heap.size + 1 + 1, 3, none⟩ = some (.slice none 0 0) := blk_cell k2 3
  have f3 := blk_free k2 3
  have o0 : w3.cell? ⟨w.heap.size + 1, 0, none⟩ = some (.int .i64 0) := blk_cell k1 0
  have o1 : w3.cell? ⟨w.heap.size + 1, 1, none⟩ = some (.slice none 0 0) := blk_cell k1 1
  have o2 : w3.cell? ⟨w.heap.size + 1, 2, none⟩ = some (.slice none 0 0) := blk_cell k1 2
  have o3 : w3.cell? ⟨w.heap.size + 1, 3, none⟩ = some (.slice none 0 0) := blk_cell k1 3
  have b0 := blk_free k1 0
  have b1 := blk_free k1 1
  have b2 := blk_free k1 2
  have b3 := blk_free k1 3
  have Ho13 := Lib.hid (own_below Ho12.out hb3)
  have Ho23 := Lib.hid (own_below Ho2.out hb3)
  have Ho3 := Lib.hid hown3
  have HB3 := Lib.hid (HB2.out.trans (hb3.mono HB2.out.size))
  have z3 := hb3.size
  clear hown3 hb3 k1 k2 K0 K1 K2 Ho12 Ho2 HB2 p3 f2
  go_wp2_with fail
  refine bodyPost_ret (v := .agg #[.int .i64 c.ins, .slice A1 c.next.length q1, .slice A2 c.gates.length q2, .slice A3 c.outs.length q3]) (by simp [results, Try.results12, go_sem, o0, o1, o2, o3]) rfl ⟨_, rfl, ⟨_, _, _, w1'.heap.size, w2'.heap.size, rfl, by omega, by omega, L1.out, L2.out, ?_, ?_, ?_⟩, ?_⟩
  · exact own_mono (own_set (own_set (own_set (own_set (own_set Ho13.out (by omega)) (by omega)) (by omega)) (by omega)) (by omega)) (by omega)
  · exact own_set (own_set (own_set (own_set (own_set Ho23.out (by omega)) (by omega)) (by omega)) (by omega)) (by omega)
  · exact own_set (own_set (own_set (own_set (own_set Ho3.out (by omega)) (by omega)) (by omega)) (by omega)) (by omega)
  · exact ((((HB3.out.setCell (by simp only; omega) _).setCell (by simp only; omega) _).setCell (by simp only; omega) _).setCell (by simp only; omega) _).setCell (by simp only; omega) _
/-- eqCircuit of one and the same. -/
theorem eqCircuit_same (v v2 : Value) (c : Cz) (w : World) (h : CircAt w v c) (h2 : CircAt w v2 c) (l1 : c.next.length ≤ 1048576) (l3 : c.outs.length ≤ 1048576) :
    Calls Try.prog 15 #[v, v2] w fun e w' => e = .returned (.bool true) ∧ Below w.heap.size w w' := by
  obtain ⟨vn, vg, vo, rfl, r1, r2, r3⟩ := h
  obtain ⟨un, ug, uo, rfl, s1, s2, s3⟩ := h2
  have P1 := Lib.hid (cells_alloc (PCells.boxed w c.ins vn vg vo 31) (.cells #[.int .i64 c.ins, un, ug, uo] 31))
  have P2 : Hid (PCells ((w.alloc (.cells #[.int .i64 c.ins, vn, vg, vo] 31)).alloc (.cells #[.int .i64 c.ins, un, ug, uo] 31)) (w.heap.size + 1) c.ins un ug uo) := Lib.hid (by have := PCells.boxed (w.alloc (.cells #[.int .i64 c.ins, vn, vg, vo] 31)) c.ins un ug uo 31; simpa using this)
  have B0 : Hid (Below w.heap.size w ((w.alloc (.cells #[.int .i64 c.ins, vn, vg, vo] 31)).alloc (.cells #[.int .i64 c.ins, un, ug, uo] 31))) := Lib.hid (((Below.refl _ _).alloc (Nat.le_refl _) _).alloc (by simp) _)
  have R1 := Lib.hid r1
  have R2 := Lib.hid r2
  have R3 := Lib.hid r3
  have S1 := Lib.hid s1
  have S2 := Lib.hid s2
  have S3 := Lib.hid s3
  clear r1 r2 r3 s1 s2 s3
  have hn : ((c.ins : Int) != c.ins) = false := by simp
  go_enter Try.func15, Try.ntmps15
  go_wp2_with fail
  generalize hW : ((w.alloc (.cells #[.int .i64 c.ins, vn, vg, vo] 31)).alloc (.cells #[.int .i64 c.ins, un, ug, uo] 31)) = W at *
  refine (eqIntS_any vn un _ _ _ (Row.below R1.out (by rw [← hW]; exact ((Below.refl _ _).alloc (Nat.le_refl _) _).alloc (by simp) _)) (Row.below S1.out (by rw [← hW]; exact ((Below.refl _ _).alloc (Nat.le_refl _) _).alloc (by simp) _)) l1).mono ?_
  rintro e w1 ⟨rfl, hd1⟩
  rw [show decide (c.next = c.next) = true from decide_eq_true rfl]
  have hb1 : Below W.heap.size W w1 := hd1.below _
  have B1 := Lib.hid (B0.out.trans (hb1.mono B0.out.size))
  obtain ⟨z1, p10, p11, p12, p13⟩ := P1.out.below hb1
  obtain ⟨z2, p20, p21, p22, p23⟩ := P2.out.below hb1
  clear hb1 hd1
  go_wp2_with fail
  refine (eqGateS_any vg ug _ _ _ (Row.below R2.out B1.out) (Row.below S2.out B1.out)).mono ?_
  rintro e w2 ⟨rfl, hb2⟩
  rw [show decide (c.gates = c.gates) = true from decide_eq_true rfl]
  have q13 := (hb2.cell (p := ⟨w.heap.size, 3, none⟩) z1).trans p13
  have q23 := (hb2.cell (p := ⟨w.heap.size + 1, 3, none⟩) z2).trans p23
  have B2 := Lib.hid (B1.out.trans (hb2.mono B1.out.size))
  clear hb2 p10 p11 p12 p13 p20 p21 p22 p23
  go_wp2_with fail
  refine (eqIntS_any vo uo _ _ _ (Row.below R3.out B2.out) (Row.below S3.out B2.out) l3).mono ?_
  rintro e w3 ⟨rfl, hd3⟩
  rw [show decide (c.outs = c.outs) = true from decide_eq_true rfl]
  have B3 := Lib.hid (B2.out.trans ((hd3.below w2.heap.size).mono B2.out.size))
  clear hd3
  go_wp2_with fail
  go_ret
  exact ⟨rfl, B3.out⟩
end Go.Proofs.Ytlbfejdbfhgifaa

namespace Go.Proofs.Ytlbfejdbfhgifaa
open Go.RowKit
/-! What laws do with slices of booleans. -/
theorem info_bool : (Try.prog.info? 4).map (fun i => (i.zero, i.size, i.bytes)) = some (some (.bool false), 1, 1) := by kernel_rfl

end Go.Proofs.Ytlbfejdbfhgifaa

namespace Go.Proofs.Ytlbfejdbfhgifaa
open Go.RowKit
/-! The values of a circuit, by the reference. -/
theorem bools_open {w wr : World} {A : Option Addr} {n c : Nat} {xs : List Bool} (h : Row w 1 (.slice A n c) n (bools xs)) (hb : Below w.heap.size w wr) {i : Nat} (hn : n = xs.length) (hi : i < xs.length) :
    ∃ b o x, A = some ⟨b, o, none⟩ ∧ b < w.heap.size ∧ Hid (xs[i]? = some x) ∧ wr.cell? ⟨b, o + i, none⟩ = some (.bool x) := by
  subst hn
  obtain ⟨b, o, c', hv, _, _, hbl, hcell⟩ := h.open (by omega)
  obtain ⟨rfl, _⟩ : A = some ⟨b, o, none⟩ ∧ True := by injection hv with e1; exact ⟨e1, trivial⟩
  obtain ⟨x, hx, hs⟩ := bools_at hi
  exact ⟨b, o, x, rfl, hbl, Lib.hid hx, (hb.cell (p := ⟨b, _, none⟩) hbl).trans (hcell _ _ hs)⟩
theorem tmod_two (y : Nat) : (y : Int).tmod 2 = ((y % 2 : Nat) : Int) := by
  rw [Int.tmod_eq_emod_of_nonneg (by omega)]
  omega
theorem lit_of {v : List Bool} {l : Nat} {x : Bool} (h : v[l / 2]? = some x) : Cir.lit v l = (x != (l % 2 == 1)) := by
  unfold Cir.lit
  rw [List.getD_eq_getElem?_getD, h]
  rfl
theorem l2Lit_any (v : Value) (xs : List Bool) (l : Nat) (w : World) (h : BoolsAt w v xs) (hl : l < 2 * xs.length) (hb : l ≤ 1000000) :
    Calls Try.prog 126 #[v, .int .i64 l] w fun e w' => e = .returned (.bool (Cir.lit xs l)) ∧ w = w' := by
  obtain ⟨A, c, hv, hc, hcm⟩ := Row.shape h
  subst hv
  have hi : l / 2 < xs.length := by omega
  obtain ⟨b, o, x, rfl, hbl, hx, hs⟩ := bools_open h (Below.refl _ _) rfl hi
  have HL := Lib.hid (lit_of hx.out)
  have hq : (l : Int).tdiv 2 = ((l / 2 : Nat) : Int) := by rw [Int.tdiv_eq_ediv_of_nonneg (by omega)]; omega
  have hm : (l : Int).tmod 2 = ((l % 2 : Nat) : Int) := by rw [Int.tmod_eq_emod_of_nonneg (by omega)]; omega
  have he : (((l % 2 : Nat) : Int) == 1) = (l % 2 == 1) := by
    rw [Bool.eq_iff_iff, beq_iff_eq, beq_iff_eq]
    omega
  have hqb : l / 2 ≤ 1000000 := by omega
  generalize l / 2 = q at *
  generalize l % 2 = r at *
  have hwr : IntKind.i64.wrap (q : Int) = q := IntWalk.i64_in _ (by omega)
  go_enter Try.func126, Try.ntmps126
  go_wp2
  go_ret
  refine ⟨ret_bool ?_, rfl⟩
  rw [HL.out]
  simp
  generalize (r == 1) = p
  cases x <;> cases p <;> rfl
theorem append_bools {w : World} {ops : Array Oper} {rest : List Oper} {o : Oper} {a : Act} {Q : Exit → Act → World → Prop} (hgd : o.guard = none) (s x : Operand)
    (ho : o.op = .call { callee := .builtin .append, args := #[s, x], argTypes := #[62, 62] })
    (base : Nat) (v : Value) (n : Nat) (xs : List Value) (hs : a.eval s = v) (hown : w.ownsRow base 4 1 v n xs) (sv : Value) (m : Nat) (news : List Value) (hx : a.eval x = sv) (hr : Row w 1 sv m news) (h1 : ∀ u ∈ news, u.oneCell' = true)
    (h63 : n + m ≤ 10000000) (hbase : base ≤ w.heap.size)
    (h : ∀ v' w', w'.ownsRow base 4 1 v' (n + m) (xs ++ news) → w.grownBy w' v.ownBlock → (v'.ownBlock = v.ownBlock ∨ v'.ownBlock = some w.heap.size) → wpList Try.prog ops Q rest (a.put o.dst v') w') : wpList Try.prog ops Q (o :: rest) a w := by
  obtain ⟨i, hi, hz0, hz1, hz2⟩ := info_parts info_bool
  exact wpList_append_at hgd s x 62 ho base 4 i _ 1 1 Try.underlying62 hi hz0 hz1 hz2 rfl (by decide) v n xs hs hown sv m news hx hr h1 (by unfold maxLen; omega) (by omega) hbase h
theorem bools_one (xs : List Bool) : ∀ u ∈ bools xs, u.oneCell' = true := by
  intro u hu
  obtain ⟨x, _, rfl⟩ := List.mem_map.1 hu
  rfl
theorem bools_append (a b : List Bool) : bools (a ++ b) = bools a ++ bools b := List.map_append
def OwnBools (xs : List Bool) (w : World) (e : Ending) (w' : World) : Prop := ∃ v, e = .returned v ∧ w'.ownsRow w.heap.size 4 1 v xs.length (bools xs) ∧ Below w.heap.size w w'
theorem l4Bits_any (x n : Nat) (w : World) (hx : x ≤ 1000000) (hn : n ≤ 16) :
    Calls Try.prog 41 #[.int .i64 x, .int .i64 n] w (OwnBools (Cir.bits x n) w) := by
  go_enter Try.func41, Try.ntmps41
  go_wp2_with fail
  go_loopw [5, 6] (fun v i wr => ∃ (vv : Value) (k : Nat), vv = v ∧ k ≤ n ∧ i = .int .i64 k ∧ Hid (wr.ownsRow w.heap.size 4 1 v k (bools (Cir.bits x k))) ∧ Below w.heap.size w wr) (fun _ i _ => n - (intOf i).toNat)
  case atStart => exact ⟨_, 0, rfl, Nat.zero_le _, rfl, Lib.hid (World.ownsRow_lit (base := w.heap.size) (e := 4) (size := 1) w #[] 0 (Nat.le_refl _) (by unfold maxLen; omega) rfl), (Below.refl _ _).alloc (Nat.le_refl _) _⟩
  case round =>
    obtain ⟨vv, k, hvv, hk, rfl, Ho, hb⟩ := hrel
    subst hvv
    by_cases hlt : k < n
    · have hz := hb.size
      have Hb := Lib.hid hb
      have HS : Hid (bools (Cir.bits x (k + 1)) = bools (Cir.bits x k) ++ [.bool (x.testBit k)]) := Lib.hid (by unfold Cir.bits; rw [List.range_succ, List.map_append, bools_append]; rfl)
      have hq : (x : Int) / 2 ^ k = ((x / 2 ^ k : Nat) : Int) := by
        rw [Int.natCast_ediv, two_pow]
      have hm := tmod_two (x / 2 ^ k)
      have he : (((x / 2 ^ k % 2 : Nat) : Int) == 1) = x.testBit k := by
        rw [Nat.testBit_eq_decide_div_mod_eq, Bool.eq_iff_iff, beq_iff_eq, decide_eq_true_iff]
        omega
      generalize x / 2 ^ k = y at hq hm he
      generalize y % 2 = r at hm he
      generalize x.testBit k = b at *
      have Hlit := Lib.hid (Row.of_own (World.ownsRow_lit (base := wr.heap.size) (e := 4) (size := 1) wr #[.bool b] 1 (Nat.le_refl _) (by unfold maxLen; omega) rfl))
      clear hb
      go_wp2_with (at_builtin; refine append_bools rfl (.tmp 13) (.tmp 19) rfl w.heap.size _ k _ rfl (Ho.out.alloc _) _ 1 [.bool b] rfl Hlit.out (by simp [Value.oneCell']) (by omega) (by simp; omega) ?_; intro v7 w7 hown7 hg7 hat7; have Ho7 := Lib.hid hown7; have Hg7 := Lib.hid hg7; clear hown7 hg7 hat7)
      go_roundw
      case rel => exact ⟨_, k + 1, rfl, by omega, by go_num, Lib.hid (by rw [HS.out]; exact Ho7.out), (Hb.out.alloc hz _).grown Hg7.out (Hb.out.alloc hz _).size (own_ge0 Ho.out)⟩
      case measure => simp [intOf] <;> omega
    · obtain rfl : k = n := by omega
      go_wp2
      go_ret
      exact ⟨_, rfl, by simpa [Cir.bits] using Ho.out, hb⟩
theorem ownBools_at {w : World} {b : Nat} {v : Value} {xs : List Bool} (h : w.ownsRow b 4 1 v xs.length (bools xs)) : BoolsAt w v xs := Row.of_own h
theorem PCells.grown {w w' : World} {g : Nat} {i : Int} {vn vg vo : Value} {row : Option Nat} (h : PCells w g i vn vg vo) (hb : w.grownBy w' row) (hr : row ≠ some g) : PCells w' g i vn vg vo := by
  obtain ⟨hg, c0, c1, c2, c3⟩ := h
  have hk := hb.block g hg fun e => hr e.symm
  exact ⟨Nat.lt_of_lt_of_le hg hb.size, (World.cell?_of_block (a := ⟨g, 0, none⟩) hk).trans c0, (World.cell?_of_block (a := ⟨g, 1, none⟩) hk).trans c1, (World.cell?_of_block (a := ⟨g, 2, none⟩) hk).trans c2, (World.cell?_of_block (a := ⟨g, 3, none⟩) hk).trans c3⟩
theorem own_ne {w : World} {base n size : Nat} {e : TypeId} {v : Value} {xs : List Value} {g : Nat} (h : w.ownsRow base e size v n xs) (hg : g < base) : v.ownBlock ≠ some g := fun e => by
  have := (h.lt g e).1
  omega
set_option maxHeartbeats 4000000 in
set_option maxRecDepth 100000 in
theorem l2Values_any (v vs vi : Value) (c : Ci) (st inp : List Bool) (w : World) (h : CircAt w v (Cir.toCz c)) (hc : Cir.Ok c) (hs : BoolsAt w vs st) (hi : BoolsAt w vi inp) (h1 : inp.length = c.ins) (h2 : st.length = c.next.length) :
    Calls Try.prog 97 #[v, vs, vi] w (OwnBools (Cir.vals c st inp) w) := by
  obtain ⟨vn, vg, vo, rfl, r1, r2, r3⟩ := h
  have l1 := hc.ins
  have l2 := hc.nexts
  have l3 := hc.gatess
  have HG := Lib.hid hc.gate
  have hglen : (Cir.toCz c).gates.length = c.gates.length := List.length_map _
  obtain ⟨Ag, cg, hvg, hcg, hcmg⟩ := Row.shape r2
  subst hvg
  rw [hglen] at hcg
  have R2 : Hid (Row w 2 (.slice Ag c.gates.length cg) c.gates.length (cubes (Cir.toCz c).gates)) := Lib.hid (by have := r2; unfold CubesAt at this; rwa [hglen] at this)
  have Hs := Lib.hid hs
  have Hi := Lib.hid hi
  clear r1 r2 r3 hs hi
  have hE : Hid (∀ k, k ≤ c.gates.length → (Cir.evalG (c.gates.take k) (false :: (inp ++ st))).length = Cir.nfirst c + k) := Lib.hid fun k hk => by
    rw [Cir.evalG_length]
    simp [Cir.nfirst]
    omega
  have hnf : Cir.nfirst c ≤ 8 := by unfold Cir.nfirst; omega
  have HV : Hid (Cir.evalG (c.gates.take c.gates.length) (false :: (inp ++ st)) = Cir.vals c st inp) := Lib.hid (by rw [List.take_length]; rfl)
  generalize Cir.vals c st inp = res at *
  generalize Cir.nfirst c = nf at *
  rw [hglen]
  generalize (Cir.toCz c).ins = ci at *
  have Hlit : Hid (((w.alloc (.cells #[.int .i64 ci, vn, .slice Ag c.gates.length cg, vo] 31)).alloc (.cells #[.bool false] 4)).ownsRow (w.heap.size + 1) 4 1 (.slice (some ⟨w.heap.size + 1, 0, none⟩) 1 1) 1 [.bool false]) := Lib.hid (by
    have := World.ownsRow_lit (base := w.heap.size + 1) (e := 4) (size := 1) (w.alloc (.cells #[.int .i64 ci, vn, .slice Ag c.gates.length cg, vo] 31)) #[.bool false] 1 (by simp) (by unfold maxLen; omega) rfl
    rwa [World.size_alloc] at this)
  have P0 := Lib.hid (cells_alloc (PCells.boxed w ci vn (.slice Ag c.gates.length cg) vo 31) (.cells #[.bool false] 4))
  have B0 := Lib.hid ((((Below.refl w.heap.size w).alloc (Nat.le_refl _) (.cells #[.int .i64 ci, vn, .slice Ag c.gates.length cg, vo] 31))).alloc (by simp) (.cells #[.bool false] 4))
  go_enter Try.func97, Try.ntmps97
  go_wp2_with (first
    | (at_builtin; refine append_bools rfl (.tmp 9) (.tmp 10) rfl (w.heap.size + 1) _ 1 [.bool false] rfl Hlit.out _ inp.length (bools inp) rfl (Row.below Hi.out B0.out) (bools_one _) (by omega) (by simp) ?_; intro v5 w5 hown5 hg5 hat5; have Ho5 := Lib.hid hown5; have P5 := Lib.hid (P0.out.grown hg5 (own_ne Hlit.out (by omega))); have B5 := Lib.hid (B0.out.grown hg5 B0.out.size (fun q hq => by have := (Hlit.out.lt q hq).1; omega)); have z5 := hg5.size; clear hown5 hg5 hat5)
    | (at_builtin; refine append_bools rfl (.tmp 12) (.tmp 13) rfl (w.heap.size + 1) _ (1 + inp.length) ([Value.bool false] ++ bools inp) rfl Ho5.out _ st.length (bools st) rfl (Row.below Hs.out B5.out) (bools_one _) (by omega) (by simp at z5; omega) ?_; intro v6 w6 hown6 hg6 hat6; have Ho6 := Lib.hid hown6; have P6 := Lib.hid (P5.out.grown hg6 (own_ne Ho5.out (by omega))); have B6 := Lib.hid (B5.out.grown hg6 B5.out.size (fun q hq => by have := (Ho5.out.lt q hq).1; omega)); have z6 : w.heap.size + 1 ≤ w6.heap.size := (by have := hg6.size; simp at z5; omega); clear hown6 hg6 hat6))
  go_loopw [7, 8] (fun v i wr => ∃ (vv : Value) (k : Nat), vv = v ∧ k ≤ c.gates.length ∧ i = .int .i64 k ∧ Hid (wr.ownsRow (w.heap.size + 1) 4 1 v (Cir.evalG (c.gates.take k) (false :: (inp ++ st))).length (bools (Cir.evalG (c.gates.take k) (false :: (inp ++ st))))) ∧ Hid (PCells wr w.heap.size ci vn (.slice Ag c.gates.length cg) vo) ∧ Below w.heap.size w wr) (fun _ i _ => c.gates.length - (intOf i).toNat)
  case atStart =>
    refine ⟨_, 0, rfl, Nat.zero_le _, rfl, Lib.hid ?_, P6, B6.out⟩
    have := Ho6.out
    have e : (Cir.evalG (c.gates.take 0) (false :: (inp ++ st))) = false :: (inp ++ st) := rfl
    rw [e]
    have e2 : bools (false :: (inp ++ st)) = [.bool false] ++ bools inp ++ bools st := by simp [bools]
    rw [e2, show (false :: (inp ++ st)).length = 1 + inp.length + st.length by simp; omega]
    exact this
  case round =>
    obtain ⟨vv, k, hvv, hk, rfl, Ho, P, hb⟩ := hrel
    subst hvv
    by_cases hlt : k < c.gates.length
    · obtain ⟨b, o, x, rfl, hbl, hx, hs1, hs2⟩ := cubes_open R2.out hb hglen.symm (i := k) (by omega)
      obtain ⟨g, hg⟩ := at_some hlt
      have hxe : x = ((g.1 : Int), (g.2 : Int)) := by
        have h1 := hx.out
        unfold Cir.toCz at h1
        simp only [List.getElem?_map, hg] at h1
        exact (Option.some.inj h1).symm
      subst hxe
      obtain ⟨g1, g2⟩ := HG.out k g hg
      have hEk := hE.out k hk
      have HS : Hid (bools (Cir.evalG (c.gates.take (k + 1)) (false :: (inp ++ st))) = bools (Cir.evalG (c.gates.take k) (false :: (inp ++ st))) ++ [.bool (Cir.gval (Cir.evalG (c.gates.take k) (false :: (inp ++ st))) g)] ∧ (Cir.evalG (c.gates.take (k + 1)) (false :: (inp ++ st))).length = (Cir.evalG (c.gates.take k) (false :: (inp ++ st))).length + 1) := Lib.hid (by rw [Cir.evalG_take_snoc hg, bools_append, List.length_append]; exact ⟨rfl, rfl⟩)
      have hgv : Cir.gval (Cir.evalG (c.gates.take k) (false :: (inp ++ st))) g = (Cir.lit (Cir.evalG (c.gates.take k) (false :: (inp ++ st))) g.1 && Cir.lit (Cir.evalG (c.gates.take k) (false :: (inp ++ st))) g.2) := rfl
      rw [hgv] at HS
      clear hgv hx hg
      obtain ⟨E2, hE2⟩ : ∃ E2, Cir.evalG (c.gates.take (k + 1)) (false :: (inp ++ st)) = E2 := ⟨_, rfl⟩
      rw [hE2] at HS
      have HE2 := Lib.hid hE2
      clear hE2
      generalize Cir.evalG (c.gates.take k) (false :: (inp ++ st)) = E at *
      obtain ⟨hzp, p0, p1, p2, p3⟩ := P.out
      have Hb := Lib.hid hb
      have hz := hb.size
      clear hb p0 p1 p3
      obtain ⟨G1, hG1⟩ : ∃ G1, G1 = g.1 := ⟨_, rfl⟩
      obtain ⟨G2, hG2⟩ : ∃ G2, G2 = g.2 := ⟨_, rfl⟩
      rw [← hG1] at g1 HS hs1
      rw [← hG2] at g2 HS hs2
      clear hG1 hG2
      go_wp2_with fail
      refine (l2Lit_any _ E G1 _ (ownBools_at Ho.out) (by omega) (by omega)).mono ?_
      rintro e w' ⟨rfl, rfl⟩
      cases hv1 : Cir.lit E G1
      · rw [hv1] at HS
        have Hlit := Lib.hid (Row.of_own (World.ownsRow_lit (base := wr.heap.size) (e := 4) (size := 1) wr #[.bool false] 1 (Nat.le_refl _) (by unfold maxLen; omega) rfl))
        clear hv1
        go_wp2_with (at_builtin; refine append_bools rfl (.tmp 22) (.tmp 41) rfl (w.heap.size + 1) _ E.length _ rfl (Ho.out.alloc _) _ 1 [.bool false] rfl Hlit.out (by simp [Value.oneCell']) (by omega) (by simp; omega) ?_; intro v7 w7 hown7 hg7 hat7; have Ho7 := Lib.hid hown7; have Hg7 := Lib.hid hg7; clear hown7 hg7 hat7)
        go_roundw
        case rel => exact ⟨_, k + 1, rfl, by omega, by go_num, Lib.hid (by rw [HE2.out, HS.out.1, HS.out.2]; exact Ho7.out), Lib.hid ((cells_alloc P.out _).grown Hg7.out (own_ne Ho.out (by omega))), (Hb.out.alloc hz _).grown Hg7.out (Hb.out.alloc hz _).size (fun q hq => by have := (Ho.out.lt q hq).1; omega)⟩
        case measure => simp [intOf] <;> omega
      · rw [hv1] at HS
        clear hv1
        go_wp2_with fail
        refine (l2Lit_any _ E G2 _ (ownBools_at Ho.out) (by omega) (by omega)).mono ?_
        rintro e w' ⟨rfl, rfl⟩
        rw [Bool.true_and] at HS
        generalize Cir.lit E G2 = u at *
        have Hlit := Lib.hid (Row.of_own (World.ownsRow_lit (base := wr.heap.size) (e := 4) (size := 1) wr #[.bool u] 1 (Nat.le_refl _) (by unfold maxLen; omega) rfl))
        go_wp2_with (at_builtin; refine append_bools rfl (.tmp 22) (.tmp 41) rfl (w.heap.size + 1) _ E.length _ rfl (Ho.out.alloc _) _ 1 [.bool u] rfl Hlit.out (by simp [Value.oneCell']) (by omega) (by simp; omega) ?_; intro v7 w7 hown7 hg7 hat7; have Ho7 := Lib.hid hown7; have Hg7 := Lib.hid hg7; clear hown7 hg7 hat7)
        go_roundw
        case rel => exact ⟨_, k + 1, rfl, by omega, by go_num, Lib.hid (by rw [HE2.out, HS.out.1, HS.out.2]; exact Ho7.out), Lib.hid ((cells_alloc P.out _).grown Hg7.out (own_ne Ho.out (by omega))), (Hb.out.alloc hz _).grown Hg7.out (Hb.out.alloc hz _).size (fun q hq => by have := (Ho.out.lt q hq).1; omega)⟩
        case measure => simp [intOf] <;> omega
    · obtain rfl : k = c.gates.length := by omega
      obtain ⟨hzp, p0, p1, p2, p3⟩ := P.out
      clear p0 p1 p3
      go_wp2
      go_ret
      exact ⟨_, rfl, by rw [← HV.out]; exact own_mono Ho.out (by omega), hb⟩
end Go.Proofs.Ytlbfejdbfhgifaa

namespace Go.Proofs.Ytlbfejdbfhgifaa
open Go.RowKit
namespace Cir
/-- The table of a literal of a circuit without latches, from its lowest bits. -/
def tab (c : Ci) (l : Nat) : Nat → Nat
  | 0 => 0
  | k + 1 => tab c l k + (if lit (vals c [] (bits k c.ins)) l then 2 ^ k else 0)
theorem tab_lt (c : Ci) (l : Nat) : ∀ k, tab c l k < 2 ^ k
  | 0 => by simp [tab]
  | k + 1 => by
    have := tab_lt c l k
    rw [tab, Nat.pow_succ]
    split <;> omega
theorem tab_or (c : Ci) (l k : Nat) : tab c l k ||| 2 ^ k = tab c l k + 2 ^ k := by
  have h := Nat.two_pow_add_eq_or_of_lt (tab_lt c l k) 1
  rw [Nat.mul_one] at h
  rw [Nat.or_comm, ← h, Nat.add_comm]
end Cir
set_option maxRecDepth 100000
set_option maxHeartbeats 4000000
end Go.Proofs.Ytlbfejdbfhgifaa

namespace Go.Proofs.Ytlbfejdbfhgifaa
open Go.RowKit
set_option maxRecDepth 100000
/-! The values of a circuit, by the program. -/
theorem litValue_any (v : Value) (xs : List Bool) (l : Nat) (w : World) (h : BoolsAt w v xs) (hl : l < 2 * xs.length) (hb : l ≤ 1000000) :
    Calls Try.prog 114 #[v, .int .i64 l] w fun e w' => e = .returned (.bool (Cir.lit xs l)) ∧ w = w' := by
  obtain ⟨A, c, hv, hc, hcm⟩ := Row.shape h
  subst hv
  have hi : l / 2 < xs.length := by omega
  obtain ⟨b, o, x, rfl, hbl, hx, hs⟩ := bools_open h (Below.refl _ _) rfl hi
  have HL := Lib.hid (lit_of hx.out)
  have hq : (l : Int).tdiv 2 = ((l / 2 : Nat) : Int) := by rw [Int.tdiv_eq_ediv_of_nonneg (by omega)]; omega
  have hm : bits .and .i64 (l : Int) 1 = ((l % 2 : Nat) : Int) := by
    have := i64_and_nat l 1 (by omega) (by omega)
    rw [Nat.and_one_is_mod] at this
    exact this
  have he : (((l % 2 : Nat) : Int) == 1) = (l % 2 == 1) := by
    rw [Bool.eq_iff_iff, beq_iff_eq, beq_iff_eq]
    omega
  have hqb : l / 2 ≤ 1000000 := by omega
  generalize l / 2 = q at *
  generalize l % 2 = r at *
  have hwr : IntKind.i64.wrap (q : Int) = q := IntWalk.i64_in _ (by omega)
  go_enter Try.func114, Try.ntmps114
  go_wp2
  go_ret
  refine ⟨ret_bool ?_, rfl⟩
  rw [HL.out]
  simp
  generalize (r == 1) = p
  cases x <;> cases p <;> rfl
theorem assignments_any (g : Nat) (c : Cz) (m : Nat) (w : World) (h : PCirc w g c) (hm : c.ins + c.next.length = m) (h1 : m ≤ 7) :
    Calls Try.prog 48 #[.pointer (some ⟨g, 0, none⟩)] w fun e w' => e = .returned (.int .i64 ((2 ^ m : Nat) : Int)) ∧ Below w.heap.size w w' := by
  obtain ⟨vn, vg, vo, hg, c0, c1, c2, c3, r1, r2, r3⟩ := h
  obtain ⟨A, cp, hv, hc, hcm⟩ := r1.shape
  subst hv
  have g0 := gw_cell c0 hg
  have g1 := gw_cell c1 hg
  have hw0 := IntWalk.i64_in (m : Int) (by omega)
  have h2 : 2 ^ m ≤ 128 := Nat.pow_le_pow_right (show 0 < 2 by decide) h1
  obtain ⟨M, hM⟩ : ∃ M, M = 2 ^ m := ⟨_, rfl⟩
  have e2 : (2 : Int) ^ m = (M : Int) := by rw [hM]; exact two_pow m
  rw [← hM] at h2 ⊢
  have hwM := IntWalk.i64_in (M : Int) (by omega)
  have hwu : IntKind.u64.wrap (m : Int) = m := by rw [IntKind.wrap_u64]; omega
  clear r1 r2 r3 c0 c1 c2 c3 hM
  go_enter Try.func48, Try.ntmps48
  go_wp2
  refine wp_region_grow (by kernel_rfl) (by kernel_rfl) ?_
  repeat (go_big_quiet_step ((fail)))
  refine wpQuiet_nil ?_
  intro _ hw'
  obtain ⟨nq, hw''⟩ := hw'
  subst hw''
  have hgq := gw_below nq
  generalize gw nq = wq at *
  clear nq
  go_wp2
  go_ret
  exact ⟨rfl, hgq⟩
theorem bits_snoc (x k : Nat) : Cir.bits x (k + 1) = Cir.bits x k ++ [x.testBit k] := by
  unfold Cir.bits
  rw [List.range_succ, List.map_append]
  rfl
theorem bits_get {x n k : Nat} (h : k < n) : (bools (Cir.bits x n))[k]? = some (.bool (x.testBit k)) := by
  simp [bools, Cir.bits, h]
theorem bitsOf_any (x n : Nat) (w : World) (hx : x ≤ 1000000) (hn : n ≤ 16) :
    Calls Try.prog 103 #[.int .i64 x, .int .i64 n] w (OwnBools (Cir.bits x n) w) := by
  have hmk := run_make_row' (P := Try.prog) 62 4 (.bool false) 1 Try.underlying62 info_bool rfl .i64 .i64 n (by omega) (by omega)
  go_enter Try.func103, Try.ntmps103
  go_wp2
  have hown0 := World.ownsRow_lit (base := w.heap.size) (e := 4) (size := 1) w (madeCells #[Value.bool false] n) n (Nat.le_refl _) (by unfold maxLen; omega) (by simp [madeCells])
  have hb0 : Below w.heap.size w (w.alloc (.cells (madeCells #[Value.bool false] n) 4)) := (Below.refl _ _).alloc (Nat.le_refl _) _
  go_loopw [11] (fun i wr => ∃ (k : Nat) (cs : List Value), k ≤ n ∧ i = .int .i64 k ∧ wr.ownsRow w.heap.size 4 1 (.slice (some ⟨w.heap.size, 0, none⟩) n n) n cs ∧ cs.take k = (bools (Cir.bits x n)).take k ∧ Below w.heap.size w wr)
    (fun i _ => n - (intOf i).toNat)
  case atStart => exact ⟨0, _, Nat.zero_le _, rfl, hown0, rfl, hb0⟩
  case round =>
    obtain ⟨k, cs, hk, rfl, hown, htk, hb⟩ := hrel
    clear hmk hown0 hb0
    by_cases hlt : k < n
    · have hq : (x : Int) / 2 ^ k = ((x / 2 ^ k : Nat) : Int) := by
        rw [Int.natCast_ediv, two_pow]
      have hy : x / 2 ^ k ≤ 1000000 := Nat.le_trans (Nat.div_le_self _ _) hx
      have hm : bits .and .i64 ((x / 2 ^ k : Nat) : Int) 1 = ((x / 2 ^ k % 2 : Nat) : Int) := by
        have := i64_and_nat (x / 2 ^ k) 1 (by omega) (by omega)
        rw [Nat.and_one_is_mod] at this
        exact this
      have he : (((x / 2 ^ k % 2 : Nat) : Int) == 1) = x.testBit k := by
        rw [Nat.testBit_eq_decide_div_mod_eq, Bool.eq_iff_iff, beq_iff_eq, decide_eq_true_iff]
        omega
      have hs := bits_get (x := x) hlt
      generalize x / 2 ^ k = y at hq hm he hy
      generalize y % 2 = r at hm he
      generalize x.testBit k = b at he hs
      have hl := hown.1
      obtain ⟨u0, _, hd, hf⟩ := own_slot hown (j := k) (by omega)
      have Hown := Lib.hid (hown.stored k (.bool b)).1
      have Hstep := Lib.hid (take_set_succ (by omega) htk hs)
      clear hs hl htk hown hy
      go_wp2
      go_roundw
      case rel => exact ⟨k + 1, _, by omega, by go_num, Hown.out, Hstep.out, hb.setCell (Nat.le_refl _) _⟩
      case measure => simp [intOf]; omega
    · go_wp2
      go_ret
      have hl2 : (Cir.bits x n).length = n := by simp [Cir.bits]
      have e : cs = bools (Cir.bits x n) := by
        have hl := hown.1
        rw [List.take_of_length_le (by omega), List.take_of_length_le (by rw [bools_length]; omega)] at htk
        exact htk
      exact ⟨_, rfl, by rw [hl2]; exact e ▸ hown, hb⟩
theorem inputBits_any (g : Nat) (c : Cz) (n x : Nat) (w : World) (h : PCirc w g c) (hn : c.ins = (n : Int)) (h1 : n ≤ 16) (hx : x ≤ 1000000) :
    Calls Try.prog 50 #[.pointer (some ⟨g, 0, none⟩), .int .i64 x] w (OwnBools (Cir.bits x n) w) := by
  obtain ⟨vn, vg, vo, hg, c0, c1, c2, c3, r1, r2, r3⟩ := h
  rw [hn] at c0
  clear r1 r2 r3 c1 c2 c3
  go_enter Try.func50, Try.ntmps50
  go_wp2_with fail
  refine (bitsOf_any x n _ hx h1).mono ?_
  rintro e w1 ⟨v1, rfl, hown, hb⟩
  go_wp2_with fail
  go_ret
  exact ⟨_, rfl, hown, hb⟩
theorem latchBits_any (g : Nat) (c : Cz) (n m x : Nat) (w : World) (h : PCirc w g c) (hn : c.ins = (n : Int)) (hm : c.next.length = m) (h1 : n ≤ 16) (h2 : m ≤ 16) (hx : x ≤ 1000000) :
    Calls Try.prog 52 #[.pointer (some ⟨g, 0, none⟩), .int .i64 x] w (OwnBools (Cir.bits (x / 2 ^ n) m) w) := by
  obtain ⟨vn, vg, vo, hg, c0, c1, c2, c3, r1, r2, r3⟩ := h
  rw [hn] at c0
  obtain ⟨A, cp, hv, hc, hcm⟩ := r1.shape
  subst hv
  rw [hm] at c1
  have hq : (x : Int) / 2 ^ n = ((x / 2 ^ n : Nat) : Int) := by
    rw [Int.natCast_ediv, two_pow]
  have hy : x / 2 ^ n ≤ 1000000 := Nat.le_trans (Nat.div_le_self _ _) hx
  generalize x / 2 ^ n = y at *
  have HC : Hid (∀ w, Calls Try.prog 103 #[.int .i64 y, .int .i64 m] w (OwnBools (Cir.bits y m) w)) := Lib.hid fun w => bitsOf_any y m w hy h2
  clear r1 r2 r3 c2 c3 hn hm
  go_enter Try.func52, Try.ntmps52
  go_wp2_with fail
  go_region_with ((go_at_call 103; refine (HC.out _).mono ?_; rintro e w1 ⟨v1, rfl, hown, hb⟩))
  all_goals
    go_wp2_with fail
    go_ret
    exact ⟨_, rfl, hown, ⟨hb.os, hb.tape, hb.output, hb.size, hb.block⟩⟩
end Go.Proofs.Ytlbfejdbfhgifaa

namespace Go.Proofs.Ytlbfejdbfhgifaa
/-! A region that draws its order, proved by what each of its operations yields, whatever the order: one step for each operation, none for an order. -/

/-- i is j, or is bound to come before j (by at most n edges). -/
def ancB (ops : Array Oper) : Nat → Nat → Nat → Bool
  | 0, i, j => i == j
  | n + 1, i, j => i == j || ((ops[j]?).map fun o => o.after.any fun e => Region.binds .any e && ancB ops n i e.on).getD false
def Shut (ops : Array Oper) (L : Nat → Bool) : Prop := ∀ j o, L j = true → ops[j]? = some o → ∀ e ∈ o.after, Region.binds .any e = true → L e.on = true
theorem ancB_shut {ops : Array Oper} {L : Nat → Bool} (hC : Shut ops L) : ∀ n i j, ancB ops n i j = true → L j = true → L i = true
  | 0, i, j, h, hj => by
    have : i = j := by simpa [ancB] using h
    exact this ▸ hj
  | n + 1, i, j, h, hj => by
    rw [ancB, Bool.or_eq_true] at h
    rcases h with h | h
    · have : i = j := by simpa using h
      exact this ▸ hj
    · cases ho : ops[j]? with
      | none => simp [ho] at h
      | some o =>
        simp only [ho, Option.map_some, Option.getD_some, Array.any_eq_true] at h
        obtain ⟨k, hk, h⟩ := h
        rw [Bool.and_eq_true] at h
        exact ancB_shut hC n i _ h.2 (hC j o hj ho _ (Array.getElem_mem hk) h.1)

def tmpsOf (xs : List Operand) : List Tmp := xs.filterMap fun | .tmp t => some t | _ => none
/-- Two operations whose order matters to the slots. -/
def clash (x y : Oper) : Bool :=
  (match x.dst with | some d => (tmpsOf y.op.operands.toList).contains d | none => false) ||
  (match y.dst with | some d => (tmpsOf x.op.operands.toList).contains d | none => false)
def rgB (ops : Array Oper) : Bool :=
  (List.range ops.size).all fun i => match ops[i]? with
    | none => true
    | some o => o.guard.isNone && o.after.all (fun e => !Region.binds .any e || decide (e.on < i)) &&
        (match o.op with | .select .. => false | _ => true) &&
        (List.range i).all fun j => match ops[j]? with
          | none => true
          | some p => (p.dst.isNone || p.dst != o.dst) && (!clash p o || ancB ops 4 j i)

section
variable {P : Program} {ops : Array Oper}
structure RgOk (ops : Array Oper) (i : Nat) (o : Oper) : Prop where
  guard : o.guard = none
  back : ∀ e ∈ o.after, Region.binds .any e = true → e.on < i
  sel : ∀ cs b, o.op ≠ .select cs b
  one : ∀ j p, j < i → ops[j]? = some p → ∀ d, p.dst = some d → o.dst ≠ some d
  anc : ∀ j p, j < i → ops[j]? = some p → clash p o = true → ancB ops 4 j i = true
theorem rgB_ok (h : rgB ops = true) {i : Nat} {o : Oper} (ho : ops[i]? = some o) : RgOk ops i o := by
  have hlt : i < ops.size := (Array.getElem?_eq_some_iff.1 ho).1
  have h1 := List.all_eq_true.1 h i (List.mem_range.2 hlt)
  simp only [ho, Bool.and_eq_true] at h1
  obtain ⟨⟨⟨h1, h2⟩, h3⟩, h4⟩ := h1
  refine ⟨by simpa using h1, fun e he hb => ?_, fun cs b e => by simp [e] at h3, fun j p hj hp d hd e => ?_, fun j p hj hp hc => ?_⟩
  · have := Array.all_eq_true_iff_forall_mem.1 h2 e he
    simpa [hb] using this
  · have := List.all_eq_true.1 h4 j (List.mem_range.2 hj)
    simp [hp, hd, e] at this
  · have := List.all_eq_true.1 h4 j (List.mem_range.2 hj)
    simp only [hp, Bool.and_eq_true] at this
    simpa [hc] using this.2

/-! ### What the slots hold -/
structure Is (ops : Array Oper) (a0 : Act) (L : Nat → Bool) (f : Nat → Value) (a : Act) : Prop where
  defers : a.defers = a0.defers
  size : a.tmps.size = a0.tmps.size
  mine : ∀ i o t, L i = true → ops[i]? = some o → o.dst = some t → t < a0.tmps.size → a.tmps.getD t undef = f i
  old : ∀ t, (∀ i o, L i = true → ops[i]? = some o → o.dst ≠ some t) → a.tmps.getD t undef = a0.tmps.getD t undef

theorem put_size (a : Act) (d : Option Tmp) (v : Value) : (a.put d v).tmps.size = a.tmps.size := by cases d <;> simp [Act.put]
theorem put_defers (a : Act) (d : Option Tmp) (v : Value) : (a.put d v).defers = a.defers := by cases d <;> rfl
theorem put_get (a : Act) (d : Tmp) (v : Value) (h : d < a.tmps.size) : (a.put (some d) v).tmps.getD d undef = v := by simp [Act.put, h]
theorem put_get_ne (a : Act) (d : Option Tmp) (v : Value) (t : Tmp) (h : d ≠ some t) : (a.put d v).tmps.getD t undef = a.tmps.getD t undef := by
  cases d with
  | none => rfl
  | some d =>
    have : d ≠ t := fun e => h (by rw [e])
    simp [Act.put, Array.getElem?_setIfInBounds_ne this]

theorem Is.start (a0 : Act) (f : Nat → Value) : Is ops a0 (fun _ => false) f a0 := ⟨rfl, rfl, fun _ _ _ h => (by cases h), fun _ _ => rfl⟩
theorem Is.step (hB : rgB ops = true) {a0 a : Act} {L : Nat → Bool} {f : Nat → Value} (h : Is ops a0 L f a) {i : Nat} {o : Oper} (ho : ops[i]? = some o) (hL : L i = false) (v : Value) :
    Is ops a0 (fun j => if j = i then true else L j) (fun j => if j = i then v else f j) (a.put o.dst v) := by
  refine ⟨(put_defers _ _ _).trans h.defers, (put_size _ _ _).trans h.size, fun j p t hj hp ht hlt => ?_, fun t ht => ?_⟩
  · by_cases e : j = i
    · subst e
      obtain rfl := Option.some.inj (ho.symm.trans hp)
      simp only [if_true]
      rw [ht]
      exact put_get _ _ _ (by rw [h.size]; exact hlt)
    · simp only [e, if_false] at hj ⊢
      rw [put_get_ne]
      · exact h.mine j p t hj hp ht hlt
      · intro hd
        rcases Nat.lt_or_gt_of_ne e with hlt' | hgt
        · exact (rgB_ok hB ho).one j p hlt' hp t ht hd
        · exact (rgB_ok hB hp).one i o hgt ho t hd ht
  · rw [put_get_ne]
    · exact h.old t fun j p hj hp => ht j p (by by_cases e : j = i <;> simp [e, hj]) hp
    · exact ht i o (by simp) ho
theorem Is.same {a0 a b : Act} {L : Nat → Bool} {f : Nat → Value} (h : Is ops a0 L f a) (h' : Is ops a0 L f b) : a = b := by
  have hd : a.defers = b.defers := h.defers.trans h'.defers.symm
  have ht : a.tmps = b.tmps := by
    apply Array.ext (h.size.trans h'.size.symm)
    intro t h1 h2
    have key : a.tmps.getD t undef = b.tmps.getD t undef := by
      by_cases hw : ∃ i o, L i = true ∧ ops[i]? = some o ∧ o.dst = some t
      · obtain ⟨i, o, hi, ho, hd⟩ := hw
        rw [h.mine i o t hi ho hd (by rw [← h.size]; exact h1), h'.mine i o t hi ho hd (by rw [← h.size]; exact h1)]
      · have hn : ∀ i o, L i = true → ops[i]? = some o → o.dst ≠ some t := fun i o hi ho hd => hw ⟨i, o, hi, ho, hd⟩
        rw [h.old t hn, h'.old t hn]
    simpa [Array.getD, h1, h2] using key
  cases a; cases b
  simp only at hd ht
  subst hd ht
  rfl

/-- All operations' values, in the text's order. -/
def putAll : List Oper → (Nat → Value) → Nat → Act → Act
  | [], _, _, a => a
  | o :: l, f, k, a => putAll l f (k + 1) (a.put o.dst (f k))
theorem putAll_is (hB : rgB ops = true) {a0 : Act} {f : Nat → Value} : ∀ (l : List Oper) (k : Nat) (a : Act), ops.toList.drop k = l → Is ops a0 (fun j => decide (j < k)) f a → Is ops a0 (fun j => decide (j < ops.size)) f (putAll l f k a)
  | [], k, a, hl, h => by
    have hk : ops.size ≤ k := by simpa using hl
    have e : Is ops a0 (fun j => decide (j < ops.size)) f a := ⟨h.defers, h.size, fun i o t hi ho => h.mine i o t (by simp at hi ⊢; omega) ho, fun t ht => h.old t fun i o hi ho => ht i o (by
      have := (Array.getElem?_eq_some_iff.1 ho).1
      simpa using this) ho⟩
    exact e
  | o :: l, k, a, hl, h => by
    have hk : k < ops.toList.length := by
      rcases Nat.lt_or_ge k ops.toList.length with h' | h'
      · exact h'
      · rw [List.drop_eq_nil_of_le h'] at hl; cases hl
    rw [List.drop_eq_getElem_cons hk] at hl
    injection hl with h1 h2
    have ho : ops[k]? = some o := by
      rw [← h1, ← Array.getElem?_toList, List.getElem?_eq_getElem hk]
    have hs := h.step hB ho (by simp) (f k)
    refine putAll_is hB l (k + 1) _ h2 ?_
    have e1 : (fun j => if j = k then true else decide (j < k)) = fun j => decide (j < k + 1) := by
      funext j
      by_cases e : j = k
      · subst e; simp
      · simp [e]; omega
    have e2 : (fun j => if j = k then f k else f j) = f := by
      funext j
      by_cases e : j = k <;> simp [e]
    rw [e1, e2] at hs
    exact hs

/-! ### The steps -/
/-- What one operation comes to, its operands' values given. -/
def Good (P : Program) (o : Oper) (ρ : Operand → Value) (w : World) (R : Value → World → Prop) : Prop :=
  match (execOp ρ o).run P w with
  | .ok (.value v) w' => R v w'
  | .ok .skip w' => R undef w'
  | .ok (.enter f args) w' => Calls P f args w' fun e w'' => match e with | .returned v => R v w'' | _ => False
  | _ => False
/-- The operation among the first i that writes slot t. -/
def writer (ops : Array Oper) (i t : Nat) : Option Nat := (List.range i).find? fun j => ((ops[j]?).bind (·.dst)) == some t
/-- What is known of the operands' values. -/
def Known (ops : Array Oper) (τ : Nat → World → Value → Prop) (a0 : Act) (ρ : Operand → Value) (w : World) (i : Nat) : List Operand → Prop
  | [] => True
  | .tmp t :: xs => (match writer ops i t with | some j => τ j w (ρ (.tmp t)) | none => ρ (.tmp t) = a0.eval (.tmp t)) ∧ Known ops τ a0 ρ w i xs
  | x :: xs => ρ x = a0.eval x ∧ Known ops τ a0 ρ w i xs

theorem known_of {τ : Nat → World → Value → Prop} {a0 : Act} {ρ : Operand → Value} {w : World} {i : Nat} (hw : ∀ t j, writer ops i t = some j → τ j w (ρ (.tmp t))) : ∀ (xs : List Operand),
    (∀ t, .tmp t ∈ xs → writer ops i t = none → ρ (.tmp t) = a0.eval (.tmp t)) → (∀ x, (∀ t, x ≠ .tmp t) → ρ x = a0.eval x) → Known ops τ a0 ρ w i xs
  | [], _, _ => trivial
  | .tmp t :: xs, h1, h2 => by
    refine ⟨?_, known_of hw xs (fun t ht => h1 t (List.mem_cons_of_mem _ ht)) h2⟩
    cases hj : writer ops i t with
    | none => exact h1 t (by simp) hj
    | some j => exact hw t j hj
  | .const v :: xs, h1, h2 => ⟨h2 _ (by simp), known_of hw xs (fun t ht => h1 t (List.mem_cons_of_mem _ ht)) h2⟩
  | .global v :: xs, h1, h2 => ⟨h2 _ (by simp), known_of hw xs (fun t ht => h1 t (List.mem_cons_of_mem _ ht)) h2⟩
  | .func v :: xs, h1, h2 => ⟨h2 _ (by simp), known_of hw xs (fun t ht => h1 t (List.mem_cons_of_mem _ ht)) h2⟩

theorem countP_lt {α : Type} {p q : α → Bool} : ∀ {l : List α}, (∀ x ∈ l, p x = true → q x = true) → (∃ x ∈ l, q x = true ∧ p x = false) → l.countP p < l.countP q
  | [], _, ⟨x, hx, _⟩ => by cases hx
  | y :: l, h, ⟨x, hx, hq, hp⟩ => by
    have hle : l.countP p ≤ l.countP q := List.countP_mono_left fun z hz => h z (List.mem_cons_of_mem _ hz)
    rw [List.countP_cons, List.countP_cons]
    rcases List.mem_cons.1 hx with e | hx'
    · subst e
      simp [hq, hp]; omega
    · have hlt := countP_lt (fun z hz => h z (List.mem_cons_of_mem _ hz)) ⟨x, hx', hq, hp⟩
      have := h y (by simp)
      by_cases hy : p y = true
      · simp [hy, this hy]; exact hlt
      · simp [hy]; split <;> omega

theorem Good.wp {Q : Exit → Act → World → Prop} {o : Oper} {a : Act} {w : World} {R : Value → World → Prop} {K : Act → World → Prop} (h : Good P o a.eval w R) (hK : ∀ v w', R v w' → K (a.put o.dst v) w') : o.wp P a w K Q := by
  unfold Good at h
  unfold Oper.wp
  generalize (execOp a.eval o).run P w = r at h
  match r, h with
  | .ok (.value v) w', h => exact hK v w' h
  | .ok .skip w', h => exact hK _ w' h
  | .ok (.enter f args) w', h =>
    refine Calls.mono h fun e w'' he => ?_
    match e, he with
    | .returned v, he => exact hK v w'' he

/-- What was assigned out of a slot that the region wrote is what was written there. -/
def Copies (ops : Array Oper) (L : Nat → Bool) (f : Nat → Value) : Prop := ∀ i o t j, L i = true → ops[i]? = some o → o.op = .assign (.tmp t) → writer ops i t = some j → L j = true ∧ f i = f j
theorem Good.assign {o : Oper} {ρ : Operand → Value} {w : World} {R : Value → World → Prop} (h : Good P o ρ w R) : Good P o ρ w fun v w' => R v w' ∧ ∀ x, o.op = .assign x → v = ρ x := by
  by_cases hx : ∃ x, o.op = .assign x
  · obtain ⟨x, hx⟩ := hx
    have hr : (execOp ρ o).run P w = .ok (.value (ρ x)) w := by simp [execOp, hx, go_sem]
    unfold Good at h ⊢
    rw [hr] at h ⊢
    exact ⟨h, fun y hy => by rw [hx] at hy; injection hy with hy; rw [hy]⟩
  · have hno : ∀ (v : Value) x, o.op = .assign x → v = ρ x := fun v x h => absurd ⟨x, h⟩ hx
    unfold Good at h ⊢
    generalize (execOp ρ o).run P w = r at h ⊢
    match r, h with
    | .ok (.value v) w', h => exact ⟨h, hno v⟩
    | .ok .skip w', h => exact ⟨h, hno _⟩
    | .ok (.enter f args) w', h =>
      refine Calls.mono h fun e w'' he => ?_
      match e, he with
      | .returned v, he => exact ⟨he, hno v⟩

structure Inv (ops : Array Oper) (τ : Nat → World → Value → Prop) (d : Nat) (I : Option Value → World → Prop) (a0 : Act) (L : Nat → Bool) (a : Act) (w : World) : Prop where
  shut : Shut ops L
  vals : ∃ f, Is ops a0 L f a ∧ I (if L d then some (f d) else none) w ∧ (∀ i, L i = true → i < ops.size ∧ τ i w (f i)) ∧ Copies ops L f

theorem eval_const (a b : Act) (x : Operand) (h : ∀ t, x ≠ .tmp t) : a.eval x = b.eval x := by
  cases x with
  | tmp t => exact absurd rfl (h t)
  | _ => rfl

theorem Inv.known {τ : Nat → World → Value → Prop} {d : Nat} {I : Option Value → World → Prop} {a0 a : Act} {L : Nat → Bool} {w : World} (hB : rgB ops = true) (hS : (ops.all fun o => match o.dst with | some t => decide (t < a0.tmps.size) | none => true) = true)
    (h : Inv ops τ d I a0 L a w) {i : Nat} {o : Oper} (ho : ops[i]? = some o) (hL : L i = false) (hr : ∀ e ∈ o.after, Region.binds .any e = true → L e.on = true) : Known ops τ a0 a.eval w i o.op.operands.toList := by
  obtain ⟨hC, f, hf, hI, hτ, _⟩ := h
  have anc : ∀ j, ancB ops 4 j i = true → j ≠ i → L j = true := by
    intro j hj hne
    rw [show (4 : Nat) = 3 + 1 from rfl, ancB, Bool.or_eq_true] at hj
    rcases hj with hj | hj
    · exact absurd (by simpa using hj) hne
    · simp only [ho, Option.map_some, Option.getD_some, Array.any_eq_true] at hj
      obtain ⟨k, hk, hj⟩ := hj
      rw [Bool.and_eq_true] at hj
      exact ancB_shut hC 3 j _ hj.2 (hr _ (Array.getElem_mem hk) hj.1)
  have hdst : ∀ (j : Nat) (p : Oper) (t : Tmp), ops[j]? = some p → p.dst = some t → t < a0.tmps.size := by
    intro j p t hp ht
    have := Array.all_eq_true_iff_forall_mem.1 hS p (Array.mem_of_getElem? hp)
    simpa [ht] using this
  have mem : ∀ t, .tmp t ∈ o.op.operands.toList → ∀ p : Oper, p.dst = some t → clash p o = true := by
    intro t ht p hp
    unfold clash
    rw [hp]
    simp only [Bool.or_eq_true]
    left
    rw [List.contains_iff_mem]
    exact List.mem_filterMap.2 ⟨_, ht, rfl⟩
  have mem' : ∀ t, .tmp t ∈ o.op.operands.toList → ∀ p : Oper, p.dst = some t → clash o p = true := by
    intro t ht p hp
    unfold clash
    rw [hp]
    simp only [Bool.or_eq_true]
    right
    rw [List.contains_iff_mem]
    exact List.mem_filterMap.2 ⟨_, ht, rfl⟩
  -- only what the operation looks at is asked
  have go : ∀ xs : List Operand, (∀ x ∈ xs, x ∈ o.op.operands.toList) → Known ops τ a0 a.eval w i xs := by
    intro xs
    induction xs with
    | nil => intro _; trivial
    | cons x xs ih =>
      intro hx
      have hrest := ih fun y hy => hx y (List.mem_cons_of_mem _ hy)
      cases x with
      | tmp t =>
        have ht := hx (.tmp t) (by simp)
        refine ⟨?_, hrest⟩
        cases hj : writer ops i t with
        | none =>
          show a.tmps.getD t undef = a0.tmps.getD t undef
          refine hf.old t fun j p hLj hp hd => ?_
          have hji : ¬ j < i := fun hlt => by
            have := List.find?_eq_none.1 hj j (List.mem_range.2 hlt)
            simp [hp, hd] at this
          have hne : j ≠ i := fun e => by subst e; rw [hL] at hLj; cases hLj
          -- j comes behind i: then i is listed too
          have hlt : i < j := by omega
          have := ancB_shut hC 4 i j ((rgB_ok hB hp).anc i o hlt ho (mem' t ht p hd)) hLj
          rw [hL] at this; cases this
        | some j =>
          have hj' := List.find?_some hj
          have hji : j < i := List.mem_range.1 (List.mem_of_find?_eq_some hj)
          cases hp : ops[j]? with
          | none => simp [hp] at hj'
          | some p =>
            have hd : p.dst = some t := by simpa [hp] using hj'
            have hLj := anc j ((rgB_ok hB ho).anc j p hji hp (mem t ht p hd)) (by omega)
            have := hf.mine j p t hLj hp hd (hdst j p t hp hd)
            show τ j w (a.tmps.getD t undef)
            rw [this]
            exact (hτ j hLj).2
      | const v => exact ⟨rfl, hrest⟩
      | global v => exact ⟨rfl, hrest⟩
      | func v => exact ⟨rfl, hrest⟩
  exact go _ fun _ h => h

theorem Inv.copy {τ : Nat → World → Value → Prop} {d : Nat} {I : Option Value → World → Prop} {a0 a : Act} {L : Nat → Bool} {w : World} (hB : rgB ops = true) (hS : (ops.all fun o => match o.dst with | some t => decide (t < a0.tmps.size) | none => true) = true)
    (h : Inv ops τ d I a0 L a w) {i : Nat} {o : Oper} (ho : ops[i]? = some o) (hL : L i = false) (hr : ∀ e ∈ o.after, Region.binds .any e = true → L e.on = true) {f : Nat → Value} (hf : Is ops a0 L f a) {t : Tmp} {j : Nat}
    (ha : o.op = .assign (.tmp t)) (hj : writer ops i t = some j) : L j = true ∧ a.eval (.tmp t) = f j := by
  have hC := h.shut
  have hj' := List.find?_some hj
  have hji : j < i := List.mem_range.1 (List.mem_of_find?_eq_some hj)
  cases hp : ops[j]? with
  | none => simp [hp] at hj'
  | some p =>
    have hd : p.dst = some t := by simpa [hp] using hj'
    have hcl : clash p o = true := by
      unfold clash
      rw [hd]
      simp only [Bool.or_eq_true]
      left
      rw [List.contains_iff_mem]
      exact List.mem_filterMap.2 ⟨.tmp t, by rw [ha]; simp [Op.operands], rfl⟩
    have hanc := (rgB_ok hB ho).anc j p hji hp hcl
    have hLj : L j = true := by
      rw [show (4 : Nat) = 3 + 1 from rfl, ancB, Bool.or_eq_true] at hanc
      rcases hanc with h1 | h1
      · exact absurd (by simpa using h1) (Nat.ne_of_lt hji)
      · simp only [ho, Option.map_some, Option.getD_some, Array.any_eq_true] at h1
        obtain ⟨k, hk, h1⟩ := h1
        rw [Bool.and_eq_true] at h1
        exact ancB_shut hC 3 j _ h1.2 (hr _ (Array.getElem_mem hk) h1.1)
    have hdst : t < a0.tmps.size := by
      have := Array.all_eq_true_iff_forall_mem.1 hS p (Array.mem_of_getElem? hp)
      simpa [hd] using this
    exact ⟨hLj, hf.mine j p t hLj hp hd hdst⟩

def open_ (ops : Array Oper) (listed : Array Bool) : Nat := (List.range ops.size).countP fun i => !listed.getD i false

theorem rg_any {Q : Exit → Act → World → Prop} {τ : Nat → World → Value → Prop} {d : Nat} {I : Nat → Option Value → World → Prop} {G : World → World → Prop} {a0 : Act} (hB : rgB ops = true) (hS : (ops.all fun o => match o.dst with | some t => decide (t < a0.tmps.size) | none => true) = true)
    (hG : ∀ i v w w', τ i w v → G w w' → τ i w' v)
    (hstep : ∀ i o, ops[i]? = some o → ∀ k ov ρ w, k < ops.size → I k ov w → (ancB ops 8 i d = true → ov = none) → Known ops τ a0 ρ w i o.op.operands.toList → Good P o ρ w fun v w' => τ i w' v ∧ I (k + 1) (if i = d then some v else ov) w' ∧ G w w')
    (hd : d < ops.size) (hend : ∀ f w' k, k ≤ ops.size → I k (some (f d)) w' → (∀ i, i < ops.size → τ i w' (f i)) → Copies ops (fun j => decide (j < ops.size)) f → Q .normal (putAll ops.toList f 0 a0) w') :
    ∀ (fuel : Nat) (listed : Array Bool) (a : Act) (w : World) (k : Nat), k + fuel = ops.size → listed.size = ops.size → open_ ops listed ≤ fuel → Inv ops τ d (I k) a0 (fun i => listed.getD i false) a w → wpAny P .any ops Q fuel listed a w := by
  have last : ∀ (listed : Array Bool) (a : Act) (w : World) (k : Nat), k ≤ ops.size → listed.size = ops.size → Inv ops τ d (I k) a0 (fun i => listed.getD i false) a w → Region.ready .any ops listed = [] → Q .normal a w := by
    intro listed a w k hk hsz h hr
    have hall : ∀ i, i < ops.size → listed.getD i false = true := by
      intro i
      induction i using Nat.strongRecOn with
      | _ i ih =>
        intro hi
        rcases hb : listed.getD i false with _ | _
        · exfalso
          have hm : i ∈ Region.ready .any ops listed := mem_ready.2 ⟨by
            have : i < listed.size := by omega
            simpa [Array.getD, this] using hb, ops[i], Array.getElem?_eq_getElem hi, fun e he hbn => ih e.on ((rgB_ok hB (Array.getElem?_eq_getElem hi)).back e he hbn) (by
              have := (rgB_ok hB (Array.getElem?_eq_getElem hi)).back e he hbn
              omega)⟩
          rw [hr] at hm
          cases hm
        · rfl
    obtain ⟨_, f, hf, hI, hτ, hcp⟩ := h
    have hI : I k (some (f d)) w := by simpa [hall d hd] using hI
    have e1 : Is ops a0 (fun j => decide (j < ops.size)) f a := ⟨hf.defers, hf.size, fun i o t hi ho hd hl => hf.mine i o t (hall i (Array.getElem?_eq_some_iff.1 ho).1) ho hd hl,
      fun t ht => hf.old t fun i o hi ho => ht i o (by simpa using (Array.getElem?_eq_some_iff.1 ho).1) ho⟩
    have e0 : Is ops a0 (fun j => decide (j < 0)) f a0 := ⟨rfl, rfl, fun _ _ _ h => by simp at h, fun _ _ => rfl⟩
    rw [e1.same (putAll_is hB ops.toList 0 a0 rfl e0)]
    refine hend f w k hk hI (fun i hi => (hτ i (hall i hi)).2) fun i o t j hi ho ha hw => ?_
    have hi' : i < ops.size := by simpa using hi
    obtain ⟨h1, h2⟩ := hcp i o t j (hall i hi') ho ha hw
    exact ⟨by simpa using (hτ j h1).1, h2⟩
  intro fuel
  induction fuel with
  | zero =>
    intro listed a w k hk hsz hc h
    have hr : Region.ready .any ops listed = [] := by
      refine List.eq_nil_iff_forall_not_mem.2 fun i hi => ?_
      obtain ⟨h1, o, ho, _⟩ := mem_ready.1 hi
      have hlt := (Array.getElem?_eq_some_iff.1 ho).1
      have hpos : 0 < open_ ops listed := List.countP_pos_iff.2 ⟨i, List.mem_range.2 hlt, by
        have : i < listed.size := by omega
        simpa [Array.getD, this] using h1⟩
      omega
    exact ⟨hr, last listed a w k (by omega) hsz h hr⟩
  | succ fuel ih =>
    intro listed a w k hk0 hsz hc h
    refine ⟨last listed a w k (by omega) hsz h, fun i hi => ?_⟩
    obtain ⟨h1, o, ho, hr⟩ := mem_ready.1 hi
    have hlt := (Array.getElem?_eq_some_iff.1 ho).1
    have hil : i < listed.size := by omega
    have h1' : listed.getD i false = false := by simpa [Array.getD, hil] using h1
    have hk := h.known hB hS ho h1' hr
    have hcopy : ∀ (f : Nat → Value), Is ops a0 (fun i => listed.getD i false) f a → ∀ t j, o.op = .assign (.tmp t) → writer ops i t = some j → listed.getD j false = true ∧ a.eval (.tmp t) = f j := fun f hf t j ha hw => h.copy hB hS ho h1' hr hf ha hw
    obtain ⟨hC, f, hf, hI, hτ, hcp⟩ := h
    have hg := hstep i o ho k _ a.eval w (by omega) hI (fun e => if_neg (fun hdl => by have := ancB_shut hC 8 i d e hdl; rw [h1'] at this; cases this)) hk
    unfold wpOp
    simp only [ho]
    rw [if_pos (by simp [Region.wanted, (rgB_ok hB ho).guard])]
    refine .inl (Good.wp hg.assign fun v w' ⟨⟨hv, hI', hgw⟩, hva⟩ => ?_)
    have eL : (fun j => (listed.setIfInBounds i true).getD j false) = fun j => if j = i then true else listed.getD j false := by
      funext j
      by_cases e : j = i
      · subst e; simp [hil]
      · simp only [e, if_false]
        exact getD_set_ne false (fun h => e h.symm)
    refine ih _ _ _ (k + 1) (by omega) (by simpa using hsz) ?_ ?_
    · have : open_ ops (listed.setIfInBounds i true) < open_ ops listed := by
        refine countP_lt (fun x _ hx => ?_) ⟨i, List.mem_range.2 hlt, by simpa using h1', ?_⟩
        · have : (listed.setIfInBounds i true).getD x false = if x = i then true else listed.getD x false := congrFun eL x
          rw [this] at hx
          by_cases e : x = i
          · simp [e] at hx
          · simpa [e] using hx
        · have : (listed.setIfInBounds i true).getD i false = if i = i then true else listed.getD i false := congrFun eL i
          rw [this]
          simp
      omega
    · rw [eL]
      refine ⟨fun j p hj hp e he hb => ?_, _, hf.step hB ho h1' v, ?_, fun j hj => ?_, fun j p t q hj hp ha hw => ?_⟩
      · by_cases ej : j = i
        · subst ej
          obtain rfl := Option.some.inj (ho.symm.trans hp)
          have := hr e he hb
          by_cases ee : e.on = j <;> simp [ee, this]
        · simp only [ej, if_false] at hj
          have := hC j p hj hp e he hb
          by_cases ee : e.on = i <;> simp [ee, this]
      · by_cases ed : i = d
        · subst ed
          simpa using hI'
        · simpa [ed, show ¬ d = i from fun h => ed h.symm] using hI'
      · by_cases ej : j = i
        · subst ej
          exact ⟨hlt, by simpa using hv⟩
        · simp only [ej, if_false] at hj ⊢
          exact ⟨(hτ j hj).1, hG j _ _ _ (hτ j hj).2 hgw⟩
      · have hqj : q < j := List.mem_range.1 (List.mem_of_find?_eq_some hw)
        by_cases ej : j = i
        · subst ej
          obtain rfl := Option.some.inj (ho.symm.trans hp)
          obtain ⟨h5, h6⟩ := hcopy f hf t q ha hw
          have hne : q ≠ j := by omega
          exact ⟨by simp only [hne, if_false]; exact h5, by simp only [hne, if_false, if_true]; rw [hva _ ha, h6]⟩
        · simp only [ej, if_false] at hj ⊢
          obtain ⟨h5, h6⟩ := hcp j p t q hj hp ha hw
          have h5' : listed.getD q false = true := h5
          have hne : q ≠ i := fun e => by rw [e, h1'] at h5'; cases h5'
          simp only [hne, if_false]
          exact ⟨h5, h6⟩

theorem ancB_self (ops : Array Oper) : ∀ (n i : Nat), ancB ops n i i = true
  | 0, i => by simp [ancB]
  | n + 1, i => by simp [ancB]
/-- THE RULE; what must come before the d-th step finds it undone. τ: what each operation yields; I: what holds of the world throughout; G: how the world may change. -/
theorem wp_region_rga {id : Nat} {Q : Exit → Act → World → Prop} {a0 : Act} {w : World} (τ : Nat → World → Value → Prop) (d : Nat) (I : Nat → Option Value → World → Prop) (G : World → World → Prop)
    (hm : P.follows .mixedOrders = true) (hB : rgB ops = true) (hS : (ops.all fun o => match o.dst with | some t => decide (t < a0.tmps.size) | none => true) = true) (h0 : I 0 none w.drew)
    (hG : ∀ i v w w', τ i w v → G w w' → τ i w' v)
    (hstep : ∀ i o, ops[i]? = some o → ∀ k ov ρ w, k < ops.size → I k ov w → (ancB ops 8 i d = true → ov = none) → Known ops τ a0 ρ w i o.op.operands.toList → Good P o ρ w fun v w' => τ i w' v ∧ I (k + 1) (if i = d then some v else ov) w' ∧ G w w')
    (hd : d < ops.size) (hend : ∀ f w' k, k ≤ ops.size → I k (some (f d)) w' → (∀ i, i < ops.size → τ i w' (f i)) → Copies ops (fun j => decide (j < ops.size)) f → Q .normal (putAll ops.toList f 0 a0) w') : (Code.region id ops true).wp P Q a0 w := by
  refine wp_region_any hm (rg_any hB hS hG hstep hd hend ops.size (Array.replicate ops.size false) a0 _ 0 (by omega) (by simp) ?_ ?_)
  · unfold open_
    exact Nat.le_trans List.countP_le_length (by simp)
  · have e : (fun i => (Array.replicate ops.size false).getD i false) = fun _ => false := by
      funext i
      by_cases h : i < ops.size <;> simp [Array.getD, h]
    rw [e]
    exact ⟨(fun j o hj => (by cases hj)), ⟨fun _ => undef, Is.start a0 _, h0, (fun i hi => (by cases hi)), (fun i o t j hi => (by cases hi))⟩⟩
/-- THE RULE. τ: what each operation yields; I: what holds of the world throughout; G: how the world may change. -/
theorem wp_region_rg {id : Nat} {Q : Exit → Act → World → Prop} {a0 : Act} {w : World} (τ : Nat → World → Value → Prop) (d : Nat) (I : Nat → Option Value → World → Prop) (G : World → World → Prop)
    (hm : P.follows .mixedOrders = true) (hB : rgB ops = true) (hS : (ops.all fun o => match o.dst with | some t => decide (t < a0.tmps.size) | none => true) = true) (h0 : I 0 none w.drew)
    (hG : ∀ i v w w', τ i w v → G w w' → τ i w' v)
    (hstep : ∀ i o, ops[i]? = some o → ∀ k ov ρ w, k < ops.size → I k ov w → (i = d → ov = none) → Known ops τ a0 ρ w i o.op.operands.toList → Good P o ρ w fun v w' => τ i w' v ∧ I (k + 1) (if i = d then some v else ov) w' ∧ G w w')
    (hd : d < ops.size) (hend : ∀ f w' k, k ≤ ops.size → I k (some (f d)) w' → (∀ i, i < ops.size → τ i w' (f i)) → Copies ops (fun j => decide (j < ops.size)) f → Q .normal (putAll ops.toList f 0 a0) w') : (Code.region id ops true).wp P Q a0 w :=
  wp_region_rga τ d I G hm hB hS h0 hG (fun i o ho k ov ρ w hk hI hov hK => hstep i o ho k ov ρ w hk hI (fun e => hov (by subst e; exact ancB_self _ _ _)) hK) hd hend
end
end Go.Proofs.Ytlbfejdbfhgifaa

namespace Go.Proofs.Ytlbfejdbfhgifaa
open Go.RowKit
/-! A world that differs from another one in some blocks and in new ones alone. -/
structure Only (E : Nat → Prop) (w w' : World) : Prop where
  os : w'.os = w.os
  tape : w'.tape = w.tape
  output : w'.output = w.output
  size : w.heap.size ≤ w'.heap.size
  block : ∀ k, k < w.heap.size → ¬ E k → w'.heap[k]? = w.heap[k]?
section
variable {E : Nat → Prop} {a b c : World}
theorem Only.refl (E : Nat → Prop) (w : World) : Only E w w := ⟨rfl, rfl, rfl, Nat.le_refl _, fun _ _ _ => rfl⟩
theorem Only.trans (h : Only E a b) (h' : Only E b c) : Only E a c :=
  ⟨h'.os.trans h.os, h'.tape.trans h.tape, h'.output.trans h.output, Nat.le_trans h.size h'.size, fun k hk he => (h'.block k (Nat.lt_of_lt_of_le hk h.size) he).trans (h.block k hk he)⟩
theorem Only.grown {r : Option Nat} (h : a.grownBy b r) (hr : ∀ k, r = some k → E k) : Only E a b :=
  ⟨h.os, h.tape, h.output, h.size, fun k hk he => h.block k hk fun e => he (hr k e.symm)⟩
theorem Only.drew (E : Nat → Prop) (w : World) : Only E w w.drew := ⟨rfl, rfl, rfl, Nat.le_refl _, fun _ _ _ => rfl⟩
theorem Only.mono {F : Nat → Prop} (h : Only E a b) (hE : ∀ k, E k → F k) : Only F a b := ⟨h.os, h.tape, h.output, h.size, fun k hk he => h.block k hk fun e => he (hE k e)⟩
theorem Only.of_below (E : Nat → Prop) (h : Below a.heap.size a b) : Only E a b := ⟨h.os, h.tape, h.output, h.size, fun k hk _ => h.block k hk⟩
theorem Only.below {B : Nat} {w : World} (h : Below B w a) (h' : Only E a b) (hB : B ≤ a.heap.size) (hE : ∀ k, E k → B ≤ k) : Below B w b :=
  ⟨h'.os.trans h.os, h'.tape.trans h.tape, h'.output.trans h.output, Nat.le_trans h.size h'.size, fun k hk => (h'.block k (Nat.lt_of_lt_of_le hk hB) fun e => by have := hE k e; omega).trans (h.block k hk)⟩
theorem Only.grownBy {R : Nat} (h : Only (· = R) a b) : a.grownBy b (some R) := ⟨h.os, h.tape, h.output, h.size, fun k hk hn => h.block k hk fun e => hn (by rw [e])⟩
end
end Go.Proofs.Ytlbfejdbfhgifaa

namespace Go.Proofs.Ytlbfejdbfhgifaa
open Go.RowKit
/-! No reader: for programs without draws. -/
structure Rd (w : World) (R P : Nat) : Prop where
  no : False
theorem Rd.lt {w : World} {R P : Nat} (h : Rd w R P) : R < w.heap.size := h.no.elim
theorem Rd.more {w : World} {R P Q : Nat} (h : Rd w R P) (_ : P ≤ Q) : Rd w R Q := h.no.elim
theorem Rd.below {w w' : World} {R P B : Nat} (h : Rd w R P) (_ : Below B w w') (_ : R < B) : Rd w' R P := h.no.elim
theorem Rd.grown {w w' : World} {R P : Nat} {row : Option Nat} (h : Rd w R P) (_ : w.grownBy w' row) (_ : ∀ k, row = some k → R < k) : Rd w' R P := h.no.elim
theorem Rd.alloc {w : World} {R P : Nat} (h : Rd w R P) (o : Obj) : Rd (w.alloc o) R P := h.no.elim
theorem Rd.drew1 {w : World} {R P : Nat} (h : Rd w R P) : Rd w.drew R P := h.no.elim
end Go.Proofs.Ytlbfejdbfhgifaa

namespace Go.Proofs.Ytlbfejdbfhgifaa
open Go.RowKit
/-! Regions that draw their order, one line an operation, in the text's order: the types of what the operations yield are found on the way. -/
abbrev Ty := World → Value → Prop
def TEq (c : Value) : Ty := fun _ v => v = c
def TInt (lo hi : Int) : Ty := fun _ v => ∃ x, v = .int .i64 x ∧ lo ≤ x ∧ x ≤ hi
def TBool : Ty := fun _ v => ∃ x, v = .bool x
/-- A slice of n cells of which G holds, in a block that nobody writes. -/
def TLit (E : Nat → Prop) (n : Nat) (G : Value → Prop) : Ty := fun w v => ∃ g, v = .slice (some ⟨g, 0, none⟩) n n ∧ ¬ E g ∧ g < w.heap.size ∧ ∀ i, i < n → ∃ x, w.cell? ⟨g, i, none⟩ = some x ∧ G x
def TPtr (E : Nat → Prop) (G : Value → Prop) : Ty := fun w v => ∃ g i x, v = .pointer (some ⟨g, i, none⟩) ∧ ¬ E g ∧ g < w.heap.size ∧ w.cell? ⟨g, i, none⟩ = some x ∧ G x
def TOf (G : Value → Prop) : Ty := fun _ v => G v
def TAny : Ty := fun _ _ => True
def GInt (lo hi : Int) (v : Value) : Prop := ∃ x, v = .int .i64 x ∧ lo ≤ x ∧ x ≤ hi
def Stb (E : Nat → Prop) (T : Ty) : Prop := ∀ v w w', T w v → Only E w w' → T w' v
section
variable (E : Nat → Prop)
theorem stb_eq (c : Value) : Stb E (TEq c) := fun _ _ _ h _ => h
theorem stb_int (lo hi : Int) : Stb E (TInt lo hi) := fun _ _ _ h _ => h
theorem stb_bool : Stb E TBool := fun _ _ _ h _ => h
theorem stb_of (G : Value → Prop) : Stb E (TOf G) := fun _ _ _ h _ => h
theorem stb_any : Stb E TAny := fun _ _ _ _ _ => trivial
variable {E} in
theorem cell_on {w w' : World} {g i : Nat} {u : Value} (hg : Only E w w') (hn : ¬ E g) (hl : g < w.heap.size) (h : w.cell? ⟨g, i, none⟩ = some u) : w'.cell? ⟨g, i, none⟩ = some u :=
  (World.cell?_of_block (a := ⟨g, i, none⟩) (hg.block g hl hn)).trans h
theorem stb_lit (n : Nat) (G : Value → Prop) : Stb E (TLit E n G) := by
  rintro v w w' ⟨g, hv, hn, hl, hc⟩ hg
  refine ⟨g, hv, hn, Nat.lt_of_lt_of_le hl hg.size, fun i hi => ?_⟩
  obtain ⟨x, hx, hb⟩ := hc i hi
  exact ⟨x, cell_on hg hn hl hx, hb⟩
theorem stb_ptr (G : Value → Prop) : Stb E (TPtr E G) := by
  rintro v w w' ⟨g, i, x, hv, hn, hl, hc, hb⟩ hg
  exact ⟨g, i, x, hv, hn, Nat.lt_of_lt_of_le hl hg.size, cell_on hg hn hl hc, hb⟩
end
/-- The type of the i-th operation; the list holds the last one first. -/
def tys (l : List Ty) (i : Nat) : Ty := l.getD (l.length - 1 - i) (TEq undef)
theorem tys_stb {E : Nat → Prop} {l : List Ty} (h : ∀ T ∈ l, Stb E T) (i : Nat) : Stb E (tys l i) := by
  unfold tys
  rw [List.getD_eq_getElem?_getD]
  cases hi : l[l.length - 1 - i]? with
  | none => exact stb_eq E undef
  | some T => exact h T (List.mem_of_getElem? hi)
theorem tys_old (T : Ty) (l : List Ty) {j : Nat} (h : j < l.length) : tys (T :: l) j = tys l j := by
  unfold tys
  rw [List.length_cons, show l.length + 1 - 1 - j = (l.length - 1 - j) + 1 from by omega]
  rfl
theorem tys_new (T : Ty) (l : List Ty) : tys (T :: l) l.length = T := by
  unfold tys
  rw [List.length_cons, show l.length + 1 - 1 - l.length = 0 from by omega]
  rfl
/-- The reader, where there is one: block R, at most P + k draws. -/
def RdO (rd : Option (Nat × Nat)) (k : Nat) (w : World) : Prop := match rd with | none => True | some (R, P) => Rd w R (P + k)
/-- What is fixed for a region: E: the blocks that its steps may write; F: those that all steps but the d-th may write; rd: its reader; J: what the d-th step is about. -/
structure RS where
  P : Program
  ops : Array Oper
  E : Nat → Prop
  F : Nat → Prop
  rd : Option (Nat × Nat)
  w0 : World
  J : Option Value → World → Prop
  d : Nat
  a0 : Act
def RS.I (S : RS) (k : Nat) (ov : Option Value) (w : World) : Prop := RdO S.rd k w ∧ Only S.E S.w0 w ∧ S.J ov w
structure RS.Ok (S : RS) : Prop where
  sub : ∀ g, S.F g → S.E g
  keep : ∀ ov w w', S.J ov w → Only S.F w w' → S.J ov w'
  reader : ∀ R P, S.rd = some (R, P) → S.F R ∧ R < S.w0.heap.size
  low : ∀ g, S.E g → g < S.w0.heap.size
def RSeq (S : RS) (Fin : List Ty → Prop) : List Oper → Nat → List Ty → Prop
  | [], _, τs => Fin τs
  | o :: l, i, τs => (∀ T ∈ τs, Stb S.E T) → ∃ T : Ty, Stb S.E T ∧ (∀ k ov ρ w, k < S.ops.size → S.I k ov w → (ancB S.ops 8 i S.d = true → ov = none) → Known S.ops (tys τs) S.a0 ρ w i o.op.operands.toList → Good S.P o ρ w fun v w' => T w' v ∧ S.I (k + 1) (if i = S.d then some v else ov) w' ∧ Only S.E w w') ∧ RSeq S Fin l (i + 1) (T :: τs)
theorem Good.mono {P : Program} {o : Oper} {ρ : Operand → Value} {w : World} {R R' : Value → World → Prop} (h : Good P o ρ w R) (hR : ∀ v w', R v w' → R' v w') : Good P o ρ w R' := by
  unfold Good at h ⊢
  generalize (execOp ρ o).run P w = r at h ⊢
  match r, h with
  | .ok (.value v) w', h => exact hR v w' h
  | .ok .skip w', h => exact hR _ w' h
  | .ok (.enter f args) w', h =>
    refine Calls.mono h fun e w'' he => ?_
    match e, he with
    | .returned v, he => exact hR v w'' he
theorem known_mono {ops : Array Oper} {τ τ' : Nat → World → Value → Prop} {a0 : Act} {ρ : Operand → Value} {w : World} {i : Nat} (h : ∀ j w v, j < i → τ j w v → τ' j w v) : ∀ xs : List Operand, Known ops τ a0 ρ w i xs → Known ops τ' a0 ρ w i xs
  | [], _ => trivial
  | .tmp t :: xs, ⟨h1, h2⟩ => by
    refine ⟨?_, known_mono h xs h2⟩
    cases hw : writer ops i t with
    | none => rw [hw] at h1; exact h1
    | some j =>
      rw [hw] at h1
      have hj : j < i := by
        have := List.mem_of_find?_eq_some hw
        exact List.mem_range.1 this
      exact h j w _ hj h1
  | .const v :: xs, ⟨h1, h2⟩ => ⟨h1, known_mono h xs h2⟩
  | .global v :: xs, ⟨h1, h2⟩ => ⟨h1, known_mono h xs h2⟩
  | .func v :: xs, ⟨h1, h2⟩ => ⟨h1, known_mono h xs h2⟩
/-- The types, all told. -/
theorem rseq_types {S : RS} {Fin : List Ty → Prop} : ∀ (l : List Oper) (τs : List Ty), S.ops.toList.drop τs.length = l → τs.length + l.length = S.ops.size → (∀ T ∈ τs, Stb S.E T) → RSeq S Fin l τs.length τs →
    ∃ τ : List Ty, (∀ j, j < τs.length → tys τ j = tys τs j) ∧ (∀ T ∈ τ, Stb S.E T) ∧ Fin τ ∧ ∀ i o, τs.length ≤ i → S.ops[i]? = some o → ∀ k ov ρ w, k < S.ops.size → S.I k ov w → (ancB S.ops 8 i S.d = true → ov = none) → Known S.ops (tys τ) S.a0 ρ w i o.op.operands.toList → Good S.P o ρ w fun v w' => tys τ i w' v ∧ S.I (k + 1) (if i = S.d then some v else ov) w' ∧ Only S.E w w'
  | [], τs, _, hlen, hst, h => by
    simp at hlen
    refine ⟨τs, fun _ _ => rfl, hst, h, fun i o hi ho => ?_⟩
    have := (Array.getElem?_eq_some_iff.1 ho).1
    omega
  | o :: l, τs, hl, hlen, hst, h => by
    obtain ⟨T, hT, hg, hr⟩ := h hst
    have hst' : ∀ T' ∈ T :: τs, Stb S.E T' := by
      intro T' hT'
      rcases List.mem_cons.1 hT' with h1 | h1
      · rw [h1]; exact hT
      · exact hst T' h1
    have hdrop : S.ops.toList.drop (T :: τs).length = l := by
      rw [List.length_cons, ← List.drop_drop, hl]; rfl
    obtain ⟨τ, h2, h3, h4, h5⟩ := rseq_types l (T :: τs) hdrop (by simp at hlen ⊢; omega) hst' (by rw [List.length_cons]; exact hr)
    rw [List.length_cons] at h2 h5
    have hget : ∀ j, j < τs.length → tys τ j = tys τs j := fun j hj => (h2 j (by omega)).trans (tys_old T τs hj)
    have hgetT : tys τ τs.length = T := (h2 _ (by omega)).trans (tys_new T τs)
    refine ⟨τ, hget, h3, h4, fun i o' hi ho => ?_⟩
    rcases Nat.lt_or_ge τs.length i with hlt | hge
    · exact h5 i o' hlt ho
    · obtain rfl : i = τs.length := by omega
      have : o' = o := by
        have e : S.ops.toList[τs.length]? = some o := by
          have := congrArg (fun l => l[0]?) hl
          simpa using this
        rw [Array.getElem?_toList] at e
        exact Option.some.inj (ho.symm.trans e)
      subst this
      intro k ov ρ w hk hI hd hK
      rw [hgetT]
      exact hg k ov ρ w hk hI hd (known_mono (fun j w v hj h => by rw [← hget j hj]; exact h) _ hK)
/-- THE RULE. -/
theorem wp_region_rs {id : Nat} {Q : Exit → Act → World → Prop} (S : RS) (hO : S.Ok) (hm : S.P.follows .mixedOrders = true) (hB : rgB S.ops = true) (hS : (S.ops.all fun o => match o.dst with | some t => decide (t < S.a0.tmps.size) | none => true) = true) (hd : S.d < S.ops.size)
    (hr : RdO S.rd 0 S.w0) (hJ : S.J none S.w0)
    (h : RSeq S (fun τ => ∀ f w' k, k ≤ S.ops.size → S.I k (some (f S.d)) w' → (∀ i, i < S.ops.size → tys τ i w' (f i)) → Copies S.ops (fun j => decide (j < S.ops.size)) f → Q .normal (putAll S.ops.toList f 0 S.a0) w') S.ops.toList 0 []) : (Code.region id S.ops true).wp S.P Q S.a0 S.w0 := by
  obtain ⟨τ, _, h3, h4, h5⟩ := rseq_types S.ops.toList [] (by simp) (by simp) (by simp) h
  refine wp_region_rga (tys τ) S.d S.I (Only S.E) hm hB hS ⟨?_, Only.drew _ _, hO.keep _ _ _ hJ (Only.drew _ _)⟩ (fun i v w w' ht hg => tys_stb h3 i v w w' ht hg) (fun i o ho => h5 i o (Nat.zero_le _) ho) hd (fun f w' k hk hI ht hc => h4 f w' k hk hI ht hc)
  cases hrd : S.rd with
  | none => trivial
  | some x =>
    rw [hrd] at hr
    exact Rd.drew1 hr
/-! ### The steps -/
section
variable {S : RS} {Fin : List Ty → Prop} {o : Oper} {l : List Oper} {i : Nat} {τs : List Ty}
/-- A step that is not the d-th. -/
theorem rs_plain (hO : S.Ok) (hid : i ≠ S.d ∨ ∀ ov w, S.J ov w) (T : Ty) (hT : Stb S.E T)
    (h : ∀ k ρ w, k < S.ops.size → RdO S.rd k w → Only S.E S.w0 w → Known S.ops (tys τs) S.a0 ρ w i o.op.operands.toList → Good S.P o ρ w fun v w' => T w' v ∧ RdO S.rd (k + 1) w' ∧ Only S.F w w')
    (rest : RSeq S Fin l (i + 1) (T :: τs)) : RSeq S Fin (o :: l) i τs := by
  intro _
  refine ⟨T, hT, fun k ov ρ w hk hI _ hK => ?_, rest⟩
  refine (h k ρ w hk hI.1 hI.2.1 hK).mono fun v w' ⟨h1, h2, h3⟩ => ?_
  refine ⟨h1, ⟨h2, hI.2.1.trans (h3.mono hO.sub), ?_⟩, h3.mono hO.sub⟩
  rcases hid with hid | hid
  · rw [if_neg hid]
    exact hO.keep _ _ _ hI.2.2 h3
  · exact hid _ _
theorem rdO_more {rd : Option (Nat × Nat)} {k : Nat} {w : World} (h : RdO rd k w) : RdO rd (k + 1) w := by
  cases rd with
  | none => trivial
  | some x => exact Rd.more h (by omega)
theorem rdO_only {rd : Option (Nat × Nat)} {k : Nat} {w w' : World} {F : Nat → Prop} (h : RdO rd k w) (hg : w.grownBy w' none) : RdO rd k w' := by
  cases rd with
  | none => trivial
  | some x => exact Rd.grown h hg (by simp)
/-- A step that leaves the world alone. -/
theorem rs_pure (hO : S.Ok) (hid : i ≠ S.d ∨ ∀ ov w, S.J ov w) (T : Ty) (hT : Stb S.E T)
    (h : ∀ ρ w, Known S.ops (tys τs) S.a0 ρ w i o.op.operands.toList → ∃ v, (execOp ρ o).run S.P w = .ok (.value v) w ∧ T w v)
    (rest : RSeq S Fin l (i + 1) (T :: τs)) : RSeq S Fin (o :: l) i τs := by
  refine rs_plain hO hid T hT (fun k ρ w _ hr _ hK => ?_) rest
  obtain ⟨v, h1, h2⟩ := h ρ w hK
  unfold Good
  rw [h1]
  exact ⟨h2, rdO_more hr, Only.refl _ _⟩
/-- 'move' and 'assign' of a slot of before, of a constant. -/
theorem rs_old (hO : S.Ok) (hid : i ≠ S.d ∨ ∀ ov w, S.J ov w) (x : Operand) (ho : o.op = .move x ∨ o.op = .assign x) (c : Value) (hx : S.a0.eval x = c) (hw : (match x with | .tmp t => writer S.ops i t | _ => none) = none)
    (rest : RSeq S Fin l (i + 1) (TEq c :: τs)) : RSeq S Fin (o :: l) i τs := by
  refine rs_pure hO hid _ (stb_eq _ _) (fun ρ w hK => ⟨ρ x, ?_, ?_⟩) rest
  · rcases ho with ho | ho <;> simp [execOp, ho, go_sem]
  · have he : o.op.operands.toList = [x] := by rcases ho with ho | ho <;> rw [ho] <;> rfl
    rw [he] at hK
    show ρ x = c
    rw [← hx]
    cases x with
    | tmp t =>
      have h1 := hK.1
      rw [show writer S.ops i t = none from hw] at h1
      exact h1
    | const v => exact hK.1
    | global v => exact hK.1
    | func v => exact hK.1
/-- 'move' and 'assign' of what the region yielded. -/
theorem rs_same (hO : S.Ok) (hid : i ≠ S.d ∨ ∀ ov w, S.J ov w) (t j : Nat) (ho : o.op = .move (.tmp t) ∨ o.op = .assign (.tmp t)) (hw : writer S.ops i t = some j) (T : Ty) (hT : tys τs j = T)
    (rest : RSeq S Fin l (i + 1) (T :: τs)) : RSeq S Fin (o :: l) i τs := by
  intro hst
  refine rs_pure hO hid T (hT ▸ tys_stb hst j) (fun ρ w hK => ⟨ρ (.tmp t), ?_, ?_⟩) rest hst
  · rcases ho with ho | ho <;> simp [execOp, ho, go_sem]
  · have he : o.op.operands.toList = [.tmp t] := by rcases ho with ho | ho <;> rw [ho] <;> rfl
    rw [he] at hK
    have h1 := hK.1
    rw [hw] at h1
    rw [← hT]
    exact h1
def FnOk (P' : Program) (f : FuncId) : Prop := ∀ (args : Array Value) (w : World), (callFunc f args).run P' w = .ok (.enter f args) w
/-- A draw: whatever is asked for. -/
theorem rs_pick (hO : S.Ok) (hid : i ≠ S.d ∨ ∀ ov w, S.J ov w) (f : FuncId) (x y : Operand) (at_ : Array TypeId) (R P hi : Nat) (ho : o.op = .call { callee := .value (.func f), args := #[x, y], argTypes := at_ }) (hrd : S.rd = some (R, P)) (hcf : FnOk S.P f)
    (hx : ∀ ρ w, Known S.ops (tys τs) S.a0 ρ w i [.func f, x, y] → ρ (.func f) = .func (.func f) #[] #[] ∧ ρ x = .pointer (some ⟨R, 0, none⟩) ∧ ∃ n : Int, ρ y = .int .i64 n ∧ 1 ≤ n ∧ n ≤ hi + 1)
    (hc : ∀ (n : Int) (k : Nat) (w : World), k < S.ops.size → 1 ≤ n → n ≤ hi + 1 → Rd w R (P + k) → Calls S.P f #[.pointer (some ⟨R, 0, none⟩), .int .i64 n] w fun e w' => ∃ x : Int, 0 ≤ x ∧ x ≤ hi ∧ e = .returned (.int .i64 x) ∧ Rd w' R (P + k + 1) ∧ w.grownBy w' (some R))
    (rest : RSeq S Fin l (i + 1) (TInt 0 hi :: τs)) : RSeq S Fin (o :: l) i τs := by
  refine rs_plain hO hid _ (stb_int _ _ _) (fun k ρ w hk hr hon hK => ?_) rest
  rw [ho] at hK
  obtain ⟨h1, h2, n, h3, h3', h4⟩ := hx ρ w hK
  rw [hrd] at hr
  have hrun : (execOp ρ o).run S.P w = .ok (.enter f #[.pointer (some ⟨R, 0, none⟩), .int .i64 n]) w := by
    simp [execOp, ho, h1, h2, h3, go_sem, Result.andThen]
    exact hcf _ _
  unfold Good
  rw [hrun]
  refine (hc n k w hk h3' h4 hr).mono ?_
  rintro e w' ⟨y, h5, h6, rfl, hr', hg⟩
  refine ⟨⟨y, rfl, h5, h6⟩, by rw [hrd]; exact hr', Only.grown hg fun q hq => ?_⟩
  cases hq
  exact (hO.reader R P hrd).1
/-- A call that makes memory alone. -/
theorem rs_call (hO : S.Ok) (hid : i ≠ S.d ∨ ∀ ov w, S.J ov w) (T : Ty) (hT : Stb S.E T) (f : FuncId) (args : Array Operand) (at_ : Array TypeId) (ho : o.op = .call { callee := .value (.func f), args := args, argTypes := at_ })
    (h : ∀ ρ w, Only S.E S.w0 w → Known S.ops (tys τs) S.a0 ρ w i (.func f :: args.toList) → ∃ vs, (execOp ρ o).run S.P w = .ok (.enter f vs) w ∧ Calls S.P f vs w fun e w' => ∃ v, e = .returned v ∧ T w' v ∧ Below w.heap.size w w')
    (rest : RSeq S Fin l (i + 1) (T :: τs)) : RSeq S Fin (o :: l) i τs := by
  refine rs_plain hO hid T hT (fun k ρ w hk hr hon hK => ?_) rest
  have he : o.op.operands.toList = .func f :: args.toList := by rw [ho]; simp [Op.operands, Call.operands]
  rw [he] at hK
  obtain ⟨vs, h1, h2⟩ := h ρ w hon hK
  unfold Good
  rw [h1]
  refine h2.mono ?_
  rintro e w' ⟨v, rfl, h3, h4⟩
  refine ⟨h3, ?_, Only.of_below _ h4⟩
  have hr' := rdO_more hr
  cases hrd : S.rd with
  | none => trivial
  | some x =>
    rw [hrd] at hr'
    exact Rd.below hr' h4 (Rd.lt hr')
/-- A literal. -/
theorem rs_build (hO : S.Ok) (hid : i ≠ S.d ∨ ∀ ov w, S.J ov w) (n : Nat) (G : Value → Prop) (e : TypeId)
    (h : ∀ ρ w, Known S.ops (tys τs) S.a0 ρ w i o.op.operands.toList → ∃ cs : Array Value, cs.size = n ∧ (execOp ρ o).run S.P w = .ok (.value (.slice (some ⟨w.heap.size, 0, none⟩) n n)) (w.alloc (.cells cs e)) ∧ ∀ c ∈ cs, G c)
    (rest : RSeq S Fin l (i + 1) (TLit S.E n G :: τs)) : RSeq S Fin (o :: l) i τs := by
  refine rs_plain hO hid _ (stb_lit _ _ _) (fun k ρ w hk hr hon hK => ?_) rest
  obtain ⟨cs, h1, h2, h3⟩ := h ρ w hK
  unfold Good
  rw [h2]
  have hb : Below w.heap.size w (w.alloc (.cells cs e)) := (Below.refl _ _).alloc (Nat.le_refl _) _
  refine ⟨⟨w.heap.size, rfl, fun hE => ?_, by simp, fun j hj => ?_⟩, ?_, Only.of_below _ hb⟩
  · have h4 := hO.low _ hE
    have h5 := hon.size
    omega
  · have hj' : j < cs.size := by omega
    exact ⟨cs[j], by rw [World.cell?_alloc_new]; exact Array.getElem?_eq_getElem hj', h3 _ (Array.getElem_mem hj')⟩
  · have hr' := rdO_more hr
    cases hrd : S.rd with
    | none => trivial
    | some x =>
      rw [hrd] at hr'
      exact Rd.alloc hr' _
def IxOk (P' : Program) (t : TypeId) : Prop := ∀ (w : World) (g n j : Nat), j < n → n ≤ 1000 → (Instr.indexAt t (.slice (some ⟨g, 0, none⟩) n n) (.int .i64 (j : Int))).run P' w = .ok (.pointer (some ⟨g, j, none⟩)) w
/-- An index of a literal. -/
theorem rs_index (hO : S.Ok) (hid : i ≠ S.d ∨ ∀ ov w, S.J ov w) (t : TypeId) (x y : Nat) (n : Nat) (G : Value → Prop) (hi : Int) (ho : o.op = .indexAddr t (.tmp x) (.tmp y)) (jx jy : Nat) (hx : writer S.ops i x = some jx) (hy : writer S.ops i y = some jy) (hTx : tys τs jx = TLit S.E n G) (hTy : tys τs jy = TInt 0 hi)
    (hn : n ≤ 1000) (hlt : hi < n) (hix : IxOk S.P t) (rest : RSeq S Fin l (i + 1) (TPtr S.E G :: τs)) : RSeq S Fin (o :: l) i τs := by
  refine rs_pure hO hid _ (stb_ptr _ _) (fun ρ w hK => ?_) rest
  rw [ho] at hK
  have h1 := hK.1
  have h2 := hK.2.1
  rw [hx] at h1
  rw [hy] at h2
  simp only [hTx] at h1
  simp only [hTy] at h2
  obtain ⟨g, hv, hg, hl, hc⟩ := h1
  obtain ⟨j, hj, h0, h1⟩ := h2
  obtain ⟨j', rfl⟩ := Int.eq_ofNat_of_zero_le h0
  obtain ⟨z, hz, hb⟩ := hc j' (by omega)
  refine ⟨.pointer (some ⟨g, j', none⟩), ?_, ⟨g, j', z, rfl, hg, hl, hz, hb⟩⟩
  have : j' < n := by omega
  have hr := hix w g n j' this hn
  simp [execOp, ho, hv, hj, Result.andThen, hr]
/-- What a pointer into a literal reads. -/
theorem rs_load (hO : S.Ok) (hid : i ≠ S.d ∨ ∀ ov w, S.J ov w) (t : TypeId) (x : Nat) (G : Value → Prop) (ho : o.op = .load t (.tmp x)) (jx : Nat) (hx : writer S.ops i x = some jx) (hTx : tys τs jx = TPtr S.E G) (ht : ∀ w, (isAgg t).run S.P w = .ok false w)
    (rest : RSeq S Fin l (i + 1) (TOf G :: τs)) : RSeq S Fin (o :: l) i τs := by
  refine rs_pure hO hid _ (stb_of _ _) (fun ρ w hK => ?_) rest
  rw [ho] at hK
  have h1 := hK.1
  rw [hx] at h1
  simp only [hTx] at h1
  obtain ⟨g, i, z, hv, hn, hl, hc, hG⟩ := h1
  refine ⟨z, ?_, hG⟩
  simp [execOp, ho, hv, go_sem, hc, ht, Result.andThen]
end
end Go.Proofs.Ytlbfejdbfhgifaa

namespace Go.Proofs.Ytlbfejdbfhgifaa
open Go.RowKit
/-! Drawn regions that make memory alone, with slices of booleans. -/
theorem only_below {w w' : World} (h : Only (fun _ => False) w w') : Below w.heap.size w w' := ⟨h.os, h.tape, h.output, h.size, fun k hk => h.block k hk id⟩
def TBools (xs : List Bool) : Ty := fun w v => BoolsAt w v xs
theorem stb_bools (xs : List Bool) : Stb (fun _ => False) (TBools xs) := fun _ _ _ h ho => Row.below h (only_below ho)
def TInts (xs : List Int) : Ty := fun w v => IntsAt w v xs
theorem stb_ints (xs : List Int) : Stb (fun _ => False) (TInts xs) := fun _ _ _ h ho => Row.below h (only_below ho)
def JNo : Option Value → World → Prop := fun _ _ => True
@[reducible] def quietRS (Pg : Program) (ops : Array Oper) (w : World) (a : Act) : RS := { P := Pg, ops := ops, E := fun _ => False, F := fun _ => False, rd := none, w0 := w, J := JNo, d := 0, a0 := a }
theorem quietRS_ok {Pg : Program} {ops : Array Oper} {w : World} {a : Act} : (quietRS Pg ops w a).Ok :=
  ⟨fun _ h => h, fun _ _ _ _ _ => trivial, fun _ _ e => (by cases e), fun _ e => e.elim⟩
theorem quiet_any {Pg : Program} {ops : Array Oper} {w : World} {a : Act} {i : Nat} : i ≠ (quietRS Pg ops w a).d ∨ ∀ ov w', (quietRS Pg ops w a).J ov w' := .inr fun _ _ => trivial
section
variable {S : RS} {Fin : List Ty → Prop} {o : Oper} {l : List Oper} {i : Nat} {τs : List Ty}
/-- A step that leaves the world alone and may read it. -/
theorem rs_look (hO : S.Ok) (hid : i ≠ S.d ∨ ∀ ov w, S.J ov w) (T : Ty) (hT : Stb S.E T)
    (h : ∀ ρ w, Only S.E S.w0 w → Known S.ops (tys τs) S.a0 ρ w i o.op.operands.toList → ∃ v, (execOp ρ o).run S.P w = .ok (.value v) w ∧ T w v)
    (rest : RSeq S Fin l (i + 1) (T :: τs)) : RSeq S Fin (o :: l) i τs := by
  refine rs_plain hO hid T hT (fun k ρ w _ hr ho hK => ?_) rest
  obtain ⟨v, h1, h2⟩ := h ρ w ho hK
  unfold Good
  rw [h1]
  exact ⟨h2, rdO_more hr, Only.refl _ _⟩
/-- A step that lays a block. -/
theorem rs_alloc (hO : S.Ok) (hid : i ≠ S.d ∨ ∀ ov w, S.J ov w) (T : Ty) (hT : Stb S.E T)
    (h : ∀ ρ w, Only S.E S.w0 w → Known S.ops (tys τs) S.a0 ρ w i o.op.operands.toList → ∃ v c, (execOp ρ o).run S.P w = .ok (.value v) (w.alloc c) ∧ T (w.alloc c) v)
    (rest : RSeq S Fin l (i + 1) (T :: τs)) : RSeq S Fin (o :: l) i τs := by
  refine rs_plain hO hid T hT (fun k ρ w _ hr ho hK => ?_) rest
  obtain ⟨v, c, h1, h2⟩ := h ρ w ho hK
  unfold Good
  rw [h1]
  refine ⟨h2, ?_, Only.of_below _ ((Below.refl _ _).alloc (Nat.le_refl _) c)⟩
  have hr' := rdO_more hr
  cases hrd : S.rd with
  | none => trivial
  | some x =>
    rw [hrd] at hr'
    exact Rd.alloc hr' _
/-- A step that must come before the d-th one: it finds J as it was. -/
theorem rs_before (hO : S.Ok) (hid : i ≠ S.d) (hanc : ancB S.ops 8 i S.d = true) (T : Ty) (hT : Stb S.E T)
    (h : ∀ k ρ w, RdO S.rd k w → Only S.E S.w0 w → S.J none w → Known S.ops (tys τs) S.a0 ρ w i o.op.operands.toList → Good S.P o ρ w fun v w' => T w' v ∧ RdO S.rd (k + 1) w' ∧ Only S.F w w')
    (rest : RSeq S Fin l (i + 1) (T :: τs)) : RSeq S Fin (o :: l) i τs := by
  intro _
  refine ⟨T, hT, fun k ov ρ w hk hI hov hK => ?_, rest⟩
  obtain rfl := hov hanc
  refine (h k ρ w hI.1 hI.2.1 hI.2.2 hK).mono fun v w' ⟨h1, h2, h3⟩ => ?_
  refine ⟨h1, ⟨h2, hI.2.1.trans (h3.mono hO.sub), ?_⟩, h3.mono hO.sub⟩
  rw [if_neg hid]
  exact hO.keep _ _ _ hI.2.2 h3
/-- A call that must come before the d-th step and makes memory alone. -/
theorem rs_call_before (hO : S.Ok) (hid : i ≠ S.d) (hanc : ancB S.ops 8 i S.d = true) (T : Ty) (hT : Stb S.E T) (f : FuncId) (args : Array Operand) (at_ : Array TypeId) (ho : o.op = .call { callee := .value (.func f), args := args, argTypes := at_ })
    (h : ∀ ρ w, Only S.E S.w0 w → S.J none w → Known S.ops (tys τs) S.a0 ρ w i (.func f :: args.toList) → ∃ vs, (execOp ρ o).run S.P w = .ok (.enter f vs) w ∧ Calls S.P f vs w fun e w' => ∃ v, e = .returned v ∧ T w' v ∧ Below w.heap.size w w')
    (rest : RSeq S Fin l (i + 1) (T :: τs)) : RSeq S Fin (o :: l) i τs := by
  refine rs_before hO hid hanc T hT (fun k ρ w hr hon hJ hK => ?_) rest
  have he : o.op.operands.toList = .func f :: args.toList := by rw [ho]; simp [Op.operands, Call.operands]
  rw [he] at hK
  obtain ⟨vs, h1, h2⟩ := h ρ w hon hJ hK
  unfold Good
  rw [h1]
  refine h2.mono ?_
  rintro e w' ⟨v, rfl, h3, h4⟩
  refine ⟨h3, ?_, Only.of_below _ h4⟩
  have hr' := rdO_more hr
  cases hrd : S.rd with
  | none => trivial
  | some x =>
    rw [hrd] at hr'
    exact Rd.below hr' h4 (Rd.lt hr')
end
/-! ### An append of known cells to a row of the call's own -/
def JApp (B : Nat) (e : TypeId) (size : Nat) (v : Value) (n : Nat) (cs news : List Value) : Option Value → World → Prop
  | none, w => w.ownsRow B e size v n cs
  | some v', w => w.ownsRow B e size v' (n + 1) (cs ++ news)
@[reducible] def appRS (Pg : Program) (ops : Array Oper) (w : World) (a : Act) (B : Nat) (e : TypeId) (size : Nat) (v : Value) (n : Nat) (cs news : List Value) (d : Nat) : RS :=
  { P := Pg, ops := ops, E := fun g => v.ownBlock = some g, F := fun _ => False, rd := none, w0 := w, J := JApp B e size v n cs news, d := d, a0 := a }
theorem appRS_ok {Pg : Program} {ops : Array Oper} {w : World} {a : Act} {B : Nat} {e : TypeId} {size : Nat} {v : Value} {n : Nat} {cs news : List Value} {d : Nat} (hown : w.ownsRow B e size v n cs) : (appRS Pg ops w a B e size v n cs news d).Ok :=
  ⟨fun _ h => h.elim, fun ov w1 w2 hj ho => by
    cases ov with
    | none => exact own_below hj (only_below ho)
    | some v' => exact own_below hj (only_below ho),
    fun _ _ e => (by cases e), fun g hg => (hown.lt g hg).2⟩
/-- A slice that lies in a block that nobody writes, and its cells. -/
def TNew (E : Nat → Prop) (size m : Nat) (news : List Value) : Ty := fun w v => Row w size v m news ∧ ∃ g c, v = .slice (some ⟨g, 0, none⟩) m c ∧ ¬ E g ∧ g < w.heap.size
theorem stb_new (E : Nat → Prop) (size m : Nat) (news : List Value) : Stb E (TNew E size m news) := by
  rintro v w w' ⟨h, g, c, rfl, hn, hl⟩ ho
  refine ⟨?_, g, c, rfl, hn, Nat.lt_of_lt_of_le hl ho.size⟩
  obtain ⟨h0, A, c', hv, h1, h2, h3⟩ := h
  injection hv with e1 _ e3
  subst e1 e3
  refine ⟨h0, _, c, rfl, h1, h2, fun hp => ?_⟩
  obtain ⟨b, o, hA, hb, hc⟩ := h3 hp
  have hA' := Option.some.inj hA
  injection hA' with e4 e5
  subst e4 e5
  exact ⟨g, 0, rfl, Nat.lt_of_lt_of_le hl ho.size, fun j u hu => (World.cell?_of_block (a := ⟨g, 0 + j, none⟩) (ho.block g hl hn)).trans (hc j u hu)⟩
section
variable {S : RS} {Fin : List Ty → Prop} {o : Oper} {l : List Oper} {i : Nat} {τs : List Ty}
/-- A literal of one element. -/
theorem rs_build1 (hO : S.Ok) (hid : i ≠ S.d ∨ ∀ ov w, S.J ov w) (size : Nat) (news : List Value) (e : TypeId) (hs : news.length = size)
    (h : ∀ ρ w, Only S.E S.w0 w → Known S.ops (tys τs) S.a0 ρ w i o.op.operands.toList → (execOp ρ o).run S.P w = .ok (.value (.slice (some ⟨w.heap.size, 0, none⟩) 1 1)) (w.alloc (.cells news.toArray e)))
    (rest : RSeq S Fin l (i + 1) (TNew S.E size 1 news :: τs)) : RSeq S Fin (o :: l) i τs := by
  refine rs_alloc hO hid _ (stb_new _ _ _ _) (fun ρ w hon hK => ?_) rest
  refine ⟨_, _, h ρ w hon hK, Row.of_own (World.ownsRow_lit (base := w.heap.size) (e := e) (size := size) w news.toArray 1 (Nat.le_refl _) (by unfold maxLen; omega) (by simp [hs])), w.heap.size, 1, rfl, fun hE => ?_, by simp⟩
  have h4 := hO.low _ hE
  have h5 := hon.size
  omega
/-- The append. -/
theorem rs_append1 (hd : i = S.d) (B : Nat) (e t : TypeId) (size : Nat) (v : Value) (n : Nat) (cs news : List Value) (hJ : S.J = JApp B e size v n cs news) (hrd : S.rd = none) (hE : ∀ g, v.ownBlock = some g → S.E g) (hB : B ≤ S.w0.heap.size)
    (x y : Nat) (ho : o.op = .call { callee := .builtin .append, args := #[.tmp x, .tmp y], argTypes := #[t, t] }) (jx jy : Nat) (hx : writer S.ops i x = some jx) (hy : writer S.ops i y = some jy) (hTx : tys τs jx = TEq v) (hTy : tys τs jy = TNew S.E size 1 news)
    (inf : TypeInfo) (z : Value) (bytes : Nat) (ht : S.P.underlying t = some (.slice e)) (hi : S.P.info? e = some inf) (hz : inf.zero = some z) (hsize : inf.size = size) (hby : inf.bytes = bytes) (hzs : z.cells.size = size) (hsz : 0 < size) (h63 : n ≤ 1000000) (hbb : bytes ≤ 1000) (hone : ∀ u ∈ news, u.oneCell' = true)
    (rest : RSeq S Fin l (i + 1) (TAny :: τs)) : RSeq S Fin (o :: l) i τs := by
  intro _
  refine ⟨TAny, stb_any _, fun k ov ρ w hk hI hov hK => ?_, rest⟩
  obtain rfl := hov (by rw [hd]; exact ancB_self _ _ _)
  rw [ho] at hK
  have h1 := hK.1
  have h2 := hK.2.1
  rw [hx] at h1
  rw [hy] at h2
  simp only [hTx] at h1
  simp only [hTy] at h2
  have h1' : ρ (.tmp x) = v := h1
  have h2' : Row w size (ρ (.tmp y)) 1 news := h2.1
  have hown : w.ownsRow B e size v n cs := by have := hI.2.2; rw [hJ] at this; exact this
  obtain ⟨v', w', hrun, hown', hgr, _⟩ := run_append_row_at (P := S.P) w B t o.type e inf z size bytes ht hi hz hsize hby hzs hsz v n cs hown _ 1 news h2' hone (by unfold maxLen; omega) (Nat.le_trans (Nat.mul_le_mul (show n + 1 ≤ 1000001 by omega) hbb) (by decide)) (Nat.le_trans hB hI.2.1.size)
  have hre : (execOp ρ o).run S.P w = .ok (.value v') w' := by
    unfold execOp
    simp only [ho, resolve, invoke, builtin, Sem.run_bind, Sem.run_pure, Result.andThen_ok, List.map_toArray, List.map_cons, List.map_nil, h1', hrun]
  unfold Good
  rw [hre]
  have hon : Only S.E w w' := Only.grown hgr hE
  refine ⟨trivial, ⟨?_, hI.2.1.trans hon, ?_⟩, hon⟩
  · rw [hrd]; trivial
  · rw [if_pos hd, hJ]
    exact hown'
end
end Go.Proofs.Ytlbfejdbfhgifaa
