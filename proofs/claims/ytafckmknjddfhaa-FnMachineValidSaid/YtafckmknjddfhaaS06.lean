import Derived.Test.YtafckmknjddfhaaS04
import Derived.Test.YtafckmknjddfhaaS05
import Derived.Test.YtafckmknjddfhaaS02
set_option linter.unusedVariables false
set_option linter.unusedSimpArgs false
namespace Go.Proofs.Ytafckmknjddfhaa
open Go.RowKit
set_option maxRecDepth 100000
/-! A drawn machine. -/
theorem apart_put {v v' u : Value} {T : Nat} (h : Apart v u) (hat : v'.ownBlock = v.ownBlock ∨ v'.ownBlock = some T) (hu : ∀ g, u.ownBlock = some g → g < T) : Apart v' u :=
  apart_loc h (fun g hg => hat.elim (fun e => .inl (e.symm.trans hg)) (fun e => .inr (Nat.le_of_eq (Option.some.inj (e.symm.trans hg))))) hu
theorem se_updO {α : Type} {enc : List α → List Value} {to ti : TypeId} {B : Nat} {E X : Nat → Prop} {w w' : World} {v : Value} {xss : List (List α)} {j : Nat} {x' : List α} {vs : List Value} {u : Value} (h1 : vs.length = xss.length) (h2 : w.ownsRow B to 1 v xss.length vs) (h3 : ∀ (i : Nat) (x : List α) (u : Value), xss[i]? = some x → vs[i]? = some u → w.ownsRow B ti 1 u x.length (enc x))
    (h4 : vs.Pairwise Apart) (h5 : ∀ u ∈ vs, Apart u v) (h6 : ∀ g, v.ownBlock = some g → E g) (h7 : ∀ u ∈ vs, ∀ g, u.ownBlock = some g → E g) (hu : vs[j]? = some u) (ho : Only X w w') (hX : ∀ g, E g → X g → u.ownBlock = some g) (hx : w'.ownsRow B ti 1 u x'.length (enc x')) :
    OwnSE enc to ti B E w' v (xss.set j x') := by
  have hum := List.mem_of_getElem? hu
  refine ⟨vs, by simp [h1], by rw [List.length_set]; exact own_only h2 ho fun g hg' e => h5 u hum g (hX g (h6 g hg') e) hg', fun i x u' hi hu' => ?_, h4, h5, h6, h7⟩
  by_cases hij : j = i
  · subst hij
    rw [hu] at hu'
    obtain rfl := Option.some.inj hu'
    rw [List.getElem?_set] at hi
    simp at hi
    obtain ⟨_, rfl⟩ := hi
    exact hx
  · rw [List.getElem?_set_ne hij] at hi
    refine own_only (h3 i x u' hi hu') ho fun g hg' e' => ?_
    have e := hX g (h7 u' (List.mem_of_getElem? hu') g hg') e'
    have hp := List.pairwise_iff_getElem.1 h4
    obtain ⟨hjl, rfl⟩ := List.getElem?_eq_some_iff.1 hu
    obtain ⟨hil, rfl⟩ := List.getElem?_eq_some_iff.1 hu'
    rcases Nat.lt_or_ge j i with hlt | hge
    · exact hp j i hjl hil hlt g e hg'
    · exact hp i j hil hjl (by omega) g hg' e
/-- A row that was grown, and its header laid anew. -/
theorem ssin_upd {α : Type} {enc : List α → List Value} {to ti : TypeId} {B : Nat} {E X : Nat → Prop} {w w1 w2 : World} {v : Value} {xss : List (List α)} {j : Nat} {x' : List α} {vs : List Value} {u u' : Value} (h1 : vs.length = xss.length) (h3 : ∀ (i : Nat) (x : List α) (u : Value), xss[i]? = some x → vs[i]? = some u → w.ownsRow B ti 1 u x.length (enc x))
    (h4 : vs.Pairwise Apart) (h5 : ∀ u ∈ vs, Apart u v) (h7 : ∀ u ∈ vs, ∀ g, u.ownBlock = some g → E g) (hu : vs[j]? = some u) (ho : Only X w w1) (hX : ∀ g, E g → X g → u.ownBlock = some g) (h2 : w2.ownsRow B to 1 v xss.length (vs.set j u')) (hx : w2.ownsRow B ti 1 u' x'.length (enc x')) (ho2 : Only (fun g => v.ownBlock = some g) w1 w2) :
    SSIn enc (From B) w2 v (xss.set j x') := by
  refine ⟨vs.set j u', by simp [h1], by rw [List.length_set]; exact (RowIn.of_own h2).mono fun g hg => hg.1, fun i x u0 hi hu0 => ?_⟩
  by_cases hij : j = i
  · subst hij
    have hjl := (List.getElem?_eq_some_iff.1 hu).1
    rw [List.getElem?_set] at hi hu0
    simp [hjl] at hi hu0
    obtain ⟨_, rfl⟩ := hi
    subst hu0
    exact (RowIn.of_own hx).mono fun g hg => hg.1
  · rw [List.getElem?_set_ne hij] at hi hu0
    have ha := own_only (h3 i x u0 hi hu0) ho fun g hg' e' => by
      have e := hX g (h7 u0 (List.mem_of_getElem? hu0) g hg') e'
      have hp := List.pairwise_iff_getElem.1 h4
      obtain ⟨hjl, rfl⟩ := List.getElem?_eq_some_iff.1 hu
      obtain ⟨hil, rfl⟩ := List.getElem?_eq_some_iff.1 hu0
      rcases Nat.lt_or_ge j i with hlt | hge
      · exact hp j i hjl hil hlt g e hg'
      · exact hp i j hil hjl (by omega) g hg' e
    have hb := own_only ha ho2 fun g hg' e' => h5 u0 (List.mem_of_getElem? hu0) g hg' e'
    exact (RowIn.of_own hb).mono fun g hg => hg.1
/-- The rows but the first. -/
theorem ssin_drop1 {α : Type} {enc : List α → List Value} {to ti : TypeId} {B : Nat} {E : Nat → Prop} {w : World} {b k c : Nat} {xss : List (List α)} (h : OwnSE enc to ti B E w (.slice (some ⟨b, 0, none⟩) k c) xss) (hk : k = xss.length) (h1 : 1 ≤ k) :
    SSIn enc (From B) w (.slice (if c = 1 then some ⟨b, 0, none⟩ else some ⟨b, 1, none⟩) (k - 1) (c - 1)) (xss.drop 1) := by
  subst hk
  obtain ⟨vs, q1, q2, q3⟩ := h.innM
  obtain ⟨⟨r1, A, c', r2, r3, r4, r5⟩, r6⟩ := q2
  injection r2 with e1 e2 e3
  subst e1 e3
  refine ⟨vs.drop 1, by rw [List.length_drop, List.length_drop, q1], ⟨⟨by rw [List.length_drop, List.length_drop]; omega, _, c - 1, by rw [List.length_drop], by rw [List.length_drop]; omega, by omega, fun hp => ?_⟩, fun hp g hg => ?_⟩, fun i x u hx hu => ?_⟩
  · rw [List.length_drop] at hp
    have hc : c ≠ 1 := by omega
    obtain ⟨b', o', hb', hbl, hcell⟩ := r5 (by omega)
    have := Option.some.inj hb'
    injection this with e4 e5
    subst e4
    refine ⟨b, 1, by rw [if_neg hc], hbl, fun j u hu => ?_⟩
    rw [List.getElem?_drop] at hu
    have := hcell _ _ hu
    rw [← e5, Nat.zero_add] at this
    exact this
  · refine r6 (by omega) g ?_
    by_cases hc : c = 1
    · rw [if_pos hc] at hg; exact hg
    · rw [if_neg hc] at hg; exact hg
  · rw [List.getElem?_drop] at hx hu
    exact q3 _ _ _ hx hu
section
variable {gm : Nat} {ins : Int} {E1 E2 X : Nat → Prop} {vN vO u : Value} {xs ys : List (List Int)} {w w' : World} {j : Nat} {x' : List Int} {vs : List Value}
theorem mb_updN (h : MB gm ins E1 E2 vN vO xs ys w) (q1 : vs.length = xs.length) (q2 : w.ownsRow (gm + 1) 28 1 vN xs.length vs) (q3 : ∀ (i : Nat) (x : List Int) (u : Value), xs[i]? = some x → vs[i]? = some u → w.ownsRow (gm + 1) 3 1 u x.length (ints x)) (q4 : vs.Pairwise Apart) (q5 : ∀ u ∈ vs, Apart u vN) (q6 : ∀ g, vN.ownBlock = some g → E1 g) (q7 : ∀ u ∈ vs, ∀ g, u.ownBlock = some g → E1 g)
    (hu : vs[j]? = some u) (ho : Only X w w') (hgm : ¬ X gm) (h2 : ∀ g, E2 g → ¬ X g) (hX : ∀ g, E1 g → X g → u.ownBlock = some g) (hx : w'.ownsRow (gm + 1) 3 1 u x'.length (ints x')) : MB gm ins E1 E2 vN vO (xs.set j x') ys w' :=
  ⟨(ho.block gm (mb_lt h) hgm).trans h.box, se_updO q1 q2 q3 q4 q5 q6 q7 hu ho hX hx, h.o.only ho (fun g _ he => h2 g he), h.d, fun g he => Nat.lt_of_lt_of_le (h.l1 g he) ho.size, fun g he => Nat.lt_of_lt_of_le (h.l2 g he) ho.size⟩
theorem mb_updO (h : MB gm ins E1 E2 vN vO xs ys w) (q1 : vs.length = ys.length) (q2 : w.ownsRow (gm + 1) 28 1 vO ys.length vs) (q3 : ∀ (i : Nat) (x : List Int) (u : Value), ys[i]? = some x → vs[i]? = some u → w.ownsRow (gm + 1) 3 1 u x.length (ints x)) (q4 : vs.Pairwise Apart) (q5 : ∀ u ∈ vs, Apart u vO) (q6 : ∀ g, vO.ownBlock = some g → E2 g) (q7 : ∀ u ∈ vs, ∀ g, u.ownBlock = some g → E2 g)
    (hu : vs[j]? = some u) (ho : Only X w w') (hgm : ¬ X gm) (h2 : ∀ g, E1 g → ¬ X g) (hX : ∀ g, E2 g → X g → u.ownBlock = some g) (hx : w'.ownsRow (gm + 1) 3 1 u x'.length (ints x')) : MB gm ins E1 E2 vN vO xs (ys.set j x') w' :=
  ⟨(ho.block gm (mb_lt h) hgm).trans h.box, h.n.only ho (fun g _ he => h2 g he), se_updO q1 q2 q3 q4 q5 q6 q7 hu ho hX hx, h.d, fun g he => Nat.lt_of_lt_of_le (h.l1 g he) ho.size, fun g he => Nat.lt_of_lt_of_le (h.l2 g he) ho.size⟩
end
def DrewM (R P : Nat) (w : World) (e : Ending) (w' : World) : Prop := ∃ v m, e = .returned v ∧ MachIn w.heap.size w' v m ∧ Rd w' R P ∧ w.grownBy w' (some R)
set_option maxHeartbeats 16000000 in
theorem l20Machine_any (R P : Nat) (n : Int) (w : World) (h : Rd w R P) (hP : P ≤ 80000) (h0 : 0 ≤ n) (h1 : n ≤ 1000) :
    Calls Try.prog 66 #[.pointer (some ⟨R, 0, none⟩), .int .i64 n] w (DrewM R (P + 20000) w) := by
  have Hr := Lib.hid h
  have zR := h.lt
  clear h
  go_enter Try.func66, Try.ntmps66
  go_wp2_with fail
  have HO0 := Lib.hid (only_alloc (Only.refl (· = R) w) (.cells #[.int .i64 0, .slice none 0 0, .slice none 0 0] 25))
  have HX0 := Lib.hid (heap_alloc_new w (.cells #[.int .i64 0, .slice none 0 0, .slice none 0 0] 25))
  have Hr0 := Lib.hid (Hr.out.alloc (.cells #[.int .i64 0, .slice none 0 0, .slice none 0 0] 25))
  clear Hr
  generalize w.alloc (.cells #[.int .i64 0, .slice none 0 0, .slice none 0 0] 25) = w0 at *
  refine (pick_any 4 _ _ _ Hr0.out (by omega) (by omega) (by omega)).mono ?_
  rintro e w1 ⟨x, hx0, hx1, rfl, hr1, hg1⟩
  have Hr1 := Lib.hid hr1
  have HO1 := Lib.hid (only_drawn HO0.out hg1 (.inr rfl))
  have HX1 := Lib.hid (res_grown HX0.out hg1 (fun e => by have := Option.some.inj e; omega))
  clear hr1 hg1 Hr0 HO0 HX0
  by_cases hx : x = 0
  · have hxb : (x == 0) = true := by simpa using hx
    clear hx
    go_wp2_with fail
    refine (l20Circuit_any R (P + 1) n _ Hr1.out (by omega) h0 h1).mono ?_
    rintro e w2 ⟨v1, c, rfl, hOc, -, hr2, hg2⟩
    have Hr2 := Lib.hid hr2
    have HO2 := Lib.hid (only_drawn HO1.out hg2 (.inr rfl))
    have HX2 := Lib.hid (res_grown HX1.out hg2 (fun e => by have := Option.some.inj e; omega))
    have HA := Lib.hid hOc.at
    clear hr2 hg2 Hr1 HO1 HX1 hOc
    go_wp2_with fail
    refine (specMof_anyF _ c _ HA.out).mono ?_
    rintro e w3 ⟨⟨v, rfl, hm⟩, hb⟩
    obtain ⟨An, cn, Ao, co, rfl, -⟩ := MachAt.shape hm.at
    have HM := Lib.hid (hm.mono (show w.heap.size + 1 ≤ w2.heap.size + 1 by have := HO2.out.size; omega))
    have Hr3 := Lib.hid (Rd.below Hr2.out hb Hr2.out.lt)
    have HO3 := Lib.hid (HO2.out.trans (Only.of_below _ hb))
    have HX3 := Lib.hid ((hb.block w.heap.size (blk_lt HX2.out)).trans HX2.out)
    clear hm hb Hr2 HO2 HX2 HA
    have o0 := blk_cell HX3.out 0
    have o1 := blk_cell HX3.out 1
    have o2 := blk_cell HX3.out 2
    have f0 := blk_free HX3.out 0
    have f1 := blk_free HX3.out 1
    have f2 := blk_free HX3.out 2
    simp at o0 o1 o2
    go_wp2_with fail
    refine bodyPost_ret (v := .agg #[.int .i64 (Cir.machI c).ins, .slice An (Cir.machI c).next.length cn, .slice Ao (Cir.machI c).out.length co]) (by simp [results, Try.results66, go_sem, o0, o1, o2]) rfl ⟨_, _, rfl, (MachIn.only HM.out (E := fun g => g = w.heap.size) ?_ (fun g hg e => by omega)).mono (by omega), ?_, ?_⟩
    · exact ((Only.refl _ _).aft (Only.grown (set_grown _ _ _ _) fun k hk => (Option.some.inj hk).symm) fun g hg => .inr hg).aft (Only.grown (set_grown _ _ _ _) fun k hk => (Option.some.inj hk).symm) (fun g hg => .inr hg) |>.aft (Only.grown (set_grown _ _ _ _) fun k hk => (Option.some.inj hk).symm) (fun g hg => .inr hg)
    · exact (rd_set (rd_set (rd_set Hr3.out zR) zR) zR).more (by omega)
    · exact (only_set (only_set (only_set HO3.out (Nat.le_refl _)) (Nat.le_refl _)) (Nat.le_refl _)).grownBy
  · have hxb : (x == 0) = false := by simpa using hx
    clear hx
    go_wp2_with fail
    refine (pick_any 3 _ _ _ Hr1.out (by omega) (by omega) (by omega)).mono ?_
    rintro e w2 ⟨ins, hi0, hi1, rfl, hr2, hg2⟩
    have Hr2 := Lib.hid hr2
    have HO2 := Lib.hid (only_drawn HO1.out hg2 (.inr rfl))
    have HX2 := Lib.hid (res_grown HX1.out hg2 (fun e => by have := Option.some.inj e; omega))
    clear hr2 hg2 Hr1 HO1 HX1
    go_wp2_with fail
    have HMB := Lib.hid (MB.start (ins := ins) (w := w2) trivial)
    have HO3 := Lib.hid (only_alloc HO2.out (.cells #[.int .i64 ins, .slice none 0 0, .slice none 0 0] 25))
    have HX3 := Lib.hid (((bel_new w2 (.cells #[.int .i64 ins, .slice none 0 0, .slice none 0 0] 25)).block w.heap.size (blk_lt HX2.out)).trans HX2.out)
    have Hr3 := Lib.hid (Hr2.out.alloc (.cells #[.int .i64 ins, .slice none 0 0, .slice none 0 0] 25))
    have zm2 : w.heap.size < w2.heap.size := blk_lt HX2.out
    clear Hr2 HO2 HX2
    obtain ⟨gm, hgm⟩ : ∃ gm, w2.heap.size = gm := ⟨_, rfl⟩
    rw [hgm] at HMB zm2 ⊢
    clear hgm
    generalize w2.alloc (.cells #[.int .i64 ins, .slice none 0 0, .slice none 0 0] 25) = w3 at *
    refine (pick_any 8 _ _ _ Hr3.out (by omega) (by omega) (by omega)).mono ?_
    rintro e w4 ⟨st, hs0, hs1, rfl, hr4, hg4⟩
    obtain ⟨S, hS⟩ : ∃ S : Nat, 1 + st = (S : Int) := ⟨(1 + st).toNat, by omega⟩
    have Hr4 := Lib.hid hr4
    have HO4 := Lib.hid (only_drawn HO3.out hg4 (.inr rfl))
    have HX4 := Lib.hid (res_grown HX3.out hg4 (fun e => by have := Option.some.inj e; omega))
    have HMB4 := Lib.hid (HMB.out.grown hg4 (fun e => by have := Option.some.inj e; omega) (fun g _ h => h) (fun g _ h => h))
    clear hr4 hg4 Hr3 HO3 HX3 HMB
    have hw4 : IntKind.i64.wrap (1 + st) = (S : Int) := by rw [IntWalk.i64_in _ (by omega)]; exact hS
    have hS1 : 1 ≤ S := by omega
    have hS8 : S ≤ 8 := by omega
    clear hS hs0 hs1
    go_wp2_with fail
    refine (pick_any 3 _ _ _ Hr4.out (by omega) (by omega) (by omega)).mono ?_
    rintro e w5 ⟨ou, ho0, ho1, rfl, hr5, hg5⟩
    obtain ⟨O, hO⟩ : ∃ O : Nat, 1 + ou = (O : Int) := ⟨(1 + ou).toNat, by omega⟩
    have Hr5 := Lib.hid hr5
    have HO5 := Lib.hid (only_drawn HO4.out hg5 (.inr rfl))
    have HX5 := Lib.hid (res_grown HX4.out hg5 (fun e => by have := Option.some.inj e; omega))
    have HMB5 := Lib.hid (HMB4.out.grown hg5 (fun e => by have := Option.some.inj e; omega) (fun g _ h => h) (fun g _ h => h))
    clear hr5 hg5 Hr4 HO4 HX4 HMB4 hw4
    have hw5 : IntKind.i64.wrap (1 + ou) = (O : Int) := by rw [IntWalk.i64_in _ (by omega)]; exact hO
    have hO1 : 1 ≤ O := by omega
    have hO3 : O ≤ 3 := by omega
    clear hO ho0 ho1
    obtain ⟨ins, rfl⟩ := Int.eq_ofNat_of_zero_le hi0
    obtain ⟨M, e, hM⟩ : ∃ M : Nat, (2 : Int) ^ ins = (M : Int) ∧ M = 2 ^ ins := ⟨2 ^ ins, two_pow ins, rfl⟩
    have hM4 : M ≤ 4 := by rw [hM]; exact Nat.pow_le_pow_right (show 0 < 2 by decide) (show ins ≤ 2 by omega)
    have hM1 : 1 ≤ M := by rw [hM]; exact Nat.pow_pos (by decide)
    have hwM := IntWalk.i64_in (M : Int) (by omega)
    clear hM
    have z5 := mb_lt HMB5.out
    have hRg : R < gm := by omega
    go_wp2_with fail
    clear hw5
    go_loopw [8] (fun i wr => ∃ (k : Nat) (E1 E2 : Nat → Prop) (vN vO : Value) (xs ys : List (List Int)), i = .int .i64 k ∧ k ≤ S ∧ Hid (xs.length = k ∧ ys.length = k) ∧ Hid ((∀ x ∈ xs, x.length = M) ∧ (∀ x ∈ ys, x.length = M)) ∧ Hid (MB gm ins E1 E2 vN vO xs ys wr) ∧ Hid (∀ g, E1 g → w5.heap.size ≤ g) ∧ Hid (∀ g, E2 g → w5.heap.size ≤ g) ∧ Hid (Rd wr R (P + 4 + 8 * k)) ∧ Hid (Only (fun g => g = R ∨ g = gm) w5 wr)) (fun i _ => S - (intOf i).toNat)
    case atStart => exact ⟨0, _, _, _, _, [], [], rfl, Nat.zero_le _, Lib.hid (And.intro rfl rfl), Lib.hid (And.intro (by simp) (by simp)), HMB5, Lib.hid (fun g h => h.elim), Lib.hid (fun g h => h.elim), Lib.hid (Hr5.out.more (by omega)), Lib.hid (Only.refl _ _)⟩
    case round =>
      obtain ⟨k, E1, E2, vN, vO, xs, ys, rfl, hk, HL, HW, HMB, HE1, HE2, Hr, HO⟩ := hrel
      clear HMB5 Hr5
      have hzb := HO.out.size
      by_cases hlt : k < S
      · have hdk : decide (k < S) = true := decide_eq_true hlt
        have hA1 : Hid (((wr.alloc (.cells #[] 3)).alloc (.cells #[] 3)).ownsRow wr.heap.size 3 1 (.slice (some ⟨wr.heap.size, 0, none⟩) 0 0) 0 (ints [])) := Lib.hid ((World.ownsRow_lit (base := wr.heap.size) (e := 3) (size := 1) wr #[] 0 (Nat.le_refl _) (by unfold maxLen; omega) rfl).alloc _)
        have hA2 : Hid (((wr.alloc (.cells #[] 3)).alloc (.cells #[] 3)).ownsRow wr.heap.size 3 1 (.slice (some ⟨wr.heap.size + 1, 0, none⟩) 0 0) 0 (ints [])) := Lib.hid (by
          have := World.ownsRow_lit (base := wr.heap.size) (e := 3) (size := 1) (wr.alloc (.cells #[] 3)) #[] 0 (by simp) (by unfold maxLen; omega) rfl
          rwa [World.size_alloc] at this)
        have hAp : Hid (Apart (.slice (some ⟨wr.heap.size, 0, none⟩) 0 0) (.slice (some ⟨wr.heap.size + 1, 0, none⟩) 0 0)) := Lib.hid (fun g h1 h2 => by have h3 := Option.some.inj h1; have h4 := Option.some.inj h2; simp only at h3 h4; omega)
        have hBa : Hid (Only (· = R) wr ((wr.alloc (.cells #[] 3)).alloc (.cells #[] 3))) := Lib.hid (only_alloc (only_alloc (Only.refl _ _) _) _)
        have hRa : Hid (Rd ((wr.alloc (.cells #[] 3)).alloc (.cells #[] 3)) R (P + 4 + 8 * k)) := Lib.hid ((Hr.out.alloc _).alloc _)
        go_wp2_with fail
        obtain ⟨Wk, hWk⟩ : ∃ Wk, Wk = wr := ⟨_, rfl⟩
        subst hWk
        go_loopw [9, 10, 11] (fun v u i wi => ∃ (vv uu : Value) (j : Nat) (x y : List Int), vv = v ∧ uu = u ∧ i = .int .i64 j ∧ j ≤ M ∧ Hid (x.length = j ∧ y.length = j) ∧ Hid (wi.ownsRow Wk.heap.size 3 1 v j (ints x)) ∧ Hid (wi.ownsRow Wk.heap.size 3 1 u j (ints y)) ∧ Hid (Apart v u) ∧ Hid (Rd wi R (P + 4 + 8 * k + 2 * j)) ∧ Hid (Only (· = R) Wk wi)) (fun _ _ i _ => M - (intOf i).toNat)
        case atStart => exact ⟨_, _, 0, [], [], rfl, rfl, rfl, Nat.zero_le _, Lib.hid (And.intro rfl rfl), hA1, hA2, hAp, hRa, hBa⟩
        case round =>
          obtain ⟨vv, uu, j, x, y, hvv, huu, rfl, hj, HLi, Hv, Hu, Hap, Hri, HOi⟩ := hrel
          subst hvv huu
          clear hA1 hA2 hAp hBa hRa Hr
          have hzk := HOi.out.size
          have HMi := Lib.hid (HMB.out.grown HOi.out.grownBy (fun e => by have := Option.some.inj e; omega) (fun g hg h => by have h1 := HE1.out g h; have := Option.some.inj hg; omega) (fun g hg h => by have h1 := HE2.out g h; have := Option.some.inj hg; omega))
          obtain ⟨k0, -⟩ := HMi.out.cells
          by_cases hlj : j < M
          · have hdj : decide (j < M) = true := decide_eq_true hlj
            go_wp2_with fail
            refine (pick_any S _ _ _ Hri.out (by omega) (by omega) (by omega)).mono ?_
            rintro e w6 ⟨q, hq0, hq1, rfl, hr6, hg6⟩
            have Hr6 := Lib.hid hr6
            have HO6 := Lib.hid (only_drawn HOi.out hg6 (.inr rfl))
            have Hv6 := Lib.hid (own_kept Hv.out hg6 (fun g hg e => by have h1 := (Hv.out.lt g hg).1; have h2 := Option.some.inj e; omega))
            have Hu6 := Lib.hid (own_kept Hu.out hg6 (fun g hg e => by have h1 := (Hu.out.lt g hg).1; have h2 := Option.some.inj e; omega))
            have hz6 : Wk.heap.size ≤ w6.heap.size := HO6.out.size
            have Hlit := Lib.hid (Row.of_own (World.ownsRow_lit (base := w6.heap.size) (e := 3) (size := 1) w6 #[.int .i64 q] 1 (Nat.le_refl _) (by unfold maxLen; omega) rfl))
            clear hr6 hg6 Hv Hu HOi Hri k0 HMi
            go_wp2_with (at_builtin; refine append_ints rfl (.tmp 43) (.tmp 47) rfl Wk.heap.size _ j _ rfl (Hv6.out.alloc _) _ 1 [.int .i64 q] rfl Hlit.out (by simp [Value.oneCell']) (by omega) (by simp; omega) ?_; intro v7 w7 hown7 hg7 hat7; have Hv7 := Lib.hid hown7; have Hg7 := Lib.hid hg7; have Hat7 := Lib.hid hat7; clear hown7 hg7 hat7)
            have Hu7 := Lib.hid (own_kept (Hu6.out.alloc (.cells #[.int .i64 q] 3)) Hg7.out (fun g h1 h2 => Hap.out g h2 h1))
            have Ap7 := Lib.hid (apart_put Hap.out Hat7.out (fun g hg => ((Hu6.out.alloc (.cells #[.int .i64 q] 3)).lt g hg).2))
            have Hr7 := Lib.hid (app_rd Hr6.out Hg7.out Hv6.out (by omega))
            have HO7 := Lib.hid ((only_alloc HO6.out (.cells #[.int .i64 q] 3)).aft (Only.grown Hg7.out fun g hg => hg) fun g hg => .inl (Hv6.out.lt g hg).1)
            clear Hg7 Hat7 Hr6 HO6 Hv6 Hu6 Hap Hlit hz6
            refine (pick_any O _ _ _ Hr7.out (by omega) (by omega) (by omega)).mono ?_
            rintro e w8 ⟨q2, hq20, hq21, rfl, hr8, hg8⟩
            have Hr8 := Lib.hid hr8
            have HO8 := Lib.hid (only_drawn HO7.out hg8 (.inr rfl))
            have Hv8 := Lib.hid (own_kept Hv7.out hg8 (fun g hg e => by have h1 := (Hv7.out.lt g hg).1; have h2 := Option.some.inj e; omega))
            have Hu8 := Lib.hid (own_kept Hu7.out hg8 (fun g hg e => by have h1 := (Hu7.out.lt g hg).1; have h2 := Option.some.inj e; omega))
            have hz8 : Wk.heap.size ≤ w8.heap.size := HO8.out.size
            have Hlit := Lib.hid (Row.of_own (World.ownsRow_lit (base := w8.heap.size) (e := 3) (size := 1) w8 #[.int .i64 q2] 1 (Nat.le_refl _) (by unfold maxLen; omega) rfl))
            clear hr8 hg8 Hv7 Hu7 HO7 Hr7
            go_wp2_with (at_builtin; refine append_ints rfl (.tmp 49) (.tmp 53) rfl Wk.heap.size _ j _ rfl (Hu8.out.alloc _) _ 1 [.int .i64 q2] rfl Hlit.out (by simp [Value.oneCell']) (by omega) (by simp; omega) ?_; intro v9 w9 hown9 hg9 hat9; have Hu9 := Lib.hid hown9; have Hg9 := Lib.hid hg9; have Hat9 := Lib.hid hat9; clear hown9 hg9 hat9)
            have Hv9 := Lib.hid (own_kept (Hv8.out.alloc (.cells #[.int .i64 q2] 3)) Hg9.out (fun g h1 h2 => Ap7.out g h1 h2))
            have Ap9 := Lib.hid ((apart_put Ap7.out.symm Hat9.out (fun g hg => ((Hv8.out.alloc (.cells #[.int .i64 q2] 3)).lt g hg).2)).symm)
            have Hr9 := Lib.hid (app_rd Hr8.out Hg9.out Hu8.out (by omega))
            have HO9 := Lib.hid ((only_alloc HO8.out (.cells #[.int .i64 q2] 3)).aft (Only.grown Hg9.out fun g hg => hg) fun g hg => .inl (Hu8.out.lt g hg).1)
            clear Hg9 Hat9 Hr8 HO8 Hv8 Hu8 Ap7 Hlit hz8
            go_roundw
            case rel => exact ⟨_, _, j + 1, x ++ [q], y ++ [q2], rfl, rfl, by go_num, by omega, Lib.hid (by rw [List.length_append, List.length_append, HLi.out.1, HLi.out.2]; exact ⟨rfl, rfl⟩), Lib.hid (by rw [ints_snoc]; exact Hv9.out), Lib.hid (by rw [ints_snoc]; exact Hu9.out), Ap9, Lib.hid (Hr9.out.more (by omega)), HO9⟩
            case measure => simp [intOf] <;> omega
          · obtain rfl : j = M := by omega
            have hdj : decide (j < j) = false := decide_eq_false (by omega)
            obtain ⟨ga, ca, hva, hga, hga2, hca, hcam⟩ := own_open Hv.out (by omega)
            obtain ⟨gb, cb, hvb, hgb, hgb2, hcb, hcbm⟩ := own_open Hu.out (by omega)
            subst hva hvb
            unfold maxLen at hcam hcbm
            have Hab := Hap
            have Na1 : Hid (∀ g, (Value.slice (some ⟨ga, 0, none⟩) j ca).ownBlock = some g → ¬ E1 g ∧ ¬ E2 g) := Lib.hid fun g hg => ⟨fun he => by have h1 := HMB.out.l1 g he; have h2 := (Hv.out.lt g hg).1; omega, fun he => by have h1 := HMB.out.l2 g he; have h2 := (Hv.out.lt g hg).1; omega⟩
            have Nb1 : Hid (∀ g, (Value.slice (some ⟨gb, 0, none⟩) j cb).ownBlock = some g → ¬ E1 g ∧ ¬ E2 g) := Lib.hid fun g hg => ⟨fun he => by have h1 := HMB.out.l1 g he; have h2 := (Hu.out.lt g hg).1; omega, fun he => by have h1 := HMB.out.l2 g he; have h2 := (Hu.out.lt g hg).1; omega⟩
            have Oa5 : Hid (wr.ownsRow (gm + 1) 3 1 (.slice (some ⟨ga, 0, none⟩) j ca) x.length (ints x)) := Lib.hid (by
              rw [HLi.out.1]
              exact own_mono Hv.out (by omega))
            have Ob5 : Hid (wr.ownsRow (gm + 1) 3 1 (.slice (some ⟨gb, 0, none⟩) j cb) y.length (ints y)) := Lib.hid (by
              rw [HLi.out.2]
              exact own_mono Hu.out (by omega))
            have HMB5 := HMi
            clear k0
            have hgw : Wk.heap.size ≤ ga := hga
            have hgw2 : Wk.heap.size ≤ gb := hgb
            clear Hap Hv Hu
            have Hk8 : k ≤ 8 := by omega
            have HMl := HMB5.out.below (bel_new wr (.cells #[.slice (some ⟨ga, 0, none⟩) j ca] 28))
            obtain ⟨us, q1, q2, q3, q4, q5, q6, q7⟩ := HMl.n
            have hl1 := HL.out.1
            have hl2 := HL.out.2
            rw [hl1] at q1 q2
            have Q2 := Lib.hid q2
            have HML := Lib.hid HMl
            have Q := Lib.hid (And.intro q1 (And.intro q3 (And.intro q4 (And.intro q5 (And.intro q6 q7)))))
            have Hl1 := Lib.hid hl1
            have Hl2 := Lib.hid hl2
            have Oal := Lib.hid (Oa5.out.alloc (.cells #[.slice (some ⟨ga, 0, none⟩) j ca] 28))
            have Obl := Lib.hid (Ob5.out.alloc (.cells #[.slice (some ⟨ga, 0, none⟩) j ca] 28))
            have Hlit := Lib.hid (Row.of_own (World.ownsRow_lit (base := wr.heap.size) (e := 28) (size := 1) wr #[.slice (some ⟨ga, 0, none⟩) j ca] 1 (Nat.le_refl _) (by unfold maxLen; omega) rfl))
            have hgm5 := mb_lt HMB5.out
            have hsl : (wr.alloc (.cells #[.slice (some ⟨ga, 0, none⟩) j ca] 28)).heap.size = wr.heap.size + 1 := by simp
            have Nb2 : Hid (∀ v7 : Value, (v7.ownBlock = vN.ownBlock ∨ v7.ownBlock = some (wr.alloc (.cells #[.slice (some ⟨ga, 0, none⟩) j ca] 28)).heap.size) → ∀ g, (Value.slice (some ⟨gb, 0, none⟩) j cb).ownBlock = some g → ¬ (E1 g ∨ (Value.slice (some ⟨ga, 0, none⟩) j ca).ownBlock = some g ∨ v7.ownBlock = some g)) := Lib.hid fun v7 hat g hg he => by
              have hgb : gb = g := by simpa [Value.ownBlock] using hg
              subst hgb
              rcases he with he | he | he
              · exact (Nb1.out gb rfl).1 he
              · exact Hab.out gb he rfl
              · rcases hat with h | h
                · exact (Nb1.out gb rfl).1 (q6 gb (by rw [← h]; exact he))
                · rw [h] at he
                  have h2 := Option.some.inj he
                  have h3 := (Ob5.out.lt gb rfl).2
                  omega
            obtain ⟨k0, k1, k2, k3, k4⟩ := HMB5.out.cells
            clear HMl q1 q2 q3 q4 q5 q6 q7 hl1 hl2
            go_wp2_with (first
              | (at_builtin; refine append_intss rfl (.tmp 56) (.tmp 58) rfl (gm + 1) vN k us rfl Q2.out _ 1 [.slice (some ⟨ga, 0, none⟩) j ca] rfl Hlit.out (by simp [Value.oneCell']) (by omega) (by first | omega | (simp <;> omega)) ?_; intro v7 w7 hown7 hg7 hat7; obtain ⟨A7, c7, hv7⟩ := slice_of_own hown7; subst hv7; have HMB7 := Lib.hid (MB.addN HML.out (Q.out.1.trans Hl1.out.symm) Q.out.2.1 Q.out.2.2.1 Q.out.2.2.2.1 Q.out.2.2.2.2.1 Q.out.2.2.2.2.2 Oal.out (fun g hg => (Na1.out g hg).1) (fun g hg => (Na1.out g hg).2) (by rw [Hl1.out]; exact hown7) hg7 hat7); have hbx := (hg7.block gm (mb_lt HML.out) (fun e => by obtain ⟨_, _, p2, _⟩ := HML.out.n; have := (p2.lt _ e.symm).1; omega)).trans HML.out.box; have x1 := blk_cell hbx 1; have y1 := blk_free hbx 1; have x22 : w7.cell? ⟨gm, 2, none⟩ = some vO := (blk_cell hbx 2); have y22 := blk_free hbx 2; obtain ⟨j0, j1, j2, j3, j4⟩ := HMB7.out.cells; have HMl8 := HMB7.out.below (bel_new _ (.cells #[.slice (some ⟨gb, 0, none⟩) j cb] 28)); obtain ⟨us2, t1, t2, t3, t4, t5, t6, t7⟩ := HMl8.o; rw [Hl2.out] at t1 t2; have T2 := Lib.hid t2; have HML8 := Lib.hid HMl8; have TQ := Lib.hid (And.intro t1 (And.intro t3 (And.intro t4 (And.intro t5 (And.intro t6 t7))))); have Ob8 := Lib.hid ((own_set (own_kept Obl.out hg7 (fun g h1 h2 => (Nb1.out g h1).1 (Q.out.2.2.2.2.1 g h2))) (show gm < gm + 1 by omega) (i := 1) (u := (Value.slice A7 (k + 1) c7))).alloc (.cells #[.slice (some ⟨gb, 0, none⟩) j cb] 28)); have Hlit2 := Lib.hid (Row.of_own (World.ownsRow_lit (base := (w7.setCell ⟨gm, 1, none⟩ (Value.slice A7 (k + 1) c7)).heap.size) (e := 28) (size := 1) (w7.setCell ⟨gm, 1, none⟩ (Value.slice A7 (k + 1) c7)) #[.slice (some ⟨gb, 0, none⟩) j cb] 1 (Nat.le_refl _) (by unfold maxLen; omega) rfl)); have Hg7 := Lib.hid hg7; have Hat7 := Lib.hid hat7; have hz7 := hg7.size; have hz8 : (w7.setCell ⟨gm, 1, none⟩ (Value.slice A7 (k + 1) c7)).heap.size = w7.heap.size := (by simp [World.setCell]); have Hlit2 := Lib.hid (by have hh := Hlit2.out; rw [hz8] at hh; exact hh); clear hown7 hg7 hat7 hbx HMl8 t1 t2 t3 t4 t5 t6 t7 k0 k1 k2 k3 k4)
              | (at_builtin; refine append_intss rfl (.tmp 62) (.tmp 64) rfl (gm + 1) vO k us2 rfl T2.out _ 1 [.slice (some ⟨gb, 0, none⟩) j cb] rfl Hlit2.out (by simp [Value.oneCell']) (by omega) (by first | omega | (simp <;> omega)) ?_; intro v9 w9 hown9 hg9 hat9; obtain ⟨A9, c9, hv9⟩ := slice_of_own hown9; subst hv9; have HMB9 := Lib.hid (MB.addO HML8.out (TQ.out.1.trans Hl2.out.symm) TQ.out.2.1 TQ.out.2.2.1 TQ.out.2.2.2.1 TQ.out.2.2.2.2.1 TQ.out.2.2.2.2.2 Ob8.out (Nb2.out _ Hat7.out) (fun g hg => (Nb1.out g hg).2) (by rw [Hl2.out]; exact hown9) hg9 hat9); have hbx := (hg9.block gm (mb_lt HML8.out) (fun e => by obtain ⟨_, _, p2, _⟩ := HML8.out.o; have := (p2.lt _ e.symm).1; omega)).trans HML8.out.box; have x2 := blk_cell hbx 2; have y2 := blk_free hbx 2; have Hg9 := Lib.hid hg9; have Hat9 := Lib.hid hat9; clear hown9 hg9 hat9 hbx j0 j1 j2 j3 j4 x1 y1))
            go_roundw
            case rel => exact ⟨k + 1, _, _, _, _, xs ++ [x], ys ++ [y], by go_num, by omega, Lib.hid (by rw [List.length_append, List.length_append, HL.out.1, HL.out.2]; exact ⟨rfl, rfl⟩), Lib.hid ⟨fun z hz => by
                rcases List.mem_append.1 hz with h | h
                · exact HW.out.1 z h
                · rw [List.mem_singleton.1 h]; exact HLi.out.1, fun z hz => by
                rcases List.mem_append.1 hz with h | h
                · exact HW.out.2 z h
                · rw [List.mem_singleton.1 h]; exact HLi.out.2⟩, HMB9, Lib.hid (fun g hg => by
                rcases hg with hg | hg | hg
                · exact HE1.out g hg
                · have := Option.some.inj hg; simp only at this; omega
                · rcases Hat7.out with h | h
                  · exact HE1.out g (Q.out.2.2.2.2.1 g (by rw [← h]; exact hg))
                  · have := Option.some.inj (hg.symm.trans h); rw [World.size_alloc] at this; omega), Lib.hid (fun g hg => by
                rcases hg with hg | hg | hg
                · exact HE2.out g hg
                · have := Option.some.inj hg; simp only at this; omega
                · rcases Hat9.out with h | h
                  · exact HE2.out g (TQ.out.2.2.2.2.1 g (by rw [← h]; exact hg))
                  · have := Option.some.inj (hg.symm.trans h); rw [World.size_alloc, hz8] at this; omega), Lib.hid (by
              have b1 := (Hri.out.alloc (.cells #[.slice (some ⟨ga, 0, none⟩) j ca] 28)).grown Hg7.out (fun q hq => by have := HE1.out q (Q.out.2.2.2.2.1 q hq); omega)
              have b2 := (rd_set (i := 1) (v := Value.slice A7 (k + 1) c7) b1 hRg).alloc (.cells #[.slice (some ⟨gb, 0, none⟩) j cb] 28)
              exact (rd_set (b2.grown Hg9.out (fun q hq => by have := HE2.out q (TQ.out.2.2.2.2.1 q hq); omega)) hRg).more (by omega)), Lib.hid (by
              have a0 : Only (fun g => g = R ∨ g = gm) Wk wr := Only.aft (Only.refl _ _) HOi.out (fun g hg => .inr (.inl hg))
              have a1 := HO.out.trans (a0.trans (Only.of_below _ (bel_new wr (.cells #[.slice (some ⟨ga, 0, none⟩) j ca] 28))))
              have a2 := a1.after (Only.grown (E := fun g => vN.ownBlock = some g) Hg7.out (fun q hq => hq)) (fun g hg => .inl (HE1.out g (Q.out.2.2.2.2.1 g hg)))
              have a3 := a2.trans (Only.grown (E := fun g => g = R ∨ g = gm) (set_grown _ _ 1 (Value.slice A7 (k + 1) c7)) (fun q hq => .inr (Option.some.inj hq).symm))
              have a4 := a3.trans (Only.of_below _ (bel_new _ (.cells #[.slice (some ⟨gb, 0, none⟩) j cb] 28)))
              have a5 := a4.after (Only.grown (E := fun g => vO.ownBlock = some g) Hg9.out (fun q hq => hq)) (fun g hg => .inl (HE2.out g (TQ.out.2.2.2.2.1 g hg)))
              exact a5.trans (Only.grown (E := fun g => g = R ∨ g = gm) (set_grown _ _ 2 (Value.slice A9 (k + 1) c9)) (fun q hq => .inr (Option.some.inj hq).symm)))⟩
            case measure => simp [intOf] <;> omega
      · obtain rfl : k = S := by omega
        have hdk : decide (k < k) = false := decide_eq_false (by omega)
        have HXr := Lib.hid ((HO.out.block w.heap.size (by omega) (fun h => by rcases h with h | h <;> omega)).trans HX5.out)
        have HOw := Lib.hid (HO5.out.aft HO.out (fun g hg => hg.elim .inr (fun h => .inl (by omega))))
        have HB1 : Hid (¬ E1 R) := Lib.hid (fun h => by have := HE1.out R h; omega)
        have HB2 : Hid (¬ E2 R) := Lib.hid (fun h => by have := HE2.out R h; omega)
        clear HX5 HO5 HO
        go_wp2_with fail
        refine (odd_every n _ _ _ Hr.out (by omega) h0 (by omega)).mono ?_
        rintro e w6 ⟨b, rfl, hr6, hg6⟩
        have Hr6 := Lib.hid hr6
        have HO6 := Lib.hid (only_drawn HOw.out hg6 (.inr rfl))
        have HX6 := Lib.hid (res_grown HXr.out hg6 (fun e => by have := Option.some.inj e; omega))
        have HM6 := Lib.hid (HMB.out.grown hg6 (fun e => by have := Option.some.inj e; omega) (fun g hg h => by obtain rfl := Option.some.inj hg; exact HB1.out h) (fun g hg h => by obtain rfl := Option.some.inj hg; exact HB2.out h))
        clear hr6 hg6 Hr HOw HXr HMB
        cases b
        · obtain ⟨k0, k1, k2, -⟩ := HM6.out.cells
          have o0 := blk_cell HX6.out 0
          have o1 := blk_cell HX6.out 1
          have o2 := blk_cell HX6.out 2
          have f0 := blk_free HX6.out 0
          have f1 := blk_free HX6.out 1
          have f2 := blk_free HX6.out 2
          simp at o0 o1 o2
          have hMI : MachIn (gm + 1) w6 (.agg #[.int .i64 ins, vN, vO]) { ins := ins, next := xs, out := ys } := ⟨_, _, rfl, HM6.out.n.innM, HM6.out.o.innM⟩
          have HMI := Lib.hid hMI
          obtain ⟨An, cn, hvN, -, -⟩ := SSAt.shape (OwnSE.at HM6.out.n)
          obtain ⟨Ao, co, hvO, -, -⟩ := SSAt.shape (OwnSE.at HM6.out.o)
          clear hMI HM6
          subst hvN hvO
          go_wp2_with fail
          refine bodyPost_ret (v := .agg #[.int .i64 ins, .slice An xs.length cn, .slice Ao ys.length co]) (by simp [results, Try.results66, go_sem, o0, o1, o2]) rfl ⟨_, _, rfl, (MachIn.only HMI.out (E := fun g => g = w.heap.size) ?_ (fun g hg e => by omega)).mono (by omega), ?_, ?_⟩
          · exact ((Only.refl _ _).aft (Only.grown (set_grown _ _ _ _) fun k hk => (Option.some.inj hk).symm) fun g hg => .inr hg).aft (Only.grown (set_grown _ _ _ _) fun k hk => (Option.some.inj hk).symm) (fun g hg => .inr hg) |>.aft (Only.grown (set_grown _ _ _ _) fun k hk => (Option.some.inj hk).symm) (fun g hg => .inr hg)
          · exact (rd_set (rd_set (rd_set Hr6.out zR) zR) zR).more (by omega)
          · exact (only_set (only_set (only_set HO6.out (Nat.le_refl _)) (Nat.le_refl _)) (Nat.le_refl _)).grownBy
        · go_wp2_with fail
          refine (pick_any k _ _ _ Hr6.out (by omega) (by omega) (by omega)).mono ?_
          rintro e w7 ⟨s, hs0, hs1, rfl, hr7, hg7⟩
          have Hr7 := Lib.hid hr7
          have HO7 := Lib.hid (only_drawn HO6.out hg7 (.inr rfl))
          have HX7 := Lib.hid (res_grown HX6.out hg7 (fun e => by have := Option.some.inj e; omega))
          have HM7 := Lib.hid (HM6.out.grown hg7 (fun e => by have := Option.some.inj e; omega) (fun g hg h => by obtain rfl := Option.some.inj hg; exact HB1.out h) (fun g hg h => by obtain rfl := Option.some.inj hg; exact HB2.out h))
          clear hr7 hg7 Hr6 HO6 HX6 HM6
          obtain ⟨s, rfl⟩ := Int.eq_ofNat_of_zero_le hs0
          have hsk : s < k := by omega
          have hM0 : 0 < M := by omega
          clear hs0 hs1
          go_wp2_with fail
          refine (pick_any 5 _ _ _ Hr7.out (by omega) (by omega) (by omega)).mono ?_
          rintro e w8 ⟨x, hx0, hx1, rfl, hr8, hg8⟩
          obtain ⟨PP, hPP⟩ : ∃ PP, P + 4 + 8 * k + 1 + 1 + 1 = PP := ⟨_, rfl⟩
          have hPP2 : PP ≤ P + 1000 := by omega
          rw [hPP] at hr8
          have Hr8 := Lib.hid hr8
          have HO8 := Lib.hid (only_drawn HO7.out hg8 (.inr rfl))
          have HX8 := Lib.hid (res_grown HX7.out hg8 (fun e => by have := Option.some.inj e; omega))
          have hM8 := HM7.out.grown hg8 (fun e => by have := Option.some.inj e; omega) (fun g hg h => by obtain rfl := Option.some.inj hg; exact HB1.out h) (fun g hg h => by obtain rfl := Option.some.inj hg; exact HB2.out h)
          clear hr8 hg8 Hr7 HO7 HX7 HM7 hPP
          have hl1 := HL.out.1
          have hl2 := HL.out.2
          have hVN := hM8.n
          have hVO := hM8.o
          obtain ⟨vs, p1, p2, p3, p4, p5, p6, p7⟩ := hVN
          obtain ⟨us, q1, q2, q3, q4, q5, q6, q7⟩ := hVO
          have p2' := p2
          have q2' := q2
          rw [hl1] at p2'
          rw [hl2] at q2'
          obtain ⟨gN, cN, hvN, hgN, gN2, hcN, hcNm⟩ := own_open p2' (by omega)
          obtain ⟨gO, cO, hvO, hgO, gO2, hcO, hcOm⟩ := own_open q2' (by omega)
          subst hvN hvO
          unfold maxLen at hcNm hcOm
          obtain ⟨x1, hx1r⟩ : ∃ x1, xs[s]? = some x1 := ⟨_, List.getElem?_eq_getElem (by omega)⟩
          obtain ⟨y1, hy1r⟩ : ∃ y1, ys[s]? = some y1 := ⟨_, List.getElem?_eq_getElem (by omega)⟩
          obtain ⟨uN, huN⟩ : ∃ u, vs[s]? = some u := ⟨_, List.getElem?_eq_getElem (by omega)⟩
          obtain ⟨uO, huO⟩ : ∃ u, us[s]? = some u := ⟨_, List.getElem?_eq_getElem (by omega)⟩
          have hlN := HW.out.1 _ (List.mem_of_getElem? hx1r)
          have hlO := HW.out.2 _ (List.mem_of_getElem? hy1r)
          have hoN := p3 s x1 uN hx1r huN
          have hoO := q3 s y1 uO hy1r huO
          rw [hlN] at hoN
          rw [hlO] at hoO
          obtain ⟨kb, cbN, huN2, hkbN, hkbN2, hcbN, hcbNm⟩ := own_open hoN (by omega)
          obtain ⟨kc, cbO, huO2, hkbO, hkbO2, hcbO, hcbOm⟩ := own_open hoO (by omega)
          subst huN2 huO2
          unfold maxLen at hcbNm hcbOm
          have HlN := Lib.hid hlN
          have HlO := Lib.hid hlO
          have hneN : kb ≠ gN := fun e => p5 _ (List.mem_of_getElem? huN) kb rfl (by rw [e]; rfl)
          have hneO : kc ≠ gO := fun e => q5 _ (List.mem_of_getElem? huO) kc rfl (by rw [e]; rfl)
          obtain ⟨u0, hu0, hcellN, hfrN⟩ := own_slot p2' (j := s) (by omega)
          rw [huN] at hu0
          obtain rfl := Option.some.inj hu0
          obtain ⟨u0, hu0, hcellO, hfrO⟩ := own_slot q2' (j := s) (by omega)
          rw [huO] at hu0
          obtain rfl := Option.some.inj hu0
          have HEN := Lib.hid (p7 _ (List.mem_of_getElem? huN) kb rfl)
          have HEO := Lib.hid (q7 _ (List.mem_of_getElem? huO) kc rfl)
          have HEN2 := Lib.hid (p6 gN rfl)
          have HownN := Lib.hid hoN
          have HownO := Lib.hid hoO
          have HuN := Lib.hid huN
          have Hx1 := Lib.hid hx1r
          have Hp2 := Lib.hid p2'
          have HuO := Lib.hid huO
          have VN := Lib.hid (And.intro p1 (And.intro p2 (And.intro p3 (And.intro p4 (And.intro p5 (And.intro p6 p7))))))
          have VO := Lib.hid (And.intro q1 (And.intro q2 (And.intro q3 (And.intro q4 (And.intro q5 (And.intro q6 q7))))))
          have HM8 := Lib.hid hM8
          have hlenN := HlN
          have hlenO := HlO
          clear hM8 p1 p2 p3 p4 p5 p6 p7 q1 q2 q3 q4 q5 q6 q7 hoN hoO huN huO hlN hlO hx1r hy1r hl1 hl2 p2' q2'
          obtain rfl | rfl | rfl | rfl | rfl : x = 0 ∨ x = 1 ∨ x = 2 ∨ x = 3 ∨ x = 4 := by omega
          · obtain ⟨k0, k1, k2, -⟩ := HM8.out.cells
            have HG := Lib.hid hcellN
            have hngm : ¬ (gm = R ∨ gm = kb) := by omega
            have hngH : ¬ (gN = R ∨ gN = kb) := fun h => h.elim (fun h => by omega) (fun h => hneN h.symm)
            have zgm : gm < w8.heap.size := mb_lt HM8.out
            have hOk := fun ops a => rdStepRS_ok (Pg := Try.prog) (ops := ops) (P := PP) (a := a) (R0 := fun w' => w'.ownsRow (gm + 1) 3 1 (.slice (some ⟨kb, 0, none⟩) M cbN) M (ints x1)) (R1 := fun w' => ∃ y : Int, w'.ownsRow (gm + 1) 3 1 (.slice (some ⟨kb, 0, none⟩) M cbN) M (ints (x1.set 0 y))) (d := 12) Hr8.out.lt hkbN2 (fun wa wb h ho => own_only h ho (fun g hg e => by have h1 := (h.lt g hg).1; omega)) (fun wa wb ⟨y, h⟩ ho => ⟨y, own_only h ho (fun g hg e => by have h1 := (h.lt g hg).1; omega)⟩)
            go_wp2_with fail
            refine wp_region_rs (rdStepRS Try.prog _ R PP w8 _ kb _ _ 12) (hOk _ _) (by kernel_rfl) (by kernel_rfl) (by kernel_rfl) (Nat.le_of_ble_eq_true rfl) Hr8.out HownN.out ?_
            apply rs_eq (hOk _ _) (.inl (Nat.ne_of_beq_eq_false rfl))
            · intro ρ w' ho hK
              have ho : Only _ w8 w' := ho
              obtain ⟨h0, -⟩ := hK
              have h0' : ρ (.tmp 5) = _ := h0
              go_simp
              try exact rfl
            apply rs_eq (hOk _ _) (.inl (Nat.ne_of_beq_eq_false rfl))
            · intro ρ w' ho hK
              have ho : Only _ w8 w' := ho
              obtain ⟨h0, -⟩ := hK
              have h0' : ρ (.tmp 80) = _ := h0
              have r0 := cell_on ho hngm zgm k1
              have r1 := cell_on ho hngH gN2 HG.out
              go_simp
              try exact rfl
            refine rs_old (hOk _ _) (.inl (Nat.ne_of_beq_eq_false rfl)) _ (.inl rfl) _ rfl rfl ?_
            apply rs_eq (hOk _ _) (.inl (Nat.ne_of_beq_eq_false rfl))
            · intro ρ w' ho hK
              have ho : Only _ w8 w' := ho
              obtain ⟨h0, h1, -⟩ := hK
              have h0' : ρ (.tmp 81) = _ := h0
              have h1' : ρ (.tmp 82) = _ := h1
              go_simp
              try exact rfl
            apply rs_eq (hOk _ _) (.inl (Nat.ne_of_beq_eq_false rfl))
            · intro ρ w' ho hK
              have ho : Only _ w8 w' := ho
              obtain ⟨h0, -⟩ := hK
              have h0' : ρ (.tmp 83) = _ := h0
              have r0 := cell_on ho hngm zgm k1
              have r1 := cell_on ho hngH gN2 HG.out
              go_simp
              try exact rfl
            refine rs_old (hOk _ _) (.inl (Nat.ne_of_beq_eq_false rfl)) _ (.inl rfl) _ rfl rfl ?_
            refine rs_build (hOk _ _) (.inl (Nat.ne_of_beq_eq_false rfl)) 2 (GInt (-100) 1000) 3 (fun ρ w hK => by
              obtain ⟨h0, h1, -⟩ := hK
              have h0' : ρ (.const (.int .i64 (-1))) = .int .i64 (-1) := h0
              have h1' : ρ (.tmp 85) = .int .i64 k := h1
              refine ⟨#[.int .i64 (-1), .int .i64 k], rfl, ?_, ?_⟩
              · go_simp
              · intro c hc
                simp at hc
                rcases hc with rfl | rfl
                · exact ⟨_, rfl, by omega, by omega⟩
                · exact ⟨_, rfl, by omega, by omega⟩) ?_
            refine rs_old (hOk _ _) (.inl (Nat.ne_of_beq_eq_false rfl)) _ (.inl rfl) _ rfl rfl ?_
            refine rs_pick (hOk _ _) (.inl (Nat.ne_of_beq_eq_false rfl)) 70 _ _ _ R PP 1 rfl rfl fn_draw (fun ρ w hK => ⟨hK.1, hK.2.1, 2, hK.2.2.1, by omega, by omega⟩) (fun n kk w hk h1n hn hr => pick_upto n 1 _ _ w hr (by have hk' : kk < 13 := hk; omega) h1n hn (by omega)) ?_
            refine rs_index (hOk _ _) (.inl (Nat.ne_of_beq_eq_false rfl)) 28 _ _ 2 (GInt (-100) 1000) 1 rfl _ _ rfl rfl rfl rfl (by omega) (by omega) ix_drawn ?_
            refine rs_load (hOk _ _) (.inl (Nat.ne_of_beq_eq_false rfl)) 3 _ (GInt (-100) 1000) rfl _ rfl rfl ag_drawn ?_
            apply rs_eq (hOk _ _) (.inl (Nat.ne_of_beq_eq_false rfl))
            · intro ρ w' ho hK
              have ho : Only _ w8 w' := ho
              obtain ⟨h0, h1, -⟩ := hK
              have h0' : ρ (.tmp 84) = _ := h0
              have h1' : ρ (.const (Value.int IntKind.i64 0)) = (Value.int IntKind.i64 0) := h1
              go_simp
              try exact rfl
            refine rs_doR rfl rfl R PP rfl (fun ρ w' ho h0 hK => by
              obtain ⟨h1, ⟨q, h2, h3, h4⟩, -⟩ := hK
              have h1' : ρ (.tmp 91) = .pointer (some ⟨kb, 0, none⟩) := h1
              have h2' : ρ (.tmp 90) = .int .i64 q := h2
              have h0' : w'.ownsRow (gm + 1) 3 1 (.slice (some ⟨kb, 0, none⟩) M cbN) M (ints x1) := h0
              obtain ⟨u0, _, hcell, hfr⟩ := own_slot h0' (j := 0) (by omega)
              have hst := h0'.stored 0 (.int .i64 q)
              have hkw := (h0'.lt kb rfl).2
              refine ⟨w'.setCell ⟨kb, 0, none⟩ (.int .i64 q), ?_, ⟨q, by have := hst.1; rw [show (ints x1).set 0 (.int .i64 q) = ints (x1.set 0 q) from by unfold ints; rw [List.map_set]] at this; exact this⟩, Only.grown hst.2 (fun g hg => .inr (Option.some.inj hg).symm), fun Q hQ => hQ.grown hst.2 (fun g hg => by have := Option.some.inj hg; omega)⟩
              clear hst h0'
              go_simp) ?_
            intro f w9 k9 hk9 hI9 ht9 hcp9
            have E0 : f 0 = _ := ht9 0 (Nat.le_of_ble_eq_true rfl)
            have E1 : f 1 = _ := ht9 1 (Nat.le_of_ble_eq_true rfl)
            have E2 : f 2 = _ := ht9 2 (Nat.le_of_ble_eq_true rfl)
            conv at E2 => rhs; whnf
            have E3 : f 3 = _ := ht9 3 (Nat.le_of_ble_eq_true rfl)
            have E4 : f 4 = _ := ht9 4 (Nat.le_of_ble_eq_true rfl)
            have E5 : f 5 = _ := ht9 5 (Nat.le_of_ble_eq_true rfl)
            conv at E5 => rhs; whnf
            have E6 : (TLit _ 2 (GInt (-100) 1000)) w9 (f 6) := ht9 6 (Nat.le_of_ble_eq_true rfl)
            have E7 : f 7 = _ := ht9 7 (Nat.le_of_ble_eq_true rfl)
            conv at E7 => rhs; whnf
            have E8 : (TInt 0 ((1 : Nat) : Int)) w9 (f 8) := ht9 8 (Nat.le_of_ble_eq_true rfl)
            have E9 : (TPtr _ (GInt (-100) 1000)) w9 (f 9) := ht9 9 (Nat.le_of_ble_eq_true rfl)
            have E10 : (TOf (GInt (-100) 1000)) w9 (f 10) := ht9 10 (Nat.le_of_ble_eq_true rfl)
            have E11 : f 11 = _ := ht9 11 (Nat.le_of_ble_eq_true rfl)
            have E12 : (TAny) w9 (f 12) := ht9 12 (Nat.le_of_ble_eq_true rfl)
            have Ho9 : Only _ w8 w9 := hI9.2.1
            have HJ9 := hI9.2.2
            have HR9 := hI9.1
            have HK9 := hk9
            simp only [putAll, E0, E1, E2, E3, E4, E5, E7, E11, Nat.zero_add, Nat.reduceAdd, Act.put, List.setIfInBounds_toArray, List.set_cons_succ, List.set_cons_zero]
            clear E0 E1 E2 E3 E4 E5 E7 E11
            clear hI9 ht9 hcp9 hk9
            generalize f 6 = r6 at *
            generalize f 8 = r8 at *
            generalize f 9 = r9 at *
            generalize f 10 = r10 at *
            generalize f 12 = r12 at *
            obtain ⟨y, hy⟩ := HJ9
            have hK9 : k9 ≤ 13 := HK9
            have HR9' := Lib.hid (show Rd w9 R (PP + 1000) from Rd.more HR9 (by omega))
            have hy' : w9.ownsRow (gm + 1) 3 1 (.slice (some ⟨kb, 0, none⟩) M cbN) (x1.set 0 y).length (ints (x1.set 0 y)) := by rw [List.length_set, hlenN.out]; exact hy
            have HM9 : Hid (MB gm ins E1 E2 (.slice (some ⟨gN, 0, none⟩) k cN) (.slice (some ⟨gO, 0, none⟩) k cO) (xs.set s (x1.set 0 y)) ys w9) := Lib.hid (mb_updN HM8.out VN.out.1 VN.out.2.1 VN.out.2.2.1 VN.out.2.2.2.1 VN.out.2.2.2.2.1 VN.out.2.2.2.2.2.1 VN.out.2.2.2.2.2.2 HuN.out Ho9 hngm (fun g he hx => hx.elim (fun h => HB2.out (h ▸ he)) (fun h => HM8.out.d g (h ▸ HEN.out) he)) (fun g he hx => hx.elim (fun h => absurd (h ▸ he) HB1.out) (fun h => by rw [h]; rfl)) hy')
            have HX9 := Lib.hid ((Ho9.block w.heap.size (blk_lt HX8.out) (fun h => by rcases h with h | h <;> omega)).trans HX8.out)
            have HO9 := Lib.hid (HO8.out.aft Ho9 (fun g hg => hg.elim .inr (fun h => .inl (by omega))))
            clear hOk HR9 HK9 hy hy' Ho9 E6 E8 E9 E10 E12 Hr8 HO8 HX8 HM8 HG k0 k1 k2 HownN HownO VN VO hcellN hcellO
            obtain ⟨k0, k1, k2, -⟩ := HM9.out.cells
            have o0 := blk_cell HX9.out 0
            have o1 := blk_cell HX9.out 1
            have o2 := blk_cell HX9.out 2
            have f0 := blk_free HX9.out 0
            have f1 := blk_free HX9.out 1
            have f2 := blk_free HX9.out 2
            simp at o0 o1 o2
            have hMI : MachIn (gm + 1) w9 (.agg #[.int .i64 ins, .slice (some ⟨gN, 0, none⟩) k cN, .slice (some ⟨gO, 0, none⟩) k cO]) { ins := ins, next := xs.set s (x1.set 0 y), out := ys } := ⟨_, _, rfl, HM9.out.n.innM, HM9.out.o.innM⟩
            have HMI := Lib.hid hMI
            clear hMI HM9
            go_wp2_with fail
            refine bodyPost_ret (v := .agg #[.int .i64 ins, .slice (some ⟨gN, 0, none⟩) k cN, .slice (some ⟨gO, 0, none⟩) k cO]) (by simp [results, Try.results66, go_sem, o0, o1, o2]) rfl ⟨_, _, rfl, (MachIn.only HMI.out (E := fun g => g = w.heap.size) ?_ (fun g hg e => by omega)).mono (by omega), ?_, ?_⟩
            · exact ((Only.refl _ _).aft (Only.grown (set_grown _ _ _ _) fun k hk => (Option.some.inj hk).symm) fun g hg => .inr hg).aft (Only.grown (set_grown _ _ _ _) fun k hk => (Option.some.inj hk).symm) (fun g hg => .inr hg) |>.aft (Only.grown (set_grown _ _ _ _) fun k hk => (Option.some.inj hk).symm) (fun g hg => .inr hg)
            · exact (rd_set (rd_set (rd_set HR9'.out zR) zR) zR).more (by omega)
            · exact (only_set (only_set (only_set HO9.out (Nat.le_refl _)) (Nat.le_refl _)) (Nat.le_refl _)).grownBy
          · obtain ⟨k0, k1, k2, -⟩ := HM8.out.cells
            have HG := Lib.hid hcellO
            have hngm : ¬ (gm = R ∨ gm = kc) := by omega
            have hngH : ¬ (gO = R ∨ gO = kc) := fun h => h.elim (fun h => by omega) (fun h => hneO h.symm)
            have zgm : gm < w8.heap.size := mb_lt HM8.out
            have hOk := fun ops a => rdStepRS_ok (Pg := Try.prog) (ops := ops) (P := PP) (a := a) (R0 := fun w' => w'.ownsRow (gm + 1) 3 1 (.slice (some ⟨kc, 0, none⟩) M cbO) M (ints y1)) (R1 := fun w' => ∃ y : Int, w'.ownsRow (gm + 1) 3 1 (.slice (some ⟨kc, 0, none⟩) M cbO) M (ints (y1.set 0 y))) (d := 11) Hr8.out.lt hkbO2 (fun wa wb h ho => own_only h ho (fun g hg e => by have h1 := (h.lt g hg).1; omega)) (fun wa wb ⟨y, h⟩ ho => ⟨y, own_only h ho (fun g hg e => by have h1 := (h.lt g hg).1; omega)⟩)
            go_wp2_with fail
            refine wp_region_rs (rdStepRS Try.prog _ R PP w8 _ kc _ _ 11) (hOk _ _) (by kernel_rfl) (by kernel_rfl) (by kernel_rfl) (Nat.le_of_ble_eq_true rfl) Hr8.out HownO.out ?_
            apply rs_eq (hOk _ _) (.inl (Nat.ne_of_beq_eq_false rfl))
            · intro ρ w' ho hK
              have ho : Only _ w8 w' := ho
              obtain ⟨h0, -⟩ := hK
              have h0' : ρ (.tmp 5) = _ := h0
              go_simp
              try exact rfl
            apply rs_eq (hOk _ _) (.inl (Nat.ne_of_beq_eq_false rfl))
            · intro ρ w' ho hK
              have ho : Only _ w8 w' := ho
              obtain ⟨h0, -⟩ := hK
              have h0' : ρ (.tmp 94) = _ := h0
              have r0 := cell_on ho hngm zgm k2
              have r1 := cell_on ho hngH gO2 HG.out
              go_simp
              try exact rfl
            refine rs_old (hOk _ _) (.inl (Nat.ne_of_beq_eq_false rfl)) _ (.inl rfl) _ rfl rfl ?_
            apply rs_eq (hOk _ _) (.inl (Nat.ne_of_beq_eq_false rfl))
            · intro ρ w' ho hK
              have ho : Only _ w8 w' := ho
              obtain ⟨h0, h1, -⟩ := hK
              have h0' : ρ (.tmp 95) = _ := h0
              have h1' : ρ (.tmp 96) = _ := h1
              go_simp
              try exact rfl
            apply rs_eq (hOk _ _) (.inl (Nat.ne_of_beq_eq_false rfl))
            · intro ρ w' ho hK
              have ho : Only _ w8 w' := ho
              obtain ⟨h0, -⟩ := hK
              have h0' : ρ (.tmp 97) = _ := h0
              have r0 := cell_on ho hngm zgm k2
              have r1 := cell_on ho hngH gO2 HG.out
              go_simp
              try exact rfl
            refine rs_build (hOk _ _) (.inl (Nat.ne_of_beq_eq_false rfl)) 2 (GInt (-100) 1000) 3 (fun ρ w hK => by
              obtain ⟨h0, h1, -⟩ := hK
              have h0' : ρ (.const (.int .i64 (-1))) = .int .i64 (-1) := h0
              have h1' : ρ (.const (.int .i64 8)) = .int .i64 8 := h1
              refine ⟨#[.int .i64 (-1), .int .i64 8], rfl, ?_, ?_⟩
              · go_simp
              · intro c hc
                simp at hc
                rcases hc with rfl | rfl
                · exact ⟨_, rfl, by omega, by omega⟩
                · exact ⟨_, rfl, by omega, by omega⟩) ?_
            refine rs_old (hOk _ _) (.inl (Nat.ne_of_beq_eq_false rfl)) _ (.inl rfl) _ rfl rfl ?_
            refine rs_pick (hOk _ _) (.inl (Nat.ne_of_beq_eq_false rfl)) 70 _ _ _ R PP 1 rfl rfl fn_draw (fun ρ w hK => ⟨hK.1, hK.2.1, 2, hK.2.2.1, by omega, by omega⟩) (fun n kk w hk h1n hn hr => pick_upto n 1 _ _ w hr (by have hk' : kk < 12 := hk; omega) h1n hn (by omega)) ?_
            refine rs_index (hOk _ _) (.inl (Nat.ne_of_beq_eq_false rfl)) 28 _ _ 2 (GInt (-100) 1000) 1 rfl _ _ rfl rfl rfl rfl (by omega) (by omega) ix_drawn ?_
            refine rs_load (hOk _ _) (.inl (Nat.ne_of_beq_eq_false rfl)) 3 _ (GInt (-100) 1000) rfl _ rfl rfl ag_drawn ?_
            apply rs_eq (hOk _ _) (.inl (Nat.ne_of_beq_eq_false rfl))
            · intro ρ w' ho hK
              have ho : Only _ w8 w' := ho
              obtain ⟨h0, h1, -⟩ := hK
              have h0' : ρ (.tmp 98) = _ := h0
              have h1' : ρ (.const (Value.int IntKind.i64 0)) = (Value.int IntKind.i64 0) := h1
              go_simp
              try exact rfl
            refine rs_doR rfl rfl R PP rfl (fun ρ w' ho h0 hK => by
              obtain ⟨h1, ⟨q, h2, h3, h4⟩, -⟩ := hK
              have h1' : ρ (.tmp 104) = .pointer (some ⟨kc, 0, none⟩) := h1
              have h2' : ρ (.tmp 103) = .int .i64 q := h2
              have h0' : w'.ownsRow (gm + 1) 3 1 (.slice (some ⟨kc, 0, none⟩) M cbO) M (ints y1) := h0
              obtain ⟨u0, _, hcell, hfr⟩ := own_slot h0' (j := 0) (by omega)
              have hst := h0'.stored 0 (.int .i64 q)
              have hkw := (h0'.lt kc rfl).2
              refine ⟨w'.setCell ⟨kc, 0, none⟩ (.int .i64 q), ?_, ⟨q, by have := hst.1; rw [show (ints y1).set 0 (.int .i64 q) = ints (y1.set 0 q) from by unfold ints; rw [List.map_set]] at this; exact this⟩, Only.grown hst.2 (fun g hg => .inr (Option.some.inj hg).symm), fun Q hQ => hQ.grown hst.2 (fun g hg => by have := Option.some.inj hg; omega)⟩
              clear hst h0'
              go_simp) ?_
            intro f w9 k9 hk9 hI9 ht9 hcp9
            have E0 : f 0 = _ := ht9 0 (Nat.le_of_ble_eq_true rfl)
            have E1 : f 1 = _ := ht9 1 (Nat.le_of_ble_eq_true rfl)
            have E2 : f 2 = _ := ht9 2 (Nat.le_of_ble_eq_true rfl)
            conv at E2 => rhs; whnf
            have E3 : f 3 = _ := ht9 3 (Nat.le_of_ble_eq_true rfl)
            have E4 : f 4 = _ := ht9 4 (Nat.le_of_ble_eq_true rfl)
            have E5 : (TLit _ 2 (GInt (-100) 1000)) w9 (f 5) := ht9 5 (Nat.le_of_ble_eq_true rfl)
            have E6 : f 6 = _ := ht9 6 (Nat.le_of_ble_eq_true rfl)
            conv at E6 => rhs; whnf
            have E7 : (TInt 0 ((1 : Nat) : Int)) w9 (f 7) := ht9 7 (Nat.le_of_ble_eq_true rfl)
            have E8 : (TPtr _ (GInt (-100) 1000)) w9 (f 8) := ht9 8 (Nat.le_of_ble_eq_true rfl)
            have E9 : (TOf (GInt (-100) 1000)) w9 (f 9) := ht9 9 (Nat.le_of_ble_eq_true rfl)
            have E10 : f 10 = _ := ht9 10 (Nat.le_of_ble_eq_true rfl)
            have E11 : (TAny) w9 (f 11) := ht9 11 (Nat.le_of_ble_eq_true rfl)
            have Ho9 : Only _ w8 w9 := hI9.2.1
            have HJ9 := hI9.2.2
            have HR9 := hI9.1
            have HK9 := hk9
            simp only [putAll, E0, E1, E2, E3, E4, E6, E10, Nat.zero_add, Nat.reduceAdd, Act.put, List.setIfInBounds_toArray, List.set_cons_succ, List.set_cons_zero]
            clear E0 E1 E2 E3 E4 E6 E10
            clear hI9 ht9 hcp9 hk9
            generalize f 5 = r5 at *
            generalize f 7 = r7 at *
            generalize f 8 = r8 at *
            generalize f 9 = r9 at *
            generalize f 11 = r11 at *
            obtain ⟨y, hy⟩ := HJ9
            have hK9 : k9 ≤ 12 := HK9
            have HR9' := Lib.hid (show Rd w9 R (PP + 1000) from Rd.more HR9 (by omega))
            have hy' : w9.ownsRow (gm + 1) 3 1 (.slice (some ⟨kc, 0, none⟩) M cbO) (y1.set 0 y).length (ints (y1.set 0 y)) := by rw [List.length_set, hlenO.out]; exact hy
            have HM9 : Hid (MB gm ins E1 E2 (.slice (some ⟨gN, 0, none⟩) k cN) (.slice (some ⟨gO, 0, none⟩) k cO) xs (ys.set s (y1.set 0 y)) w9) := Lib.hid (mb_updO HM8.out VO.out.1 VO.out.2.1 VO.out.2.2.1 VO.out.2.2.2.1 VO.out.2.2.2.2.1 VO.out.2.2.2.2.2.1 VO.out.2.2.2.2.2.2 HuO.out Ho9 hngm (fun g he hx => hx.elim (fun h => HB1.out (h ▸ he)) (fun h => HM8.out.d g he (h ▸ HEO.out))) (fun g he hx => hx.elim (fun h => absurd (h ▸ he) HB2.out) (fun h => by rw [h]; rfl)) hy')
            have HX9 := Lib.hid ((Ho9.block w.heap.size (blk_lt HX8.out) (fun h => by rcases h with h | h <;> omega)).trans HX8.out)
            have HO9 := Lib.hid (HO8.out.aft Ho9 (fun g hg => hg.elim .inr (fun h => .inl (by omega))))
            clear hOk HR9 HK9 hy hy' Ho9 E5 E7 E8 E9 E11 Hr8 HO8 HX8 HM8 HG k0 k1 k2 HownN HownO VN VO hcellN hcellO
            obtain ⟨k0, k1, k2, -⟩ := HM9.out.cells
            have o0 := blk_cell HX9.out 0
            have o1 := blk_cell HX9.out 1
            have o2 := blk_cell HX9.out 2
            have f0 := blk_free HX9.out 0
            have f1 := blk_free HX9.out 1
            have f2 := blk_free HX9.out 2
            simp at o0 o1 o2
            have hMI : MachIn (gm + 1) w9 (.agg #[.int .i64 ins, .slice (some ⟨gN, 0, none⟩) k cN, .slice (some ⟨gO, 0, none⟩) k cO]) { ins := ins, next := xs, out := ys.set s (y1.set 0 y) } := ⟨_, _, rfl, HM9.out.n.innM, HM9.out.o.innM⟩
            have HMI := Lib.hid hMI
            clear hMI HM9
            go_wp2_with fail
            refine bodyPost_ret (v := .agg #[.int .i64 ins, .slice (some ⟨gN, 0, none⟩) k cN, .slice (some ⟨gO, 0, none⟩) k cO]) (by simp [results, Try.results66, go_sem, o0, o1, o2]) rfl ⟨_, _, rfl, (MachIn.only HMI.out (E := fun g => g = w.heap.size) ?_ (fun g hg e => by omega)).mono (by omega), ?_, ?_⟩
            · exact ((Only.refl _ _).aft (Only.grown (set_grown _ _ _ _) fun k hk => (Option.some.inj hk).symm) fun g hg => .inr hg).aft (Only.grown (set_grown _ _ _ _) fun k hk => (Option.some.inj hk).symm) (fun g hg => .inr hg) |>.aft (Only.grown (set_grown _ _ _ _) fun k hk => (Option.some.inj hk).symm) (fun g hg => .inr hg)
            · exact (rd_set (rd_set (rd_set HR9'.out zR) zR) zR).more (by omega)
            · exact (only_set (only_set (only_set HO9.out (Nat.le_refl _)) (Nat.le_refl _)) (Nat.le_refl _)).grownBy
          · obtain ⟨k0, k1, k2, -, y22⟩ := HM8.out.cells
            have o0 := blk_cell HX8.out 0
            have o1 := blk_cell HX8.out 1
            have o2 := blk_cell HX8.out 2
            have f0 := blk_free HX8.out 0
            have f1 := blk_free HX8.out 1
            have f2 := blk_free HX8.out 2
            simp at o0 o1 o2
            have hMI : MachIn (gm + 1) w8 (.agg #[.int .i64 ins, .slice (some ⟨gN, 0, none⟩) k cN, .slice (if cO = 1 then some ⟨gO, 0, none⟩ else some ⟨gO, 1, none⟩) (k - 1) (cO - 1)]) { ins := ins, next := xs, out := ys.drop 1 } := ⟨_, _, rfl, HM8.out.n.innM, ssin_drop1 HM8.out.o HL.out.2.symm (by omega)⟩
            have HMI := Lib.hid hMI
            have hgmw : gm ≠ w.heap.size := by omega
            have hk1 : (1 : Int) ≤ k := by omega
            have hcO1 : 1 ≤ cO := by omega
            clear hMI
            by_cases hc1 : cO = 1
            · subst hc1
              rw [if_pos rfl] at HMI
              have hke : k = 1 := by omega
              subst hke
              go_wp2_with fail
              refine bodyPost_ret (v := .agg #[.int .i64 ins, .slice (some ⟨gN, 0, none⟩) 1 cN, .slice (some ⟨gO, 0, none⟩) 0 0]) (by simp [results, Try.results66, go_sem, o0, o1, o2]) rfl ⟨_, _, rfl, (MachIn.only HMI.out (E := fun g => g = w.heap.size ∨ g = gm) ?_ (fun g hg e => by omega)).mono (by omega), ?_, ?_⟩
              · exact (((Only.refl _ _).aft (Only.grown (set_grown _ _ _ _) fun k hk => (Option.some.inj hk).symm) (fun g hg => .inr (.inr hg))).aft (Only.grown (set_grown _ _ _ _) fun k hk => (Option.some.inj hk).symm) (fun g hg => .inr (.inl hg))).aft (Only.grown (set_grown _ _ _ _) fun k hk => (Option.some.inj hk).symm) (fun g hg => .inr (.inl hg)) |>.aft (Only.grown (set_grown _ _ _ _) fun k hk => (Option.some.inj hk).symm) (fun g hg => .inr (.inl hg))
              · exact (rd_set (rd_set (rd_set (rd_set Hr8.out hRg) zR) zR) zR).more (by omega)
              · exact (only_set (only_set (only_set (only_set HO8.out (by omega)) (Nat.le_refl _)) (Nat.le_refl _)) (Nat.le_refl _)).grownBy
            · rw [if_neg hc1] at HMI
              go_wp2_with fail
              refine bodyPost_ret (v := .agg #[.int .i64 ins, .slice (some ⟨gN, 0, none⟩) k cN, .slice (some ⟨gO, 1, none⟩) (k - 1) (cO - 1)]) (by simp [results, Try.results66, go_sem, o0, o1, o2]) rfl ⟨_, _, rfl, (MachIn.only HMI.out (E := fun g => g = w.heap.size ∨ g = gm) ?_ (fun g hg e => by omega)).mono (by omega), ?_, ?_⟩
              · exact (((Only.refl _ _).aft (Only.grown (set_grown _ _ _ _) fun k hk => (Option.some.inj hk).symm) (fun g hg => .inr (.inr hg))).aft (Only.grown (set_grown _ _ _ _) fun k hk => (Option.some.inj hk).symm) (fun g hg => .inr (.inl hg))).aft (Only.grown (set_grown _ _ _ _) fun k hk => (Option.some.inj hk).symm) (fun g hg => .inr (.inl hg)) |>.aft (Only.grown (set_grown _ _ _ _) fun k hk => (Option.some.inj hk).symm) (fun g hg => .inr (.inl hg))
              · exact (rd_set (rd_set (rd_set (rd_set Hr8.out hRg) zR) zR) zR).more (by omega)
              · exact (only_set (only_set (only_set (only_set HO8.out (by omega)) (Nat.le_refl _)) (Nat.le_refl _)) (Nat.le_refl _)).grownBy
          · obtain ⟨k0, k1, k2, -, -⟩ := HM8.out.cells
            have HG := Lib.hid hcellN
            have zgm : gm < w8.heap.size := mb_lt HM8.out
            have hngm : ¬ ((Value.slice (some ⟨kb, 0, none⟩) M cbN).ownBlock = some gm) := fun e => by have := Option.some.inj e; simp only at this; omega
            have hngH : ¬ ((Value.slice (some ⟨kb, 0, none⟩) M cbN).ownBlock = some gN) := fun e => by have := Option.some.inj e; simp only at this; omega
            have hngR : ¬ ((Value.slice (some ⟨kb, 0, none⟩) M cbN).ownBlock = some w.heap.size) := fun e => by have := Option.some.inj e; simp only at this; omega
            go_wp2_with fail
            obtain ⟨i0, hi0, hz0, hz1, hz2⟩ := info_parts info_int
            have hO := fun ops a => appRS2_ok (Pg := Try.prog) (ops := ops) (a := a) (news := [.int .i64 0]) (d := 9) (HownN.out)
            refine wp_region_rsl (appRS2 Try.prog _ w8 _ (gm + 1) 3 1 (Value.slice (some ⟨kb, 0, none⟩) M cbN) (M) (ints x1) [.int .i64 0] 9) (hO _ _) (by kernel_rfl) (by kernel_rfl) (by kernel_rfl) 11 _ rfl rfl (by kernel_rfl) (show (9 : Nat) < 11 by decide) trivial HownN.out ?_
            apply rs_eq (hO _ _) (.inl (Nat.ne_of_beq_eq_false rfl))
            · intro ρ w' ho hK
              have ho : Only _ w8 w' := ho
              obtain ⟨h0, -⟩ := hK
              have h0' : ρ (.tmp 5) = _ := h0
              go_simp
              try exact rfl
            apply rs_eq (hO _ _) (.inl (Nat.ne_of_beq_eq_false rfl))
            · intro ρ w' ho hK
              have ho : Only _ w8 w' := ho
              obtain ⟨h0, -⟩ := hK
              have h0' : ρ (.tmp 113) = _ := h0
              have r0 := cell_on ho hngm zgm k1
              have r1 := cell_on ho hngH gN2 HG.out
              go_simp
              try exact rfl
            refine rs_old (hO _ _) (.inl (Nat.ne_of_beq_eq_false rfl)) _ (.inl rfl) _ rfl rfl ?_
            apply rs_eq (hO _ _) (.inl (Nat.ne_of_beq_eq_false rfl))
            · intro ρ w' ho hK
              have ho : Only _ w8 w' := ho
              obtain ⟨h0, -⟩ := hK
              have h0' : ρ (.tmp 5) = _ := h0
              go_simp
              try exact rfl
            apply rs_eq (hO _ _) (.inl (Nat.ne_of_beq_eq_false rfl))
            · intro ρ w' ho hK
              have ho : Only _ w8 w' := ho
              obtain ⟨h0, -⟩ := hK
              have h0' : ρ (.tmp 116) = _ := h0
              have r0 := cell_on ho hngm zgm k1
              have r1 := cell_on ho hngH gN2 HG.out
              go_simp
              try exact rfl
            refine rs_old (hO _ _) (.inl (Nat.ne_of_beq_eq_false rfl)) _ (.inl rfl) _ rfl rfl ?_
            apply rs_eq (hO _ _) (.inl (Nat.ne_of_beq_eq_false rfl))
            · intro ρ w' ho hK
              have ho : Only _ w8 w' := ho
              obtain ⟨h0, h1, -⟩ := hK
              have h0' : ρ (.tmp 117) = _ := h0
              have h1' : ρ (.tmp 118) = _ := h1
              go_simp
              try exact rfl
            apply rs_eq (hO _ _) (.inl (Nat.ne_of_beq_eq_false rfl))
            · intro ρ w' ho hK
              have ho : Only _ w8 w' := ho
              obtain ⟨h0, -⟩ := hK
              have h0' : ρ (.tmp 119) = _ := h0
              have r0 := cell_on ho hngm zgm k1
              have r1 := cell_on ho hngH gN2 HG.out
              go_simp
              try exact rfl
            refine rs_build1 (hO _ _) (.inl (Nat.ne_of_beq_eq_false rfl)) 1 [.int .i64 0] 3 rfl (fun ρ w' ho hK => by
              have ho : Only _ w8 w' := ho
              obtain ⟨h0, -⟩ := hK
              have h0' : ρ (.const (Value.int IntKind.i64 0)) = (Value.int IntKind.i64 0) := h0
              go_simp) ?_
            refine rs_append2 rfl (gm + 1) 3 28 1 (Value.slice (some ⟨kb, 0, none⟩) M cbN) (M) (ints x1) _ rfl rfl (fun g hg => hg) (show gm + 1 ≤ w8.heap.size by omega) _ _ rfl _ _ rfl rfl rfl rfl i0 _ 8 Try.underlying28 hi0 hz0 hz1 hz2 rfl (by decide) (by omega) (by decide) (by simp [Value.oneCell']) ?_
            apply rs_eq (hO _ _) (.inl (Nat.ne_of_beq_eq_false rfl))
            · intro ρ w' ho hK
              have ho : Only _ w8 w' := ho
              obtain ⟨h0, h1, -⟩ := hK
              have h0' : ρ (.tmp 114) = _ := h0
              have h1' : ρ (.tmp 115) = _ := h1
              go_simp
              try exact rfl
            intro f w9 k9 hk9 hI9 ht9 hcp9
            have E0 : f 0 = _ := ht9 0 (Nat.le_of_ble_eq_true rfl)
            have E1 : f 1 = _ := ht9 1 (Nat.le_of_ble_eq_true rfl)
            have E2 : f 2 = _ := ht9 2 (Nat.le_of_ble_eq_true rfl)
            conv at E2 => rhs; whnf
            have E3 : f 3 = _ := ht9 3 (Nat.le_of_ble_eq_true rfl)
            have E4 : f 4 = _ := ht9 4 (Nat.le_of_ble_eq_true rfl)
            have E5 : f 5 = _ := ht9 5 (Nat.le_of_ble_eq_true rfl)
            conv at E5 => rhs; whnf
            have E6 : f 6 = _ := ht9 6 (Nat.le_of_ble_eq_true rfl)
            have E7 : f 7 = _ := ht9 7 (Nat.le_of_ble_eq_true rfl)
            have E8 : (TNew _ 1 1 [.int .i64 0]) w9 (f 8) := ht9 8 (Nat.le_of_ble_eq_true rfl)
            have E9 : (TAny) w9 (f 9) := ht9 9 (Nat.le_of_ble_eq_true rfl)
            have E10 : f 10 = _ := ht9 10 (Nat.le_of_ble_eq_true rfl)
            have Ho9 : Only _ w8 w9 := hI9.2.1
            have hown9 : w9.ownsRow (gm + 1) 3 1 (f 9) (M + 1) (ints x1 ++ [.int .i64 0]) := hI9.2.2.1
            have hat9 : ∀ g, (f 9).ownBlock = some g → (Value.slice (some ⟨kb, 0, none⟩) M cbN).ownBlock = some g ∨ w8.heap.size ≤ g := hI9.2.2.2
            simp only [putAll, E0, E1, E2, E3, E4, E5, E6, E7, E10, Nat.zero_add, Nat.reduceAdd, Act.put, List.setIfInBounds_toArray, List.set_cons_succ, List.set_cons_zero, List.take, List.getElem_toArray, List.getElem_cons_succ, List.getElem_cons_zero]
            clear E0 E1 E2 E3 E4 E5 E6 E7 E10
            clear hI9 ht9 hcp9 hk9
            generalize f 8 = r8 at *
            generalize f 9 = r9 at *
            obtain ⟨A9, c9, hr9⟩ := slice_of_own hown9
            subst hr9
            have hV9 := own_only Hp2.out Ho9 (fun g hg e => hngH (by have h1 := Option.some.inj hg; simp only at h1; rw [h1]; exact e))
            obtain ⟨u9, -, hcell9, hfr9⟩ := own_slot hV9 (j := s) (by omega)
            have hst := hV9.stored s (Value.slice A9 (M + 1) c9)
            have hox : Only (fun g => g = gN) w9 (w9.setCell ⟨gN, s, none⟩ (.slice A9 (M + 1) c9)) := Only.grown hst.2 (fun g hg => (Option.some.inj hg).symm)
            have hown10 := own_only hown9 hox (fun g hg e => by
              rcases hat9 g hg with h | h
              · exact hngH (by rw [← e]; exact h)
              · omega)
            have hOk : Only (· = kb) w8 w9 := Ho9.mono (fun g hg => (Option.some.inj hg).symm)
            have hox2 : Only (fun g => (Value.slice (some ⟨gN, 0, none⟩) k cN).ownBlock = some g) w9 (w9.setCell ⟨gN, s, none⟩ (.slice A9 (M + 1) c9)) := hox.mono (fun g hg => by rw [hg]; rfl)
            have hS : SSIn ints (From (gm + 1)) (w9.setCell ⟨gN, s, none⟩ (.slice A9 (M + 1) c9)) (.slice (some ⟨gN, 0, none⟩) k cN) (xs.set s (x1 ++ [0])) := ssin_upd (X := (· = kb)) VN.out.1 VN.out.2.2.1 VN.out.2.2.2.1 VN.out.2.2.2.2.1 VN.out.2.2.2.2.2.2 HuN.out hOk (fun g _ hx => by rw [hx]; rfl) (by rw [HL.out.1]; exact hst.1) (by rw [List.length_append, HlN.out, ints_snoc]; exact hown10) hox2
            have hO10 := ((HM8.out.o.only hOk (fun g _ he hx => HM8.out.d g (hx ▸ HEN.out) he)).only hox (fun g _ he hx => HM8.out.d g (hx ▸ HEN2.out) he)).innM
            have hMI : MachIn (gm + 1) (w9.setCell ⟨gN, s, none⟩ (.slice A9 (M + 1) c9)) (.agg #[.int .i64 ins, .slice (some ⟨gN, 0, none⟩) k cN, .slice (some ⟨gO, 0, none⟩) k cO]) { ins := ins, next := xs.set s (x1 ++ [0]), out := ys } := ⟨_, _, by simp only [List.length_set], hS, hO10⟩
            have HMI := Lib.hid hMI
            have hboxg := (Ho9.block gm zgm hngm).trans HM8.out.box
            have m0 := blk_cell hboxg 0
            have m1 := blk_cell hboxg 1
            have m2 := blk_cell hboxg 2
            have HX9 := Lib.hid ((Ho9.block w.heap.size (blk_lt HX8.out) hngR).trans HX8.out)
            have HO9 := Lib.hid ((HO8.out.aft hOk (fun g hg => .inl (by omega))))
            have HR9 := Lib.hid (rd_set (i := s) (v := Value.slice A9 (M + 1) c9) (Hr8.out.grown hOk.grownBy (fun q hq => by have := Option.some.inj hq; omega)) (show R < gN by omega))
            have hgmN : gm ≠ gN := by omega
            have hgwN : w.heap.size ≠ gN := by omega
            have hgmN2 : gN ≠ gm := by omega
            have hgwN2 : gN ≠ w.heap.size := by omega
            have o0 := blk_cell HX9.out 0
            have o1 := blk_cell HX9.out 1
            have o2 := blk_cell HX9.out 2
            have f0 := blk_free HX9.out 0
            have f1 := blk_free HX9.out 1
            have f2 := blk_free HX9.out 2
            simp at o0 o1 o2
            simp at m0 m1 m2
            clear hst hox hox2 hown10 hown9 hat9 hOk hS hO10 hMI hboxg hV9 Ho9 k0 k1 k2 hO HM8 VN VO HownN HownO
            go_wp2_with fail
            refine bodyPost_ret (v := .agg #[.int .i64 ins, .slice (some ⟨gN, 0, none⟩) k cN, .slice (some ⟨gO, 0, none⟩) k cO]) (by simp [results, Try.results66, go_sem, o0, o1, o2, hgwN, hgwN2]) rfl ⟨_, _, rfl, (MachIn.only HMI.out (E := fun g => g = w.heap.size) ?_ (fun g hg e => by omega)).mono (by omega), ?_, ?_⟩
            · exact ((Only.refl _ _).aft (Only.grown (set_grown _ _ _ _) fun k hk => (Option.some.inj hk).symm) fun g hg => .inr hg).aft (Only.grown (set_grown _ _ _ _) fun k hk => (Option.some.inj hk).symm) (fun g hg => .inr hg) |>.aft (Only.grown (set_grown _ _ _ _) fun k hk => (Option.some.inj hk).symm) (fun g hg => .inr hg)
            · exact (rd_set (rd_set (rd_set HR9.out zR) zR) zR).more (by omega)
            · exact (only_set (only_set (only_set (only_set HO9.out (by omega)) (Nat.le_refl _)) (Nat.le_refl _)) (Nat.le_refl _)).grownBy
          · obtain ⟨k0, k1, k2, -, -⟩ := HM8.out.cells
            have o0 := blk_cell HX8.out 0
            have o1 := blk_cell HX8.out 1
            have o2 := blk_cell HX8.out 2
            have f0 := blk_free HX8.out 0
            have f1 := blk_free HX8.out 1
            have f2 := blk_free HX8.out 2
            simp at o0 o1 o2
            clear HM8 VN VO HownN HownO
            go_wp2_with fail
            refine bodyPost_ret (v := .agg #[.int .i64 ins, .slice none 0 0, .slice none 0 0]) (by simp [results, Try.results66, go_sem, o0, o1, o2]) rfl ⟨_, { ins := ins, next := [], out := [] }, rfl, ⟨_, _, rfl, SSIn.nil ints _ _, SSIn.nil ints _ _⟩, ?_, ?_⟩
            · exact (rd_set (rd_set (rd_set Hr8.out zR) zR) zR).more (by omega)
            · exact (only_set (only_set (only_set HO8.out (Nat.le_refl _)) (Nat.le_refl _)) (Nat.le_refl _)).grownBy
end Go.Proofs.Ytafckmknjddfhaa

namespace Go.Proofs.Ytafckmknjddfhaa
open Go.RowKit
set_option maxRecDepth 100000
/-! Drawn machines. -/
def DrawnMach (w : World) (e : Ending) (w' : World) : Prop := ∃ v m, e = .returned v ∧ MachAt w' v m ∧ Below w.heap.size w w'
set_option maxHeartbeats 8000000 in
theorem drawMachV_any (v : Value) (bs : List Int) (w : World) (h : Row w 1 v bs.length (bs.map (Value.int .u8))) (hb : ∀ x ∈ bs, (Lit.int .u8 x).wf = true) (hl : bs.length ≤ 1048576) :
    Calls Try.prog 15 #[v] w (DrawnMach w) := by
  have H := Lib.hid h
  clear h
  have hX := heap_alloc_new w (.cells #[.int .i64 0, .slice none 0 0, .slice none 0 0] 25)
  have HB0 := Lib.hid (bel_new w (.cells #[.int .i64 0, .slice none 0 0, .slice none 0 0] 25))
  have hs : (w.alloc (.cells #[.int .i64 0, .slice none 0 0, .slice none 0 0] 25)).heap.size = w.heap.size + 1 := by simp
  have HX := Lib.hid hX
  clear hX
  go_enter Try.func15, Try.ntmps15
  go_wp2_with fail
  have H0 := Lib.hid (H.out.alloc (.cells #[.int .i64 0, .slice none 0 0, .slice none 0 0] 25))
  generalize w.alloc (.cells #[.int .i64 0, .slice none 0 0, .slice none 0 0] 25) = W at *
  refine (open_any _ bs _ H0.out hb hl).mono ?_
  rintro e w1 ⟨rfl, hr1, hb1⟩
  rw [hs] at hr1
  have HZ1 := Lib.hid hr1.lt
  have Hr1 := Lib.hid hr1
  have Hb1 := Lib.hid (HB0.out.trans (hb1.mono HB0.out.size))
  have HX1 := Lib.hid ((hb1.block _ (by omega)).trans HX.out)
  clear hr1 hb1 HX HB0 H H0 hb hl
  go_wp2_with fail
  refine (l20Machine_any _ 0 2 _ Hr1.out (by omega) (by omega) (by omega)).mono ?_
  rintro e w2 ⟨v2, m, rfl, hm, hr2, hg2⟩
  have HX2 := Lib.hid (res_grown HX1.out hg2 (fun e => by have := Option.some.inj e; omega))
  have Hb2 := Lib.hid (Hb1.out.grown hg2 Hb1.out.size (fun k hk => by have := Option.some.inj hk; omega))
  obtain ⟨An, cn, Ao, co, rfl, -⟩ := MachAt.shape hm.at
  have HM := Lib.hid hm
  have hzw : w.heap.size < w1.heap.size := by have := HZ1.out; omega
  clear hr2 hg2 hm HX1 Hb1 Hr1
  have o0 := blk_cell HX2.out 0
  have o1 := blk_cell HX2.out 1
  have o2 := blk_cell HX2.out 2
  have f0 := blk_free HX2.out 0
  have f1 := blk_free HX2.out 1
  have f2 := blk_free HX2.out 2
  simp at o0 o1 o2
  go_wp2_with fail
  refine bodyPost_ret (v := .agg #[.int .i64 m.ins, .slice An m.next.length cn, .slice Ao m.out.length co]) (by simp [results, Try.results15, go_sem, o0, o1, o2]) rfl ⟨_, m, rfl, (MachIn.only HM.out (E := fun g => g = w.heap.size) ?_ (fun g hg e => by omega)).at, ?_⟩
  · exact ((Only.refl _ _).aft (Only.grown (set_grown _ _ _ _) fun k hk => (Option.some.inj hk).symm) fun g hg => .inr hg).aft (Only.grown (set_grown _ _ _ _) fun k hk => (Option.some.inj hk).symm) (fun g hg => .inr hg) |>.aft (Only.grown (set_grown _ _ _ _) fun k hk => (Option.some.inj hk).symm) (fun g hg => .inr hg)
  · exact ((Hb2.out.setCell (Nat.le_refl _) _).setCell (Nat.le_refl _) _).setCell (Nat.le_refl _) _
set_option maxHeartbeats 8000000 in
theorem drawMini_any (v : Value) (bs : List Int) (w : World) (h : Row w 1 v bs.length (bs.map (Value.int .u8))) (hb : ∀ x ∈ bs, (Lit.int .u8 x).wf = true) (hl : bs.length ≤ 1048576) :
    Calls Try.prog 23 #[v] w (DrawnMach w) := by
  have H := Lib.hid h
  clear h
  have hX := heap_alloc_new w (.cells #[.int .i64 0, .slice none 0 0, .slice none 0 0] 25)
  have HB0 := Lib.hid (bel_new w (.cells #[.int .i64 0, .slice none 0 0, .slice none 0 0] 25))
  have hs : (w.alloc (.cells #[.int .i64 0, .slice none 0 0, .slice none 0 0] 25)).heap.size = w.heap.size + 1 := by simp
  have HX := Lib.hid hX
  clear hX
  go_enter Try.func23, Try.ntmps23
  go_wp2_with fail
  have H0 := Lib.hid (H.out.alloc (.cells #[.int .i64 0, .slice none 0 0, .slice none 0 0] 25))
  generalize w.alloc (.cells #[.int .i64 0, .slice none 0 0, .slice none 0 0] 25) = W at *
  refine (open_any _ bs _ H0.out hb hl).mono ?_
  rintro e w1 ⟨rfl, hr1, hb1⟩
  rw [hs] at hr1
  have HZ1 := Lib.hid hr1.lt
  have Hr1 := Lib.hid hr1
  have Hb1 := Lib.hid (HB0.out.trans (hb1.mono HB0.out.size))
  have HX1 := Lib.hid ((hb1.block _ (by omega)).trans HX.out)
  clear hr1 hb1 HX HB0 H H0 hb hl
  go_wp2_with fail
  refine (l20Machine_any _ 0 9 _ Hr1.out (by omega) (by omega) (by omega)).mono ?_
  rintro e w2 ⟨v2, m, rfl, hm, hr2, hg2⟩
  have HX2 := Lib.hid (res_grown HX1.out hg2 (fun e => by have := Option.some.inj e; omega))
  have Hb2 := Lib.hid (Hb1.out.grown hg2 Hb1.out.size (fun k hk => by have := Option.some.inj hk; omega))
  obtain ⟨An, cn, Ao, co, rfl, -⟩ := MachAt.shape hm.at
  have HM := Lib.hid hm
  have hzw : w.heap.size < w1.heap.size := by have := HZ1.out; omega
  clear hr2 hg2 hm HX1 Hb1 Hr1
  have o0 := blk_cell HX2.out 0
  have o1 := blk_cell HX2.out 1
  have o2 := blk_cell HX2.out 2
  have f0 := blk_free HX2.out 0
  have f1 := blk_free HX2.out 1
  have f2 := blk_free HX2.out 2
  simp at o0 o1 o2
  go_wp2_with fail
  refine bodyPost_ret (v := .agg #[.int .i64 m.ins, .slice An m.next.length cn, .slice Ao m.out.length co]) (by simp [results, Try.results23, go_sem, o0, o1, o2]) rfl ⟨_, m, rfl, (MachIn.only HM.out (E := fun g => g = w.heap.size) ?_ (fun g hg e => by omega)).at, ?_⟩
  · exact ((Only.refl _ _).aft (Only.grown (set_grown _ _ _ _) fun k hk => (Option.some.inj hk).symm) fun g hg => .inr hg).aft (Only.grown (set_grown _ _ _ _) fun k hk => (Option.some.inj hk).symm) (fun g hg => .inr hg) |>.aft (Only.grown (set_grown _ _ _ _) fun k hk => (Option.some.inj hk).symm) (fun g hg => .inr hg)
  · exact ((Hb2.out.setCell (Nat.le_refl _) _).setCell (Nat.le_refl _) _).setCell (Nat.le_refl _) _
end Go.Proofs.Ytafckmknjddfhaa

namespace Go.Proofs.Ytafckmknjddfhaa
open Go.RowKit
set_option maxRecDepth 100000
/-! What laws do with slices of slices of ints. -/
end Go.Proofs.Ytafckmknjddfhaa

namespace Go.Proofs.Ytafckmknjddfhaa
open Go.RowKit
set_option maxRecDepth 100000
def SzMach (m : Mz) (w : World) (e : Ending) (w' : World) : Prop :=
  ∃ r : Int, e = .returned (.int .i64 r) ∧ (r = -1 ∨ (0 ≤ r ∧ r ≤ 1048576 ∧ m.next.length + total m.next + m.out.length + total m.out ≤ 1048576)) ∧ Below w.heap.size w w'
/-- What toMachine makes. -/
def OwnMach (B T : Nat) (v : Value) (m : Mz) (w : World) : Prop :=
  ∃ vn vo M, v = .agg #[.int .i64 m.ins, vn, vo] ∧ B ≤ M ∧ M ≤ T ∧ OwnIntSS B M w vn m.next ∧ OwnIntSS M T w vo m.out
theorem OwnMach.at {B T : Nat} {v : Value} {m : Mz} {w : World} (h : OwnMach B T v m w) : MachAt w v m := by
  obtain ⟨vn, vo, M, hv, _, _, h1, h2⟩ := h
  exact ⟨vn, vo, hv, OwnSS.at h1, OwnSS.at h2⟩
theorem OwnMach.below {B T : Nat} {v : Value} {m : Mz} {w w' : World} (h : OwnMach B T v m w) (hb : Below w.heap.size w w') : OwnMach B T v m w' := by
  obtain ⟨vn, vo, M, hv, e1, e2, h1, h2⟩ := h
  exact ⟨vn, vo, M, hv, e1, e2, OwnSS.below h1 hb, OwnSS.below h2 hb⟩
def ToMach (m : Mz) (w : World) (e : Ending) (w' : World) : Prop := ∃ v, e = .returned v ∧ OwnMach w.heap.size w'.heap.size v m w' ∧ Below w.heap.size w w'
theorem OwnMach.e {B T : Nat} {v : Value} {m : Mz} {w : World} (h : OwnMach B T v m w) : OwnMachE B T v m w := by
  obtain ⟨vn, vo, M, hv, e1, e2, h1, h2⟩ := h
  exact ⟨vn, vo, _, _, hv, fun g h => by have := h.2; omega, fun g h => by have := h.2; omega, fun g h h' => by have := h.2; have := h'.1; omega, OwnSS.se h1, OwnSE.mono (OwnSS.se h2) e1 (fun g h => h)⟩
end Go.Proofs.Ytafckmknjddfhaa

namespace Go.Proofs.Ytafckmknjddfhaa
open Go.RowKit
set_option maxRecDepth 100000
/-! MachineValid, both. -/
theorem ints_row {w : World} {B : Option Addr} {n m : Nat} {x : List Int} (h : Row w 1 (.slice B n m) n (ints x)) (hn : n = x.length) {i : Nat} {y : Int} (hy : x[i]? = some y) : ∃ b o, B = some ⟨b, o, none⟩ ∧ b < w.heap.size ∧ w.cell? ⟨b, o + i, none⟩ = some (.int .i64 y) := by
  subst hn
  obtain ⟨hi, _⟩ := List.getElem?_eq_some_iff.1 hy
  obtain ⟨b, o, c', hv, _, _, hbl, hcell⟩ := h.open (by omega)
  injection hv with hv1
  exact ⟨b, o, hv1, hbl, hcell i _ (by unfold ints; rw [List.getElem?_map, hy]; rfl)⟩
set_option maxHeartbeats 4000000 in
theorem rowsWithin_any (v : Value) (xss : List (List Int)) (N L : Nat) (w : World) (h : SSAt ints w v xss) (hN : N ≤ 4) (hL : L ≤ 8) :
    Calls Try.prog 68 #[v, .int .i64 N, .int .i64 L] w fun e w' => e = .returned (.bool (xss.all (Mac.rowOk N L))) ∧ w = w' := by
  obtain ⟨A, c, hv, hc, hcm⟩ := h.shape
  subst hv
  unfold maxLen at hcm
  have H := Lib.hid h
  obtain ⟨M, e, hM⟩ : ∃ M : Nat, (2 : Int) ^ N = (M : Int) ∧ M = 2 ^ N := ⟨2 ^ N, two_pow N, rfl⟩
  have hM16 : M ≤ 16 := by rw [hM]; exact Nat.pow_le_pow_right (show 0 < 2 by decide) hN
  have hwM := IntWalk.i64_in (M : Int) (by omega)
  have HLen : Hid (∀ r : List Int, Mac.rowOk N L r = (decide ((r.length : Int) = (M : Int)) && r.all (Mac.inOk L))) := Lib.hid fun r => by
    unfold Mac.rowOk Mac.lenOk
    rw [Int.toNat_natCast, ← hM]
  have h0 : Hid (xss.all (Mac.rowOk N L) = (xss.drop 0).all (Mac.rowOk N L)) := Lib.hid rfl
  generalize xss.all (Mac.rowOk N L) = res at h0 ⊢
  clear h hM
  go_enter Try.func68, Try.ntmps68
  go_wp2_with fail
  go_loop [13] (fun i => ∃ k : Nat, k ≤ xss.length ∧ i = .int .i64 k ∧ Hid (res = (xss.drop k).all (Mac.rowOk N L))) (fun i => xss.length - (intOf i).toNat)
  case atStart => exact ⟨0, Nat.zero_le _, rfl, h0⟩
  case round =>
    obtain ⟨k, hk, rfl, hres⟩ := hrel
    clear h0
    by_cases hlt : k < xss.length
    · obtain ⟨x, hx⟩ := at_some hlt
      obtain ⟨b, o, Bx, m, rfl, hbl, hc1, hm1, hm2, hr⟩ := ss_open H.out (Below.refl _ _) hx
      have Hr := Lib.hid hr
      have Hstep := Lib.hid (Mac.all_dropG (p := Mac.rowOk N L) hx)
      unfold maxLen at hm2
      clear hr hx
      by_cases hle : (x.length : Int) = (M : Int)
      · have hle2 : ((x.length : Int) != (M : Int)) = false := by rw [hle]; simp
        have Hn : Hid (res = ((x.drop 0).all (Mac.inOk L) && (xss.drop (k + 1)).all (Mac.rowOk N L))) := Lib.hid (by rw [hres.out, Hstep.out, HLen.out x, decide_eq_true hle]; rfl)
        clear hle
        go_wp2_with fail
        go_loop [24] (fun i => ∃ j : Nat, j ≤ x.length ∧ i = .int .i64 j ∧ Hid (res = ((x.drop j).all (Mac.inOk L) && (xss.drop (k + 1)).all (Mac.rowOk N L)))) (fun i => x.length - (intOf i).toNat)
        case atStart => exact ⟨0, Nat.zero_le _, rfl, Hn⟩
        case round =>
          obtain ⟨j, hj, rfl, hres2⟩ := hrel
          clear Hn
          by_cases hlj : j < x.length
          · obtain ⟨y, hy⟩ := at_some hlj
            obtain ⟨b2, o2, rfl, hbl2, hc2⟩ := ints_row Hr.out rfl hy
            have Hs2 := Lib.hid (Mac.all_dropG (p := Mac.inOk L) hy)
            clear hy
            by_cases hy0 : y < 0
            · obtain rfl : res = false := by rw [hres2.out, Hs2.out, show Mac.inOk L y = false from decide_eq_false (by omega)]; rfl
              go_wp2_with fail
              go_ret
              exact ⟨rfl, rfl⟩
            · by_cases hyL : (L : Int) ≤ y
              · obtain rfl : res = false := by rw [hres2.out, Hs2.out, show Mac.inOk L y = false from decide_eq_false (by omega)]; rfl
                go_wp2_with fail
                go_ret
                exact ⟨rfl, rfl⟩
              · have Hn3 : Hid (res = ((x.drop (j + 1)).all (Mac.inOk L) && (xss.drop (k + 1)).all (Mac.rowOk N L))) := Lib.hid (by rw [hres2.out, Hs2.out, show Mac.inOk L y = true from decide_eq_true (by omega)]; rfl)
                go_wp2_with fail
                go_round
                case rel => exact ⟨j + 1, by omega, by go_num, Hn3⟩
                case measure => simp [intOf] <;> omega
          · have Hn3 : Hid (res = (xss.drop (k + 1)).all (Mac.rowOk N L)) := Lib.hid (by rw [hres2.out, List.drop_eq_nil_of_le (by omega : x.length ≤ j)]; rfl)
            go_wp2_with fail
            go_round
            case rel => exact ⟨k + 1, by omega, by go_num, Hn3⟩
            case measure => simp [intOf] <;> omega
      · have hle2 : ((x.length : Int) != (M : Int)) = true := by simp; omega
        obtain rfl : res = false := by rw [hres.out, Hstep.out, HLen.out x, decide_eq_false hle]; rfl
        go_wp2_with fail
        go_ret
        exact ⟨rfl, rfl⟩
    · obtain rfl : res = true := by rw [hres.out, List.drop_eq_nil_of_le (by omega : xss.length ≤ k)]; rfl
      go_wp2_with fail
      go_ret
      exact ⟨rfl, rfl⟩
theorem mach_sizes {m : Mz} (h : Mac.sizes m = true) : 0 ≤ m.ins ∧ m.ins ≤ 4 ∧ 1 ≤ m.next.length ∧ m.next.length ≤ 8 ∧ m.out.length = m.next.length := by
  unfold Mac.sizes at h
  simpa using h
set_option maxHeartbeats 4000000 in
theorem implMValid_any (v : Value) (m : Mz) (w : World) (h : MachAt w v m) :
    Calls Try.prog 16 #[v] w fun e w' => e = .returned (.bool (Mac.valid m)) ∧ Below w.heap.size w w' := by
  obtain ⟨An, cn, Ao, co, rfl, lcn, lco, lcn2, lco2⟩ := h.shape
  obtain ⟨vn, vo, hv, r1, r2⟩ := h
  simp only [Value.agg.injEq, Array.mk.injEq, List.cons.injEq, and_true, true_and] at hv
  obtain ⟨rfl, rfl⟩ := hv
  unfold maxLen at lcn lco
  have B0 := Lib.hid (bel_alloc w (.cells #[.int .i64 m.ins, .slice An m.next.length cn, .slice Ao m.out.length co] 25))
  obtain ⟨z, p0, p1, p2⟩ := MCells.boxed w m.ins (.slice An m.next.length cn) (.slice Ao m.out.length co) 25
  have R1 := Lib.hid (r1.below B0.out)
  have R2 := Lib.hid (r2.below B0.out)
  generalize hW : w.alloc (.cells #[.int .i64 m.ins, .slice An m.next.length cn, .slice Ao m.out.length co] 25) = W at *
  clear r1 r2
  cases hs : Mac.sizes m
  · have hv : Mac.valid m = false := by unfold Mac.valid; rw [hs]; rfl
    rw [hv]
    rcases Mac.sizes_cases hs with g | ⟨g0, g1⟩ | ⟨g0, g1, g2⟩ | ⟨g0, g1, g2, g3⟩ | ⟨g0, g1, g2, g3, g4⟩
    case inr.inr.inr.inr =>
      have g5 : ((m.out.length : Int) != m.next.length) = true := by simpa using g4
      clear hs hv g4
      go_enter Try.func16, Try.ntmps16
      go_wp2_with fail
      go_ret
      exact ⟨rfl, B0.out⟩
    all_goals
      clear hs hv
      go_enter Try.func16, Try.ntmps16
      go_wp2_with fail
      go_ret
      exact ⟨rfl, B0.out⟩
  · obtain ⟨s1, s2, s3, s4, s5⟩ := mach_sizes hs
    have hv : Mac.valid m = (m.next.all (Mac.rowOk m.ins m.next.length) && m.out.all (Mac.rowOk m.ins 8)) := by unfold Mac.valid; rw [hs]; rfl
    rw [hv]
    obtain ⟨N, hN⟩ := Int.eq_ofNat_of_zero_le s1
    have hN4 : N ≤ 4 := by omega
    have C1 : Hid (∀ w, SSAt ints w (.slice An m.next.length cn) m.next → Calls Try.prog 68 #[.slice An m.next.length cn, .int .i64 m.ins, .int .i64 m.next.length] w fun e w' => e = .returned (.bool (m.next.all (Mac.rowOk m.ins m.next.length))) ∧ w = w') := Lib.hid fun w h => by rw [hN]; exact rowsWithin_any _ _ N _ w h hN4 s4
    have C2 : Hid (∀ w, SSAt ints w (.slice Ao m.out.length co) m.out → Calls Try.prog 68 #[.slice Ao m.out.length co, .int .i64 m.ins, .int .i64 8] w fun e w' => e = .returned (.bool (m.out.all (Mac.rowOk m.ins 8))) ∧ w = w') := Lib.hid fun w h => by rw [hN]; exact rowsWithin_any _ _ N 8 w h hN4 (Nat.le_refl _)
    have g5 : ((m.out.length : Int) != m.next.length) = false := by simp; omega
    have t1 : ¬ (m.ins < 0) := by omega
    have t2 : ¬ (4 < m.ins) := by omega
    have t3 : ¬ ((m.next.length : Int) < 1) := by omega
    have t4 : ¬ (8 < (m.next.length : Int)) := by omega
    have S5 := Lib.hid s5
    generalize m.next.all (Mac.rowOk m.ins m.next.length) = a1 at *
    generalize m.out.all (Mac.rowOk m.ins 8) = a2 at *
    clear hs hv hN s5 s1 s2 s3 s4
    cases a1
    · go_enter Try.func16, Try.ntmps16
      go_wp2_with fail
      refine (C1.out _ R1.out).mono ?_
      rintro e w' ⟨rfl, rfl⟩
      go_wp2_with fail
      go_ret
      exact ⟨rfl, B0.out⟩
    · go_enter Try.func16, Try.ntmps16
      go_wp2_with fail
      refine (C1.out _ R1.out).mono ?_
      rintro e w' ⟨rfl, rfl⟩
      go_wp2_with fail
      refine (C2.out _ R2.out).mono ?_
      rintro e w' ⟨rfl, rfl⟩
      go_wp2_with fail
      go_ret
      exact ⟨rfl, B0.out⟩
end Go.Proofs.Ytafckmknjddfhaa

namespace Go.Proofs.Ytafckmknjddfhaa
open Go.RowKit
set_option maxRecDepth 100000
theorem in_le (n x : Int) : decide (0 ≤ x ∧ x ≤ n - 1) = Mac.inOk n x := by
  unfold Mac.inOk
  exact decide_eq_decide.2 ⟨fun h => by omega, fun h => by omega⟩
theorem in_le8 (x : Int) : decide (0 ≤ x ∧ x ≤ 7) = Mac.inOk 8 x := in_le 8 x
set_option maxHeartbeats 8000000 in
theorem specMValid_any (v : Value) (m : Mz) (w : World) (h : MachAt w v m) :
    Calls Try.prog 17 #[v] w fun e w' => e = .returned (.bool (Mac.valid m)) ∧ Below w.heap.size w w' := by
  obtain ⟨An, cn, Ao, co, rfl, lcn, lco, lcn2, lco2⟩ := h.shape
  obtain ⟨vn, vo, hv, r1, r2⟩ := h
  simp only [Value.agg.injEq, Array.mk.injEq, List.cons.injEq, and_true, true_and] at hv
  obtain ⟨rfl, rfl⟩ := hv
  unfold maxLen at lcn lco
  have B0 := Lib.hid (bel_alloc w (.cells #[.int .i64 m.ins, .slice An m.next.length cn, .slice Ao m.out.length co] 25))
  have PC := Lib.hid (MCells.boxed w m.ins (.slice An m.next.length cn) (.slice Ao m.out.length co) 25)
  obtain ⟨z, p0, p1, p2⟩ := PC.out
  have R1 := Lib.hid (r1.below B0.out)
  have R2 := Lib.hid (r2.below B0.out)
  generalize hW : w.alloc (.cells #[.int .i64 m.ins, .slice An m.next.length cn, .slice Ao m.out.length co] 25) = W at *
  clear r1 r2
  cases hs : Mac.sizes m
  · have hv : Mac.valid m = false := by unfold Mac.valid; rw [hs]; rfl
    rw [hv]
    have hsc : (decide (0 ≤ m.ins ∧ m.ins ≤ 4) = false) ∨ (decide (0 ≤ m.ins ∧ m.ins ≤ 4) = true ∧ decide ((1 : Int) ≤ m.next.length ∧ (m.next.length : Int) ≤ 8) = false) ∨ (decide (0 ≤ m.ins ∧ m.ins ≤ 4) = true ∧ decide ((1 : Int) ≤ m.next.length ∧ (m.next.length : Int) ≤ 8) = true ∧ ((m.out.length : Int) != m.next.length) = true) := by
      rcases Mac.sizes_cases hs with g | ⟨g0, g1⟩ | ⟨g0, g1, g2⟩ | ⟨g0, g1, g2, g3⟩ | ⟨g0, g1, g2, g3, g4⟩
      · exact .inl (decide_eq_false (by omega))
      · exact .inl (decide_eq_false (by omega))
      · exact .inr (.inl ⟨decide_eq_true ⟨g0, g1⟩, decide_eq_false (by omega)⟩)
      · exact .inr (.inl ⟨decide_eq_true ⟨g0, g1⟩, decide_eq_false (by omega)⟩)
      · exact .inr (.inr ⟨decide_eq_true ⟨g0, g1⟩, decide_eq_true ⟨g2, g3⟩, by simpa using g4⟩)
    clear hs hv
    rcases hsc with h1 | ⟨h1, h2⟩ | ⟨h1, h2, h3⟩
    · have H1 := Lib.hid h1
      clear h1
      go_enter Try.func17, Try.ntmps17
      go_wp2_with fail
      refine (l1In_any _ _ _ _).mono ?_
      rintro e w' ⟨rfl, rfl⟩
      rw [H1.out]
      go_wp2_with fail
      go_ret
      exact ⟨rfl, B0.out⟩
    · have H1 := Lib.hid h1
      have H2 := Lib.hid h2
      clear h1 h2
      go_enter Try.func17, Try.ntmps17
      go_wp2_with fail
      refine (l1In_any _ _ _ _).mono ?_
      rintro e w' ⟨rfl, rfl⟩
      rw [H1.out]
      go_wp2_with fail
      refine (l1In_any _ _ _ _).mono ?_
      rintro e w' ⟨rfl, rfl⟩
      rw [H2.out]
      go_wp2_with fail
      go_ret
      exact ⟨rfl, B0.out⟩
    · have H1 := Lib.hid h1
      have H2 := Lib.hid h2
      clear h1 h2
      go_enter Try.func17, Try.ntmps17
      go_wp2_with fail
      refine (l1In_any _ _ _ _).mono ?_
      rintro e w' ⟨rfl, rfl⟩
      rw [H1.out]
      go_wp2_with fail
      refine (l1In_any _ _ _ _).mono ?_
      rintro e w' ⟨rfl, rfl⟩
      rw [H2.out]
      go_wp2_with fail
      go_ret
      exact ⟨rfl, B0.out⟩
  · obtain ⟨s1, s2, s3, s4, s5⟩ := mach_sizes hs
    have hv : Mac.valid m = ((m.next.zip m.out).drop 0).all (Mac.pairOk m.ins m.next.length) := by rw [Mac.valid_zip, hs]; rfl
    have H0 := Lib.hid hv
    have H1 : Hid (decide (0 ≤ m.ins ∧ m.ins ≤ 4) = true) := Lib.hid (decide_eq_true ⟨s1, s2⟩)
    have H2 : Hid (decide ((1 : Int) ≤ m.next.length ∧ (m.next.length : Int) ≤ 8) = true) := Lib.hid (decide_eq_true ⟨by omega, by omega⟩)
    have g5 : ((m.out.length : Int) != m.next.length) = false := by simp; omega
    have S5 := Lib.hid s5
    generalize Mac.valid m = res at *
    obtain ⟨N, hN⟩ := Int.eq_ofNat_of_zero_le s1
    have hN4 : N ≤ 4 := by omega
    obtain ⟨M, e, hM⟩ : ∃ M : Nat, (2 : Int) ^ N = (M : Int) ∧ M = 2 ^ N := ⟨2 ^ N, two_pow N, rfl⟩
    have hM16 : M ≤ 16 := by rw [hM]; exact Nat.pow_le_pow_right (show 0 < 2 by decide) hN4
    have hwM := IntWalk.i64_in (M : Int) (by omega)
    have HLen : Hid (∀ p : List Int × List Int, Mac.pairOk m.ins m.next.length p = (decide ((p.1.length : Int) = (M : Int)) && decide ((p.2.length : Int) = (M : Int)) && (p.1.zip p.2).all (Mac.entOk m.next.length))) := Lib.hid fun p => by
      unfold Mac.pairOk Mac.lenOk
      rw [hN, Int.toNat_natCast, ← hM]
    have HI1 := Lib.hid fun x : Int => in_le (m.next.length : Int) x
    have HI2 := Lib.hid in_le8
    rw [hN] at p0 PC H1 hW
    rw [hN]
    clear hs hv hM s5 s1 s2 hN
    go_enter Try.func17, Try.ntmps17
    go_wp2_with fail
    refine (l1In_any _ _ _ _).mono ?_
    rintro e w' ⟨rfl, rfl⟩
    rw [H1.out]
    go_wp2_with fail
    refine (l1In_any _ _ _ _).mono ?_
    rintro e w' ⟨rfl, rfl⟩
    rw [H2.out]
    go_wp2_with fail
    clear hW
    go_loopw [4] (fun i wr => ∃ k : Nat, k ≤ m.next.length ∧ i = .int .i64 k ∧ Hid (res = ((m.next.zip m.out).drop k).all (Mac.pairOk m.ins m.next.length)) ∧ Below W.heap.size W wr) (fun i _ => m.next.length - (intOf i).toNat)
    case atStart => exact ⟨0, Nat.zero_le _, rfl, H0, Below.refl _ _⟩
    case round =>
      obtain ⟨k, hk, rfl, hres, hb⟩ := hrel
      clear H0 p0 p1 p2
      by_cases hlt : k < m.next.length
      · obtain ⟨x, hx⟩ := at_some hlt
        obtain ⟨y, hy⟩ := at_some (show k < m.out.length by rw [S5.out]; exact hlt)
        have hko : k < m.out.length := by rw [S5.out]; exact hlt
        obtain ⟨b, o, Bx, mx, rfl, hbl, hc1, hm1, hm2, hr⟩ := ss_open R1.out hb hx
        obtain ⟨b', o', By, my, rfl, hbl', hc1', hm1', hm2', hr'⟩ := ss_open R2.out hb hy
        have Hr := Lib.hid hr
        have Hr' := Lib.hid hr'
        have Hstep := Lib.hid (Mac.all_dropG (p := Mac.pairOk m.ins m.next.length) (Mac.zip_get hx hy))
        obtain ⟨zr, p0, p1, p2⟩ := PC.out.below hb
        have g0 := gw_cell p0 zr
        have g1 := gw_cell p1 zr
        have g2 := gw_cell p2 zr
        have g3 := gw_cell hc1 (show b < wr.heap.size by have := hb.size; omega)
        have g4 := gw_cell hc1' (show b' < wr.heap.size by have := hb.size; omega)
        have Hb := Lib.hid hb
        have hz := hb.size
        unfold maxLen at hm2 hm2'
        have hko2 : k < co := by omega
        have hkn2 : k < cn := by omega
        clear hr hr' hx hy hb p0 p1 p2 hc1 hc1'
        by_cases hle : (x.length : Int) = (M : Int)
        · by_cases hle' : (y.length : Int) = (M : Int)
          · have hx2 : ((x.length : Int) != (M : Int)) = false := by rw [hle]; simp
            have hy2 : ((y.length : Int) != (M : Int)) = false := by rw [hle']; simp
            have Hn : Hid (res = (((x.zip y).drop 0).all (Mac.entOk m.next.length) && ((m.next.zip m.out).drop (k + 1)).all (Mac.pairOk m.ins m.next.length))) := Lib.hid (by rw [hres.out, Hstep.out, HLen.out (x, y), decide_eq_true hle, decide_eq_true hle']; rfl)
            have HMx : Hid (x.length = M) := Lib.hid (by omega)
            have HMy : Hid (y.length = M) := Lib.hid (by omega)
            clear hle hle'
            go_wp2_with fail
            refine wp_region_grow (by kernel_rfl) (by kernel_rfl) ?_
            repeat (go_big_quiet_step ((fail)))
            refine wpQuiet_nil ?_
            intro _ hw'
            obtain ⟨nq, hw''⟩ := hw'
            subst hw''
            have hgq := gw_below nq
            generalize gw nq = wq at *
            clear nq
            obtain ⟨W1, hW1⟩ : ∃ W1, W1 = wq := ⟨_, rfl⟩
            subst hW1
            have Hb1 := Lib.hid (Hb.out.trans (hgq.mono hz))
            have Hrq := Lib.hid (Hr.out.below hgq)
            have Hrq' := Lib.hid (Hr'.out.below hgq)
            obtain ⟨-, p0, p1, p2⟩ := PC.out.below Hb1.out
            have q3 := (hgq.cell (p := ⟨b, o + k, none⟩) (show b < wr.heap.size by omega)).trans (g3 ⟨wr, Below.refl _ _⟩)
            have q4 := (hgq.cell (p := ⟨b', o' + k, none⟩) (show b' < wr.heap.size by omega)).trans (g4 ⟨wr, Below.refl _ _⟩)
            clear hgq g0 g1 g2 g3 g4
            go_wp2_with fail
            go_loop [5] (fun i => ∃ j : Nat, j ≤ M ∧ i = .int .i64 j ∧ Hid (res = (((x.zip y).drop j).all (Mac.entOk m.next.length) && ((m.next.zip m.out).drop (k + 1)).all (Mac.pairOk m.ins m.next.length)))) (fun i => M - (intOf i).toNat)
            case atStart => exact ⟨0, Nat.zero_le _, rfl, Hn⟩
            case round =>
              obtain ⟨j, hj, rfl, hres2⟩ := hrel
              clear Hn
              by_cases hlj : j < M
              · obtain ⟨xe, hxe⟩ := at_some (show j < x.length by rw [HMx.out]; exact hlj)
                obtain ⟨ye, hye⟩ := at_some (show j < y.length by rw [HMy.out]; exact hlj)
                have hjx : j < x.length := by rw [HMx.out]; exact hlj
                have hjy : j < y.length := by rw [HMy.out]; exact hlj
                have hjx2 : j < mx := by omega
                have hjy2 : j < my := by omega
                obtain ⟨b2, o2, rfl, hbl2, hc2⟩ := ints_row Hrq.out rfl hxe
                obtain ⟨b3, o3, rfl, hbl3, hc3⟩ := ints_row Hrq'.out rfl hye
                have Hs2 := Lib.hid (Mac.all_dropG (p := Mac.entOk m.next.length) (Mac.zip_get hxe hye))
                have HE : Hid (Mac.entOk m.next.length (xe, ye) = (Mac.inOk m.next.length xe && Mac.inOk 8 ye)) := Lib.hid rfl
                clear hxe hye
                cases h1 : Mac.inOk m.next.length xe
                · have HH1 := Lib.hid h1
                  obtain rfl : res = false := by rw [hres2.out, Hs2.out, HE.out, h1]; rfl
                  clear h1
                  go_wp2_with fail
                  refine (l1In_any _ _ _ _).mono ?_
                  rintro e w' ⟨rfl, rfl⟩
                  rw [HI1.out, HH1.out]
                  go_wp2_with fail
                  go_ret
                  exact ⟨rfl, B0.out.trans (Hb1.out.mono B0.out.size)⟩
                · have HH1 := Lib.hid h1
                  cases h2 : Mac.inOk 8 ye
                  · have HH2 := Lib.hid h2
                    obtain rfl : res = false := by rw [hres2.out, Hs2.out, HE.out, h1, h2]; rfl
                    clear h1 h2
                    go_wp2_with fail
                    refine (l1In_any _ _ _ _).mono ?_
                    rintro e w' ⟨rfl, rfl⟩
                    rw [HI1.out, HH1.out]
                    go_wp2_with fail
                    refine (l1In_any _ _ _ _).mono ?_
                    rintro e w' ⟨rfl, rfl⟩
                    rw [HI2.out, HH2.out]
                    go_wp2_with fail
                    go_ret
                    exact ⟨rfl, B0.out.trans (Hb1.out.mono B0.out.size)⟩
                  · have HH2 := Lib.hid h2
                    have Hn3 : Hid (res = (((x.zip y).drop (j + 1)).all (Mac.entOk m.next.length) && ((m.next.zip m.out).drop (k + 1)).all (Mac.pairOk m.ins m.next.length))) := Lib.hid (by rw [hres2.out, Hs2.out, HE.out, h1, h2]; rfl)
                    clear h1 h2
                    go_wp2_with fail
                    refine (l1In_any _ _ _ _).mono ?_
                    rintro e w' ⟨rfl, rfl⟩
                    rw [HI1.out, HH1.out]
                    go_wp2_with fail
                    refine (l1In_any _ _ _ _).mono ?_
                    rintro e w' ⟨rfl, rfl⟩
                    rw [HI2.out, HH2.out]
                    go_wp2_with fail
                    go_round
                    case rel => exact ⟨j + 1, by omega, by go_num, Hn3⟩
                    case measure => simp [intOf] <;> omega
              · have Hn3 : Hid (res = ((m.next.zip m.out).drop (k + 1)).all (Mac.pairOk m.ins m.next.length)) := Lib.hid (by rw [hres2.out, List.drop_eq_nil_of_le (by rw [List.length_zip, HMx.out]; omega)]; rfl)
                go_wp2_with fail
                go_roundw
                case rel => exact ⟨k + 1, by omega, by go_num, Hn3, Hb1.out⟩
                case measure => simp [intOf] <;> omega
          · have hx2 : ((x.length : Int) != (M : Int)) = false := by rw [hle]; simp
            have hy2 : ((y.length : Int) != (M : Int)) = true := by simp; omega
            obtain rfl : res = false := by rw [hres.out, Hstep.out, HLen.out (x, y), decide_eq_true hle, decide_eq_false hle']; rfl
            clear hle hle'
            go_wp2_with fail
            refine wp_region_grow (by kernel_rfl) (by kernel_rfl) ?_
            repeat (go_big_quiet_step ((fail)))
            refine wpQuiet_nil ?_
            intro _ hw'
            obtain ⟨nq, hw''⟩ := hw'
            subst hw''
            have hgq := gw_below nq
            generalize gw nq = wq at *
            clear nq
            have Hb1 := Lib.hid (Hb.out.trans (hgq.mono hz))
            clear hgq g0 g1 g2 g3 g4
            go_wp2_with fail
            go_ret
            exact ⟨rfl, B0.out.trans (Hb1.out.mono B0.out.size)⟩
        · have hx2 : ((x.length : Int) != (M : Int)) = true := by simp; omega
          obtain rfl : res = false := by rw [hres.out, Hstep.out, HLen.out (x, y), decide_eq_false hle]; rfl
          clear hle
          go_wp2_with fail
          refine wp_region_grow (by kernel_rfl) (by kernel_rfl) ?_
          repeat (go_big_quiet_step ((fail)))
          refine wpQuiet_nil ?_
          intro _ hw'
          obtain ⟨nq, hw''⟩ := hw'
          subst hw''
          have hgq := gw_below nq
          generalize gw nq = wq at *
          clear nq
          have Hb1 := Lib.hid (Hb.out.trans (hgq.mono hz))
          clear hgq g0 g1 g2 g3 g4
          go_wp2_with fail
          go_ret
          exact ⟨rfl, B0.out.trans (Hb1.out.mono B0.out.size)⟩
      · obtain rfl : res = true := by rw [hres.out, List.drop_eq_nil_of_le (by rw [List.length_zip]; omega)]; rfl
        go_wp2_with fail
        go_ret
        exact ⟨rfl, B0.out.trans (hb.mono B0.out.size)⟩
end Go.Proofs.Ytafckmknjddfhaa
