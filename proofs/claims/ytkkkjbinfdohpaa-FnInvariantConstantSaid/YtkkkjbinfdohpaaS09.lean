import Derived.Test.YtkkkjbinfdohpaaS08
import Derived.Test.YtkkkjbinfdohpaaS03
import Derived.Test.YtkkkjbinfdohpaaS01
import Derived.Test.YtkkkjbinfdohpaaS02
import Derived.Test.YtkkkjbinfdohpaaS06
import Derived.Great.BuildSlice
import Derived.Test.YtkkkjbinfdohpaaS07
set_option linter.unusedVariables false
set_option linter.unusedSimpArgs false
namespace Go.Proofs.Ytkkkjbinfdohpaa
open Go.RowKit
set_option maxRecDepth 100000
set_option maxHeartbeats 8000000
/-! The search, by the program. -/
theorem ss_cell {w : World} {A : Option Addr} {n c : Nat} {xss : List (List Int)} {F : Nat → Prop} (h : SSIn ints F w (.slice A n c) xss) {i : Nat} {x : List Int} (hx : xss[i]? = some x) :
    ∃ b o u, A = some ⟨b, o, none⟩ ∧ b < w.heap.size ∧ w.cell? ⟨b, o + i, none⟩ = some u ∧ IntsAt w u x := by
  have hi : i < xss.length := (List.getElem?_eq_some_iff.1 hx).1
  obtain ⟨vs, h1, h2, h3⟩ := h
  obtain ⟨b, o, c', hv, _, _, hbl, hcell⟩ := h2.1.open (by omega)
  injection hv with e1
  subst e1
  obtain ⟨u, hu⟩ : ∃ u, vs[i]? = some u := ⟨_, List.getElem?_eq_getElem (by omega)⟩
  exact ⟨b, o, u, rfl, hbl, hcell i u hu, (h3 i x u hx hu).1⟩
structure SatS (w wr : World) (B bv cv g3 g5 : Nat) (vcs : Value) (CS : List (List Int)) (V V' T : List Int) (vt : Value) : Prop where
  row : VRow wr B bv cv V'
  cl : SSIn ints (fun g => g < bv) wr vcs CS
  h3 : wr.heap[g3]? = some (.cells #[.slice (some ⟨bv, 0, none⟩) 26 cv] 23 (0, 0))
  h5 : wr.heap[g5]? = some (.cells #[vt] 23 (0, 0))
  tr : wr.ownsRow (g5 + 1) 3 1 vt T.length (ints T)
  on : Only (fun g => g = bv) w wr
  vals : Sat.Vals V'
  und : Sat.und T V' = V
  cnt : T.length + Sat.nz V' ≤ Sat.nz V
  lits : ∀ l ∈ T, Sat.LitOk l
  un : Sat.Un V' CS → Sat.Un V CS
section
variable {w wr w' : World} {B bv cv g3 g5 : Nat} {vcs : Value} {CS : List (List Int)} {V V' T : List Int} {vt : Value}
/-- Only the row of values changes. -/
theorem SatS.row' (h : SatS w wr B bv cv g3 g5 vcs CS V V' T vt) (h3 : bv < g3) (h5 : bv < g5) {V2 : List Int} (hr : VRow w' B bv cv V2) (ho : Only (fun g => g = bv) wr w') (he : V2 = V') : SatS w w' B bv cv g3 g5 vcs CS V V' T vt :=
  ⟨he ▸ hr, h.cl.only ho (fun g hg e => by omega), (ho.block g3 (Array.getElem?_eq_some_iff.1 h.h3).1 (by omega)).trans h.h3, (ho.block g5 (Array.getElem?_eq_some_iff.1 h.h5).1 (by omega)).trans h.h5, own_only h.tr ho (fun g hg e => by have := (h.tr.lt g hg).1; omega), h.on.trans ho, h.vals, h.und, h.cnt, h.lits, h.un⟩
theorem SatS.alloc (h : SatS w wr B bv cv g3 g5 vcs CS V V' T vt) (h3 : bv < g3) (h5 : bv < g5) (o : Obj) : SatS w (wr.alloc o) B bv cv g3 g5 vcs CS V V' T vt :=
  h.row' h3 h5 (own_below h.row ((Below.refl _ _).alloc (Nat.le_refl _) o)) (Only.of_below _ ((Below.refl _ _).alloc (Nat.le_refl _) o)) rfl
end
def trLen (w : World) (g : Nat) : Nat := match w.cell? ⟨g, 0, none⟩ with | some (.slice _ n _) => n | _ => 0
theorem trLen_of {w : World} {g : Nat} {A : Option Addr} {n c : Nat} (h : w.heap[g]? = some (.cells #[.slice A n c] 23 (0, 0))) : trLen w g = n := by
  have := blk_cell h 0
  unfold trLen
  rw [this]
  rfl
def agN (v : Value) : Nat := match v with | .bool true => 1 | _ => 0
theorem only_new {E F : Nat → Prop} {w wr w' : World} (h : Only E w wr) (h' : Only F wr w') (hF : ∀ g, F g → w.heap.size ≤ g) : Only E w w' :=
  ⟨h'.os.trans h.os, h'.tape.trans h.tape, h'.output.trans h.output, Nat.le_trans h.size h'.size, fun k hk he => (h'.block k (Nat.lt_of_lt_of_le hk h.size) (fun hf => by have := hF k hf; omega)).trans (h.block k hk he)⟩
theorem satisfy_any (vcs : Value) (CS : List (List Int)) (hok : ∀ c ∈ CS, (∀ l ∈ c, Sat.LitOk l) ∧ c.length ≤ 1000) (hnC : CS.length ≤ 1000) : ∀ (n B bv cv : Nat) (V : List Int) (w : World), Sat.nz V ≤ n → Sat.Vals V → VRow w B bv cv V → SSIn ints (fun g => g < bv) w vcs CS →
    Calls Try.prog 97 #[vcs, .slice (some ⟨bv, 0, none⟩) 26 cv] w fun e w' => ∃ b, e = .returned (.bool b) ∧ Only (fun g => g = bv) w w' ∧ (b = false → VRow w' B bv cv V ∧ Sat.Un V CS) ∧ (b = true → ∃ σ, ∀ c ∈ CS, Sat.Cl σ c) := by
  intro n
  induction n using Nat.strongRecOn with
  | _ n IH =>
  intro B bv cv V w hn hV hr hcl
  obtain ⟨Ac, cc, hvc, -⟩ := hcl.at.shape
  subst hvc
  have HIH := Lib.hid IH
  have Hok := Lib.hid hok
  have HV := Lib.hid hV
  have Hnz := Lib.hid (Sat.nz_le hV)
  have Hn := Lib.hid hn
  have hbvz := hr.lt.2
  have HS0 : Hid (SatS w ((w.alloc (.cells #[.slice (some ⟨bv, 0, none⟩) 26 cv] 23)).alloc (.cells #[.slice none 0 0] 23)) B bv cv w.heap.size (w.heap.size + 1) (.slice Ac CS.length cc) CS V V [] (.slice none 0 0)) := Lib.hid (by
    have hz : (w.alloc (.cells #[.slice (some ⟨bv, 0, none⟩) 26 cv] 23)).heap.size = w.heap.size + 1 := by simp
    have b1 := bel_new w (.cells #[.slice (some ⟨bv, 0, none⟩) 26 cv] 23)
    have b2 := bel_new (w.alloc (.cells #[.slice (some ⟨bv, 0, none⟩) 26 cv] 23)) (.cells #[.slice none 0 0] 23)
    have b := b1.trans (b2.mono b1.size)
    have e1 := heap_alloc_new w (.cells #[.slice (some ⟨bv, 0, none⟩) 26 cv] 23)
    have e2 := heap_alloc_new (w.alloc (.cells #[.slice (some ⟨bv, 0, none⟩) 26 cv] 23)) (.cells #[.slice none 0 0] 23)
    rw [hz] at e2
    exact ⟨own_below hr b, hcl.below b, (b2.block _ (by omega)).trans e1, e2, World.ownsRow_nil _ _ _ _, Only.of_below _ b, hV, rfl, by simp, fun l hl => (by cases hl), id⟩)
  have hz2 : ((w.alloc (.cells #[.slice (some ⟨bv, 0, none⟩) 26 cv] 23)).alloc (.cells #[.slice none 0 0] 23)).heap.size = w.heap.size + 2 := by simp
  clear IH hok hn hV hr hcl
  go_enter Try.func97, Try.ntmps97
  go_wp2_with fail
  generalize (w.alloc (.cells #[.slice (some ⟨bv, 0, none⟩) 26 cv] 23)).alloc (.cells #[.slice none 0 0] 23) = W2 at *
  obtain ⟨g3, hg3⟩ : ∃ g, g = w.heap.size := ⟨_, rfl⟩
  obtain ⟨g5, hg5⟩ : ∃ g, g = w.heap.size + 1 := ⟨_, rfl⟩
  rw [← hg5] at HS0 ⊢
  rw [← hg3] at HS0 ⊢
  have hwg : Hid (w.heap.size ≤ g3) := Lib.hid (by omega)
  have hb3 : bv < g3 := by omega
  have hb5 : bv < g5 := by omega
  have h35 : g5 = g3 + 1 := by omega
  have H35 := Lib.hid h35
  clear hg3 hg5 hz2 h35
  go_loopw [7] (fun a wr => ∃ (ag : Bool) (V' T : List Int) (vt : Value), a = .bool ag ∧ Hid (SatS w wr B bv cv g3 g5 (.slice Ac CS.length cc) CS V V' T vt) ∧ Hid (ag = false → ∀ c ∈ CS, (Sat.unitGo V' 0 c).2 = true)) (fun a wr => 2 * (26 - trLen wr g5) + agN a)
  case atStart => exact ⟨true, V, [], _, rfl, HS0, Lib.hid (fun h => by cases h)⟩
  case round =>
    obtain ⟨ag, V', T, vt, rfl, HS, HA⟩ := hrel
    clear HS0
    obtain ⟨At, ct, et⟩ := slice_of_own HS.out.tr
    subst et
    have q3 := blk_cell HS.out.h3 0
    have q5 := blk_cell HS.out.h5 0
    simp at q3 q5
    cases ag
    · have HA1 := Lib.hid (HA.out rfl)
      clear HA
      go_wp2_with fail
      obtain ⟨W, hW⟩ : ∃ W, W = wr := ⟨_, rfl⟩
      subst hW
      go_loopw [12] (fun i wr => ∃ v : Nat, 1 ≤ v ∧ v ≤ 26 ∧ i = .int .i64 v ∧ Hid (∀ i, 1 ≤ i → i < v → V'.getD i 0 ≠ 0) ∧ wr = W) (fun i _ => 26 - (intOf i).toNat)
      case atStart => exact ⟨1, by omega, by omega, rfl, Lib.hid (fun i h1 h2 => absurd h2 (by omega)), rfl⟩
      case round =>
        obtain ⟨v, hv1, hv2, rfl, HNz, rfl⟩ := hrel
        by_cases hlt : v < 26
        · obtain ⟨c1, f1⟩ := HS.out.row.cell HS.out.vals.len hlt
          have dv : decide ((v : Int) < 26) = true := decide_eq_true (by omega)
          have hwk : IntKind.i64.wrap ((v : Int) + 1) = (v : Int) + 1 := IntWalk.i64_in _ (by omega)
          by_cases h0 : V'.getD v 0 = 0
          · rw [h0] at c1
            have Hv0 := Lib.hid h0
            have hwn : IntKind.i64.wrap (-(v : Int)) = -(v : Int) := IntWalk.i64_in _ (by omega)
            have HSa := Lib.hid (HS.out.alloc hb3 hb5 (.cells #[.int .i64 (-(v : Int)), .int .i64 (v : Int)] 3))
            have HL0 := Lib.hid (heap_alloc_new wr (.cells #[.int .i64 (-(v : Int)), .int .i64 (v : Int)] 3))
            have hgl1 : bv < wr.heap.size := HS.out.row.lt.2
            clear h0
            go_wp2_with fail
            obtain ⟨gl, hgl⟩ : ∃ gl, gl = wr.heap.size := ⟨_, rfl⟩
            rw [← hgl] at HL0 hgl1 ⊢
            generalize wr.alloc (.cells #[.int .i64 (-(v : Int)), .int .i64 (v : Int)] 3) = Wl at *
            clear hgl HS c1 f1
            go_loopw [59] (fun i wr => ∃ j : Nat, j ≤ 2 ∧ i = .int .i64 j ∧ Hid (SatS w wr B bv cv g3 g5 (.slice Ac CS.length cc) CS V V' T (.slice At T.length ct)) ∧ Hid (wr.heap[gl]? = some (.cells #[.int .i64 (-(v : Int)), .int .i64 (v : Int)] 3 (0, 0))) ∧ Hid ((1 ≤ j → Sat.Un (Sat.asg V' (-(v : Int))) CS) ∧ (2 ≤ j → Sat.Un (Sat.asg V' (v : Int)) CS))) (fun i _ => 2 - (intOf i).toNat)
            case atStart => exact ⟨0, by omega, rfl, HSa, HL0, Lib.hid ⟨fun h => absurd h (by omega), fun h => absurd h (by omega)⟩⟩
            case round =>
              obtain ⟨j, hj, rfl, HS, HL, HU⟩ := hrel
              clear HSa HL0
              have k0 := blk_cell HL.out 0
              have k1 := blk_cell HL.out 1
              simp at k0 k1
              have hglz := blk_ltB HL.out
              have q3 := blk_cell HS.out.h3 0
              have q5 := blk_cell HS.out.h5 0
              simp at q3 q5
              rcases (show j = 0 ∨ j = 1 ∨ j = 2 by omega) with rfl | rfl | rfl
              · have hlo : Sat.LitOk (-(v : Int)) := ⟨by omega, by omega, by omega⟩
                have HAs := Lib.hid (assign_any B bv cv V' (-(v : Int)) _ HS.out.row HS.out.vals hlo)
                have hl0 : Sat.litS V' (-(v : Int)) = 0 := by
                  unfold Sat.litS
                  have := Hv0.out
                  rw [if_pos (by omega), Int.neg_neg, Int.toNat_natCast]; omega
                have hnz := Sat.nz_asg HS.out.vals hlo hl0
                have Hasg : Hid (∃ s : Int, Sat.asg V' (-(v : Int)) = V'.set v s) := Lib.hid (by
                  obtain ⟨s, hs⟩ := Sat.asg_natAbs V' (-(v : Int))
                  exact ⟨s, by rw [hs, show (-(v : Int)).natAbs = v from by omega]⟩)
                have hlt' : Sat.nz (Sat.asg V' (-(v : Int))) < n := by have := HS.out.cnt; have := Hn.out; omega
                go_wp2_with fail
                refine HAs.out.mono ?_
                rintro e w3 ⟨rfl, hrow, hon⟩
                have hcl3 := HS.out.cl.only hon (fun g hg e => by omega)
                have HR := Lib.hid (HIH.out _ hlt' B bv cv _ w3 (Nat.le_refl _) (Sat.vals_asg HS.out.vals _) hrow hcl3)
                have h33 := (hon.block g3 (Array.getElem?_eq_some_iff.1 HS.out.h3).1 (by omega)).trans HS.out.h3
                have Hon := Lib.hid hon
                have q3' := blk_cell h33 0
                simp at q3'
                have H33 := Lib.hid h33
                clear hon hrow hcl3 h33 HAs
                go_wp2_with fail
                refine HR.out.mono ?_
                rintro e w4 ⟨bb, rfl, hon4, hb, hsat⟩
                have Hon4 := Lib.hid (Hon.out.trans hon4)
                have Hon0 := Lib.hid HS.out.on
                have h34 := (hon4.block g3 (Array.getElem?_eq_some_iff.1 H33.out).1 (by omega)).trans H33.out
                have q3'' := blk_cell h34 0
                simp at q3''
                clear h34 hon4
                cases bb
                · obtain ⟨hrow4, hun4⟩ := hb rfl
                  have Hun4 := Lib.hid hun4
                  obtain ⟨c4, f4⟩ := hrow4.cell (Sat.vals_asg HS.out.vals _).len hlt
                  have HP := Lib.hid (hrow4.put v 0)
                  have HSn : Hid (SatS w (w4.setCell ⟨bv, v, none⟩ (.int .i64 0)) B bv cv g3 g5 (.slice Ac CS.length cc) CS V V' T (.slice At T.length ct)) := Lib.hid (HS.out.row' hb3 hb5 HP.out.1 (Hon4.out.trans HP.out.2) (by
                    obtain ⟨s, hs⟩ := Hasg.out
                    rw [hs]
                    exact Sat.un_back Hv0.out s))
                  have HLn : Hid ((w4.setCell ⟨bv, v, none⟩ (.int .i64 0)).heap[gl]? = some (.cells #[.int .i64 (-(v : Int)), .int .i64 (v : Int)] 3 (0, 0))) := Lib.hid (((Hon4.out.trans HP.out.2).block gl hglz (by omega)).trans HL.out)
                  clear hb hrow4 hun4 hsat
                  go_wp2_with fail
                  go_roundw
                  case rel => exact ⟨1, by omega, by go_num, HSn, HLn, Lib.hid ⟨fun _ => Hun4.out, fun h => absurd h (by omega)⟩⟩
                  case measure => simp [intOf]
                · have HSt := Lib.hid (hsat rfl)
                  clear hb hsat
                  go_wp2_with fail
                  go_ret
                  exact ⟨true, rfl, Hon0.out.trans Hon4.out, fun h => (by cases h), fun _ => HSt.out⟩
              · have hlo : Sat.LitOk ((v : Int)) := ⟨by omega, by omega, by omega⟩
                have HAs := Lib.hid (assign_any B bv cv V' ((v : Int)) _ HS.out.row HS.out.vals hlo)
                have hl0 : Sat.litS V' ((v : Int)) = 0 := by
                  unfold Sat.litS
                  have := Hv0.out
                  rw [if_neg (by omega), Int.toNat_natCast]; exact this
                have hnz := Sat.nz_asg HS.out.vals hlo hl0
                have Hasg : Hid (∃ s : Int, Sat.asg V' ((v : Int)) = V'.set v s) := Lib.hid (by
                  obtain ⟨s, hs⟩ := Sat.asg_natAbs V' ((v : Int))
                  exact ⟨s, by rw [hs, show ((v : Int)).natAbs = v from by omega]⟩)
                have hlt' : Sat.nz (Sat.asg V' ((v : Int))) < n := by have := HS.out.cnt; have := Hn.out; omega
                go_wp2_with fail
                refine HAs.out.mono ?_
                rintro e w3 ⟨rfl, hrow, hon⟩
                have hcl3 := HS.out.cl.only hon (fun g hg e => by omega)
                have HR := Lib.hid (HIH.out _ hlt' B bv cv _ w3 (Nat.le_refl _) (Sat.vals_asg HS.out.vals _) hrow hcl3)
                have h33 := (hon.block g3 (Array.getElem?_eq_some_iff.1 HS.out.h3).1 (by omega)).trans HS.out.h3
                have Hon := Lib.hid hon
                have q3' := blk_cell h33 0
                simp at q3'
                have H33 := Lib.hid h33
                clear hon hrow hcl3 h33 HAs
                go_wp2_with fail
                refine HR.out.mono ?_
                rintro e w4 ⟨bb, rfl, hon4, hb, hsat⟩
                have Hon4 := Lib.hid (Hon.out.trans hon4)
                have Hon0 := Lib.hid HS.out.on
                have h34 := (hon4.block g3 (Array.getElem?_eq_some_iff.1 H33.out).1 (by omega)).trans H33.out
                have q3'' := blk_cell h34 0
                simp at q3''
                clear h34 hon4
                cases bb
                · obtain ⟨hrow4, hun4⟩ := hb rfl
                  have Hun4 := Lib.hid hun4
                  obtain ⟨c4, f4⟩ := hrow4.cell (Sat.vals_asg HS.out.vals _).len hlt
                  have HP := Lib.hid (hrow4.put v 0)
                  have HSn : Hid (SatS w (w4.setCell ⟨bv, v, none⟩ (.int .i64 0)) B bv cv g3 g5 (.slice Ac CS.length cc) CS V V' T (.slice At T.length ct)) := Lib.hid (HS.out.row' hb3 hb5 HP.out.1 (Hon4.out.trans HP.out.2) (by
                    obtain ⟨s, hs⟩ := Hasg.out
                    rw [hs]
                    exact Sat.un_back Hv0.out s))
                  have HLn : Hid ((w4.setCell ⟨bv, v, none⟩ (.int .i64 0)).heap[gl]? = some (.cells #[.int .i64 (-(v : Int)), .int .i64 (v : Int)] 3 (0, 0))) := Lib.hid (((Hon4.out.trans HP.out.2).block gl hglz (by omega)).trans HL.out)
                  clear hb hrow4 hun4 hsat
                  go_wp2_with fail
                  go_roundw
                  case rel => exact ⟨2, by omega, by go_num, HSn, HLn, Lib.hid ⟨fun _ => HU.out.1 (by omega), fun _ => Hun4.out⟩⟩
                  case measure => simp [intOf]
                · have HSt := Lib.hid (hsat rfl)
                  clear hb hsat
                  go_wp2_with fail
                  go_ret
                  exact ⟨true, rfl, Hon0.out.trans Hon4.out, fun h => (by cases h), fun _ => HSt.out⟩
              · have HUn := Lib.hid (HS.out.un (Sat.un_split hv1 (HU.out.1 (by omega)) (HU.out.2 (by omega))))
                have HUd := Lib.hid (undo_any B bv cv g3 g5 (g5 + 1) V' T (.slice At T.length ct) _ HS.out.row HS.out.vals.len HS.out.h3 HS.out.h5 HS.out.tr (by omega) HS.out.lits (by have := HS.out.cnt; have := Hnz.out; omega) (by omega))
                have Hund := Lib.hid HS.out.und
                have Hon := Lib.hid HS.out.on
                go_wp2_with fail
                refine HUd.out.mono ?_
                rintro e w3 ⟨rfl, hrow, hon⟩
                have Hrow := Lib.hid hrow
                have Hon3 := Lib.hid hon
                clear hrow hon
                go_wp2_with fail
                go_ret
                exact ⟨false, rfl, Hon.out.trans Hon3.out, fun _ => ⟨(by have := Hrow.out; rwa [Hund.out] at this), HUn.out⟩, fun h => by cases h⟩
          · have z1 : (V'.getD v 0 == 0) = false := by rw [beq_eq_false_iff_ne]; exact h0
            have z2 : (V'.getD v 0 != 0) = true := by rw [bne_iff_ne]; exact h0
            have HNz' : Hid (∀ i, 1 ≤ i → i < v + 1 → V'.getD i 0 ≠ 0) := Lib.hid (fun i h1 h2 => by
              rcases Nat.lt_or_ge i v with h | h
              · exact HNz.out i h1 h
              · obtain rfl : i = v := by omega
                exact h0)
            generalize V'.getD v 0 = x at *
            go_wp2_with fail
            go_roundw
            case rel => exact ⟨v + 1, by omega, by omega, by go_num, HNz', (by trivial)⟩
            case measure => simp [intOf]; omega
        · obtain rfl : v = 26 := by omega
          have Hon := Lib.hid HS.out.on
          have HFs := Lib.hid (Sat.full_sat HS.out.vals HNz.out (fun c hc => (Hok.out c hc).1) HA1.out)
          go_wp2_with fail
          go_ret
          exact ⟨true, rfl, Hon.out, fun h => (by cases h), fun _ => HFs.out⟩
    · go_wp2_with fail
      obtain ⟨W, hW⟩ : ∃ W, W = wr := ⟨_, rfl⟩
      subst hW
      go_loopw [7, 19] (fun a i wr => ∃ k : Nat, k ≤ CS.length ∧ i = .int .i64 k ∧ a = .bool false ∧ Hid (∀ c ∈ CS.take k, (Sat.unitGo V' 0 c).2 = true) ∧ wr = W) (fun _ i _ => CS.length - (intOf i).toNat)
      case atStart => exact ⟨0, Nat.zero_le _, rfl, rfl, Lib.hid (fun c hc => by simp at hc), rfl⟩
      case round =>
        obtain ⟨k, hk, rfl, rfl, HTk, rfl⟩ := hrel
        by_cases hlt : k < CS.length
        · obtain ⟨c, hc⟩ := at_some hlt
          have hcm := List.mem_of_getElem? hc
          obtain ⟨b, o, u, rfl, hbl, hs, hu⟩ := ss_cell HS.out.cl hc
          have HUn := Lib.hid (unit_any B bv cv V' c u _ HS.out.row HS.out.vals hu (Hok.out c hcm).1 (Hok.out c hcm).2)
          have HD : Hid ((Sat.unitGo V' 0 c).2 = false → Sat.Un V' CS) := Lib.hid fun h => Sat.un_dead HS.out.vals (Hok.out c hcm).1 hcm h
          have HF : Hid ((Sat.unitGo V' 0 c).1 ≠ 0 → Sat.LitOk (Sat.unitGo V' 0 c).1 ∧ Sat.litS V' (Sat.unitGo V' 0 c).1 = 0 ∧ (Sat.Un (Sat.asg V' (Sat.unitGo V' 0 c).1) CS → Sat.Un V' CS)) := Lib.hid fun h => ⟨(Hok.out c hcm).1 _ (Sat.unit_open HS.out.vals (Hok.out c hcm).1 h).1, (Sat.unit_open HS.out.vals (Hok.out c hcm).1 h).2.1, fun hun => Sat.un_unit HS.out.vals (Hok.out c hcm).1 hcm h hun⟩
          have HT : Hid ((Sat.unitGo V' 0 c).2 = true → ∀ c' ∈ CS.take (k + 1), (Sat.unitGo V' 0 c').2 = true) := Lib.hid fun h c' hc' => by
            rw [take_snoc hc] at hc'
            rcases List.mem_append.1 hc' with h' | h'
            · exact HTk.out c' h'
            · rw [List.mem_singleton.1 h']; exact h
          have hwk : IntKind.i64.wrap ((k : Int) + 1) = (k : Int) + 1 := IntWalk.i64_in _ (by omega)
          obtain ⟨Au, cu, rfl, -, -⟩ := Row.shape hu
          generalize Sat.unitGo V' 0 c = r at *
          obtain ⟨u0, ok⟩ := r
          clear hc hcm hu
          go_wp2_with fail
          refine HUn.out.mono ?_
          rintro e w2 ⟨rfl, rfl⟩
          cases ok
          · have HUd := Lib.hid (undo_any B bv cv g3 g5 (g5 + 1) V' T (.slice At T.length ct) _ HS.out.row HS.out.vals.len HS.out.h3 HS.out.h5 HS.out.tr (by omega) HS.out.lits (by have := HS.out.cnt; have := Hnz.out; omega) (by omega))
            have Hund := Lib.hid HS.out.und
            have Hon := Lib.hid HS.out.on
            have HUv := Lib.hid (HS.out.un (HD.out rfl))
            go_wp2_with fail
            refine HUd.out.mono ?_
            rintro e w3 ⟨rfl, hrow, hon⟩
            have Hrow := Lib.hid hrow
            have Hon3 := Lib.hid hon
            clear hrow hon
            go_wp2_with fail
            go_ret
            exact ⟨false, rfl, Hon.out.trans Hon3.out, fun _ => ⟨(by have := Hrow.out; rwa [Hund.out] at this), HUv.out⟩, fun h => by cases h⟩
          · have HT1 := Lib.hid (HT.out rfl)
            clear HT
            by_cases h0 : u0 = 0
            · subst h0
              go_wp2_with fail
              go_roundw
              case rel => exact ⟨k + 1, by omega, by go_num, rfl, HT1, (by trivial)⟩
              case measure => simp [intOf]; omega
            · obtain ⟨f1, f2, f3⟩ := HF.out h0
              have z1 : (u0 == 0) = false := by rw [beq_eq_false_iff_ne]; exact h0
              have z2 : (u0 != 0) = true := by rw [bne_iff_ne]; exact h0
              have Hf3 := Lib.hid f3
              have Hf1 := Lib.hid f1
              have Hf2 := Lib.hid f2
              have HAs := Lib.hid (assign_any B bv cv V' u0 _ HS.out.row HS.out.vals f1)
              have hcnt := HS.out.cnt
              have hna := Sat.nz_asg HS.out.vals f1 f2
              have hnz := Hnz.out
              clear h0 f1 f2 f3 HD HF HUn
              go_wp2_with fail
              refine HAs.out.mono ?_
              rintro e w3 ⟨rfl, hrow, hon⟩
              have Hrow := Lib.hid hrow
              have Hon := Lib.hid hon
              have hg3' := (Array.getElem?_eq_some_iff.1 HS.out.h3).1
              have hg5' := (Array.getElem?_eq_some_iff.1 HS.out.h5).1
              have hw3 := hon.size
              have HT3 := Lib.hid (own_only HS.out.tr hon (fun g hg e => by have := (HS.out.tr.lt g hg).1; omega))
              have H33 := Lib.hid ((hon.block g3 hg3' (by omega)).trans HS.out.h3)
              have H53 := Lib.hid ((hon.block g5 hg5' (by omega)).trans HS.out.h5)
              clear hrow hon HAs
              have q3' := blk_cell H33.out 0
              have q5' := blk_cell H53.out 0
              simp at q3' q5'
              have hbl := bel_new w3 (.cells #[.int .i64 u0] 3)
              have Hbl := Lib.hid hbl
              have Hlit := Lib.hid (Row.of_own (World.ownsRow_lit (base := w3.heap.size) (e := 3) (size := 1) w3 #[.int .i64 u0] 1 (Nat.le_refl _) (by unfold maxLen; omega) rfl))
              have HTl := Lib.hid (own_below HT3.out hbl)
              have hzl : (w3.alloc (.cells #[.int .i64 u0] 3)).heap.size = w3.heap.size + 1 := by simp
              clear hbl
              go_wp2_with (at_builtin; refine append_ints rfl (.tmp 38) (.tmp 40) rfl (g5 + 1) (.slice At T.length ct) T.length (ints T) rfl HTl.out _ 1 [.int .i64 u0] rfl Hlit.out (by simp [Value.oneCell']) (by omega) (by omega) ?_; intro v4 w4 hown4 hg4 hat4; obtain ⟨A4, c4, e4⟩ := slice_of_own hown4; subst e4; have Hown4 := Lib.hid hown4; have Ho4 := Lib.hid (Only.grown hg4 (fun k hk => hk) : Only (fun q => (Value.slice At T.length ct).ownBlock = some q) _ w4); have Hat := Lib.hid (fun q (hq : (Value.slice At T.length ct).ownBlock = some q) => (HT3.out.lt q hq).1); have h54 := (Ho4.out.block g5 (by omega) (fun e => (by have := Hat.out g5 e; omega))).trans ((Hbl.out.block g5 (by omega)).trans H53.out); have c54 := blk_cell h54 0; have f54 := blk_free h54 0; simp at c54; have H54 := Lib.hid h54; clear hown4 hg4 hat4 h54)
              have hs5 := heap_setCell_same w4 g5 0 _ _ (.slice A4 (T.length + 1) c4) H54.out
              simp at hs5
              have hon5 := Only.grown (E := fun k => k = g5) (set_grown w4 g5 0 (.slice A4 (T.length + 1) c4)) (fun k hk => (Option.some.inj hk).symm)
              have hon3a : Only (fun g => g = bv) _ (w3.alloc (.cells #[.int .i64 u0] 3)) := Hon.out.trans (Only.of_below _ Hbl.out)
              have HSn : SatS w (w4.setCell ⟨g5, 0, none⟩ (.slice A4 (T.length + 1) c4)) B bv cv g3 g5 (.slice (some ⟨b, o, none⟩) CS.length cc) CS V (Sat.asg V' u0) (T ++ [u0]) (.slice A4 (T.length + 1) c4) := by
                refine ⟨?_, ?_, ?_, hs5, ?_, ?_, Sat.vals_asg HS.out.vals u0, Sat.und_asg HS.out.und Hf2.out, ?_, ?_, fun h => HS.out.un (Hf3.out h)⟩
                · exact own_only (own_only (own_below Hrow.out Hbl.out) Ho4.out (fun g hg e => by have h1 := Hat.out g e; have h2 := Option.some.inj hg; simp only at h2; omega)) hon5 (fun g hg e => by have h2 := Option.some.inj hg; simp only at h2; omega)
                · exact ((HS.out.cl.only hon3a (fun g hg e => by omega)).only Ho4.out (fun g hg e => by have h1 := Hat.out g e; omega)).only hon5 (fun g hg e => by omega)
                · exact (hon5.block g3 (by have := Ho4.out.size; omega) (by have := H35.out; omega)).trans ((Ho4.out.block g3 (by omega) (fun e => by have h1 := Hat.out g3 e; have := H35.out; omega)).trans ((Hbl.out.block g3 (by omega)).trans H33.out))
                · have := own_setB (k := g5) (i := 0) (u := .slice A4 (T.length + 1) c4) Hown4.out (by omega)
                  rw [List.length_append, List.length_singleton]
                  have e : ints (T ++ [u0]) = ints T ++ [.int .i64 u0] := by unfold ints; rw [List.map_append]; rfl
                  rw [e]
                  exact this
                · exact only_new (only_new (HS.out.on.trans hon3a) Ho4.out (fun g hg => by have h1 := Hat.out g hg; have := hwg.out; have := H35.out; omega)) hon5 (fun g hg => by have := hwg.out; have := H35.out; omega)
                · rw [List.length_append, List.length_singleton]
                  omega
                · intro l hl
                  rcases List.mem_append.1 hl with h | h
                  · exact HS.out.lits l h
                  · rw [List.mem_singleton.1 h]; exact Hf1.out
              have htl := trLen_of HSn.h5
              have htl0 := trLen_of HS.out.h5
              have HSn' := Lib.hid HSn
              clear HSn hs5 hon5 hon3a
              go_roundw
              case rel => exact ⟨true, _, _, _, rfl, HSn', Lib.hid (fun h => by cases h)⟩
              case measure =>
                rw [htl, htl0]
                simp [agN]
                omega
        · obtain rfl : k = CS.length := by omega
          go_wp2_with fail
          go_roundw
          case rel => exact ⟨false, V', T, _, rfl, HS, Lib.hid (fun _ => by have := HTk.out; rwa [List.take_length] at this)⟩
          case measure => simp [agN]
end Go.Proofs.Ytkkkjbinfdohpaa

namespace Go.Proofs.Ytkkkjbinfdohpaa
open Go.RowKit
set_option maxRecDepth 100000
set_option maxHeartbeats 8000000
/-! Valid clauses, and the search from no values, by the program. -/
def CnfOk (CS : List (List Int)) : Prop := CS.length ≤ 80 ∧ ∀ c ∈ CS, c.length ≤ 3 ∧ ∀ l ∈ c, Sat.LitOk l
theorem clausesValid_any (F : Nat → Prop) (vcs : Value) (CS : List (List Int)) (w : World) (h : SSIn ints F w vcs CS) (hc : CnfOk CS) :
    Calls Try.prog 96 #[vcs] w fun e w' => e = .returned (.bool true) ∧ w' = w := by
  obtain ⟨Ac, cc, hvc, -⟩ := h.at.shape
  subst hvc
  have H := Lib.hid h
  have Hc := Lib.hid hc
  have h80 := hc.1
  clear h hc
  go_enter Try.func96, Try.ntmps96
  go_wp2_with fail
  go_loopw [12] (fun i wr => ∃ k : Nat, k ≤ CS.length ∧ i = .int .i64 k ∧ wr = w) (fun i _ => CS.length - (intOf i).toNat)
  case atStart => exact ⟨0, Nat.zero_le _, rfl, rfl⟩
  case round =>
    obtain ⟨k, hk, rfl, rfl⟩ := hrel
    by_cases hlt : k < CS.length
    · obtain ⟨c, hcg⟩ := at_some hlt
      have hcm := List.mem_of_getElem? hcg
      obtain ⟨b, o, u, rfl, hbl, hs, hu⟩ := ss_cell H.out hcg
      obtain ⟨h3, hl⟩ := Hc.out.2 c hcm
      have Hl := Lib.hid hl
      have Hu := Lib.hid hu
      have hwk : IntKind.i64.wrap ((k : Int) + 1) = (k : Int) + 1 := IntWalk.i64_in _ (by omega)
      obtain ⟨Au, cu, rfl, -, -⟩ := Row.shape hu
      have dk : decide ((k : Int) < (CS.length : Int)) = true := decide_eq_true (by omega)
      have dk' : decide (k < CS.length) = true := decide_eq_true hlt
      have d3 : decide ((c.length : Int) > 3) = false := decide_eq_false (by omega)
      have d3' : decide ((3 : Int) < (c.length : Int)) = false := decide_eq_false (by omega)
      clear hcg hcm hl hu
      go_wp2_with fail
      go_loopw [21] (fun i wr' => ∃ j : Nat, j ≤ c.length ∧ i = .int .i64 j ∧ wr' = wr) (fun i _ => c.length - (intOf i).toNat)
      case atStart => exact ⟨0, Nat.zero_le _, rfl, rfl⟩
      case round =>
        obtain ⟨j, hj, rfl, hww⟩ := hrel
        subst hww
        by_cases hlj : j < c.length
        · obtain ⟨b2, o2, rfl, hbl2, hs2⟩ := int_cell (by have := Hu.out; exact this) (Below.refl _ _) rfl hlj
          have hm : c.getD j 0 ∈ c := by rw [List.getD_eq_getElem?_getD, List.getElem?_eq_getElem hlj]; exact List.getElem_mem hlj
          obtain ⟨a1, a2, a3⟩ := Hl.out _ hm
          have hwj : IntKind.i64.wrap ((j : Int) + 1) = (j : Int) + 1 := IntWalk.i64_in _ (by omega)
          generalize c.getD j 0 = l at *
          have z1 : (l == 0) = false := by rw [beq_eq_false_iff_ne]; exact a1
          have z2 : decide (l < -25) = false := decide_eq_false (by omega)
          have z3 : decide (l > 25) = false := decide_eq_false (by omega)
          have z4 : decide ((25 : Int) < l) = false := decide_eq_false (by omega)
          clear hm a1
          go_wp2_with fail
          go_roundw
          case rel => exact ⟨j + 1, by omega, by go_num, (by trivial)⟩
          case measure => simp [intOf]; omega
        · obtain rfl : j = c.length := by omega
          go_wp2_with fail
          go_roundw
          case rel => exact ⟨k + 1, by omega, by go_num, (by trivial)⟩
          case measure => simp [intOf]; omega
    · obtain rfl : k = CS.length := by omega
      go_wp2_with fail
      go_ret
      exact ⟨rfl, rfl⟩
theorem vals_zero : Sat.Vals (List.replicate 26 0) := ⟨List.length_replicate, fun i => by
  rw [List.getD_eq_getElem?_getD]
  cases h : (List.replicate 26 (0 : Int))[i]? with
  | none => exact .inr (.inl rfl)
  | some x => exact .inr (.inl (List.eq_of_mem_replicate (List.mem_of_getElem? h)))⟩
theorem un_zero {CS : List (List Int)} (h : Sat.Un (List.replicate 26 0) CS) (σ : Nat → Bool) : ¬ ∀ c ∈ CS, Sat.Cl σ c := h σ fun v => by
  have : (List.replicate 26 (0 : Int)).getD v 0 = 0 := by
    rw [List.getD_eq_getElem?_getD]
    cases h : (List.replicate 26 (0 : Int))[v]? with
    | none => rfl
    | some x => exact List.eq_of_mem_replicate (List.mem_of_getElem? h)
  rw [this]
  exact ⟨fun h => by omega, fun h => by omega⟩
theorem satisfyTop_any (vcs : Value) (CS : List (List Int)) (w : World) (h : SSIn ints (fun g => g < w.heap.size) w vcs CS) (hc : CnfOk CS) :
    Calls Try.prog 62 #[vcs] w fun e w' => ∃ v b, e = .returned (.tuple #[v, .bool b]) ∧ Below w.heap.size w w' ∧ (b = true ↔ ∃ σ, ∀ c ∈ CS, Sat.Cl σ c) := by
  obtain ⟨Ac, cc, hvc, -⟩ := h.at.shape
  subst hvc
  have HCV := Lib.hid (clausesValid_any _ _ CS w h hc)
  have hmk := run_make_row' (P := Try.prog) 23 3 (.int .i64 0) 8 Try.underlying23 info_int rfl .i64 .i64 26 (by omega) (by omega)
  simp at hmk
  have hb := bel_new w (.cells (madeCells #[Value.int .i64 0] 26) 3)
  have hrow : VRow (w.alloc (.cells (madeCells #[Value.int .i64 0] 26) 3)) w.heap.size w.heap.size 26 (List.replicate 26 0) := by
    have h := World.ownsRow_lit (base := w.heap.size) (e := 3) (size := 1) w (madeCells #[Value.int .i64 0] 26) 26 (Nat.le_refl _) (by unfold maxLen; omega) (by simp [madeCells])
    have e : (madeCells #[Value.int .i64 0] 26).toList = ints (List.replicate 26 0) := by simp [madeCells, ints, Nat.mod_one, List.map_const']
    rwa [e] at h
  have HS := Lib.hid (satisfy_any (.slice Ac CS.length cc) CS (fun c hm => ⟨(hc.2 c hm).2, by have := (hc.2 c hm).1; omega⟩) (by have := hc.1; omega) 26 w.heap.size w.heap.size 26 (List.replicate 26 0) _ (by decide) vals_zero hrow (h.below hb))
  have Hb := Lib.hid hb
  clear h hc hb hrow
  go_enter Try.func62, Try.ntmps62
  go_wp2_with fail
  refine HCV.out.mono ?_
  rintro e w1 ⟨rfl, rfl⟩
  go_wp2_with fail
  refine HS.out.mono ?_
  rintro e w2 ⟨b, rfl, hon, hu, hst⟩
  have HB := Lib.hid (Only.below Hb.out hon Hb.out.size (fun k hk => by omega))
  clear hmk
  cases b
  · have Hn : Hid (¬ ∃ σ, ∀ c ∈ CS, Sat.Cl σ c) := Lib.hid (fun ⟨σ, hs⟩ => absurd hs (un_zero (hu rfl).2 σ))
    clear hu hst hon
    go_wp2_with fail
    exact bodyPost_ret (results_tmp2 rfl _ _ _) rfl ⟨_, false, rfl, HB.out, ⟨fun h => (by cases h), fun h => absurd h Hn.out⟩⟩
  · have Hp := Lib.hid (hst rfl)
    clear hu hst hon
    go_wp2_with fail
    exact bodyPost_ret (results_tmp2 rfl _ _ _) rfl ⟨_, true, rfl, HB.out, ⟨fun _ => Hp.out, fun _ => rfl⟩⟩
/-- The literal of a formula. -/
def dim (l : Nat) : Int := if l % 2 = 1 then -((l / 2 : Nat) + 1 : Int) else ((l / 2 : Nat) + 1 : Int)
theorem dimacs_any (l : Nat) (w : World) (hl : l ≤ 1000) :
    Calls Try.prog 98 #[.int .i64 (l : Int)] w fun e w' => e = .returned (.int .i64 (dim l)) ∧ w' = w := by
  have hq : (l : Int).tdiv 2 = ((l / 2 : Nat) : Int) := by rw [Int.tdiv_eq_ediv_of_nonneg (by omega)]; omega
  have ha : bits .and .i64 (l : Int) 1 = ((l % 2 : Nat) : Int) := by
    have := i64_and_nat l 1 (by omega) (by omega)
    rw [Nat.and_one_is_mod] at this
    exact this
  have hD : Hid (dim l = if l % 2 = 1 then -((l / 2 : Nat) + 1 : Int) else ((l / 2 : Nat) + 1 : Int)) := Lib.hid rfl
  have hr := Nat.mod_two_eq_zero_or_one l
  have hqb : l / 2 ≤ 1000 := by omega
  generalize l / 2 = q at *
  generalize l % 2 = r at *
  have hw1 : IntKind.i64.wrap (q : Int) = (q : Int) := IntWalk.i64_in _ (by omega)
  have hw2 : IntKind.i64.wrap ((q : Int) + 1) = (q : Int) + 1 := IntWalk.i64_in _ (by omega)
  have hw3 : IntKind.i64.wrap (-((q : Int) + 1)) = -((q : Int) + 1) := IntWalk.i64_in _ (by omega)
  rcases hr with rfl | rfl
  · rw [if_neg (by omega)] at hD
    go_enter Try.func98, Try.ntmps98
    go_wp2_with fail
    go_ret
    exact ⟨by rw [hD.out]; rfl, rfl⟩
  · rw [if_pos rfl] at hD
    go_enter Try.func98, Try.ntmps98
    go_wp2_with fail
    go_ret
    exact ⟨by rw [hD.out]; rfl, rfl⟩
end Go.Proofs.Ytkkkjbinfdohpaa

namespace Go.Proofs.Ytkkkjbinfdohpaa
/-! The clauses of a circuit's literal, plainly. -/
namespace Sat
def gateCl (F : Nat) (i : Nat) (g : Nat × Nat) : List (List Int) := [[-((F + i + 1 : Nat) : Int), dim g.1], [-((F + i + 1 : Nat) : Int), dim g.2], [((F + i + 1 : Nat) : Int), -(dim g.1), -(dim g.2)]]
def cnfGo (F : Nat) (gs : List (Nat × Nat)) : Nat → List (List Int)
  | 0 => [[-1]]
  | k + 1 => cnfGo F gs k ++ gateCl F k (gs.getD k (0, 0))
def cnf (d : Ci) (l : Nat) : List (List Int) := cnfGo (Cir.nfirst d) d.gates d.gates.length ++ [[dim l]]
theorem cnfGo_len (F : Nat) (gs : List (Nat × Nat)) : ∀ k, (cnfGo F gs k).length = 1 + 3 * k
  | 0 => rfl
  | k + 1 => by rw [cnfGo, List.length_append, cnfGo_len F gs k]; simp [gateCl]; omega
theorem dim_ok {l N : Nat} (h : l < 2 * N) (hN : N ≤ 25) : LitOk (dim l) ∧ LitOk (-(dim l)) := by
  unfold dim
  split
  · exact ⟨⟨by omega, by omega, by omega⟩, ⟨by omega, by omega, by omega⟩⟩
  · exact ⟨⟨by omega, by omega, by omega⟩, ⟨by omega, by omega, by omega⟩⟩
/-- The assignment that a circuit's values give. -/
def sig (V : List Bool) (v : Nat) : Bool := V.getD (v - 1) false
theorem lit_dim (V : List Bool) (l : Nat) : litT (sig V) (dim l) = Cir.lit V l := by
  unfold dim litT sig Cir.lit
  rcases Nat.mod_two_eq_zero_or_one l with e | e
  · rw [if_neg (by omega), if_neg (by omega), show (((l / 2 : Nat) : Int) + 1).toNat - 1 = l / 2 from by omega, e]
    simp
  · rw [if_pos e, if_pos (by omega), Int.neg_neg, show (((l / 2 : Nat) : Int) + 1).toNat - 1 = l / 2 from by omega, e]
    simp
theorem litT_flip (σ : Nat → Bool) {x : Int} (h : x ≠ 0) : litT σ (-x) = !litT σ x := by
  unfold litT
  by_cases hx : x < 0
  · rw [if_neg (by omega), if_pos hx, Bool.not_not]
  · rw [if_pos (by omega), if_neg hx, Int.neg_neg]
theorem dim_ne (l : Nat) : dim l ≠ 0 := by unfold dim; split <;> omega
theorem cnfGo_true {d : Ci} (hd : Cir.Ok d) {st inp : List Bool} (l1 : inp.length = d.ins) (l2 : st.length = d.next.length) : ∀ k, k ≤ d.gates.length → ∀ c ∈ cnfGo (Cir.nfirst d) d.gates k, Cl (sig (Cir.vals d st inp)) c
  | 0, _, c, hc => by
    rw [cnfGo, List.mem_singleton] at hc
    subst hc
    refine ⟨-1, by simp, ?_⟩
    unfold litT sig
    rw [if_pos (by omega)]
    have : (Cir.vals d st inp).getD 0 false = false := by
      rw [Cir.vals_first d l1 l2 (by unfold Cir.nfirst; omega)]
      rfl
    rw [List.getD_eq_getElem?_getD] at this
    simp [this]
  | k + 1, hk, c, hc => by
    rw [cnfGo] at hc
    rcases List.mem_append.1 hc with h | h
    · exact cnfGo_true hd l1 l2 k (by omega) c h
    · have hgk : d.gates[k]? = some (d.gates.getD k (0, 0)) := by rw [List.getD_eq_getElem?_getD, List.getElem?_eq_getElem (by omega), Option.getD_some]
      have hv := Cir.vals_gate d l1 l2 hd hgk
      generalize d.gates.getD k (0, 0) = g at h hv
      have hs : litT (sig (Cir.vals d st inp)) ((Cir.nfirst d + k + 1 : Nat) : Int) = (Cir.lit (Cir.vals d st inp) g.1 && Cir.lit (Cir.vals d st inp) g.2) := by
        unfold litT sig
        rw [if_neg (by omega), Int.toNat_natCast, Nat.add_sub_cancel, hv]
        rfl
      have hn : litT (sig (Cir.vals d st inp)) (-((Cir.nfirst d + k + 1 : Nat) : Int)) = !(Cir.lit (Cir.vals d st inp) g.1 && Cir.lit (Cir.vals d st inp) g.2) := by rw [litT_flip _ (by omega), hs]
      have ha := lit_dim (Cir.vals d st inp) g.1
      have hb := lit_dim (Cir.vals d st inp) g.2
      have ha' : litT (sig (Cir.vals d st inp)) (-(dim g.1)) = !(Cir.lit (Cir.vals d st inp) g.1) := by rw [litT_flip _ (dim_ne _), ha]
      have hb' : litT (sig (Cir.vals d st inp)) (-(dim g.2)) = !(Cir.lit (Cir.vals d st inp) g.2) := by rw [litT_flip _ (dim_ne _), hb]
      unfold gateCl at h
      simp only [List.mem_cons, List.not_mem_nil, or_false] at h
      cases e1 : Cir.lit (Cir.vals d st inp) g.1 <;> cases e2 : Cir.lit (Cir.vals d st inp) g.2 <;> rw [e1, e2] at hs hn <;> rw [e1] at ha ha' <;> rw [e2] at hb hb' <;> rcases h with rfl | rfl | rfl
      all_goals first
        | exact ⟨_, List.mem_cons_self, hn⟩
        | exact ⟨_, List.mem_cons_self, hs⟩
        | exact ⟨_, List.mem_cons_of_mem _ List.mem_cons_self, ha⟩
        | exact ⟨_, List.mem_cons_of_mem _ List.mem_cons_self, hb⟩
        | exact ⟨_, List.mem_cons_of_mem _ List.mem_cons_self, ha'⟩
        | exact ⟨_, List.mem_cons_of_mem _ (List.mem_cons_of_mem _ List.mem_cons_self), hb'⟩
/-- A literal that is true for some assignment makes all clauses true. -/
theorem cnf_true {d : Ci} (hd : Cir.Ok d) {l : Nat} {st inp : List Bool} (l1 : inp.length = d.ins) (l2 : st.length = d.next.length) (h : Cir.lit (Cir.vals d st inp) l = true) : ∀ c ∈ cnf d l, Cl (sig (Cir.vals d st inp)) c := by
  intro c hc
  unfold cnf at hc
  rcases List.mem_append.1 hc with h1 | h1
  · exact cnfGo_true hd l1 l2 _ (Nat.le_refl _) c h1
  · rw [List.mem_singleton] at h1
    subst h1
    exact ⟨dim l, by simp, by rw [lit_dim]; exact h⟩
theorem cnfGo_ok {d : Ci} (hd : Cir.Ok d) : ∀ k, k ≤ d.gates.length → ∀ c ∈ cnfGo (Cir.nfirst d) d.gates k, c.length ≤ 3 ∧ ∀ l ∈ c, LitOk l
  | 0, _, c, hc => by
    rw [cnfGo, List.mem_singleton] at hc
    subst hc
    refine ⟨by simp, fun l hl => ?_⟩
    rw [List.mem_singleton.1 hl]
    exact ⟨by omega, by omega, by omega⟩
  | k + 1, hk, c, hc => by
    have s1 := hd.ins
    have s2 := hd.nexts
    have s3 := hd.gatess
    rw [cnfGo] at hc
    rcases List.mem_append.1 hc with h | h
    · exact cnfGo_ok hd k (by omega) c h
    · have hg := Cir.ok_getD hd (show k < d.gates.length by omega)
      generalize d.gates.getD k (0, 0) = g at h hg
      have hF : Cir.nfirst d ≤ 8 := by unfold Cir.nfirst; omega
      have o1 := dim_ok (l := g.1) (N := Cir.nfirst d + k) hg.1 (by omega)
      have o2 := dim_ok (l := g.2) (N := Cir.nfirst d + k) hg.2 (by omega)
      have o3 : LitOk ((Cir.nfirst d + k + 1 : Nat) : Int) := ⟨by omega, by omega, by omega⟩
      have o4 : LitOk (-((Cir.nfirst d + k + 1 : Nat) : Int)) := ⟨by omega, by omega, by omega⟩
      unfold gateCl at h
      simp only [List.mem_cons, List.not_mem_nil, or_false] at h
      rcases h with rfl | rfl | rfl
      all_goals
        refine ⟨by simp, fun l hl => ?_⟩
        simp only [List.mem_cons, List.not_mem_nil, or_false] at hl
      · rcases hl with rfl | rfl
        · exact o4
        · exact o1.1
      · rcases hl with rfl | rfl
        · exact o4
        · exact o2.1
      · rcases hl with rfl | rfl | rfl
        · exact o3
        · exact o1.2
        · exact o2.2
theorem cnf_ok {d : Ci} (hd : Cir.Ok d) {l : Nat} (hl : l < 2 * Cir.nvars d) : CnfOk (cnf d l) := by
  have s1 := hd.ins
  have s2 := hd.nexts
  have s3 := hd.gatess
  refine ⟨?_, fun c hc => ?_⟩
  · unfold cnf
    rw [List.length_append, cnfGo_len]
    simp
    omega
  · unfold cnf at hc
    rcases List.mem_append.1 hc with h | h
    · exact cnfGo_ok hd _ (Nat.le_refl _) c h
    · rw [List.mem_singleton] at h
      subst h
      refine ⟨by simp, fun x hx => ?_⟩
      rw [List.mem_singleton.1 hx]
      exact (dim_ok hl (by unfold Cir.nvars Cir.nfirst; omega)).1
/-- The values that a satisfying assignment gives are the circuit's. -/
theorem cnf_vals {d : Ci} (hd : Cir.Ok d) {σ : Nat → Bool} {st inp : List Bool} (l1 : inp.length = d.ins) (l2 : st.length = d.next.length) (hin : ∀ i, i < d.ins → inp.getD i false = σ (i + 2)) (hst : ∀ i, i < d.next.length → st.getD i false = σ (d.ins + i + 2)) : ∀ k, k ≤ d.gates.length → (∀ c ∈ cnfGo (Cir.nfirst d) d.gates k, Cl σ c) → ∀ v, v < Cir.nfirst d + k → (Cir.vals d st inp).getD v false = σ (v + 1)
  | 0, _, hc, v, hv => by
    rw [Cir.vals_first d l1 l2 (by omega)]
    obtain ⟨l, hl, ht⟩ := hc [-1] (by simp [cnfGo])
    rw [List.mem_singleton] at hl
    subst hl
    have h1 : σ 1 = false := by
      unfold litT at ht
      rw [if_pos (by omega)] at ht
      simpa using ht
    cases v with
    | zero => rw [h1]; rfl
    | succ v =>
      show (inp ++ st).getD v false = _
      unfold Cir.nfirst at hv
      rcases Nat.lt_or_ge v d.ins with h | h
      · rw [List.getD_eq_getElem?_getD, List.getElem?_append_left (by omega), ← List.getD_eq_getElem?_getD, hin v h]
      · rw [List.getD_eq_getElem?_getD, List.getElem?_append_right (by omega), ← List.getD_eq_getElem?_getD, hst _ (by omega), show d.ins + (v - inp.length) + 2 = v + 1 + 1 from by omega]
  | k + 1, hk, hc, v, hv => by
    have ih := cnf_vals hd l1 l2 hin hst k (by omega) (fun c h => hc c (by rw [cnfGo]; exact List.mem_append_left _ h))
    rcases Nat.lt_or_ge v (Cir.nfirst d + k) with h | h
    · exact ih v h
    · obtain rfl : v = Cir.nfirst d + k := by omega
      have hgk : d.gates[k]? = some (d.gates.getD k (0, 0)) := by rw [List.getD_eq_getElem?_getD, List.getElem?_eq_getElem (by omega), Option.getD_some]
      have hgo := Cir.ok_getD hd (show k < d.gates.length by omega)
      have hg : ∀ c ∈ gateCl (Cir.nfirst d) k (d.gates.getD k (0, 0)), Cl σ c := fun c h => hc c (by rw [cnfGo]; exact List.mem_append_right _ h)
      rw [Cir.vals_gate d l1 l2 hd hgk]
      generalize d.gates.getD k (0, 0) = g at hg hgo
      have hlit : ∀ l, l / 2 < Cir.nfirst d + k → Cir.lit (Cir.vals d st inp) l = litT σ (dim l) := fun l hl => by
        have e : Cir.lit (Cir.vals d st inp) l = Cir.lit ((List.range (Cir.nfirst d + k)).map fun v => σ (v + 1)) l := by
          unfold Cir.lit
          rw [ih _ hl, List.getD_eq_getElem?_getD, List.getElem?_map, List.getElem?_range hl]
          rfl
        rw [e, ← lit_dim]
        unfold litT sig dim
        rcases Nat.mod_two_eq_zero_or_one l with e2 | e2
        · rw [if_neg (by omega), if_neg (by omega), List.getD_eq_getElem?_getD, List.getElem?_map, List.getElem?_range (by omega)]
          simp only [Option.map_some, Option.getD_some]
          congr 1
        · rw [if_pos e2, if_pos (by omega), if_pos (by omega), Int.neg_neg, List.getD_eq_getElem?_getD, List.getElem?_map, List.getElem?_range (by omega)]
          simp only [Option.map_some, Option.getD_some]
          congr 2
      unfold Cir.gval
      rw [hlit g.1 (by omega), hlit g.2 (by omega)]
      have n1 := litT_flip σ (dim_ne g.1)
      have n2 := litT_flip σ (dim_ne g.2)
      have hs : litT σ ((Cir.nfirst d + k + 1 : Nat) : Int) = σ (Cir.nfirst d + k + 1) := by unfold litT; rw [if_neg (by omega), Int.toNat_natCast]
      have hn : litT σ (-((Cir.nfirst d + k + 1 : Nat) : Int)) = !σ (Cir.nfirst d + k + 1) := by rw [litT_flip _ (by omega), hs]
      obtain ⟨x1, hx1, t1⟩ := hg [-((Cir.nfirst d + k + 1 : Nat) : Int), dim g.1] (by simp [gateCl])
      obtain ⟨x2, hx2, t2⟩ := hg [-((Cir.nfirst d + k + 1 : Nat) : Int), dim g.2] (by simp [gateCl])
      obtain ⟨x3, hx3, t3⟩ := hg [((Cir.nfirst d + k + 1 : Nat) : Int), -(dim g.1), -(dim g.2)] (by simp [gateCl])
      simp only [List.mem_cons, List.not_mem_nil, or_false] at hx1 hx2 hx3
      cases hb : σ (Cir.nfirst d + k + 1) <;> rw [hb] at hs hn <;> cases e1 : litT σ (dim g.1) <;> cases e2 : litT σ (dim g.2) <;> rw [e1] at n1 <;> rw [e2] at n2 <;> first
        | rfl
        | (exfalso; rcases hx1 with rfl | rfl <;> simp_all; done)
        | (exfalso; rcases hx2 with rfl | rfl <;> simp_all; done)
        | (exfalso; rcases hx3 with rfl | rfl | rfl <;> simp_all; done)
theorem cnf_sound {d : Ci} (hd : Cir.Ok d) {l : Nat} (hl : l < 2 * Cir.nvars d) {σ : Nat → Bool} (h : ∀ c ∈ cnf d l, Cl σ c) : ∃ st inp : List Bool, inp.length = d.ins ∧ st.length = d.next.length ∧ Cir.lit (Cir.vals d st inp) l = true := by
  have l1 : ((List.range d.ins).map fun i => σ (i + 2)).length = d.ins := by simp
  have l2 : ((List.range d.next.length).map fun i => σ (d.ins + i + 2)).length = d.next.length := by simp
  refine ⟨_, _, l1, l2, ?_⟩
  have hv := cnf_vals hd l1 l2 (σ := σ) (fun i hi => by rw [List.getD_eq_getElem?_getD, List.getElem?_map, List.getElem?_range hi]; rfl) (fun i hi => by rw [List.getD_eq_getElem?_getD, List.getElem?_map, List.getElem?_range hi]; rfl) d.gates.length (Nat.le_refl _) (fun c hc => h c (List.mem_append_left _ hc))
  obtain ⟨x, hx, ht⟩ := h [dim l] (List.mem_append_right _ (by simp))
  rw [List.mem_singleton] at hx
  subst hx
  have hlv : l / 2 < Cir.nfirst d + d.gates.length := by unfold Cir.nvars at hl; omega
  unfold Cir.lit
  rw [hv _ hlv]
  unfold litT dim at ht
  rcases Nat.mod_two_eq_zero_or_one l with e2 | e2
  · rw [if_neg (by omega), if_neg (by omega), show (((l / 2 : Nat) : Int) + 1).toNat = l / 2 + 1 from by omega] at ht
    rw [e2, ht]; rfl
  · rw [if_pos (by rw [if_pos e2]; omega), if_pos e2, Int.neg_neg, show (((l / 2 : Nat) : Int) + 1).toNat = l / 2 + 1 from by omega] at ht
    rw [e2]
    simp at ht
    rw [ht]; rfl
end Sat
end Go.Proofs.Ytkkkjbinfdohpaa

namespace Go.Proofs.Ytkkkjbinfdohpaa
open Go.RowKit
/-! Drawn regions whose last operations come behind all the others, one after another. -/
section
variable {P : Program} {ops : Array Oper}
theorem ready_of {m : Nat} {om : Oper} (hB : rgB ops = true) (hom : ops[m]? = some om) {listed : Array Bool} (hsz : listed.size = ops.size) (hall : ∀ i, i < m → listed.getD i false = true) (hmf : listed.getD m false = false) : m ∈ Region.ready .any ops listed := by
  have hil : m < listed.size := by have := (Array.getElem?_eq_some_iff.1 hom).1; omega
  refine mem_ready.2 ⟨by simpa [Array.getD, hil] using hmf, om, hom, fun e he hbn => hall e.on ((rgB_ok hB hom).back e he hbn)⟩
theorem anc_open {listed : Array Bool} (L : Shut ops (fun i => listed.getD i false)) {i : Nat} {o : Oper} (ho : ops[i]? = some o) (hr : ∀ e ∈ o.after, Region.binds .any e = true → listed.getD e.on false = true) {j : Nat} (hj : j < i) (ha : ancB ops 16 j i = true) : listed.getD j false = true := by
  rw [show (16 : Nat) = 15 + 1 from rfl, ancB, Bool.or_eq_true] at ha
  rcases ha with ha | ha
  · exact absurd (by simpa using ha) (Nat.ne_of_lt hj)
  · simp only [ho, Option.map_some, Option.getD_some, Array.any_eq_true] at ha
    obtain ⟨q, hq, ha⟩ := ha
    rw [Bool.and_eq_true] at ha
    exact ancB_shut L 15 j _ ha.2 (hr _ (Array.getElem_mem hq) ha.1)
theorem getD_setT {listed : Array Bool} {i : Nat} (hil : i < listed.size) : (fun j => (listed.setIfInBounds i true).getD j false) = fun j => if j = i then true else listed.getD j false := by
  funext j
  by_cases e : j = i
  · subst e; simp [hil]
  · simp only [e, if_false]
    exact getD_set_ne false (fun h => e h.symm)
theorem open_less {listed : Array Bool} {i : Nat} (hlt : i < ops.size) (hil : i < listed.size) (h1 : listed.getD i false = false) : open_ ops (listed.setIfInBounds i true) < open_ ops listed := by
  have eL := getD_setT hil
  refine countP_lt (fun x _ hx => ?_) ⟨i, List.mem_range.2 hlt, by simpa using h1, ?_⟩
  · have : (listed.setIfInBounds i true).getD x false = if x = i then true else listed.getD x false := congrFun eL x
    rw [this] at hx
    by_cases e : x = i
    · simp [e] at hx
    · simpa [e] using hx
  · have : (listed.setIfInBounds i true).getD i false = if i = i then true else listed.getD i false := congrFun eL i
    rw [this]
    simp
theorem wpAny_chain {Q : Exit → Act → World → Prop} (hB : rgB ops = true) {m : Nat} (hlast : ∀ i, m ≤ i → i < ops.size → ∀ j, m ≤ j → j < i → ancB ops 16 j i = true) :
    ∀ (l : List Oper) (k fuel : Nat) (listed : Array Bool) (a : Act) (w : World), m ≤ k → ops.toList.drop k = l → listed.size = ops.size → (∀ j, j < ops.size → listed.getD j false = decide (j < k)) → Shut ops (fun i => listed.getD i false) → open_ ops listed ≤ fuel → wpList P ops Q l a w → wpAny P .any ops Q fuel listed a w
  | [], k, fuel, listed, a, w, _, hl, hsz, hd, _, _, h => by
    have hk : ops.size ≤ k := by
      rcases Nat.lt_or_ge k ops.size with h' | h'
      · have := congrArg List.length hl
        simp at this
        omega
      · exact h'
    exact wpAny_done (ready_nil hsz fun j hj => by rw [hd j hj]; exact decide_eq_true (by omega)) h fuel
  | o :: l, k, fuel, listed, a, w, hm, hl, hsz, hd, hC, hf, h => by
    have hk : k < ops.size := by
      rcases Nat.lt_or_ge k ops.size with h' | h'
      · exact h'
      · rw [List.drop_eq_nil_of_le (by simpa using h')] at hl; cases hl
    rw [List.drop_eq_getElem_cons (by simpa using hk)] at hl
    injection hl with h1 h2
    have ho : ops[k]? = some o := by
      rw [← h1, ← Array.getElem?_toList, List.getElem?_eq_getElem]
    have hkf : listed.getD k false = false := by rw [hd k hk]; exact decide_eq_false (by omega)
    cases fuel with
    | zero =>
      exfalso
      have hpos : 0 < open_ ops listed := List.countP_pos_iff.2 ⟨k, List.mem_range.2 hk, by simp [hkf]⟩
      omega
    | succ fuel =>
      refine ⟨fun hr => ?_, fun i hi => ?_⟩
      · have := ready_of hB ho hsz (fun i hi => by rw [hd i (by omega)]; exact decide_eq_true hi) hkf
        rw [hr] at this
        cases this
      · obtain ⟨g1, o', ho', hr⟩ := mem_ready.1 hi
        have hlt := (Array.getElem?_eq_some_iff.1 ho').1
        have hil : i < listed.size := by omega
        have g1' : listed.getD i false = false := by simpa [Array.getD, hil] using g1
        have hki : k ≤ i := by
          rcases Nat.lt_or_ge i k with h' | h'
          · rw [hd i hlt, decide_eq_true h'] at g1'; cases g1'
          · exact h'
        have hik : i = k := by
          rcases Nat.lt_or_ge k i with h' | h'
          · have := anc_open hC ho' hr h' (hlast i (by omega) hlt k hm h')
            rw [hkf] at this; cases this
          · omega
        subst hik
        obtain rfl := Option.some.inj (ho'.symm.trans ho)
        have eL := getD_setT hil
        unfold wpList at h
        have hgd := (rgB_ok hB ho).guard
        rw [if_pos (by simp [Region.wanted, hgd])] at h
        unfold wpOp
        simp only [ho]
        rw [if_pos (by simp [Region.wanted, hgd])]
        refine h.imp (Oper.wp_mono fun a' w' hq => ?_) id
        refine wpAny_chain hB hlast l (i + 1) fuel _ a' w' (by omega) h2 (by simpa using hsz) (fun j hj => ?_) ?_ ?_ hq
        · have : (listed.setIfInBounds i true).getD j false = if j = i then true else listed.getD j false := congrFun eL j
          rw [this, hd j hj]
          by_cases e : j = i
          · subst e; simp
          · simp only [e, if_false]
            by_cases e2 : j < i
            · rw [decide_eq_true e2, decide_eq_true (by omega)]
            · rw [decide_eq_false e2, decide_eq_false (by omega)]
        · rw [eL]
          intro j p hj hp e he hb
          by_cases ej : j = i
          · subst ej
            obtain rfl := Option.some.inj (ho.symm.trans hp)
            have := hr e he hb
            by_cases ee : e.on = j <;> simp [ee, this]
          · simp only [ej, if_false] at hj
            have := hC j p hj hp e he hb
            by_cases ee : e.on = i <;> simp [ee, this]
        · have := open_less hlt hil g1'
          omega
theorem rg_tail {Q : Exit → Act → World → Prop} {τ : Nat → World → Value → Prop} {d m : Nat} {I : Nat → Option Value → World → Prop} {G : World → World → Prop} {a0 : Act} (hB : rgB ops = true) (hS : (ops.all fun o => match o.dst with | some t => decide (t < a0.tmps.size) | none => true) = true)
    (hm : m < ops.size) (hlast : ∀ i, m ≤ i → i < ops.size → ∀ j, j < i → ancB ops 16 j i = true)
    (hG : ∀ i v w w', τ i w v → G w w' → τ i w' v)
    (hstep : ∀ i o, i < m → ops[i]? = some o → ∀ k ov ρ w, k < ops.size → I k ov w → (ancB ops 8 i d = true → ov = none) → Known ops τ a0 ρ w i o.op.operands.toList → Good P o ρ w fun v w' => τ i w' v ∧ I (k + 1) (if i = d then some v else ov) w' ∧ G w w')
    (hd : d < m) (hend : ∀ f w' k, k ≤ ops.size → I k (some (f d)) w' → (∀ i, i < m → τ i w' (f i)) → Copies ops (fun j => decide (j < m)) f → wpList P ops Q (ops.toList.drop m) (putAll (ops.toList.take m) f 0 a0) w') :
    ∀ (fuel : Nat) (listed : Array Bool) (a : Act) (w : World) (k : Nat), k + fuel = ops.size → listed.size = ops.size → open_ ops listed ≤ fuel → (∀ i, m ≤ i → i < ops.size → listed.getD i false = false) → Inv ops τ d (I k) a0 (fun i => listed.getD i false) a w → wpAny P .any ops Q fuel listed a w := by
  obtain ⟨om, hom⟩ : ∃ om, ops[m]? = some om := ⟨_, Array.getElem?_eq_getElem hm⟩
  intro fuel
  induction fuel with
  | zero =>
    intro listed a w k hk hsz hc hmf h
    exfalso
    have hpos : 0 < open_ ops listed := List.countP_pos_iff.2 ⟨m, List.mem_range.2 hm, by simp [hmf m (Nat.le_refl _) hm]⟩
    omega
  | succ fuel ih =>
    intro listed a w k hk0 hsz hc hmf h
    have hnil : Region.ready .any ops listed = [] → False := by
      intro hr
      have hall : ∀ i, i < m → listed.getD i false = true := by
        intro i
        induction i using Nat.strongRecOn with
        | _ i ihi =>
          intro hi
          rcases hb : listed.getD i false with _ | _
          · exfalso
            have hi' : i < ops.size := by omega
            have hmm : i ∈ Region.ready .any ops listed := mem_ready.2 ⟨by
              have : i < listed.size := by omega
              simpa [Array.getD, this] using hb, ops[i], Array.getElem?_eq_getElem hi', fun e he hbn => ihi e.on ((rgB_ok hB (Array.getElem?_eq_getElem hi')).back e he hbn) (by
                have := (rgB_ok hB (Array.getElem?_eq_getElem hi')).back e he hbn
                omega)⟩
            rw [hr] at hmm
            cases hmm
          · rfl
      have := ready_of hB hom hsz hall (hmf m (Nat.le_refl _) hm)
      rw [hr] at this
      cases this
    refine ⟨fun hr => (hnil hr).elim, fun i hi => ?_⟩
    obtain ⟨h1, o, ho, hr⟩ := mem_ready.1 hi
    have hlt := (Array.getElem?_eq_some_iff.1 ho).1
    have hil : i < listed.size := by omega
    have h1' : listed.getD i false = false := by simpa [Array.getD, hil] using h1
    have eL := getD_setT hil
    rcases Nat.lt_or_ge i m with hltm | hge
    · unfold wpOp
      simp only [ho]
      rw [if_pos (by simp [Region.wanted, (rgB_ok hB ho).guard])]
      have hk := h.known hB hS ho h1' hr
      have hcopy : ∀ (f : Nat → Value), Is ops a0 (fun i => listed.getD i false) f a → ∀ t j, o.op = .assign (.tmp t) → writer ops i t = some j → listed.getD j false = true ∧ a.eval (.tmp t) = f j := fun f hf t j ha hw => h.copy hB hS ho h1' hr hf ha hw
      obtain ⟨hC, f, hf, hI, hτ, hcp⟩ := h
      have hg := hstep i o hltm ho k _ a.eval w (by omega) hI (fun e => if_neg (fun hdl => by have := ancB_shut hC 8 i d e hdl; rw [h1'] at this; cases this)) hk
      refine .inl (Good.wp hg.assign fun v w' ⟨⟨hv, hI', hgw⟩, hva⟩ => ?_)
      refine ih _ _ _ (k + 1) (by omega) (by simpa using hsz) ?_ ?_ ?_
      · have := open_less hlt hil h1'
        omega
      · intro j hj1 hj2
        have : (listed.setIfInBounds i true).getD j false = if j = i then true else listed.getD j false := congrFun eL j
        rw [this, if_neg (by omega)]
        exact hmf j hj1 hj2
      · rw [eL]
        refine ⟨fun j p hj hp e he hb => ?_, _, hf.step hB ho h1' v, ?_, fun j hj => ?_, fun j p t q hj hp ha hw => ?_⟩
        · by_cases ej : j = i
          · subst ej
            obtain rfl := Option.some.inj (ho.symm.trans hp)
            have := hr e he hb
            by_cases ee : e.on = j <;> simp [ee, this]
          · simp only [ej, if_false] at hj
            have := hC j p hj hp e he hb
            by_cases ee : e.on = i <;> simp [ee, this]
        · by_cases ed : i = d
          · subst ed
            simpa using hI'
          · simpa [ed, show ¬ d = i from fun h => ed h.symm] using hI'
        · by_cases ej : j = i
          · subst ej
            exact ⟨hlt, by simpa using hv⟩
          · simp only [ej, if_false] at hj ⊢
            exact ⟨(hτ j hj).1, hG j _ _ _ (hτ j hj).2 hgw⟩
        · have hqj : q < j := List.mem_range.1 (List.mem_of_find?_eq_some hw)
          by_cases ej : j = i
          · subst ej
            obtain rfl := Option.some.inj (ho.symm.trans hp)
            obtain ⟨h5, h6⟩ := hcopy f hf t q ha hw
            have hne : q ≠ j := by omega
            exact ⟨by simp only [hne, if_false]; exact h5, by simp only [hne, if_false, if_true]; rw [hva _ ha, h6]⟩
          · simp only [ej, if_false] at hj ⊢
            obtain ⟨h5, h6⟩ := hcp j p t q hj hp ha hw
            have h5' : listed.getD q false = true := h5
            have hne : q ≠ i := fun e => by rw [e, h1'] at h5'; cases h5'
            simp only [hne, if_false]
            exact ⟨h5, h6⟩
    · obtain ⟨hC, f, hf, hI, hτ, hcp⟩ := h
      have him : i = m := by
        rcases Nat.lt_or_ge m i with h' | h'
        · have := anc_open hC ho hr h' (hlast i hge hlt m h')
          rw [hmf m (Nat.le_refl _) hm] at this; cases this
        · omega
      subst him
      have hall : ∀ j, j < i → listed.getD j false = true := fun j hj => anc_open hC ho hr hj (hlast i (Nat.le_refl _) hlt j hj)
      have hI : I k (some (f d)) w := by simpa [hall d hd] using hI
      have eLt : ∀ j, j < ops.size → (listed.getD j false = true ↔ j < i) := by
        intro j hj
        constructor
        · intro hl
          rcases Nat.lt_or_ge j i with h5 | h5
          · exact h5
          · rw [hmf j h5 hj] at hl; cases hl
        · exact hall j
      have e1 : Is ops a0 (fun j => decide (j < i)) f a := ⟨hf.defers, hf.size, fun j p t hj hp hd2 hl => hf.mine j p t (hall j (by simpa using hj)) hp hd2 hl,
        fun t ht => hf.old t fun j p hj hp => ht j p (by
          have hjs := (Array.getElem?_eq_some_iff.1 hp).1
          simpa using (eLt j hjs).1 hj) hp⟩
      have e0 : Is ops a0 (fun j => decide (j < 0)) f a0 := ⟨rfl, rfl, fun _ _ _ h => by simp at h, fun _ _ => rfl⟩
      have hlen : (ops.toList.take i).length = i := by simp; omega
      have e2 := putSome_is hB (ops.toList.take i) 0 a0 (by rw [hlen]; rfl) e0
      rw [hlen, Nat.zero_add] at e2
      have he : a = putAll (ops.toList.take i) f 0 a0 := e1.same e2
      have hgo := hend f w k (by omega) hI (fun j hj => (hτ j (hall j hj)).2) (fun j p t q hj hp ha hw => by
        have hj' : j < i := by simpa using hj
        obtain ⟨h5, h6⟩ := hcp j p t q (hall j hj') hp ha hw
        exact ⟨by simpa using (eLt q (hτ q h5).1).1 h5, h6⟩)
      rw [← he] at hgo
      have := wpAny_chain (P := P) hB (fun i h1 h2 j _ hj => hlast i h1 h2 j hj) _ i (fuel + 1) listed a w (Nat.le_refl _) rfl hsz (fun j hj => by
        by_cases e : j < i
        · rw [hall j e, decide_eq_true e]
        · rw [hmf j (by omega) hj, decide_eq_false e]) hC hc hgo
      exact this.2 i hi
end
/-- THE RULE: the operations from the m-th on are taken by themselves, behind all the others. -/
theorem wp_region_rst {id : Nat} {Q : Exit → Act → World → Prop} (S : RS) (hO : S.Ok) (hm : S.P.follows .mixedOrders = true) (hB : rgB S.ops = true) (hS : (S.ops.all fun o => match o.dst with | some t => decide (t < S.a0.tmps.size) | none => true) = true)
    (m : Nat) (rest : List Oper) (hrest : S.ops.toList.drop m = rest) (hsz : Nat.ble (m + 1) S.ops.size = true) (hlast : ((List.range S.ops.size).all fun i => decide (i < m) || (List.range i).all fun j => ancB S.ops 16 j i) = true) (hd : S.d < m)
    (hr : RdO S.rd 0 S.w0) (hJ : S.J none S.w0)
    (h : RSeq S (fun τ => ∀ f w' k, k ≤ S.ops.size → S.I k (some (f S.d)) w' → (∀ i, i < m → tys τ i w' (f i)) → Copies S.ops (fun j => decide (j < m)) f → wpList S.P S.ops Q rest (putAll (S.ops.toList.take m) f 0 S.a0) w') (S.ops.toList.take m) 0 []) : (Code.region id S.ops true).wp S.P Q S.a0 S.w0 := by
  subst hrest
  have hsz := Nat.le_of_ble_eq_true hsz
  have hlen : (S.ops.toList.take m).length = m := by simp; omega
  obtain ⟨τ, _, h3, h4, h5⟩ := rseq_types_l (S.ops.toList.take m) [] (by rw [hlen]; rfl) (by simp) h
  have hl : ∀ i, m ≤ i → i < S.ops.size → ∀ j, j < i → ancB S.ops 16 j i = true := fun i h1 h2 j hj => by
    have := List.all_eq_true.1 hlast i (List.mem_range.2 h2)
    rw [Bool.or_eq_true] at this
    rcases this with h' | h'
    · have := of_decide_eq_true h'; omega
    · exact List.all_eq_true.1 h' j (List.mem_range.2 hj)
  refine wp_region_any hm (rg_tail (τ := tys τ) (d := S.d) (m := m) (I := S.I) (G := Only S.E) (a0 := S.a0) hB hS hsz hl (fun i v w w' ht hg => tys_stb h3 i v w w' ht hg) (fun i o hi ho => h5 i o (Nat.zero_le _) (by rw [hlen]; simpa using hi) ho) hd (fun f w' k hk hI ht hc => h4 f w' k hk hI ht hc) S.ops.size (Array.replicate S.ops.size false) S.a0 _ 0 (by omega) (by simp) ?_ ?_ ?_)
  · unfold open_
    exact Nat.le_trans List.countP_le_length (by simp)
  · intro i h1 h2
    simp [Array.getD, h2]
  · have e : (fun i => (Array.replicate S.ops.size false).getD i false) = fun _ => false := by
      funext i
      by_cases h : i < S.ops.size <;> simp [Array.getD, h]
    rw [e]
    refine ⟨(fun j o hj => (by cases hj)), ⟨fun _ => undef, Is.start S.a0 _, ⟨?_, Only.drew _ _, hO.keep _ _ _ hJ (Only.drew _ _)⟩, (fun i hi => (by cases hi)), (fun i o t j hi => (by cases hi))⟩⟩
    cases hrd : S.rd with
    | none => trivial
    | some x =>
      rw [hrd] at hr
      exact Rd.drew1 hr
end Go.Proofs.Ytkkkjbinfdohpaa

namespace Go.Proofs.Ytkkkjbinfdohpaa
open Go.RowKit
/-! Drawn regions with a copy: append onto an empty literal. -/
section
variable {P : Program}
theorem run_append_lit (w : World) (base : Nat) (t ty e : TypeId) (i : TypeInfo) (z : Value) (size bytes : Nat) (ht : P.underlying t = some (.slice e)) (hi : P.info? e = some i) (hz : i.zero = some z)
    (hsize : i.size = size) (hby : i.bytes = bytes) (hzs : z.cells.size = size) (hsz : 0 < size)
    (g : Nat) (hg : w.heap[g]? = some (.cells #[] e (0, 0))) (sv : Value) (m : Nat) (news : List Value) (hr : Row w size sv m news) (h1 : ∀ u ∈ news, u.oneCell' = true)
    (h63 : m ≤ maxLen) (hbytes : m * bytes ≤ 140737488355328) (hbase : base ≤ g) :
    ∃ v' w', (Builtin.append_ #[t, t] ty #[.slice (some ⟨g, 0, none⟩) 0 0, sv]).run P w = .ok v' w' ∧ w'.ownsRow base e size v' m news ∧ Below w.heap.size w w' := by
  have hgl : g < w.heap.size := (Array.getElem?_eq_some_iff.1 hg).1
  have hown : w.ownsRow base e size (.slice (some ⟨g, 0, none⟩) 0 0) 0 [] := ⟨by simp, .inr ⟨g, 0, #[], rfl, hbase, hg, Nat.le_refl _, by unfold maxLen; omega, by simp, by simp⟩⟩
  obtain ⟨hl, A, c, rfl, hc1, hc2, hcell⟩ := hr
  subst hsize
  subst hby
  rcases Nat.eq_zero_or_pos m with h0 | h0
  · subst h0
    have hn : news = [] := List.eq_nil_of_length_eq_zero (by simpa using hl)
    subst hn
    cases A with
    | none =>
      refine ⟨_, w, ?_, hown, Below.refl _ _⟩
      simp [Builtin.append_, run_underlying ht, sizeOf, typeInfo, hi, Builtin.lenOf, Builtin.firstCells, storeCells]
    | some a =>
      have hr := run_append_room (P := P) w t ty e i ht hi g 0 0 #[] hg a 0 c [] (by simp) (fun j u h => by simp at h) (fun u h => by simp at h) (Nat.le_refl _) (by simp)
      refine ⟨_, _, hr, ⟨by simp, .inr ⟨g, 0, _, rfl, hbase, setRow_heap w g #[] _ e _ hg, Nat.le_refl _, by unfold maxLen; omega, by simp, by simp⟩⟩, ⟨rfl, rfl, rfl, by simp, fun k hk => ?_⟩⟩
      by_cases e' : k = g
      · subst e'
        rw [setRow_heap w k #[] _ e _ hg, hg]
        simp
      · exact setRow_other w g k _ e'
  · obtain ⟨b, o, hA, _, hc⟩ := hcell h0
    subst hA
    have hr := run_append_grow (P := P) w t ty e i z ht hi hz ⟨g, 0, none⟩ 0 0 [] (by simp) (fun j u h => by simp at h) ⟨b, o, none⟩ m c news hl (fun j u hj => by rw [Go.WideShapes.add_plain]; exact hc j u hj) (by omega) (by unfold maxLen at h63; omega) (growslice_fits (by omega) (by rw [Nat.zero_add]; exact hbytes))
    have hge := grownCap_ge w (0 + m) 0 e
    have hcm : grownCap w (0 + m) 0 e ≤ maxLen := grownCap_le_maxLen w (0 + m) 0 e (by omega)
    rw [Nat.zero_add] at hr hge hcm
    refine ⟨_, _, hr, ⟨by rw [hl], .inr ⟨w.heap.size, _, _, rfl, by omega, heap_alloc_new w.drew _, hge, hcm, ?_, ?_⟩⟩, ⟨rfl, rfl, rfl, by simp, fun k hk => heap_alloc_old w.drew _ hk⟩⟩
    · simp only [Array.size_append, List.size_toArray, size_zeroCells, hzs, hl, List.length_nil, Nat.zero_add, ← Nat.add_mul]
      congr 1
      omega
    · simp only [Array.toList_append, List.nil_append]
      rw [← hl]
      exact List.take_left
end
def TLit0 (B : Nat) (e : TypeId) : Ty := fun w v => ∃ g, v = .slice (some ⟨g, 0, none⟩) 0 0 ∧ B ≤ g ∧ w.heap[g]? = some (.cells #[] e (0, 0))
theorem stb_lit0 {E : Nat → Prop} {B : Nat} (hE : ∀ g, E g → g < B) (e : TypeId) : Stb E (TLit0 B e) := fun v w w' ⟨g, h1, h2, h3⟩ ho =>
  ⟨g, h1, h2, (ho.block g (Array.getElem?_eq_some_iff.1 h3).1 (fun h => by have := hE g h; omega)).trans h3⟩
section
variable {S : RS} {Fin : List Ty → Prop} {o : Oper} {l : List Oper} {i : Nat} {τs : List Ty}
/-- An empty literal. -/
theorem rs_build0 (hO : S.Ok) (hid : i ≠ S.d ∨ ∀ ov w, S.J ov w) (e : TypeId)
    (h : ∀ ρ w, (execOp ρ o).run S.P w = .ok (.value (.slice (some ⟨w.heap.size, 0, none⟩) 0 0)) (w.alloc (.cells #[] e)))
    (rest : RSeq S Fin l (i + 1) (TLit0 S.w0.heap.size e :: τs)) : RSeq S Fin (o :: l) i τs :=
  rs_alloc hO hid _ (stb_lit0 hO.low e) (fun ρ w hon _ => ⟨_, _, h ρ w, w.heap.size, rfl, hon.size, heap_alloc_new _ _⟩) rest
/-- A copy. -/
theorem rs_appendF (hO : S.Ok) (hid : i ≠ S.d ∨ ∀ ov w, S.J ov w) (e t : TypeId) (size m : Nat) (sv : Value) (news : List Value) (hrd : S.rd = none)
    (x y : Nat) (ho : o.op = .call { callee := .builtin .append, args := #[.tmp x, .tmp y], argTypes := #[t, t] }) (jx jy : Nat) (hx : writer S.ops i x = some jx) (hy : writer S.ops i y = some jy) (hTx : tys τs jx = TLit0 S.w0.heap.size e) (hTy : tys τs jy = TEq sv)
    (hrow : ∀ w, Only S.E S.w0 w → Row w size sv m news)
    (inf : TypeInfo) (z : Value) (bytes : Nat) (ht : S.P.underlying t = some (.slice e)) (hi : S.P.info? e = some inf) (hz : inf.zero = some z) (hsize : inf.size = size) (hby : inf.bytes = bytes) (hzs : z.cells.size = size) (hsz : 0 < size) (h63 : m ≤ 1000000) (hbb : bytes ≤ 1000) (hone : ∀ u ∈ news, u.oneCell' = true)
    (rest : RSeq S Fin l (i + 1) (TOwn S.w0.heap.size e size m news :: τs)) : RSeq S Fin (o :: l) i τs := by
  refine rs_plain hO hid _ (stb_own hO.low e size m news) (fun k ρ w _ hr hon hK => ?_) rest
  rw [ho] at hK
  have h1 := hK.1
  have h2 := hK.2.1
  rw [hx] at h1
  rw [hy] at h2
  simp only [hTx] at h1
  simp only [hTy] at h2
  obtain ⟨g, h1', hB, hg⟩ := h1
  have h2' : ρ (.tmp y) = sv := h2
  obtain ⟨v', w', hrun, hown', hbl⟩ := run_append_lit (P := S.P) w S.w0.heap.size t o.type e inf z size bytes ht hi hz hsize hby hzs hsz g hg sv m news (hrow w hon) hone (by unfold maxLen; omega) (Nat.le_trans (Nat.mul_le_mul h63 hbb) (by decide)) hB
  have hre : (execOp ρ o).run S.P w = .ok (.value v') w' := by
    unfold execOp
    simp only [ho, resolve, invoke, builtin, Sem.run_bind, Sem.run_pure, Result.andThen_ok, List.map_toArray, List.map_cons, List.map_nil, h1', h2', hrun]
  unfold Good
  rw [hre]
  refine ⟨hown', ?_, Only.of_below _ hbl⟩
  rw [hrd]; trivial
end
end Go.Proofs.Ytkkkjbinfdohpaa

namespace Go.Proofs.Ytkkkjbinfdohpaa
open Go.RowKit Go.Maps
set_option maxRecDepth 100000
/-! and: a known gate. -/
end Go.Proofs.Ytkkkjbinfdohpaa

namespace Go.Proofs.Ytkkkjbinfdohpaa
open Go.RowKit Go.Maps
set_option maxRecDepth 100000
/-! and: the operands in the other order. (gen/bldsw.py prints this text.) -/
end Go.Proofs.Ytkkkjbinfdohpaa

namespace Go.Proofs.Ytkkkjbinfdohpaa
open Go.RowKit Go.Maps
set_option maxRecDepth 100000
/-! and: the operands in the other order. (gen/bldsw.py prints this text.) -/
end Go.Proofs.Ytkkkjbinfdohpaa

namespace Go.Proofs.Ytkkkjbinfdohpaa
open Go.RowKit Go.Maps
set_option maxRecDepth 100000
/-! and, xor. -/
end Go.Proofs.Ytkkkjbinfdohpaa

namespace Go.Proofs.Ytkkkjbinfdohpaa
open Go.RowKit Go.Maps
set_option maxRecDepth 100000
set_option maxHeartbeats 8000000
/-! The built circuit, by the program. -/
theorem nat_cell {w wr : World} {A : Option Addr} {n c : Nat} {xs : List Nat} (h : Row w 1 (.slice A n c) n (ints (xs.map Int.ofNat))) (hb : Below w.heap.size w wr) {i : Nat} (hn : n = xs.length) (hi : i < xs.length) :
    ∃ b o, A = some ⟨b, o, none⟩ ∧ b < w.heap.size ∧ wr.cell? ⟨b, o + i, none⟩ = some (.int .i64 ((xs.getD i 0 : Nat) : Int)) := by
  obtain ⟨b, o, x, hA, hbl, hx, hs⟩ := ints_open h hb (by rw [List.length_map]; exact hn) (i := i) (by rw [List.length_map]; exact hi)
  have hxe : x = ((xs.getD i 0 : Nat) : Int) := by
    have h1 := hx.out
    rw [List.getElem?_map, List.getElem?_eq_getElem hi] at h1
    rw [List.getD_eq_getElem?_getD, List.getElem?_eq_getElem hi]
    exact (Option.some.inj h1).symm
  subst hxe
  exact ⟨b, o, hA, hbl, hs⟩
theorem getD_le {xs : List Nat} {M : Nat} (h : ∀ x ∈ xs, x ≤ M) (i : Nat) : xs.getD i 0 ≤ M := by
  rw [List.getD_eq_getElem?_getD]
  cases hi : xs[i]? with
  | none => simp
  | some a => exact h a (List.mem_of_getElem? hi)
theorem and_one_nat (l : Nat) (hb : l ≤ 1000000) : bits .and .i64 (l : Int) 1 = ((l % 2 : Nat) : Int) := by
  have := i64_and_nat l 1 (by omega) (by omega)
  rw [Nat.and_one_is_mod] at this
  exact this
def TBoxC (c : Cz) : Ty := fun w v => ∃ g, v = .pointer (some ⟨g, 0, none⟩) ∧ PCirc w g c
theorem stb_boxc (c : Cz) : Stb (fun _ => False) (TBoxC c) := fun _ _ _ ⟨g, h1, h2⟩ ho => ⟨g, h1, h2.below (only_below ho)⟩
def TCOwn (c : Cz) : Ty := fun w v => CircOwn 0 w v c
theorem stb_cown (c : Cz) : Stb (fun _ => False) (TCOwn c) := fun _ _ _ h ho => CircOwn.below h (only_below ho)
def TBoxZ (B : Nat) (cs : Array Value) (t : TypeId) : Ty := fun w v => ∃ g, v = .pointer (some ⟨g, 0, none⟩) ∧ B ≤ g ∧ w.heap[g]? = some (.cells cs t (0, 0))
theorem stb_boxz (B : Nat) (cs : Array Value) (t : TypeId) : Stb (fun _ => False) (TBoxZ B cs t) := fun _ _ _ ⟨g, h1, h2, h3⟩ ho => ⟨g, h1, h2, (ho.block g (blk_ltB h3) id).trans h3⟩
theorem own_setN {w : World} {B n size k i : Nat} {e : TypeId} {v u : Value} {cs : List Value} (h : w.ownsRow B e size v n cs) (hk : v.ownBlock ≠ some k) : (w.setCell ⟨k, i, none⟩ u).ownsRow B e size v n cs :=
  own_only h (Only.grown (E := fun g => g = k) (set_grown w k i u) (fun x hx => (Option.some.inj hx).symm)) (fun g hg e => hk (by rw [hg, e]))
end Go.Proofs.Ytkkkjbinfdohpaa

namespace Go.Proofs.Ytkkkjbinfdohpaa
open Go.RowKit Go.Maps
set_option maxRecDepth 100000
set_option maxHeartbeats 8000000
/-! A circuit without the gates that nothing reaches, by the program. -/
theorem append_gatesO {w : World} {ops : Array Oper} {rest : List Oper} {o : Oper} {a : Act} {Q : Exit → Act → World → Prop} (hgd : o.guard = none) (s x : Operand)
    (ho : o.op = .call { callee := .builtin .append, args := #[s, x], argTypes := #[24, 24] })
    (base : Nat) (v : Value) (n : Nat) (xs : List Value) (hs : a.eval s = v) (hown : w.ownsRow base 64 2 v n xs) (sv : Value) (m : Nat) (news : List Value) (hx : a.eval x = sv) (hr : Row w 2 sv m news) (h1 : ∀ u ∈ news, u.oneCell' = true)
    (h63 : n + m ≤ 1000000) (hbase : base ≤ w.heap.size)
    (h : ∀ v' w', w'.ownsRow base 64 2 v' (n + m) (xs ++ news) → w.grownBy w' v.ownBlock → (v'.ownBlock = v.ownBlock ∨ v'.ownBlock = some w.heap.size) → wpList Try.prog ops Q rest (a.put o.dst v') w') : wpList Try.prog ops Q (o :: rest) a w := by
  obtain ⟨i, hi, hz0, hz1, hz2⟩ := info_parts info_gate
  exact wpList_append_at hgd s x 24 ho base 64 i _ 2 16 Try.underlying24 hi hz0 hz1 hz2 rfl (by decide) v n xs hs hown sv m news hx hr h1 (by unfold maxLen; omega) (by omega) hbase h
theorem plc_row_set {F n v : Nat} {keep : List Bool} {x : Nat} (hv : v < n) (hx : x = Cir.plc F keep v) : (ints (((List.range v).map (Cir.plc F keep) ++ List.replicate (n - v) 0).map Int.ofNat)).set v (.int .i64 (x : Nat)) = ints (((List.range (v + 1)).map (Cir.plc F keep) ++ List.replicate (n - (v + 1)) 0).map Int.ofNat) := by
  subst hx
  have e : List.replicate (n - v) 0 = 0 :: List.replicate (n - (v + 1)) 0 := by
    rw [show n - v = (n - (v + 1)) + 1 from by omega, List.replicate_succ]
  rw [e, List.range_succ]
  unfold ints
  rw [List.map_append, List.map_append, List.set_append_right _ _ (by simp)]
  simp
theorem plc_row_zero {F n v : Nat} {keep : List Bool} (hv : v < n) (hx : Cir.plc F keep v = 0) : ((List.range v).map (Cir.plc F keep) ++ List.replicate (n - v) 0) = ((List.range (v + 1)).map (Cir.plc F keep) ++ List.replicate (n - (v + 1)) 0) := by
  have e : List.replicate (n - v) 0 = 0 :: List.replicate (n - (v + 1)) 0 := by
    rw [show n - v = (n - (v + 1)) + 1 from by omega, List.replicate_succ]
  rw [e, List.range_succ]
  simp [hx]
end Go.Proofs.Ytkkkjbinfdohpaa

namespace Go.Proofs.Ytkkkjbinfdohpaa
open Go.RowKit Go.Maps
set_option maxRecDepth 100000
set_option maxHeartbeats 8000000
/-! The optimized circuit, by the program. -/
section
variable {S : RS} {Fin : List Ty → Prop} {o : Oper} {l : List Oper} {i : Nat} {τs : List Ty}
/-- A call that writes to blocks of its own. -/
theorem rs_callW (hd : i = S.d) {R0 R1 : World → Prop} (hJ : S.J = JStep R0 R1) (hrd : S.rd = none) (T : Ty) (hT : Stb S.E T) (f : FuncId) (args : Array Operand) (at_ : Array TypeId) (ho : o.op = .call { callee := .value (.func f), args := args, argTypes := at_ })
    (h : ∀ ρ w, Only S.E S.w0 w → R0 w → Known S.ops (tys τs) S.a0 ρ w i (.func f :: args.toList) → ∃ vs, (execOp ρ o).run S.P w = .ok (.enter f vs) w ∧ Calls S.P f vs w fun e w' => ∃ v, e = .returned v ∧ T w' v ∧ R1 w' ∧ Only S.E w w')
    (rest : RSeq S Fin l (i + 1) (T :: τs)) : RSeq S Fin (o :: l) i τs := by
  intro _
  refine ⟨T, hT, fun k ov ρ w hk hI hov hK => ?_, rest⟩
  obtain rfl := hov (by rw [hd]; exact ancB_self _ _ _)
  have h0 : R0 w := by have := hI.2.2; rw [hJ] at this; exact this
  have he : o.op.operands.toList = .func f :: args.toList := by rw [ho]; simp [Op.operands, Call.operands]
  rw [he] at hK
  obtain ⟨vs, h1, h2⟩ := h ρ w hI.2.1 h0 hK
  unfold Good
  rw [h1]
  refine h2.mono ?_
  rintro e w' ⟨v, rfl, h3, h4, h5⟩
  refine ⟨h3, ⟨?_, hI.2.1.trans h5, ?_⟩, h5⟩
  · rw [hrd]; trivial
  · rw [if_pos hd, hJ]
    exact h4
end
end Go.Proofs.Ytkkkjbinfdohpaa

namespace Go.Proofs.Ytkkkjbinfdohpaa
open Go.RowKit
/-! Typed values with an owned row inside; rows of different types. -/
def TAggO (B : Nat) (e : TypeId) (size n : Nat) (cs : List Value) (mk : Value → Value) : Ty := fun w v => ∃ A c, v = mk (.slice A n c) ∧ w.ownsRow B e size (.slice A n c) n cs
theorem stb_aggo {E : Nat → Prop} {B : Nat} (hE : ∀ g, E g → g < B) (e : TypeId) (size n : Nat) (cs : List Value) (mk : Value → Value) : Stb E (TAggO B e size n cs mk) := fun _ w w' ⟨A, c, h1, h2⟩ ho =>
  ⟨A, c, h1, stb_own hE e size n cs _ w w' h2 ho⟩
theorem stb_aggq (B : Nat) (e : TypeId) (size n : Nat) (cs : List Value) (mk : Value → Value) : Stb (fun _ => False) (TAggO B e size n cs mk) := fun _ w w' ⟨A, c, h1, h2⟩ ho => ⟨A, c, h1, own_below h2 (only_below ho)⟩
theorem own_ne_own {w : World} {B B' n n' size size' : Nat} {e e' : TypeId} {v v' : Value} {cs cs' : List Value} (h : w.ownsRow B e size v n cs) (h' : w.ownsRow B' e' size' v' n' cs') (hne : e ≠ e') {g : Nat} (hg : v.ownBlock = some g) : v'.ownBlock ≠ some g := by
  intro hg'
  rcases h.2 with ⟨rfl, -⟩ | ⟨k, cap, cur, rfl, -, hk, -⟩
  · cases hg
  · rcases h'.2 with ⟨rfl, -⟩ | ⟨k', cap', cur', rfl, -, hk', -⟩
    · cases hg'
    · obtain rfl : k = g := Option.some.inj hg
      obtain rfl : k' = k := Option.some.inj hg'
      rw [hk] at hk'
      injection hk' with h1
      injection h1 with _ h2
      exact hne h2
/-- A struct of four cells is stored cell by cell. -/
theorem set4_heap {w : World} {g : Nat} {o0 o1 o2 o3 a b c d : Value} {t : TypeId} (h : w.heap[g]? = some (.cells #[o0, o1, o2, o3] t (0, 0))) : ((((w.setCell ⟨g, 0, none⟩ a).setCell ⟨g, 1, none⟩ b).setCell ⟨g, 2, none⟩ c).setCell ⟨g, 3, none⟩ d).heap[g]? = some (.cells #[a, b, c, d] t (0, 0)) := by
  have y1 := heap_setCell_same w g 0 _ _ a h
  have y2 := heap_setCell_same _ g 1 _ _ b y1
  have y3 := heap_setCell_same _ g 2 _ _ c y2
  have y4 := heap_setCell_same _ g 3 _ _ d y3
  simpa using y4
theorem set1_only (w : World) (g i : Nat) (u : Value) : Only (fun k => k = g) w (w.setCell ⟨g, i, none⟩ u) := Only.grown (set_grown w g i u) (fun k hk => (Option.some.inj hk).symm)
theorem set4_only (w : World) (g : Nat) (a b c d : Value) : Only (fun k => k = g) w ((((w.setCell ⟨g, 0, none⟩ a).setCell ⟨g, 1, none⟩ b).setCell ⟨g, 2, none⟩ c).setCell ⟨g, 3, none⟩ d) :=
  (((set1_only w g 0 a).trans (set1_only _ g 1 b)).trans (set1_only _ g 2 c)).trans (set1_only _ g 3 d)
end Go.Proofs.Ytkkkjbinfdohpaa

namespace Go.Proofs.Ytkkkjbinfdohpaa
open Go.RowKit
set_option maxRecDepth 100000
set_option maxHeartbeats 8000000
/-! The clauses of a circuit's literal, by the program. -/
structure ORw (B : Nat) (w : World) (v : Value) (xss : List (List Int)) (vs : List Value) : Prop where
  len : vs.length = xss.length
  row : w.ownsRow B 23 1 v xss.length vs
  ins : ∀ (i : Nat) (x : List Int) (u : Value), xss[i]? = some x → vs[i]? = some u → w.ownsRow B 3 1 u x.length (ints x)
theorem ORw.below {B : Nat} {w w' : World} {v : Value} {xss : List (List Int)} {vs : List Value} (h : ORw B w v xss vs) (hb : Below w.heap.size w w') : ORw B w' v xss vs :=
  ⟨h.len, own_below h.row hb, fun i x u hx hu => own_below (h.ins i x u hx hu) hb⟩
theorem ORw.ss {B : Nat} {w : World} {v : Value} {xss : List (List Int)} {vs : List Value} (h : ORw B w v xss vs) : SSIn ints (fun g => g < w.heap.size) w v xss :=
  ⟨vs, h.len, (RowIn.of_own h.row).mono fun g hg => hg.2, fun i x u hx hu => (RowIn.of_own (h.ins i x u hx hu)).mono fun g hg => hg.2⟩
theorem ORw.append {B : Nat} {w w' : World} {v v' : Value} {xss yss : List (List Int)} {vs us : List Value} (h : ORw B w v xss vs) (hl : us.length = yss.length)
    (hu : ∀ (i : Nat) (x : List Int) (u : Value), yss[i]? = some x → us[i]? = some u → w.ownsRow B 3 1 u x.length (ints x))
    (hown : w'.ownsRow B 23 1 v' (xss.length + yss.length) (vs ++ us)) (ho : Only (fun q => v.ownBlock = some q) w w') : ORw B w' v' (xss ++ yss) (vs ++ us) := by
  refine ⟨by rw [List.length_append, List.length_append, h.len, hl], by rw [List.length_append]; exact hown, fun i x u hx hu' => ?_⟩
  have key : ∀ {u : Value} {x : List Int}, w.ownsRow B 3 1 u x.length (ints x) → w'.ownsRow B 3 1 u x.length (ints x) := fun hr => own_only hr ho (fun g hg e => own_ne_own hr h.row (by decide) hg e)
  rcases Nat.lt_or_ge i xss.length with hi | hi
  · rw [List.getElem?_append_left hi] at hx
    rw [List.getElem?_append_left (by rw [h.len]; exact hi)] at hu'
    exact key (h.ins i x u hx hu')
  · rw [List.getElem?_append_right hi] at hx
    rw [List.getElem?_append_right (by rw [h.len]; exact hi), h.len] at hu'
    exact key (hu _ x u hx hu')
theorem own_lit1 (w : World) (B : Nat) (e : TypeId) (cs : List Value) (hB : B ≤ w.heap.size) (hl : cs.length ≤ 1000) : (w.alloc (.cells cs.toArray e)).ownsRow B e 1 (.slice (some ⟨w.heap.size, 0, none⟩) cs.length cs.length) cs.length cs := by
  have := World.ownsRow_lit (base := B) (e := e) (size := 1) w cs.toArray cs.length hB (by unfold maxLen; omega) (by simp)
  simpa using this
theorem tseitin_any (v : Value) (d : Ci) (l : Nat) (w : World) (h : CircAt w v (Cir.toCz d)) (hd : Cir.Ok d) (hv : Cir.valid (Cir.toCz d) = true) (hl : l < 2 * Cir.nvars d) :
    Calls Try.prog 63 #[v, .int .i64 (l : Int)] w fun e w' => ∃ v' vs, e = .returned v' ∧ ORw w.heap.size w' v' (Sat.cnf d l) vs ∧ Below w.heap.size w w' := by
  have s1 := hd.ins
  have s2 := hd.nexts
  have s3 := hd.gatess
  have H1 := Lib.hid h
  have HD := Lib.hid hd
  obtain ⟨An, cn, Ag, cg, Ao, co, rfl⟩ := h.shape
  have hln : (Cir.toCz d).next.length = d.next.length := List.length_map _
  have hlg : (Cir.toCz d).gates.length = d.gates.length := List.length_map _
  have hlo : (Cir.toCz d).outs.length = d.outs.length := List.length_map _
  have hins : (Cir.toCz d).ins = (d.ins : Int) := rfl
  obtain ⟨vn, vg, vo, e, r1, r2, r3⟩ := H1.out
  injection e with e
  simp only [Array.mk.injEq, List.cons.injEq, and_true] at e
  obtain ⟨-, e1, e2, e3⟩ := e
  subst e1 e2 e3
  have hP := PCirc.boxed (w := w) (c := Cir.toCz d) 26 r1 r2 r3
  have RG : Hid (Row w 2 (.slice Ag d.gates.length cg) d.gates.length (cubes (Cir.toCz d).gates)) := Lib.hid (by have := r2; unfold CubesAt at this; rwa [hlg] at this)
  rw [hln, hlg, hlo, hins] at H1 hP ⊢
  have P1 := PCells.boxed w (d.ins : Int) (.slice An d.next.length cn) (.slice Ag d.gates.length cg) (.slice Ao d.outs.length co) 26
  have hb1 := bel_new w (.cells #[.int .i64 (d.ins : Int), .slice An d.next.length cn, .slice Ag d.gates.length cg, .slice Ao d.outs.length co] 26)
  obtain ⟨W1, hW1⟩ : ∃ W1, w.alloc (.cells #[.int .i64 (d.ins : Int), .slice An d.next.length cn, .slice Ag d.gates.length cg, .slice Ao d.outs.length co] 26) = W1 := ⟨_, rfl⟩
  rw [hW1] at hb1 P1 hP
  obtain ⟨gC, hgC⟩ : ∃ g, w.heap.size = g := ⟨_, rfl⟩
  rw [hgC] at P1 hP
  have HB1 := Lib.hid hb1
  have HP1 := Lib.hid hP
  have PC1 := Lib.hid P1
  have HW := Lib.hid (And.intro hW1 hgC)
  have HV : Hid (∀ w', Below W1.heap.size W1 w' → Calls Try.prog 38 #[.agg #[.int .i64 (d.ins : Int), .slice An d.next.length cn, .slice Ag d.gates.length cg, .slice Ao d.outs.length co]] w' fun e w'' => e = .returned (.bool true) ∧ Below w'.heap.size w' w'') := Lib.hid fun w' hb => by
    have := implValid_any _ _ w' (H1.out.below (HB1.out.trans (hb.mono HB1.out.size)))
    rwa [hv] at this
  have HVs : Hid (∀ w', Below W1.heap.size W1 w' → Calls Try.prog 40 #[.pointer (some ⟨gC, 0, none⟩)] w' fun e w'' => e = .returned (.int .i64 (Cir.nvars d : Nat)) ∧ Below w'.heap.size w' w'') := Lib.hid fun w' hb => by
    have := vars_any gC (Cir.toCz d) w' (HP1.out.below hb) (by show (0 : Int) ≤ (d.ins : Int); omega) (by show (d.ins : Int) ≤ 100; omega) (by rw [hln]; omega) (by rw [hlg]; omega)
    rwa [Cir.vars_toCz] at this
  have hnv : Cir.nvars d ≤ 22 := by unfold Cir.nvars Cir.nfirst; omega
  have HI : Hid (∀ w', Calls Try.prog 39 #[.int .i64 (l : Int), .int .i64 (Cir.nvars d : Nat)] w' fun e w'' => e = .returned (.bool true) ∧ w' = w'') := Lib.hid fun w' => by
    have := isLit_any (l : Int) (Cir.nvars d : Nat) w' (by omega) (by omega)
    rwa [show Cir.isLit (l : Int) (Cir.nvars d : Nat) = true from by unfold Cir.isLit; rw [decide_eq_true_eq]; omega] at this
  have HFg : Hid (∀ w', Below W1.heap.size W1 w' → Calls Try.prog 82 #[.pointer (some ⟨gC, 0, none⟩)] w' fun e w'' => e = .returned (.int .i64 (Cir.nfirst d : Nat)) ∧ Below w'.heap.size w' w'') := Lib.hid fun w' hb => by
    have := firstGate_any gC (Cir.toCz d) w' (HP1.out.below hb) (by show (0 : Int) ≤ (d.ins : Int); omega) (by show (d.ins : Int) ≤ 100; omega) (by rw [hln]; omega)
    rwa [Cir.first_toCz] at this
  have hl1000 : l ≤ 1000 := by omega
  have hF10 : Cir.nfirst d ≤ 8 := by unfold Cir.nfirst; omega
  have HCnf : Hid (Sat.cnf d l = Sat.cnfGo (Cir.nfirst d) d.gates d.gates.length ++ [[dim l]]) := Lib.hid rfl
  have HL0 : Hid (∀ k, (Sat.cnfGo (Cir.nfirst d) d.gates k).length = 1 + 3 * k) := Lib.hid (Sat.cnfGo_len _ _)
  have HSt : Hid (∀ k, Sat.cnfGo (Cir.nfirst d) d.gates (k + 1) = Sat.cnfGo (Cir.nfirst d) d.gates k ++ Sat.gateCl (Cir.nfirst d) k (d.gates.getD k (0, 0))) := Lib.hid fun _ => rfl
  obtain ⟨F, hF⟩ : ∃ F, F = Cir.nfirst d := ⟨_, rfl⟩
  have HFd := Lib.hid hF
  rw [← hF] at HFg hF10 HCnf HL0 HSt
  obtain ⟨NV, hNV⟩ : ∃ NV, NV = Cir.nvars d := ⟨_, rfl⟩
  rw [← hNV] at HVs HI
  obtain ⟨z, p0, p1, p2, p3⟩ := P1
  have hwz : Hid (w.heap.size ≤ W1.heap.size) := Lib.hid hb1.size
  have hdim : -25 ≤ dim l ∧ dim l ≤ 25 := ⟨(Sat.dim_ok hl (by omega)).1.2.1, (Sat.dim_ok hl (by omega)).1.2.2⟩
  clear h hd hv hln hlg hlo hins hb1 hW1 hP r1 r2 r3 hF hNV hl hgC
  go_enter Try.func63, Try.ntmps63
  go_wp2_with fail
  rw [HW.out.1]
  try rw [HW.out.2]
  refine (HV.out _ (Below.refl _ _)).mono ?_
  rintro e w2 ⟨rfl, hb2⟩
  have HB2 := Lib.hid hb2
  clear hb2 z p0 p1 p2 p3 HV
  go_wp2_with fail
  refine (HVs.out _ HB2.out).mono ?_
  rintro e w3 ⟨rfl, hb3⟩
  have HB3 := Lib.hid (HB2.out.trans (hb3.mono HB2.out.size))
  clear hb3 HB2 HVs
  go_wp2_with fail
  refine (HI.out _).mono ?_
  rintro e w4 ⟨rfl, rfl⟩
  clear HI
  have hz3 := HB3.out.size
  have hb4 := bel_new w3 (.cells #[.int .i64 (-1)] 3)
  have hzz : (w3.alloc (.cells #[.int .i64 (-1)] 3)).heap.size = w3.heap.size + 1 := by simp
  have hb5 := bel_new (w3.alloc (.cells #[.int .i64 (-1)] 3)) (.cells #[.slice (some ⟨w3.heap.size, 0, none⟩) 1 1] 23)
  have HO5 : Hid (ORw W1.heap.size ((w3.alloc (.cells #[.int .i64 (-1)] 3)).alloc (.cells #[.slice (some ⟨w3.heap.size, 0, none⟩) 1 1] 23)) (.slice (some ⟨w3.heap.size + 1, 0, none⟩) 1 1) (Sat.cnfGo F d.gates 0) [.slice (some ⟨w3.heap.size, 0, none⟩) 1 1]) := Lib.hid (by
    refine ⟨rfl, ?_, fun i x u hx hu => ?_⟩
    · have := own_lit1 (w3.alloc (.cells #[.int .i64 (-1)] 3)) W1.heap.size 23 [.slice (some ⟨w3.heap.size, 0, none⟩) 1 1] (by omega) (by simp)
      rw [hzz] at this
      exact this
    · cases i with
      | zero =>
        obtain rfl := Option.some.inj hx
        obtain rfl := Option.some.inj hu
        exact own_below (own_lit1 w3 W1.heap.size 3 [.int .i64 (-1)] (by omega) (by simp)) hb5
      | succ i => simp [Sat.cnfGo] at hx)
  have HB5 : Hid (Below W1.heap.size W1 ((w3.alloc (.cells #[.int .i64 (-1)] 3)).alloc (.cells #[.slice (some ⟨w3.heap.size, 0, none⟩) 1 1] 23))) := Lib.hid (HB3.out.trans ((hb4.trans (hb5.mono hb4.size)).mono hz3))
  clear hb4 hb5
  obtain ⟨z, p0, p1, p2, p3⟩ := PC1.out.below HB3.out
  have hPC5 := PC1.out.below HB5.out
  obtain ⟨W5, hW5⟩ : ∃ W5, (w3.alloc (.cells #[.int .i64 (-1)] 3)).alloc (.cells #[.slice (some ⟨w3.heap.size, 0, none⟩) 1 1] 23) = W5 := ⟨_, rfl⟩
  rw [hW5] at HO5 HB5 hPC5
  obtain ⟨z', p0', p1', p2', p3'⟩ := hPC5
  go_wp2_with fail
  clear z p0 p1 p2 p3 z' p0' p1' p2' p3' hW5 hzz
  have hzW5 : W1.heap.size ≤ W5.heap.size := HB5.out.size
  go_loopw [5, 25] (fun vo i wr => ∃ (k n : Nat) (vo' : Value) (vs : List Value), vo' = vo ∧ Hid (n = 1 + 3 * k) ∧ k ≤ d.gates.length ∧ i = .int .i64 k ∧ Hid (ORw W1.heap.size wr vo (Sat.cnfGo F d.gates k) vs) ∧ Hid (Below W1.heap.size W1 wr)) (fun _ i _ => d.gates.length - (intOf i).toNat)
  case atStart => exact ⟨0, 1, _, _, rfl, Lib.hid rfl, Nat.zero_le _, rfl, HO5, HB5⟩
  case round =>
    obtain ⟨k, n, vo', vs, hvo, HN, hk, rfl, HO, HB⟩ := hrel
    subst hvo
    clear HO5 HB5 hzW5
    have hrow : wr.ownsRow W1.heap.size 23 1 vo' n vs := by have := HO.out.row; rwa [HL0.out, ← HN.out] at this
    obtain ⟨Ax, cx, ex⟩ := slice_of_own hrow
    subst ex
    have Hrow := Lib.hid hrow
    have hzr := HB.out.size
    have hn100 : n ≤ 100 := by have := HN.out; omega
    clear hrow
    by_cases hlt : k < d.gates.length
    · obtain ⟨bq, o, x, rfl, hbl, hx, hs1, hs2⟩ := cubes_open RG.out (HB1.out.trans (HB.out.mono HB1.out.size)) (show d.gates.length = (Cir.toCz d).gates.length from (List.length_map _).symm) (i := k) (by rw [show (Cir.toCz d).gates.length = d.gates.length from List.length_map _]; exact hlt)
      obtain ⟨gt, hgt⟩ := at_some hlt
      have hxe : x = ((gt.1 : Int), (gt.2 : Int)) := by
        have h1 := hx.out
        unfold Cir.toCz at h1
        simp only [List.getElem?_map, hgt] at h1
        exact (Option.some.inj h1).symm
      subst hxe
      obtain ⟨g1, g2⟩ := HD.out.gate k gt hgt
      rw [← HFd.out] at g1 g2
      have hgD : d.gates.getD k (0, 0) = gt := by rw [List.getD_eq_getElem?_getD, hgt, Option.getD_some]
      have HS := HSt.out k
      rw [hgD] at HS
      unfold Sat.gateCl at HS
      have hd1 := Sat.dim_ok g1 (by omega)
      have hd2 := Sat.dim_ok g2 (by omega)
      obtain ⟨x1, hx1⟩ : ∃ x1, x1 = gt.1 := ⟨_, rfl⟩
      obtain ⟨x2, hx2⟩ : ∃ x2, x2 = gt.2 := ⟨_, rfl⟩
      rw [← hx1] at g1 hs1 hd1 HS
      rw [← hx2] at g2 hs2 hd2 HS
      have HDm1 := Lib.hid (fun w' => dimacs_any x1 w' (by omega))
      have HDm2 := Lib.hid (fun w' => dimacs_any x2 w' (by omega))
      have b1 := hd1.1.2
      have b2 := hd2.1.2
      obtain ⟨a, ha⟩ : ∃ a, a = dim x1 := ⟨_, rfl⟩
      obtain ⟨b, hb⟩ : ∃ b, b = dim x2 := ⟨_, rfl⟩
      rw [← ha] at HDm1 HS b1
      rw [← hb] at HDm2 HS b2
      obtain ⟨q, hq⟩ : ∃ q : Int, q = (F : Int) + (k : Int) + 1 := ⟨_, rfl⟩
      rw [show ((F + k + 1 : Nat) : Int) = q from by omega] at HS
      have HSx := Lib.hid HS
      have Hq := Lib.hid hq
      have hqb : 0 ≤ q ∧ q ≤ 100 := by omega
      have hwq1 : IntKind.i64.wrap ((F : Int) + (k : Int)) = (F : Int) + k := IntWalk.i64_in _ (by omega)
      have hwq2 : IntKind.i64.wrap ((F : Int) + (k : Int) + 1) = (F : Int) + k + 1 := IntWalk.i64_in _ (by omega)
      have hwk : IntKind.i64.wrap ((k : Int) + 1) = (k : Int) + 1 := IntWalk.i64_in _ (by omega)
      have hba := bel_new wr (.cells #[.int .i64 (x1 : Int), .int .i64 (x2 : Int)] 64)
      have hg9 := heap_alloc_new wr (.cells #[.int .i64 (x1 : Int), .int .i64 (x2 : Int)] 64)
      have HOa := Lib.hid (HO.out.below hba)
      have HBa := Lib.hid (HB.out.trans (hba.mono HB.out.size))
      clear hx hgt hgD hbl hx1 hx2 hd1 hd2 ha hb HS hba HO
      go_wp2_with fail
      obtain ⟨gk, hgk⟩ : ∃ gk, gk = wr.heap.size := ⟨_, rfl⟩
      rw [← hgk] at hg9 ⊢
      generalize wr.alloc (.cells #[.int .i64 (x1 : Int), .int .i64 (x2 : Int)] 64) = Wg at *
      have HG9 := Lib.hid hg9
      have hgkz : gk < Wg.heap.size := blk_ltB hg9
      clear hgk hg9 hs1 hs2 hq
      refine wp_region_rs (quietRS Try.prog _ Wg _) quietRS_ok (by kernel_rfl) (by kernel_rfl) (by kernel_rfl) (Nat.le_of_ble_eq_true rfl) trivial trivial ?_
      refine rs_call quietRS_ok quiet_any (TEq (.int .i64 (F : Int))) (stb_eq _ _) 82 _ _ rfl (fun ρ w' ho hK => by
        have ho : Only _ Wg w' := ho
        obtain ⟨h0, h1, -⟩ := hK
        have h0' : ρ (.func 82) = .func (.func 82) #[] #[] := h0
        have h1' : ρ (.tmp 2) = _ := h1
        refine ⟨#[ρ (.tmp 2)], ?_, ?_⟩
        · go_simp
        · rw [h1']
          refine (HFg.out w' (HBa.out.trans ((only_below ho).mono HBa.out.size))).mono ?_
          rintro e w2 ⟨rfl, hb⟩
          exact ⟨_, rfl, rfl, hb⟩) ?_
      refine rs_old quietRS_ok quiet_any _ (.inl rfl) _ rfl rfl ?_
      apply rs_eq quietRS_ok quiet_any
      · intro ρ w' ho hK
        have ho : Only _ Wg w' := ho
        obtain ⟨h0, h1, -⟩ := hK
        have h0' : ρ (.tmp 30) = _ := h0
        have h1' : ρ (.tmp 31) = _ := h1
        go_simp
        try exact rfl
      apply rs_eq quietRS_ok quiet_any
      · intro ρ w' ho hK
        have ho : Only _ Wg w' := ho
        obtain ⟨h0, h1, -⟩ := hK
        have h0' : ρ (.tmp 32) = _ := h0
        have h1' : ρ (.const (Value.int IntKind.i64 1)) = (Value.int IntKind.i64 1) := h1
        go_simp
        try exact rfl
      apply rs_eq quietRS_ok quiet_any
      · intro ρ w' ho hK
        have ho : Only _ Wg w' := ho
        obtain ⟨h0, -⟩ := hK
        have h0' : ρ (.tmp 7) = _ := h0
        go_simp
        try exact rfl
      apply rs_eq quietRS_ok quiet_any
      · intro ρ w' ho hK
        have ho : Only _ Wg w' := ho
        obtain ⟨h0, -⟩ := hK
        have h0' : ρ (.tmp 34) = _ := h0
        have hbb := (only_below ho)
        have k0 := (hbb.cell (p := ⟨gk, 0, none⟩) hgkz).trans (blk_cell HG9.out 0)
        have k1 := (hbb.cell (p := ⟨gk, 1, none⟩) hgkz).trans (blk_cell HG9.out 1)
        simp at k0 k1
        go_simp
        try exact rfl
      refine rs_call quietRS_ok quiet_any (TEq (.int .i64 a)) (stb_eq _ _) 98 _ _ rfl (fun ρ w' ho hK => by
        have ho : Only _ Wg w' := ho
        obtain ⟨h0, h1, -⟩ := hK
        have h0' : ρ (.func 98) = .func (.func 98) #[] #[] := h0
        have h1' : ρ (.tmp 35) = _ := h1
        refine ⟨#[ρ (.tmp 35)], ?_, ?_⟩
        · go_simp
        · rw [h1']
          refine (HDm1.out w').mono ?_
          rintro e w2 ⟨rfl, rfl⟩
          exact ⟨_, rfl, rfl, Below.refl _ _⟩) ?_
      apply rs_eq quietRS_ok quiet_any
      · intro ρ w' ho hK
        have ho : Only _ Wg w' := ho
        obtain ⟨h0, -⟩ := hK
        have h0' : ρ (.tmp 7) = _ := h0
        go_simp
        try exact rfl
      apply rs_eq quietRS_ok quiet_any
      · intro ρ w' ho hK
        have ho : Only _ Wg w' := ho
        obtain ⟨h0, -⟩ := hK
        have h0' : ρ (.tmp 37) = _ := h0
        have hbb := (only_below ho)
        have k0 := (hbb.cell (p := ⟨gk, 0, none⟩) hgkz).trans (blk_cell HG9.out 0)
        have k1 := (hbb.cell (p := ⟨gk, 1, none⟩) hgkz).trans (blk_cell HG9.out 1)
        simp at k0 k1
        go_simp
        try exact rfl
      refine rs_call quietRS_ok quiet_any (TEq (.int .i64 b)) (stb_eq _ _) 98 _ _ rfl (fun ρ w' ho hK => by
        have ho : Only _ Wg w' := ho
        obtain ⟨h0, h1, -⟩ := hK
        have h0' : ρ (.func 98) = .func (.func 98) #[] #[] := h0
        have h1' : ρ (.tmp 38) = _ := h1
        refine ⟨#[ρ (.tmp 38)], ?_, ?_⟩
        · go_simp
        · rw [h1']
          refine (HDm2.out w').mono ?_
          rintro e w2 ⟨rfl, rfl⟩
          exact ⟨_, rfl, rfl, Below.refl _ _⟩) ?_
      refine rs_same quietRS_ok quiet_any 33 3 (.inr rfl) rfl _ rfl ?_
      refine rs_same quietRS_ok quiet_any 36 6 (.inr rfl) rfl _ rfl ?_
      refine rs_same quietRS_ok quiet_any 39 9 (.inr rfl) rfl _ rfl ?_
      intro f w9 k9 hk9 hI9 ht9 hcp9
      have E0 : f 0 = _ := ht9 0 (Nat.le_of_ble_eq_true rfl)
      have E1 : f 1 = _ := ht9 1 (Nat.le_of_ble_eq_true rfl)
      conv at E1 => rhs; whnf
      have E2 : f 2 = _ := ht9 2 (Nat.le_of_ble_eq_true rfl)
      have E3 : f 3 = _ := ht9 3 (Nat.le_of_ble_eq_true rfl)
      have E4 : f 4 = _ := ht9 4 (Nat.le_of_ble_eq_true rfl)
      have E5 : f 5 = _ := ht9 5 (Nat.le_of_ble_eq_true rfl)
      have E6 : f 6 = _ := ht9 6 (Nat.le_of_ble_eq_true rfl)
      have E7 : f 7 = _ := ht9 7 (Nat.le_of_ble_eq_true rfl)
      have E8 : f 8 = _ := ht9 8 (Nat.le_of_ble_eq_true rfl)
      have E9 : f 9 = _ := ht9 9 (Nat.le_of_ble_eq_true rfl)
      have E10 : f 10 = _ := ht9 10 (Nat.le_of_ble_eq_true rfl)
      have E11 : f 11 = _ := ht9 11 (Nat.le_of_ble_eq_true rfl)
      have E12 : f 12 = _ := ht9 12 (Nat.le_of_ble_eq_true rfl)
      have Ho9 : Only _ Wg w9 := hI9.2.1
      simp only [putAll, E0, E1, E2, E3, E4, E5, E6, E7, E8, E9, E10, E11, E12, Nat.zero_add, Nat.reduceAdd, Act.put, List.setIfInBounds_toArray, List.set_cons_succ, List.set_cons_zero]
      clear E0 E1 E2 E3 E4 E5 E6 E7 E8 E9 E10 E11 E12
      clear hI9 ht9 hcp9 hk9
      have hb9 := only_below Ho9
      have HO9 := Lib.hid (HOa.out.below hb9)
      have HB9 := Lib.hid (HBa.out.trans (hb9.mono HBa.out.size))
      have hz9 := HB9.out.size
      clear Ho9 hb9 HOa HBa HG9 hgkz
      rw [← Hq.out]
      have hn1 : IntKind.i64.wrap (-q) = -q := IntWalk.i64_in _ (by omega)
      have hn2 : IntKind.i64.wrap (-a) = -a := IntWalk.i64_in _ (by omega)
      have hn3 : IntKind.i64.wrap (-b) = -b := IntWalk.i64_in _ (by omega)
      obtain ⟨V1, hV1⟩ : ∃ V1, w9.alloc (.cells #[.int .i64 (-q), .int .i64 a] 3) = V1 := ⟨_, rfl⟩
      obtain ⟨V2, hV2⟩ : ∃ V2, V1.alloc (.cells #[.int .i64 (-q), .int .i64 b] 3) = V2 := ⟨_, rfl⟩
      obtain ⟨V3, hV3⟩ : ∃ V3, V2.alloc (.cells #[.int .i64 q, .int .i64 (-a), .int .i64 (-b)] 3) = V3 := ⟨_, rfl⟩
      obtain ⟨V4, hV4⟩ : ∃ V4, V3.alloc (.cells #[.slice (some ⟨w9.heap.size, 0, none⟩) 2 2, .slice (some ⟨w9.heap.size + 1, 0, none⟩) 2 2, .slice (some ⟨w9.heap.size + 2, 0, none⟩) 3 3] 23) = V4 := ⟨_, rfl⟩
      have z1 : V1.heap.size = w9.heap.size + 1 := by rw [← hV1]; simp
      have z2 : V2.heap.size = w9.heap.size + 2 := by rw [← hV2]; simp [z1]
      have z3 : V3.heap.size = w9.heap.size + 3 := by rw [← hV3]; simp [z2]
      have z4 : V4.heap.size = w9.heap.size + 4 := by rw [← hV4]; simp [z3]
      have c1 := bel_new w9 (.cells #[.int .i64 (-q), .int .i64 a] 3)
      have c2 := bel_new V1 (.cells #[.int .i64 (-q), .int .i64 b] 3)
      have c3 := bel_new V2 (.cells #[.int .i64 q, .int .i64 (-a), .int .i64 (-b)] 3)
      have c4 := bel_new V3 (.cells #[.slice (some ⟨w9.heap.size, 0, none⟩) 2 2, .slice (some ⟨w9.heap.size + 1, 0, none⟩) 2 2, .slice (some ⟨w9.heap.size + 2, 0, none⟩) 3 3] 23)
      have o1 := own_lit1 w9 W1.heap.size 3 [.int .i64 (-q), .int .i64 a] (by omega) (by simp)
      have o2 := own_lit1 V1 W1.heap.size 3 [.int .i64 (-q), .int .i64 b] (by omega) (by simp)
      have o3 := own_lit1 V2 W1.heap.size 3 [.int .i64 q, .int .i64 (-a), .int .i64 (-b)] (by omega) (by simp)
      have o4 := own_lit1 V3 W1.heap.size 23 [.slice (some ⟨w9.heap.size, 0, none⟩) 2 2, .slice (some ⟨w9.heap.size + 1, 0, none⟩) 2 2, .slice (some ⟨w9.heap.size + 2, 0, none⟩) 3 3] (by omega) (by simp)
      rw [show (w9.alloc (.cells [Value.int .i64 (-q), Value.int .i64 a].toArray 3)) = V1 from hV1] at o1
      rw [show (V1.alloc (.cells [Value.int .i64 (-q), Value.int .i64 b].toArray 3)) = V2 from hV2, z1] at o2
      rw [show (V2.alloc (.cells [Value.int .i64 q, Value.int .i64 (-a), Value.int .i64 (-b)].toArray 3)) = V3 from hV3, z2] at o3
      rw [show (V3.alloc (.cells [Value.slice (some ⟨w9.heap.size, 0, none⟩) 2 2, Value.slice (some ⟨w9.heap.size + 1, 0, none⟩) 2 2, Value.slice (some ⟨w9.heap.size + 2, 0, none⟩) 3 3].toArray 23)) = V4 from hV4, z3] at o4
      rw [hV1] at c1
      rw [hV2] at c2
      rw [hV3] at c3
      rw [hV4] at c4
      have c23 := c2.trans (c3.mono c2.size)
      have c34 := c3.trans (c4.mono c3.size)
      have c234 := c2.trans (c34.mono c2.size)
      have c1234 := c1.trans (c234.mono c1.size)
      have HO4 := Lib.hid (HO9.out.below c1234)
      have HB4 := Lib.hid (HB9.out.trans (c1234.mono HB9.out.size))
      have Ho1 := Lib.hid (own_below o1 c234)
      have Ho2 := Lib.hid (own_below o2 c34)
      have Ho3 := Lib.hid (own_below o3 c4)
      have Ho4 := Lib.hid (Row.of_own o4)
      have hrow4 : V4.ownsRow W1.heap.size 23 1 (.slice Ax n cx) n vs := by have := HO4.out.row; rwa [HL0.out, ← HN.out] at this
      have Hrow4 := Lib.hid hrow4
      have hz4 : W1.heap.size ≤ V4.heap.size := by omega
      have HV := Lib.hid (And.intro hV1 (And.intro hV2 (And.intro hV3 hV4)))
      have HZ := Lib.hid (And.intro z1 (And.intro z2 z3))
      clear c1 c2 c3 c4 c23 c34 c234 c1234 o1 o2 o3 o4 hrow4 HO9 Hrow z1 z2 z3 z4 hV1 hV2 hV3 hV4
      have hV1 := HV.out.1
      have hV2 := HV.out.2.1
      have hV3 := HV.out.2.2.1
      have hV4 := HV.out.2.2.2
      have z1 := HZ.out.1
      have z2 := HZ.out.2.1
      have z3 := HZ.out.2.2
      go_wp2_with (at_builtin; refine append_intss rfl (.tmp 40) (.tmp 55) rfl W1.heap.size (.slice Ax n cx) n vs rfl Hrow4.out (.slice (some ⟨w9.heap.size + 3, 0, none⟩) 3 3) 3 [.slice (some ⟨w9.heap.size, 0, none⟩) 2 2, .slice (some ⟨w9.heap.size + 1, 0, none⟩) 2 2, .slice (some ⟨w9.heap.size + 2, 0, none⟩) 3 3] rfl Ho4.out (by simp [Value.oneCell']) (by omega) hz4 ?_; intro v7 w7 hown7 hg7 hat7; have Hown7 := Lib.hid hown7; have Hg7 := Lib.hid hg7; clear hown7 hg7 hat7)
      have Ho7 : Only (fun q => (Value.slice Ax n cx).ownBlock = some q) V4 w7 := Only.grown Hg7.out (fun k hk => hk)
      have HOn : Hid (ORw W1.heap.size w7 v7 (Sat.cnfGo F d.gates (k + 1)) (vs ++ [.slice (some ⟨w9.heap.size, 0, none⟩) 2 2, .slice (some ⟨w9.heap.size + 1, 0, none⟩) 2 2, .slice (some ⟨w9.heap.size + 2, 0, none⟩) 3 3])) := Lib.hid (by
        rw [HSx.out]
        refine ORw.append HO4.out rfl (fun i x u hx hu => ?_) ?_ Ho7
        · match i, hx, hu with
          | 0, hx, hu => obtain rfl := Option.some.inj hx; obtain rfl := Option.some.inj hu; exact Ho1.out
          | 1, hx, hu => obtain rfl := Option.some.inj hx; obtain rfl := Option.some.inj hu; exact Ho2.out
          | 2, hx, hu => obtain rfl := Option.some.inj hx; obtain rfl := Option.some.inj hu; exact Ho3.out
          | i + 3, hx, hu => simp at hx
        · rw [HL0.out, ← HN.out]
          exact Hown7.out)
      have HBn := Lib.hid (Only.below HB4.out Ho7 hz4 (fun q hq => by have := (Hrow4.out.lt q hq).1; omega))
      clear Ho7
      go_roundw
      case rel => exact ⟨k + 1, n + 3, v7, _, rfl, Lib.hid (by have := HN.out; omega), by omega, by go_num, HOn, HBn⟩
      case measure => simp [intOf]; omega
    · obtain rfl : k = d.gates.length := by omega
      have HDl := Lib.hid (fun w' => dimacs_any l w' hl1000)
      generalize dim l = a at *
      go_wp2_with fail
      refine (HDl.out _).mono ?_
      rintro e w9 ⟨rfl, rfl⟩
      obtain ⟨V1, hV1⟩ : ∃ V1, w9.alloc (.cells #[.int .i64 a] 3) = V1 := ⟨_, rfl⟩
      obtain ⟨V4, hV4⟩ : ∃ V4, V1.alloc (.cells #[.slice (some ⟨w9.heap.size, 0, none⟩) 1 1] 23) = V4 := ⟨_, rfl⟩
      have z1 : V1.heap.size = w9.heap.size + 1 := by rw [← hV1]; simp
      have z4 : V4.heap.size = w9.heap.size + 2 := by rw [← hV4]; simp [z1]
      have c1 := bel_new w9 (.cells #[.int .i64 a] 3)
      have c4 := bel_new V1 (.cells #[.slice (some ⟨w9.heap.size, 0, none⟩) 1 1] 23)
      have o1 := own_lit1 w9 W1.heap.size 3 [.int .i64 a] (by omega) (by simp)
      have o4 := own_lit1 V1 W1.heap.size 23 [.slice (some ⟨w9.heap.size, 0, none⟩) 1 1] (by omega) (by simp)
      rw [show (w9.alloc (.cells [Value.int .i64 a].toArray 3)) = V1 from hV1] at o1
      rw [show (V1.alloc (.cells [Value.slice (some ⟨w9.heap.size, 0, none⟩) 1 1].toArray 23)) = V4 from hV4, z1] at o4
      rw [hV1] at c1
      rw [hV4] at c4
      have c14 := c1.trans (c4.mono c1.size)
      have HO4 := Lib.hid (HO.out.below c14)
      have HB4 := Lib.hid (HB.out.trans (c14.mono HB.out.size))
      have Ho1 := Lib.hid (own_below o1 c4)
      have Ho4 := Lib.hid (Row.of_own o4)
      have hrow4 : V4.ownsRow W1.heap.size 23 1 (.slice Ax n cx) n vs := by have := HO4.out.row; rwa [HL0.out, ← HN.out] at this
      have Hrow4 := Lib.hid hrow4
      have hz4 : W1.heap.size ≤ V4.heap.size := by omega
      clear c1 c4 c14 o1 o4 hrow4 z4 Hrow
      go_wp2_with (at_builtin; refine append_intss rfl (.tmp 58) (.tmp 62) rfl W1.heap.size (.slice Ax n cx) n vs rfl Hrow4.out (.slice (some ⟨w9.heap.size + 1, 0, none⟩) 1 1) 1 [.slice (some ⟨w9.heap.size, 0, none⟩) 1 1] rfl Ho4.out (by simp [Value.oneCell']) (by omega) hz4 ?_; intro v7 w7 hown7 hg7 hat7; have Hown7 := Lib.hid hown7; have Hg7 := Lib.hid hg7; clear hown7 hg7 hat7)
      have Ho7 : Only (fun q => (Value.slice Ax n cx).ownBlock = some q) V4 w7 := Only.grown Hg7.out (fun k hk => hk)
      have HOn : ORw W1.heap.size w7 v7 (Sat.cnf d l) (vs ++ [.slice (some ⟨w9.heap.size, 0, none⟩) 1 1]) := by
        rw [HCnf.out]
        refine ORw.append HO4.out rfl (fun i x u hx hu => ?_) ?_ Ho7
        · match i, hx, hu with
          | 0, hx, hu => obtain rfl := Option.some.inj hx; obtain rfl := Option.some.inj hu; exact Ho1.out
          | i + 1, hx, hu => simp at hx
        · rw [HL0.out, ← HN.out]
          exact Hown7.out
      have HBn := Only.below HB4.out Ho7 hz4 (fun q hq => by have := (Hrow4.out.lt q hq).1; omega)
      go_ret
      exact ⟨_, _, rfl, ⟨HOn.len, own_mono HOn.row hwz.out, fun i x u hx hu => own_mono (HOn.ins i x u hx hu) hwz.out⟩, HB1.out.trans (HBn.mono HB1.out.size)⟩
/-- Whether some assignment makes a literal true. -/
def canB (d : Ci) (l : Nat) : Bool := (List.range (2 ^ d.next.length)).any fun s => (List.range (2 ^ d.ins)).any fun x => Cir.lit (Cir.vals d (Cir.bits s d.next.length) (Cir.bits x d.ins)) l
theorem canB_iff {d : Ci} {l : Nat} : canB d l = true ↔ ∃ st inp : List Bool, inp.length = d.ins ∧ st.length = d.next.length ∧ Cir.lit (Cir.vals d st inp) l = true := by
  unfold canB
  simp only [List.any_eq_true, List.mem_range]
  constructor
  · rintro ⟨s, -, x, -, h⟩
    exact ⟨_, _, Cir.bits_length _ _, Cir.bits_length _ _, h⟩
  · rintro ⟨st, inp, l1, l2, h⟩
    refine ⟨Cir.num st, by rw [← l2]; exact Cir.num_lt st, Cir.num inp, by rw [← l1]; exact Cir.num_lt inp, ?_⟩
    rw [Cir.bits_numL l2, Cir.bits_numL l1]
    exact h
theorem canB_no {d : Ci} {l : Nat} (h : canB d l = false) (st inp : List Bool) (l1 : inp.length = d.ins) (l2 : st.length = d.next.length) : Cir.lit (Cir.vals d st inp) l = false := by
  cases hb : Cir.lit (Cir.vals d st inp) l
  · rfl
  · rw [canB_iff.2 ⟨st, inp, l1, l2, hb⟩] at h; cases h
/-- CanBeTrue tells it. -/
theorem canBeTrue_any (v : Value) (d : Ci) (l : Nat) (w : World) (h : CircAt w v (Cir.toCz d)) (hd : Cir.Ok d) (hv : Cir.valid (Cir.toCz d) = true) (hl : l < 2 * Cir.nvars d) :
    Calls Try.prog 23 #[v, .int .i64 (l : Int)] w fun e w' => e = .returned (.bool (canB d l)) ∧ Below w.heap.size w w' := by
  have s1 := hd.ins
  have s2 := hd.nexts
  have s3 := hd.gatess
  have H1 := Lib.hid h
  have HTs := Lib.hid (fun w' (hb : Below w.heap.size w w') => tseitin_any v d l w' (h.below hb) hd hv hl)
  have HCn := Lib.hid (Sat.cnf_ok hd hl)
  have HTr : Hid (∀ b : Bool, (b = true ↔ ∃ σ, ∀ c ∈ Sat.cnf d l, Sat.Cl σ c) → b = canB d l) := Lib.hid fun b hb => by
    rw [Bool.eq_iff_iff, hb, canB_iff]
    exact ⟨fun ⟨σ, hs⟩ => Sat.cnf_sound hd hl hs, fun ⟨st, inp, l1, l2, ht⟩ => ⟨_, Sat.cnf_true hd l1 l2 ht⟩⟩
  obtain ⟨An, cn, Ag, cg, Ao, co, rfl⟩ := h.shape
  have hln : (Cir.toCz d).next.length = d.next.length := List.length_map _
  have hlg : (Cir.toCz d).gates.length = d.gates.length := List.length_map _
  have hlo : (Cir.toCz d).outs.length = d.outs.length := List.length_map _
  have hins : (Cir.toCz d).ins = (d.ins : Int) := rfl
  obtain ⟨vn, vg, vo, e, r1, r2, r3⟩ := H1.out
  injection e with e
  simp only [Array.mk.injEq, List.cons.injEq, and_true] at e
  obtain ⟨-, e1, e2, e3⟩ := e
  subst e1 e2 e3
  have hP := PCirc.boxed (w := w) (c := Cir.toCz d) 26 r1 r2 r3
  rw [hln, hlg, hlo, hins] at H1 hP HTs ⊢
  have P1 := PCells.boxed w (d.ins : Int) (.slice An d.next.length cn) (.slice Ag d.gates.length cg) (.slice Ao d.outs.length co) 26
  have hb1 := bel_new w (.cells #[.int .i64 (d.ins : Int), .slice An d.next.length cn, .slice Ag d.gates.length cg, .slice Ao d.outs.length co] 26)
  obtain ⟨W1, hW1⟩ : ∃ W1, w.alloc (.cells #[.int .i64 (d.ins : Int), .slice An d.next.length cn, .slice Ag d.gates.length cg, .slice Ao d.outs.length co] 26) = W1 := ⟨_, rfl⟩
  rw [hW1] at hb1 P1 hP
  obtain ⟨gC, hgC⟩ : ∃ g, w.heap.size = g := ⟨_, rfl⟩
  rw [hgC] at P1 hP
  have HB1 := Lib.hid hb1
  have HP1 := Lib.hid hP
  have PC1 := Lib.hid P1
  have HW := Lib.hid (And.intro hW1 hgC)
  have HV : Hid (∀ w', Below W1.heap.size W1 w' → Calls Try.prog 38 #[.agg #[.int .i64 (d.ins : Int), .slice An d.next.length cn, .slice Ag d.gates.length cg, .slice Ao d.outs.length co]] w' fun e w'' => e = .returned (.bool true) ∧ Below w'.heap.size w' w'') := Lib.hid fun w' hb => by
    have := implValid_any _ _ w' (H1.out.below (HB1.out.trans (hb.mono HB1.out.size)))
    rwa [hv] at this
  have HVs : Hid (∀ w', Below W1.heap.size W1 w' → Calls Try.prog 40 #[.pointer (some ⟨gC, 0, none⟩)] w' fun e w'' => e = .returned (.int .i64 (Cir.nvars d : Nat)) ∧ Below w'.heap.size w' w'') := Lib.hid fun w' hb => by
    have := vars_any gC (Cir.toCz d) w' (HP1.out.below hb) (by show (0 : Int) ≤ (d.ins : Int); omega) (by show (d.ins : Int) ≤ 100; omega) (by rw [hln]; omega) (by rw [hlg]; omega)
    rwa [Cir.vars_toCz] at this
  have hnv : Cir.nvars d ≤ 22 := by unfold Cir.nvars Cir.nfirst; omega
  have HI : Hid (∀ w', Calls Try.prog 39 #[.int .i64 (l : Int), .int .i64 (Cir.nvars d : Nat)] w' fun e w'' => e = .returned (.bool true) ∧ w' = w'') := Lib.hid fun w' => by
    have := isLit_any (l : Int) (Cir.nvars d : Nat) w' (by omega) (by omega)
    rwa [show Cir.isLit (l : Int) (Cir.nvars d : Nat) = true from by unfold Cir.isLit; rw [decide_eq_true_eq]; omega] at this
  obtain ⟨NV, hNV⟩ : ∃ NV, NV = Cir.nvars d := ⟨_, rfl⟩
  rw [← hNV] at HVs HI
  obtain ⟨z, p0, p1, p2, p3⟩ := P1
  clear h hd hv hln hlg hlo hins hb1 hW1 hP r1 r2 r3 hNV hl hgC
  go_enter Try.func23, Try.ntmps23
  go_wp2_with fail
  rw [HW.out.1]
  try rw [HW.out.2]
  refine (HV.out _ (Below.refl _ _)).mono ?_
  rintro e w2 ⟨rfl, hb2⟩
  have HB2 := Lib.hid hb2
  clear hb2 z p0 p1 p2 p3 HV
  go_wp2_with fail
  refine (HVs.out _ HB2.out).mono ?_
  rintro e w3 ⟨rfl, hb3⟩
  have HB3 := Lib.hid (HB2.out.trans (hb3.mono HB2.out.size))
  clear hb3 HB2 HVs
  go_wp2_with fail
  refine (HI.out _).mono ?_
  rintro e w4 ⟨rfl, rfl⟩
  clear HI
  have HB3w := Lib.hid (HB1.out.trans (HB3.out.mono HB1.out.size))
  obtain ⟨z, p0, p1, p2, p3⟩ := PC1.out.below HB3.out
  go_wp2_with fail
  refine (HTs.out _ HB3w.out).mono ?_
  rintro e w5 ⟨v5, vs, rfl, hO, hb5⟩
  obtain ⟨A5, c5, e5⟩ := slice_of_own hO.row
  subst e5
  have HB5 := Lib.hid (HB3w.out.trans (hb5.mono HB3w.out.size))
  have HSat := Lib.hid (satisfyTop_any _ _ w5 hO.ss HCn.out)
  generalize (Sat.cnf d l).length = N5 at *
  clear hO hb5 z p0 p1 p2 p3
  go_wp2_with fail
  refine HSat.out.mono ?_
  rintro e w6 ⟨v6, b, rfl, hb6, hno⟩
  have HB6 := Lib.hid (HB5.out.trans (hb6.mono HB5.out.size))
  have Hno := Lib.hid (HTr.out b hno)
  clear hb6 hno
  go_wp2_with fail
  go_ret
  exact ⟨by rw [← Hno.out]; rfl, HB6.out⟩
end Go.Proofs.Ytkkkjbinfdohpaa
